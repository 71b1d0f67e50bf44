/- group.order at any holdings: what it answers. -/
import Derived.Test.YtbhndnjlplibmaaDoorGroup2
import Derived.Deep.LoopGhost
namespace Go.Proofs.YtbhndnjlplibmaaDoor
open Go.RowKit

/-- may e be taken next? -/
def ordOk (hs : List Hold) (out : List Int) (e : Int) : Bool := !(memB out e) && !(hs.any fun h => h.o == e && !(memB out h.e))
/-- one pass over the entities 1 .. k -/
def ordPass (hs : List Hold) (out : List Int) : Nat → List Int
  | 0 => out
  | k + 1 => if ordOk hs (ordPass hs out k) ((k : Int) + 1) = true then ordPass hs out k ++ [(k : Int) + 1] else ordPass hs out k
/-- passes, till all are there -/
def ord (hs : List Hold) : Nat → List Int → Option (List Int)
  | 0, _ => none
  | f + 1, out => if out.length < 12 then (if (ordPass hs out 12).length = out.length then none else ord hs f (ordPass hs out 12)) else some out

theorem ordPass_len (hs : List Hold) (out : List Int) (k : Nat) : out.length ≤ (ordPass hs out k).length ∧ (ordPass hs out k).length ≤ out.length + k := by
  induction k with
  | zero => exact ⟨Nat.le_refl _, Nat.le_refl _⟩
  | succ k ih =>
    unfold ordPass
    split
    · simp only [List.length_append, List.length_cons, List.length_nil]; omega
    · omega

theorem ord_step (hs : List Hold) (f : Nat) (out : List Int) (h : out.length < 12) (hne : (ordPass hs out 12).length ≠ out.length) : ord hs (f + 1) out = ord hs f (ordPass hs out 12) := by
  rw [ord, if_pos h, if_neg hne]
theorem ord_stuck (hs : List Hold) (f : Nat) (out : List Int) (h : out.length < 12) (hne : (ordPass hs out 12).length = out.length) : ord hs (f + 1) out = none := by
  rw [ord, if_pos h, if_pos hne]
theorem ord_done (hs : List Hold) (f : Nat) (out : List Int) (h : ¬ out.length < 12) : ord hs (f + 1) out = some out := by
  rw [ord, if_neg h]

theorem infoInt : (Tryd.prog.info? 3).map (fun i => (i.zero, i.size, i.bytes)) = some (some (.int .i64 0), 1, 8) := by kernel_rfl

/-- a slice that the call owns reads as its integers -/
theorem ownsRow_ints {w : World} {base : Nat} {e : TypeId} {v : Value} {zs : List Int} (h : w.ownsRow base e 1 v zs.length (zs.map (Value.int .i64))) :
    ∃ ao cap, v = .slice ao zs.length cap ∧ IntsAt w ao zs ∧ (∀ b off, ao = some ⟨b, off, none⟩ → b < w.heap.size) ∧ cap ≤ 9223372036854775807 := by
  obtain ⟨h1, h2⟩ := h
  rcases h2 with ⟨rfl, hn⟩ | ⟨g, cap, cur, rfl, hg, hh, hc, hm, hsz, htk⟩
  · exact ⟨none, 0, by rw [hn], Or.inl (List.length_eq_zero_iff.1 hn), (fun b off h => by cases h), by decide⟩
  · refine ⟨some ⟨g, 0, none⟩, cap, rfl, Or.inr ⟨g, 0, rfl, fun i hi => ?_⟩, fun b off h => ?_, hm⟩
    · have hsz' : cur.size = cap := by omega
      have hi2 : i < cur.size := by omega
      have : cur[i]? = some (.int .i64 (zs.getD i 0)) := by
        have h3 : (cur.toList.take (zs.length * 1))[i]? = (zs.map (Value.int .i64))[i]? := by rw [htk]
        rw [List.getElem?_take, if_pos (by omega), List.getElem?_map] at h3
        simp only [Array.getElem?_toList] at h3
        rw [h3]
        simp [List.getD, hi]
      simp only [World.cell?, hh, Nat.zero_add]
      simpa using this
    · injection h with h
      injection h with h1 _ _
      subst h1
      rcases Nat.lt_or_ge g w.heap.size with hlt | hge
      · exact hlt
      · rw [Array.getElem?_eq_none hge] at hh; cases hh


theorem ownsRow_below {w w' : World} {base : Nat} {e : TypeId} {sz : Nat} {v : Value} {n : Nat} {xs : List Value} (h : w.ownsRow base e sz v n xs) (hb : Below w.heap.size w w') : w'.ownsRow base e sz v n xs := by
  obtain ⟨h1, h2⟩ := h
  refine ⟨h1, ?_⟩
  rcases h2 with h2 | ⟨g, cap, cur, hv, hg, hh, r⟩
  · exact Or.inl h2
  · refine Or.inr ⟨g, cap, cur, hv, hg, ?_, r⟩
    rw [hb.block g ?_]; exact hh
    rcases Nat.lt_or_ge g w.heap.size with hlt | hge
    · exact hlt
    · rw [Array.getElem?_eq_none hge] at hh; cases hh

/-- what stands in memory between the rounds: the list's variable (block B), and the list. -/
structure OrdRel (B : Nat) (w : World) (outs : List Int) (ao : Option Addr) (cap : Nat) (wr : World) : Prop where
  cell : wr.cell? ⟨B, 0, none⟩ = some (.slice ao outs.length cap)
  free : wr.frozen? ⟨B, 0, none⟩ = false
  own : wr.ownsRow (B + 1) 3 1 (.slice ao outs.length cap) outs.length (outs.map (Value.int .i64))
  below : Below B w wr
  size : B < wr.heap.size

theorem OrdRel.later {B : Nat} {w wr w' : World} {outs : List Int} {ao : Option Addr} {cap : Nat} (h : OrdRel B w outs ao cap wr) (hb : Below wr.heap.size wr w') : OrdRel B w outs ao cap w' :=
  ⟨(hb.cell (p := ⟨B, 0, none⟩) h.size).trans h.cell, (hb.frozen (p := ⟨B, 0, none⟩) h.size).trans h.free, ownsRow_below h.own hb, h.below.trans (hb.mono (Nat.le_of_lt h.size)), Nat.lt_of_lt_of_le h.size hb.size⟩

theorem OrdRel.ints {B : Nat} {w wr : World} {outs : List Int} {ao : Option Addr} {cap : Nat} (h : OrdRel B w outs ao cap wr) : IntsAt wr ao outs ∧ (∀ b off, ao = some ⟨b, off, none⟩ → b < wr.heap.size) := by
  obtain ⟨ao', cap', hv, h1, h2, _⟩ := ownsRow_ints h.own
  injection hv with hv _ _
  subst hv
  exact ⟨h1, h2⟩



theorem HoldsAt.later {B B' : Nat} {w w' : World} {ao : Option Addr} {hs : List Hold} (h : HoldsAt B w ao hs) (hb : Below B w w') (hBB : B ≤ B') : HoldsAt B' w' ao hs := by
  rcases h.below hb with h | ⟨b, off, e, hB, hc⟩
  · exact Or.inl h
  · exact Or.inr ⟨b, off, e, Nat.lt_of_lt_of_le hB hBB, hc⟩

theorem IntsAt.later {B : Nat} {w w' : World} {ao : Option Addr} {zs : List Int} (h : IntsAt w ao zs) (hB : ∀ b off, ao = some ⟨b, off, none⟩ → b < B) (hb : Below B w w') : IntsAt w' ao zs := by
  rcases h with h | ⟨b, off, e, hc⟩
  · exact Or.inl h
  · exact Or.inr ⟨b, off, e, fun i hi => (hb.cell (p := ⟨b, off + i, none⟩) (hB b off e)).trans (hc i hi)⟩

theorem ord_answers {B : Nat} {w wr : World} {outs : List Int} {ao : Option Addr} {cap be : Nat} {e : Int} (h : OrdRel B w outs ao cap wr) (ce : wr.cell? ⟨be, 0, none⟩ = some (.int .i64 e)) (hbe : be < wr.heap.size) (hm : outs.length ≤ 9223372036854775807) :
    Answers 77 (fun v => #[v, .pointer (some ⟨be, 0, none⟩), .pointer (some ⟨B, 0, none⟩)]) wr.heap.size wr (fun x => x.o == e && !(memB outs x.e)) := by
  intro x w2 hb
  have hi := h.ints
  exact order1_any x be B e ao cap outs w2 ((hb.cell (p := ⟨be, 0, none⟩) hbe).trans ce) ((hb.cell (p := ⟨B, 0, none⟩) h.size).trans h.cell) (hi.1.later hi.2 hb) (fun b off e => Nat.lt_of_lt_of_le (hi.2 b off e) hb.size) hm

theorem ordPass_mem {hs : List Hold} {outs o2 : List Int} {k : Nat} (h : o2 = ordPass hs outs k) (hmem : memB o2 ((k : Int) + 1) = true) : o2 = ordPass hs outs (k + 1) := by
  subst h
  rw [ordPass, if_neg]
  simp [ordOk, hmem]
theorem ordPass_any {hs : List Hold} {outs o2 : List Int} {k : Nat} (h : o2 = ordPass hs outs k) (hany : (hs.any fun x => x.o == ((k : Int) + 1) && !(memB o2 x.e)) = true) : o2 = ordPass hs outs (k + 1) := by
  subst h
  rw [ordPass, if_neg]
  unfold ordOk
  rw [hany]
  simp
theorem ordPass_yes {hs : List Hold} {outs o2 : List Int} {k : Nat} (h : o2 = ordPass hs outs k) (hmem : memB o2 ((k : Int) + 1) = false) (hany : (hs.any fun x => x.o == ((k : Int) + 1) && !(memB o2 x.e)) = false) : o2 ++ [(k : Int) + 1] = ordPass hs outs (k + 1) := by
  subst h
  rw [ordPass, if_pos]
  unfold ordOk
  rw [hmem, hany]
  rfl

/-- what an append of one entity leaves -/
theorem ord_append {B : Nat} {w w1 w2 : World} {o2 : List Int} {ao2 : Option Addr} {cap2 be : Nat} {e : Int} {o : Obj} {v' : Value} (hR : OrdRel B w o2 ao2 cap2 w1) (ce : w1.cell? ⟨be, 0, none⟩ = some (.int .i64 e)) (hbe : be < w1.heap.size)
    (hne : ∀ b off, ao2 = some ⟨b, off, none⟩ → b ≠ be) (hown : w2.ownsRow (B + 1) 3 1 v' (o2.length + 1) (o2.map (Value.int .i64) ++ [.int .i64 e])) (hgrow : (w1.alloc o).grownBy w2 (Value.slice ao2 o2.length cap2).ownBlock) (hnil : ¬ v' = .slice none 0 0) :
    ∃ (g cap3 : Nat), v' = .slice (some ⟨g, 0, none⟩) (o2.length + 1) cap3 ∧ w2.cell? ⟨be, 0, none⟩ = some (.int .i64 e) ∧ w2.cell? ⟨B, 0, none⟩ = some (.slice ao2 o2.length cap2) ∧ w2.frozen? ⟨B, 0, none⟩ = false ∧
      OrdRel B w (o2 ++ [e]) (some ⟨g, 0, none⟩) cap3 (w2.setCell ⟨B, 0, none⟩ (.slice (some ⟨g, 0, none⟩) (o2.length + 1) cap3)) := by
  have hrow : ∀ k, (Value.slice ao2 o2.length cap2).ownBlock = some k → B + 1 ≤ k ∧ k ≠ be := by
    intro k hk
    obtain ⟨_, h2⟩ := hR.own
    rcases h2 with ⟨h2, _⟩ | ⟨g, cap, cur, hv, hg, _⟩
    · injection h2 with h2 _ _; subst h2; simp [Value.ownBlock] at hk
    · injection hv with hv _ _
      subst hv
      simp only [Value.ownBlock] at hk
      injection hk with hk
      subst hk
      exact ⟨hg, hne g 0 rfl⟩
  have hblk : ∀ k, k < w1.heap.size → (Value.slice ao2 o2.length cap2).ownBlock ≠ some k → w2.heap[k]? = w1.heap[k]? := by
    intro k hk hn
    rw [hgrow.block k (by simp; omega) (fun h => hn h.symm)]
    exact Below.heap_alloc _ _ _ hk
  have hB1 : w2.heap[B]? = w1.heap[B]? := hblk B hR.size (fun h => by have := (hrow B h).1; omega)
  have he1 : w2.heap[be]? = w1.heap[be]? := hblk be hbe (fun h => (hrow be h).2 rfl)
  have hsz : w1.heap.size ≤ w2.heap.size := by have := hgrow.size; simp at this; omega
  obtain ⟨h1, h2⟩ := hown
  rcases h2 with ⟨h2, _⟩ | ⟨g, cap, cur, hv, hg, hh, r⟩
  · exact absurd h2 hnil
  · have hcell : w2.cell? ⟨B, 0, none⟩ = some (.slice ao2 o2.length cap2) := (World.cell?_of_block (w := w1) (w' := w2) (a := ⟨B, 0, none⟩) hB1).trans hR.cell
    have hfree : w2.frozen? ⟨B, 0, none⟩ = false := (World.frozen?_of_block (w := w1) (w' := w2) (a := ⟨B, 0, none⟩) hB1).trans hR.free
    refine ⟨g, cap, hv, (World.cell?_of_block (w := w1) (w' := w2) (a := ⟨be, 0, none⟩) he1).trans ce, hcell, hfree, ?_⟩
    refine ⟨?_, ?_, ?_, ?_, ?_⟩
    · have := World.cell?_setCell_same w2 ⟨B, 0, none⟩ (.slice (some ⟨g, 0, none⟩) (o2.length + 1) cap) hcell
      rw [this]; simp
    · rw [World.frozen?_setCell]; exact hfree
    · subst hv
      have := ownsRow_setCell_below (w := w2) (base := B + 1) (e := 3) (size := 1) (v := .slice (some ⟨g, 0, none⟩) (o2.length + 1) cap) ⟨h1, Or.inr ⟨g, cap, cur, rfl, hg, hh, r⟩⟩ (a := ⟨B, 0, none⟩) (Nat.lt_succ_self B) (.slice (some ⟨g, 0, none⟩) (o2.length + 1) cap)
      simpa using this
    · exact ((hR.below.alloc (Nat.le_of_lt hR.size) _).grown hgrow (by have := hR.size; simp; omega) (fun k hk => by have := (hrow k hk).1; omega)).setCell (Nat.le_refl _) _
    · have := hR.size
      simp [World.setCell]
      omega

def OrdPost (B : Nat) (w : World) (r : Option (List Int)) (e : Ending) (w' : World) : Prop :=
  (match r with
   | none => e = .returned (.slice none 0 0)
   | some out => ∃ v, e = .returned v ∧ w'.ownsRow (B + 1) 3 1 v out.length (out.map (Value.int .i64))) ∧ Below B w w'

set_option maxHeartbeats 2000000 in
theorem order_r (r : Option (List Int)) (ao : Option Addr) (cap : Nat) (hs : List Hold) (w : World) (hh : HoldsAt w.heap.size w ao hs) (hm : hs.length ≤ 9223372036854775807) (hr : Hid (ord hs 13 [] = r)) :
    Calls Tryd.prog 47 #[.slice ao hs.length cap] w (OrdPost w.heap.size w r) := by
  have HH := Lib.hid hh
  clear hh
  obtain ⟨B, hB⟩ : ∃ B, B = w.heap.size := ⟨_, rfl⟩
  have hstart : OrdRel B w [] none 0 (w.alloc (.cells #[.slice none 0 0] 28)) := by
    subst hB
    exact ⟨by simp, by simp, World.ownsRow_nil _ _ _ _, (Below.refl _ _).alloc (Nat.le_refl _) _, by simp⟩
  go_enter Tryd.func47, Tryd.ntmps47
  go_wp2_with fail
  rw [← hB]
  have HB := Lib.hid hB
  clear hB
  go_loopg [2] 13 (fun g r' wr => r' = .slice none 0 0 ∧ ∃ (outs : List Int) (ao' : Option Addr) (cap' : Nat), Hid (ord hs g outs = r) ∧ 13 ≤ outs.length + g ∧ outs.length ≤ 40 ∧ 1 ≤ g ∧ OrdRel B w outs ao' cap' wr)
  case atStart => exact ⟨rfl, [], none, 0, hr, by simp, by simp, by omega, hstart⟩
  case round =>
    obtain ⟨rfl, outs, ao', cap', ho, hlen, hlen2, hg1, hR⟩ := hrel
    have c1 := hR.cell
    have c2 := hR.free
    have hdec : decide ((outs.length : Int) < 12) = true ∨ decide ((outs.length : Int) < 12) = false := by cases decide ((outs.length : Int) < 12) <;> simp
    clear hstart hr
    by_cases hlt : outs.length < 12
    · have hd : decide ((outs.length : Int) < 12) = true := decide_eq_true (by omega)
      clear hdec
      have H1 : Hid ((ordPass hs outs 12).length = outs.length → r = none) := fun h => by
        have a := ho.out; rw [show gk = (gk - 1) + 1 from by omega, ord_stuck hs _ outs hlt h] at a; exact a.symm
      have H2 : Hid ((ordPass hs outs 12).length ≠ outs.length → ord hs (gk - 1) (ordPass hs outs 12) = r) := fun h => by
        have a := ho.out; rw [show gk = (gk - 1) + 1 from by omega, ord_step hs _ outs hlt h] at a; exact a
      obtain ⟨gn, hgn⟩ : ∃ gn, gn = gk - 1 := ⟨_, rfl⟩
      rw [← hgn] at H2
      have hgn2 : gn < gk := by omega
      have hgn4 : 1 ≤ gn := by omega
      have hgn3 : 12 ≤ outs.length + gn := by omega
      have HGN := Lib.hid hgn
      clear hgn ho
      go_wp2_with fail
      have hR2 : OrdRel B w outs ao' cap' (wr.alloc (.cells #[.int .i64 1] 3)) := hR.later ((Below.refl _ _).alloc (Nat.le_refl _) _)
      have HR := Lib.hid hR
      have Hlt := Lib.hid hlt
      obtain ⟨n0, hn0⟩ : ∃ n0 : Nat, n0 = outs.length := ⟨_, rfl⟩
      go_loopg [5] 12 (fun g p wr' => ∃ (k be : Nat) (o2 : List Int) (ao2 : Option Addr) (cap2 : Nat), g + k = 12 ∧ p = .pointer (some ⟨be, 0, none⟩) ∧ wr'.cell? ⟨be, 0, none⟩ = some (.int .i64 ((k : Int) + 1)) ∧ be < wr'.heap.size ∧
        Hid (∀ b off, ao2 = some ⟨b, off, none⟩ → b ≠ be) ∧ Hid (o2 = ordPass hs outs k) ∧ OrdRel B w o2 ao2 cap2 wr')
      case atStart => exact ⟨0, wr.heap.size, outs, ao', cap', rfl, rfl, by simp, by simp, fun b off e => Nat.ne_of_lt (HR.out.ints.2 b off e), rfl, hR2⟩
      case round =>
        clear hR2 c1 c2 hR
        obtain ⟨k, be, o2, ao2, cap2, hgk, rfl, ce, hbe, hne, ho2, hR⟩ := hrel
        have c1 := hR.cell
        have c2 := hR.free
        by_cases hk : k < 12
        · have hd2 : decide ((k : Int) + 1 ≤ 12) = true := decide_eq_true (by omega)
          have hl2 : o2.length ≤ 23 := by have a := ordPass_len hs outs k; rw [← ho2.out] at a; have := Hlt.out; omega
          have hint := hR.ints
          have hans := ord_answers hR ce hbe (by omega)
          have hhr := HH.out.later (by rw [← HB.out]; exact hR.below) (Nat.le_of_lt (by rw [← HB.out]; exact hR.size) : w.heap.size ≤ wr.heap.size)
          have hcon := contains_ints ao2 cap2 o2 ((k : Int) + 1) wr hint.1 (by omega)
          have hcf := containsf_order _ be B ao cap hs wr hhr hm hans
          clear hint hans hhr
          by_cases hmem : memB o2 ((k : Int) + 1) = true
          · rw [hmem] at hcon
            have hnext := Lib.hid (ordPass_mem ho2.out hmem)
            have hne2 : Hid (∀ b off, ao2 = some ⟨b, off, none⟩ → b ≠ wr.heap.size) := fun b off e => Nat.ne_of_lt (hR.ints.2 b off e)
            have hR3 : OrdRel B w o2 ao2 cap2 (wr.alloc (.cells #[.int .i64 ((k : Int) + 1 + 1)] 3)) := hR.later ((Below.refl _ _).alloc (Nat.le_refl _) _)
            clear hcf ho2 hmem hR
            go_wp2_with fail
            refine hcon.mono ?_
            rintro e w1 ⟨rfl, rfl⟩
            go_wp2_with fail
            go_roundg (gk - 1)
            case measure => omega
            case rel => exact ⟨k + 1, wr.heap.size, o2, ao2, cap2, by omega, rfl, by simp, by simp, hne2, hnext, hR3⟩
          · have hmem' : memB o2 ((k : Int) + 1) = false := by simpa using hmem
            rw [hmem'] at hcon
            by_cases hany : (hs.any fun x => x.o == ((k : Int) + 1) && !(memB o2 x.e)) = true
            · rw [hany] at hcf
              have hnext := Lib.hid (ordPass_any ho2.out hany)
              have HR2 := Lib.hid hR
              clear ho2 hmem hR hany hmem'
              go_wp2_with fail
              refine hcon.mono ?_
              rintro e w1 ⟨rfl, rfl⟩
              go_wp2_with fail
              refine hcf.mono ?_
              rintro e w1 ⟨rfl, hb1⟩
              have hR3 := HR2.out.later hb1
              have ce1 := (hb1.cell (p := ⟨be, 0, none⟩) hbe).trans ce
              have d1 := hR3.cell
              have d2 := hR3.free
              have hne2 : Hid (∀ b off, ao2 = some ⟨b, off, none⟩ → b ≠ w1.heap.size) := fun b off e => Nat.ne_of_lt (hR3.ints.2 b off e)
              have hR4 : OrdRel B w o2 ao2 cap2 (w1.alloc (.cells #[.int .i64 ((k : Int) + 1 + 1)] 3)) := hR3.later ((Below.refl _ _).alloc (Nat.le_refl _) _)
              clear hR3 hb1 c1 c2 ce
              go_wp2_with fail
              go_roundg (gk - 1)
              case measure => omega
              case rel => exact ⟨k + 1, w1.heap.size, o2, ao2, cap2, by omega, rfl, by simp, by simp, hne2, hnext, hR4⟩
            · have hany' : (hs.any fun x => x.o == ((k : Int) + 1) && !(memB o2 x.e)) = false := by simpa using hany
              rw [hany'] at hcf
              have hnext := Lib.hid (ordPass_yes ho2.out hmem' hany')
              have HR2 := Lib.hid hR
              clear ho2 hmem hR hany hmem' hany'
              go_wp2_with fail
              refine hcon.mono ?_
              rintro e w1 ⟨rfl, rfl⟩
              go_wp2_with fail
              refine hcf.mono ?_
              rintro e w1 ⟨rfl, hb1⟩
              have hR3 := HR2.out.later hb1
              have ce1 := (hb1.cell (p := ⟨be, 0, none⟩) hbe).trans ce
              have hbe1 := Nat.lt_of_lt_of_le hbe hb1.size
              have d1 := hR3.cell
              have d2 := hR3.free
              clear hb1 c1 c2 ce
              obtain ⟨i0, hi, hz0, hz1, hz2⟩ := info_parts infoInt
              have HI := Lib.hid hi
              have HZ0 := Lib.hid hz0
              have HZ1 := Lib.hid hz1
              have HZ2 := Lib.hid hz2
              clear hi hz0 hz1 hz2
              have hown := hR3.own
              have hsz := hR3.size
              have hbl := hR3.below
              go_wp2_with (first
                | (at_builtin; refine wpList_append_own _ rfl _ _ 28 rfl (B + 1) 3 i0 (.int .i64 0) 1 8 Tryd.underlying28 HI.out HZ0.out HZ1.out HZ2.out rfl (by decide) _ _ _ rfl (hown.alloc _) ⟨w1.heap.size, 0, none⟩ 1 1 [.int .i64 ((k : Int) + 1)] rfl rfl ?c1 ?c2 ?c3 ?c4 ?c5 ?_))
              case c1 =>
                intro j u hj
                match j, hj with
                | 0, hj => simp at hj; subst hj; simp [Addr.add]
              case c2 => intro u hu; simp at hu; subst hu; rfl
              case c3 => unfold maxLen; omega
              case c4 => omega
              case c5 => simp; omega
              · intro v' w2 hown' hgrow hnil
                obtain ⟨g, cap3, rfl, f1, f2, f3, hR5⟩ := ord_append hR3 ce1 hbe1 hne.out hown' hgrow hnil
                have hne3 : ¬ be = B := fun h => by subst h; rw [ce1] at d1; cases d1
                have hne4 : ¬ B = be := fun h => hne3 h.symm
                have hne2 : Hid (∀ b off, some (⟨g, 0, none⟩ : Addr) = some ⟨b, off, none⟩ → b ≠ w2.heap.size) := fun b off e => Nat.ne_of_lt (by have := hR5.ints.2 b off e; simpa [World.setCell] using this)
                have hR6 := hR5.later ((Below.refl _ _).alloc (Nat.le_refl _) (.cells #[.int .i64 ((k : Int) + 1 + 1)] 3))
                clear hown' hgrow hnil d1 d2 ce1 hR3 hown hR5
                go_wp2_with fail
                go_roundg (gk - 1)
                case measure => omega
                case rel => exact ⟨k + 1, w2.heap.size, o2 ++ [(k : Int) + 1], some ⟨g, 0, none⟩, cap3, by omega, rfl, by rw [World.cell?_alloc_at _ _ _ _ (by rw [World.size_setCell])]; rfl, by rw [World.size_alloc, World.size_setCell]; omega, hne2, hnext, hR6⟩
        · have hk12 : k = 12 := by omega
          subst hk12
          have hl2 := ordPass_len hs outs 12
          rw [← ho2.out] at hl2
          by_cases hsame : o2.length = outs.length
          · have hq : ((o2.length : Int) == (outs.length : Int)) = true := beq_iff_eq.2 (by omega)
            have hrn := H1.out (by rw [← ho2.out]; exact hsame)
            have hbl := hR.below
            clear hsame H1 H2 hR ho2
            subst hrn
            go_wp2_with fail
            go_ret
            exact ⟨rfl, hbl⟩
          · have hq : ((o2.length : Int) == (outs.length : Int)) = false := beq_eq_false_iff_ne.2 (by omega)
            have hrn := Lib.hid (H2.out (by rw [← ho2.out]; exact hsame))
            rw [← ho2.out] at hrn
            have Hsame := Lib.hid hsame
            clear hsame H1 H2 ho2
            go_wp2_with fail
            go_roundg gn
            case measure => omega
            case rel => exact ⟨rfl, o2, ao2, cap2, hrn, by have := Hsame.out; omega, by omega, by omega, hR⟩
    · have hd : decide ((outs.length : Int) < 12) = false := decide_eq_false (by omega)
      have hrs : r = some outs := by
        have a := ho.out
        cases hgk : gk with
        | zero => omega
        | succ n => rw [hgk, ord_done hs _ outs hlt] at a; exact a.symm
      subst hrs
      have HR := Lib.hid hR
      clear hdec ho hR
      go_wp2_with fail
      go_ret
      have hB := HB.out
      subst hB
      exact ⟨⟨_, rfl, HR.out.own⟩, HR.out.below⟩
end Go.Proofs.YtbhndnjlplibmaaDoor
