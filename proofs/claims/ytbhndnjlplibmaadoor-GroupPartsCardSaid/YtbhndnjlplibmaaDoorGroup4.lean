/- group.Check at any holdings: what it answers. -/
import Derived.Test.YtbhndnjlplibmaaDoorGroup3
import Derived.RegionTactic
import Derived.ChangeAlike
import Derived.WalkSpells
namespace Go.Proofs.YtbhndnjlplibmaaDoor
open Go.RowKit

def entB (n : Int) : Bool := decide (1 ≤ n) && decide (n ≤ 12)

theorem entB_true {n : Int} (h : entB n = true) : 1 ≤ n ∧ n ≤ 12 := by
  simpa [entB] using h

theorem entity_any (n : Int) (w : World) : Calls Tryd.prog 44 #[.int .i64 n] w fun e w' => e = .returned (.bool (entB n)) ∧ w = w' := by
  by_cases h1 : 1 ≤ n
  · by_cases h2 : n ≤ 12
    · have hb : Hid (entB n = true) := by show _ = _; simp [entB, h1, h2]
      go_enter Tryd.func44, Tryd.ntmps44
      go_wp2
      go_ret
      exact ⟨ret_bool hb.out.symm, rfl⟩
    · have hb : Hid (entB n = false) := by show _ = _; simp [entB, h2]
      go_enter Tryd.func44, Tryd.ntmps44
      go_wp2
      go_ret
      exact ⟨ret_bool hb.out.symm, rfl⟩
  · have hb : Hid (entB n = false) := by show _ = _; simp [entB, h1]
    go_enter Tryd.func44, Tryd.ntmps44
    go_wp2
    go_ret
    exact ⟨ret_bool hb.out.symm, rfl⟩

def ErrPost (B : Nat) (w : World) (c : Int) (e : Ending) (w' : World) : Prop := e = .returned (errV c) ∧ Below B w w'

/-- what is wrong with one, behind those of pre -/
def chkOne (pre : List Hold) (h : Hold) : Int :=
  if entB h.e = false ∨ entB h.o = false ∨ h.p < 1 ∨ 1000 < h.p then 1 else if h.e = h.o ∨ (pre.any fun x => x.e == h.e && x.o == h.o) = true then 8 else 0
/-- what is wrong with the first that is -/
def chkFrom (hs : List Hold) : List Hold → Nat → Int
  | [], _ => 0
  | h :: r, k => if chkOne (hs.take k) h = 0 then chkFrom hs r (k + 1) else chkOne (hs.take k) h
/-- all parts of one -/
def hadSum (l : List Hold) (o : Int) : Int := (l.map fun h => if h.o = o then h.p else 0).sum
def chk2From (hs : List Hold) : List Hold → Nat → Int
  | [], _ => 0
  | h :: r, k => if hadSum (hs.take (k + 1)) h.o ≤ 1000 then chk2From hs r (k + 1) else 11
def checkF (hs : List Hold) : Int :=
  if 20 < hs.length then 4 else if chkFrom hs hs 0 ≠ 0 then chkFrom hs hs 0 else if chk2From hs hs 0 ≠ 0 then chk2From hs hs 0 else if ord hs 13 [] = none then 5 else 0

theorem chkFrom_drop (hs : List Hold) (k : Nat) (h : Hold) (hk : hs[k]? = some h) : chkFrom hs (hs.drop k) k = if chkOne (hs.take k) h = 0 then chkFrom hs (hs.drop (k + 1)) (k + 1) else chkOne (hs.take k) h := by
  obtain ⟨hk', rfl⟩ := List.getElem?_eq_some_iff.1 hk
  rw [List.drop_eq_getElem_cons hk', chkFrom]
theorem chk2From_drop (hs : List Hold) (k : Nat) (h : Hold) (hk : hs[k]? = some h) : chk2From hs (hs.drop k) k = if hadSum (hs.take (k + 1)) h.o ≤ 1000 then chk2From hs (hs.drop (k + 1)) (k + 1) else 11 := by
  obtain ⟨hk', rfl⟩ := List.getElem?_eq_some_iff.1 hk
  rw [List.drop_eq_getElem_cons hk', chk2From]
theorem hadSum_step (hs : List Hold) (k : Nat) (h : Hold) (hk : hs[k]? = some h) (o : Int) : hadSum (hs.take (k + 1)) o = hadSum (hs.take k) o + if h.o = o then h.p else 0 := by
  obtain ⟨hk', rfl⟩ := List.getElem?_eq_some_iff.1 hk
  rw [List.take_succ_eq_append_getElem hk', hadSum, List.map_append, List.sum_append]
  simp [hadSum]

theorem chkOne_bad {pre : List Hold} {h : Hold} (hb : entB h.e = false ∨ entB h.o = false ∨ h.p < 1 ∨ 1000 < h.p) : chkOne pre h = 1 := by rw [chkOne, if_pos hb]
theorem chkOne_clash {pre : List Hold} {h : Hold} (hb : ¬ (entB h.e = false ∨ entB h.o = false ∨ h.p < 1 ∨ 1000 < h.p)) (hc : h.e = h.o ∨ (pre.any fun x => x.e == h.e && x.o == h.o) = true) : chkOne pre h = 8 := by rw [chkOne, if_neg hb, if_pos hc]
theorem chkOne_good {pre : List Hold} {h : Hold} (hb : ¬ (entB h.e = false ∨ entB h.o = false ∨ h.p < 1 ∨ 1000 < h.p)) (hc : ¬ (h.e = h.o ∨ (pre.any fun x => x.e == h.e && x.o == h.o) = true)) : chkOne pre h = 0 := by rw [chkOne, if_neg hb, if_neg hc]
/-- the first that is wrong decides -/
theorem chk_stop {hs : List Hold} {k : Nat} {h : Hold} {c r rest : Int} (hc : chkOne (hs.take k) h = c) (h0 : c ≠ 0) (hi : chkFrom hs hs 0 = chkFrom hs (hs.drop k) k) (hd : chkFrom hs (hs.drop k) k = if chkOne (hs.take k) h = 0 then chkFrom hs (hs.drop (k + 1)) (k + 1) else chkOne (hs.take k) h)
    (hr : (if chkFrom hs hs 0 ≠ 0 then chkFrom hs hs 0 else rest) = r) : r = c := by
  rw [hi, hd, hc, if_neg h0, if_pos h0] at hr
  exact hr.symm
theorem chk_next {hs : List Hold} {k : Nat} {h : Hold} (hc : chkOne (hs.take k) h = 0) (hi : chkFrom hs hs 0 = chkFrom hs (hs.drop k) k) (hd : chkFrom hs (hs.drop k) k = if chkOne (hs.take k) h = 0 then chkFrom hs (hs.drop (k + 1)) (k + 1) else chkOne (hs.take k) h) :
    chkFrom hs hs 0 = chkFrom hs (hs.drop (k + 1)) (k + 1) := by
  rw [hi, hd, if_pos hc]

theorem check_answers {x : Hold} {c : Nat} {w1 : World} (h0 : w1.cell? ⟨c, 0, none⟩ = some (.int .i64 x.e)) (h1 : w1.cell? ⟨c, 1, none⟩ = some (.int .i64 x.o)) (hc : c < w1.heap.size) :
    Answers 46 (fun v => #[v, .pointer (some ⟨c, 0, none⟩)]) w1.heap.size w1 (fun y => y.e == x.e && y.o == x.o) := by
  intro y w2 hb
  exact check1_any y x c w2 ((hb.cell (p := ⟨c, 0, none⟩) hc).trans h0) ((hb.cell (p := ⟨c, 1, none⟩) hc).trans h1)

theorem chkFrom_zero {hs : List Hold} : ∀ {l : List Hold} {k : Nat}, chkFrom hs l k = 0 → ∀ h ∈ l, entB h.e = true ∧ entB h.o = true ∧ 1 ≤ h.p ∧ h.p ≤ 1000
  | [], _, _, _, hm => by cases hm
  | x :: r, k, hz, h, hm => by
    rw [chkFrom] at hz
    split at hz
    · rename_i hx
      rcases List.mem_cons.1 hm with rfl | hm
      · unfold chkOne at hx
        split at hx
        · cases hx
        · rename_i hn
          refine ⟨?_, ?_, ?_, ?_⟩
          · cases he : entB h.e
            · exact absurd (Or.inl he) hn
            · rfl
          · cases he : entB h.o
            · exact absurd (Or.inr (Or.inl he)) hn
            · rfl
          · rcases Int.lt_or_le h.p 1 with hp | hp
            · exact absurd (Or.inr (Or.inr (Or.inl hp))) hn
            · exact hp
          · rcases Int.lt_or_le 1000 h.p with hp | hp
            · exact absurd (Or.inr (Or.inr (Or.inr hp))) hn
            · exact hp
      · exact chkFrom_zero hz h hm
    · rename_i hx; exact absurd hz hx

/-- the sums by entity, in block Bh -/
def HadAt (wr : World) (Bh : Nat) (f : Int → Int) : Prop := ∀ j : Nat, j < 13 → wr.cell? ⟨Bh, j, none⟩ = some (.int .i64 (f j)) ∧ wr.frozen? ⟨Bh, j, none⟩ = false

theorem HadAt.later {wr w' : World} {Bh : Nat} {f : Int → Int} (h : HadAt wr Bh f) (hb : Below wr.heap.size wr w') : HadAt w' Bh f := by
  intro j hj
  obtain ⟨h1, h2⟩ := h j hj
  have hlt : Bh < wr.heap.size := by
    rcases Nat.lt_or_ge Bh wr.heap.size with h | h
    · exact h
    · simp [World.cell?, Array.getElem?_eq_none h] at h1
  exact ⟨(hb.cell (p := ⟨Bh, j, none⟩) hlt).trans h1, (hb.frozen (p := ⟨Bh, j, none⟩) hlt).trans h2⟩

theorem HadAt.set {wr : World} {Bh : Nat} {f g : Int → Int} {n : Nat} (h : HadAt wr Bh f) (_ : n < 13) (hg : ∀ j : Nat, j < 13 → g j = if n = j then g n else f j) : HadAt (wr.setCell ⟨Bh, n, none⟩ (.int .i64 (g n))) Bh g := by
  intro j hj
  obtain ⟨h1, h2⟩ := h j hj
  refine ⟨?_, by rw [World.frozen?_setCell]; exact h2⟩
  by_cases e : n = j
  · subst e
    exact World.cell?_setCell_same wr _ _ h1
  · rw [World.cell?_setCell_other wr _ _ _ (by intro he; injection he with _ he _; exact e he), hg j hj, if_neg e]
    exact h1

theorem had_start (w : World) (t : TypeId) : HadAt (w.alloc (.cells #[.int .i64 0, .int .i64 0, .int .i64 0, .int .i64 0, .int .i64 0, .int .i64 0, .int .i64 0, .int .i64 0, .int .i64 0, .int .i64 0, .int .i64 0, .int .i64 0, .int .i64 0] t)) w.heap.size (fun o => hadSum [] o) := by
  intro j hj
  refine ⟨?_, by simp⟩
  rw [World.cell?_alloc_at _ _ _ _ rfl]
  match j, hj with
  | 0, _ | 1, _ | 2, _ | 3, _ | 4, _ | 5, _ | 6, _ | 7, _ | 8, _ | 9, _ | 10, _ | 11, _ | 12, _ => rfl

/-- the sums behind one more -/
theorem had_next {wr : World} {Bh : Nat} {l l' : List Hold} {n : Nat} {s0 p : Int} (h : HadAt wr Bh (hadSum l)) (hn : n < 13) (hs0 : s0 = hadSum l n) (hstep : ∀ o, hadSum l' o = hadSum l o + if (n : Int) = o then p else 0) :
    HadAt (wr.setCell ⟨Bh, n, none⟩ (.int .i64 (s0 + p))) Bh (hadSum l') := by
  have e : s0 + p = hadSum l' n := by rw [hs0, hstep n, if_pos rfl]
  rw [e]
  refine HadAt.set h hn (fun j _ => ?_)
  by_cases hj : n = j
  · subst hj; rw [if_pos rfl]
  · rw [if_neg hj, hstep j, if_neg (by omega)]; omega
theorem had_bounds {l l' : List Hold} {n : Nat} {s0 p : Int} (hs0 : s0 = hadSum l n) (hb : ∀ o, 0 ≤ hadSum l o ∧ hadSum l o ≤ 1000) (hp : 1 ≤ p) (hov : s0 + p ≤ 1000) (hstep : ∀ o, hadSum l' o = hadSum l o + if (n : Int) = o then p else 0) :
    ∀ o, 0 ≤ hadSum l' o ∧ hadSum l' o ≤ 1000 := by
  intro o
  have := hb o
  rw [hstep o]
  by_cases e : (n : Int) = o
  · subst e; rw [if_pos rfl]; omega
  · rw [if_neg e]; omega

theorem ord_len {hs : List Hold} : ∀ {f : Nat} {l out : List Int}, ord hs f l = some out → 12 ≤ out.length
  | 0, _, _, h => by cases h
  | f + 1, l, out, h => by
    rw [ord] at h
    split at h
    · split at h
      · cases h
      · exact ord_len h
    · injection h with h; subst h; omega
theorem ownsRow_some {w : World} {base : Nat} {e : TypeId} {sz : Nat} {v : Value} {n : Nat} {xs : List Value} (h : w.ownsRow base e sz v n xs) (hn : 0 < n) : ∃ g cap, v = .slice (some ⟨g, 0, none⟩) n cap ∧ base ≤ g ∧ g < w.heap.size ∧ n ≤ cap := by
  obtain ⟨_, h2⟩ := h
  rcases h2 with ⟨_, h2⟩ | ⟨g, cap, cur, hv, hg, hh, hc, _⟩
  · omega
  · refine ⟨g, cap, hv, hg, ?_, hc⟩
    rcases Nat.lt_or_ge g w.heap.size with hlt | hge
    · exact hlt
    · rw [Array.getElem?_eq_none hge] at hh; cases hh

set_option maxHeartbeats 4000000 in
theorem check_r (r : Int) (ao : Option Addr) (cap : Nat) (hs : List Hold) (w : World) (hh : HoldsAt w.heap.size w ao hs) (hcap : hs.length ≤ cap) (_ : cap ≤ 9223372036854775807) (hr : Hid (checkF hs = r)) :
    Calls Tryd.prog 14 #[.slice ao hs.length cap] w (ErrPost w.heap.size w r) := by
  have HH := Lib.hid hh
  clear hh
  by_cases hlen : 20 < hs.length
  · have hr4 : r = 4 := by have a := hr.out; rw [checkF, if_pos hlen] at a; exact a.symm
    subst hr4
    clear hr
    have hd : decide ((20 : Int) < (hs.length : Int)) = true := decide_eq_true (by omega)
    go_enter Tryd.func14, Tryd.ntmps14
    go_wp2
    go_ret
    exact ⟨rfl, Below.refl _ _⟩
  · have hr1 : Hid ((if chkFrom hs hs 0 ≠ 0 then chkFrom hs hs 0 else if chk2From hs hs 0 ≠ 0 then chk2From hs hs 0 else if ord hs 13 [] = none then 5 else 0) = r) := by
      have a := hr.out; rw [checkF, if_neg hlen] at a; exact a
    have hd : decide ((20 : Int) < (hs.length : Int)) = false := decide_eq_false (by omega)
    have hlen2 : hs.length ≤ 20 := by omega
    obtain ⟨B, hB⟩ : ∃ B, B = w.heap.size := ⟨_, rfl⟩
    go_enter Tryd.func14, Tryd.ntmps14
    go_wp2_with fail
    rw [← hB]
    have HB := Lib.hid hB
    clear hB hr hlen
    go_loopw [2, 14] (fun z i wr => ∃ k : Nat, k ≤ hs.length ∧ i = .int .i64 k ∧ z = .nilIface ∧ Hid (chkFrom hs hs 0 = chkFrom hs (hs.drop k) k) ∧ Below B w wr) (fun _ i _ => hs.length - (intOf i).toNat)
    case atStart => exact ⟨0, Nat.zero_le _, rfl, rfl, rfl, Below.refl _ _⟩
    case round =>
      obtain ⟨k, hk, rfl, rfl, hi, hbel⟩ := hrel
      by_cases hlt : k < hs.length
      · obtain ⟨x, hx⟩ := getElem?_ex hlt
        obtain ⟨b, off, rfl, hb, hcc⟩ := HH.out.resolve_left (fun e => by rw [e] at hlt; simp at hlt)
        have HC := Lib.hid hcc
        clear hcc
        obtain ⟨c0, c1, c2⟩ := HC.out k x hx
        have hbB : b < B := by rw [HB.out]; exact hb
        replace c0 := (hbel.cell (p := ⟨b, _, none⟩) hbB).trans c0
        replace c1 := (hbel.cell (p := ⟨b, _, none⟩) hbB).trans c1
        replace c2 := (hbel.cell (p := ⟨b, _, none⟩) hbB).trans c2
        have hd2 := Lib.hid (chkFrom_drop hs k x hx)
        clear hx
        obtain ⟨xe, xo, xp⟩ := x
        dsimp only at c0 c1 c2
        have hd3 : decide ((k : Int) < (hs.length : Int)) = true := decide_eq_true (by omega)
        by_cases hbad : entB xe = false ∨ entB xo = false ∨ xp < 1 ∨ 1000 < xp
        · have hr1' := chk_stop (chkOne_bad (h := ⟨xe, xo, xp⟩) hbad) (by decide) hi.out hd2.out hr1.out
          subst hr1'
          clear hr1 hd2 hi
          rcases hbad with hbad | hbad | hbad | hbad
          all_goals
            go_wp2_with (go_at_call 44; refine (entity_any _ _).mono ?_; rintro e w' ⟨rfl, rfl⟩)
            all_goals go_ret
            all_goals exact ⟨rfl, hbel.alloc (by rw [HB.out]; exact hbel.size) _⟩
        · have hgood : entB xe = true ∧ entB xo = true ∧ 1 ≤ xp ∧ xp ≤ 1000 := by
            refine ⟨?_, ?_, ?_, ?_⟩
            · cases h : entB xe
              · exact absurd (Or.inl h) hbad
              · rfl
            · cases h : entB xo
              · exact absurd (Or.inr (Or.inl h)) hbad
              · rfl
            · rcases Int.lt_or_le xp 1 with h | h
              · exact absurd (Or.inr (Or.inr (Or.inl h))) hbad
              · exact h
            · rcases Int.lt_or_le 1000 xp with h | h
              · exact absurd (Or.inr (Or.inr (Or.inr h))) hbad
              · exact h
          obtain ⟨g1, g2, g3, g4⟩ := hgood
          by_cases heq : xe = xo
          · have hr1' := chk_stop (chkOne_clash (h := ⟨xe, xo, xp⟩) hbad (Or.inl heq)) (by decide) hi.out hd2.out hr1.out
            subst hr1'
            have hq : (xe == xo) = true := beq_iff_eq.2 heq
            clear hr1 hd2 hi hbad heq
            go_wp2_with (go_at_call 44; refine (entity_any _ _).mono ?_; rintro e w' ⟨rfl, rfl⟩)
            go_ret
            exact ⟨rfl, hbel.alloc (by rw [HB.out]; exact hbel.size) _⟩
          · have hq : (xe == xo) = false := beq_eq_false_iff_ne.2 heq
            have hans := check_answers (x := ⟨xe, xo, xp⟩) (c := wr.heap.size) (w1 := wr.alloc (.cells #[.int .i64 xe, .int .i64 xo, .int .i64 xp] 99)) (by simp) (by simp) (by simp)
            have hbel2 : Below B w (wr.alloc (.cells #[.int .i64 xe, .int .i64 xo, .int .i64 xp] 99)) := hbel.alloc (by rw [HB.out]; exact hbel.size) _
            have hhold : HoldsAt (wr.alloc (.cells #[.int .i64 xe, .int .i64 xo, .int .i64 xp] 99)).heap.size (wr.alloc (.cells #[.int .i64 xe, .int .i64 xo, .int .i64 xp] 99)) (some ⟨b, off, none⟩) (hs.take k) :=
              (HoldsAt.later (B := B) (Or.inr ⟨b, off, rfl, hbB, HC.out⟩) hbel2 (by rw [HB.out]; exact hbel2.size)).take k
            have hcf := containsf_check _ wr.heap.size (some ⟨b, off, none⟩) cap (hs.take k) _ hhold (by rw [List.length_take]; omega) hans
            rw [List.length_take, Nat.min_eq_left hk] at hcf
            have hkc : k ≤ cap := by omega
            clear hans hhold
            by_cases hany : ((hs.take k).any fun y => y.e == xe && y.o == xo) = true
            · have hr1' := chk_stop (chkOne_clash (h := ⟨xe, xo, xp⟩) hbad (Or.inr hany)) (by decide) hi.out hd2.out hr1.out
              subst hr1'
              rw [show ((hs.take k).any fun y => y.e == (⟨xe, xo, xp⟩ : Hold).e && y.o == (⟨xe, xo, xp⟩ : Hold).o) = true from hany] at hcf
              clear hr1 hd2 hi hbad heq hany
              go_wp2_with (go_at_call 44; refine (entity_any _ _).mono ?_; rintro e w' ⟨rfl, rfl⟩)
              refine hcf.mono ?_
              rintro e w1 ⟨rfl, hb1⟩
              go_wp2_with fail
              go_ret
              exact ⟨rfl, hbel2.trans (hb1.mono (by rw [HB.out]; exact hbel2.size))⟩
            · have hany' : ((hs.take k).any fun y => y.e == xe && y.o == xo) = false := by simpa using hany
              have hnext := Lib.hid (chk_next (chkOne_good (h := ⟨xe, xo, xp⟩) hbad (fun h => by rcases h with h | h; exact heq h; exact hany h)) hi.out hd2.out)
              rw [show ((hs.take k).any fun y => y.e == (⟨xe, xo, xp⟩ : Hold).e && y.o == (⟨xe, xo, xp⟩ : Hold).o) = false from hany'] at hcf
              clear hd2 hi hbad heq hany hany'
              go_wp2_with (go_at_call 44; refine (entity_any _ _).mono ?_; rintro e w' ⟨rfl, rfl⟩)
              refine hcf.mono ?_
              rintro e w1 ⟨rfl, hb1⟩
              have hbel3 := hbel2.trans (hb1.mono (by rw [HB.out]; exact hbel2.size))
              clear hbel2 hb1
              go_wp2_with fail
              go_roundw
              case rel => exact ⟨k + 1, by omega, by go_num, rfl, hnext, hbel3⟩
              case measure => simp [intOf]; omega
      · have hke : hs.drop k = [] := List.drop_eq_nil_of_le (by omega)
        have hd3 : decide ((k : Int) < (hs.length : Int)) = false := decide_eq_false (by omega)
        have hr2 : Hid ((if chk2From hs hs 0 ≠ 0 then chk2From hs hs 0 else if ord hs 13 [] = none then 5 else 0) = r) := by
          have a := hr1.out; have c := hi.out; rw [hke] at c; rw [show chkFrom hs hs 0 = 0 from c, if_neg (by simp)] at a; exact a
        have hall : ∀ h ∈ hs, entB h.e = true ∧ entB h.o = true ∧ 1 ≤ h.p ∧ h.p ≤ 1000 := chkFrom_zero (hs := hs) (l := hs) (k := 0) (by have c := hi.out; rw [hke] at c; exact c)
        clear hi hke hr1
        have hgood : Hid (∀ h ∈ hs, entB h.e = true ∧ entB h.o = true ∧ 1 ≤ h.p ∧ h.p ≤ 1000) := hall
        clear hall
        go_wp2_with fail
        obtain ⟨Bh, hBh⟩ : ∃ Bh, Bh = wr.heap.size := ⟨_, rfl⟩
        have hst := had_start wr 103
        have hbel2 := hbel.alloc (by rw [HB.out]; exact hbel.size) (.cells #[.int .i64 0, .int .i64 0, .int .i64 0, .int .i64 0, .int .i64 0, .int .i64 0, .int .i64 0, .int .i64 0, .int .i64 0, .int .i64 0, .int .i64 0, .int .i64 0, .int .i64 0] 103)
        have hBB : B ≤ Bh := by rw [HB.out, hBh]; exact hbel.size
        rw [← hBh] at hst ⊢
        have HBh := Lib.hid hBh
        clear hBh hbel
        go_loopw [2, 58] (fun z i wr => ∃ k : Nat, k ≤ hs.length ∧ i = .int .i64 k ∧ z = .nilIface ∧ Hid (chk2From hs hs 0 = chk2From hs (hs.drop k) k) ∧ Below B w wr ∧ HadAt wr Bh (hadSum (hs.take k)) ∧ Hid (∀ o, 0 ≤ hadSum (hs.take k) o ∧ hadSum (hs.take k) o ≤ 1000)) (fun _ i _ => hs.length - (intOf i).toNat)
        case atStart => exact ⟨0, Nat.zero_le _, rfl, rfl, rfl, hbel2, hst, fun o => by simp [hadSum]⟩
        case round =>
          clear hst hbel2
          obtain ⟨k, hk, rfl, rfl, hi, hbel, hhad, hsum⟩ := hrel
          by_cases hlt : k < hs.length
          · obtain ⟨x, hx⟩ := getElem?_ex hlt
            obtain ⟨b, off, rfl, hb, hcc⟩ := HH.out.resolve_left (fun e => by rw [e] at hlt; simp at hlt)
            have HC := Lib.hid hcc
            clear hcc
            obtain ⟨c0, c1, c2⟩ := HC.out k x hx
            have hbB : b < B := by rw [HB.out]; exact hb
            replace c0 := (hbel.cell (p := ⟨b, _, none⟩) hbB).trans c0
            replace c1 := (hbel.cell (p := ⟨b, _, none⟩) hbB).trans c1
            replace c2 := (hbel.cell (p := ⟨b, _, none⟩) hbB).trans c2
            have hd2 := Lib.hid (chk2From_drop hs k x hx)
            have hstep := Lib.hid (hadSum_step hs k x hx)
            obtain ⟨q1, q2, q3, q4⟩ := hgood.out x (List.mem_of_getElem? hx)
            obtain ⟨q5, q6⟩ := entB_true q2
            clear hx q1 q2
            obtain ⟨xe, xo, xp⟩ := x
            dsimp only at c0 c1 c2 q3 q4 q5 q6
            obtain ⟨n, rfl⟩ := Int.eq_ofNat_of_zero_le (show 0 ≤ xo by omega)
            obtain ⟨h1, h2⟩ := hhad n (by omega)
            have hs2 := hsum.out n
            obtain ⟨s0, hs0⟩ : ∃ s0, s0 = hadSum (hs.take k) n := ⟨_, rfl⟩
            rw [← hs0] at h1 hs2
            have HS0 := Lib.hid hs0
            have HHAD := Lib.hid hhad
            clear hs0 hhad
            have hBhlt : Bh < wr.heap.size := by
              rcases Nat.lt_or_ge Bh wr.heap.size with h | h
              · exact h
              · simp [World.cell?, Array.getElem?_eq_none h] at h1
            have hBhne : ¬ Bh = wr.heap.size := Nat.ne_of_lt hBhlt
            obtain ⟨t1, t2⟩ := hs2
            have n0 : (0 : Int) ≤ (n : Int) := by omega
            have n13 : (n : Int) < 13 := by omega
            by_cases hover : s0 + xp ≤ 1000
            · have hdo : decide ((1000 : Int) < s0 + xp) = false := decide_eq_false (by omega)
              have hnx : Hid (chk2From hs hs 0 = chk2From hs (hs.drop (k + 1)) (k + 1)) := by
                have a := hi.out; have c := hd2.out; rw [if_pos (by rw [hstep.out, if_pos rfl, ← HS0.out]; exact hover)] at c; exact a.trans c
              have hh2 := had_next HHAD.out (by omega) HS0.out hstep.out
              have hh3 := hh2.later ((Below.refl _ _).alloc (Nat.le_refl _) (.cells #[.int .i64 xe, .int .i64 (n : Int), .int .i64 xp] 99)).drew
              have hsn := Lib.hid (had_bounds HS0.out hsum.out q3 hover hstep.out)
              have hbel3 := ((hbel.setCell (p := ⟨Bh, n, none⟩) hBB (.int .i64 (s0 + xp))).alloc (by rw [World.size_setCell, HB.out]; exact hbel.size) (.cells #[.int .i64 xe, .int .i64 (n : Int), .int .i64 xp] 99)).drew
              clear hi hd2 hstep hsum hh2 HHAD
              go_wp2_with fail
              go_region
              go_wp2_with fail
              go_roundw
              case rel => exact ⟨k + 1, by omega, by go_num, rfl, hnx, hbel3, hh3, hsn⟩
              case measure => simp [intOf]; omega
            · have hdo : decide ((1000 : Int) < s0 + xp) = true := decide_eq_true (by omega)
              have hr3 : r = 11 := by
                have a := hi.out; have c := hd2.out; rw [if_neg (by rw [hstep.out, if_pos rfl, ← HS0.out]; exact hover)] at c
                have d := hr2.out; rw [a.trans c, if_pos (by decide)] at d; exact d.symm
              subst hr3
              have hbel3 := ((hbel.setCell (p := ⟨Bh, n, none⟩) hBB (.int .i64 (s0 + xp))).alloc (by rw [World.size_setCell, HB.out]; exact hbel.size) (.cells #[.int .i64 xe, .int .i64 (n : Int), .int .i64 xp] 99)).drew
              clear hi hd2 hstep hsum HHAD hr2
              go_wp2_with fail
              go_region
              go_wp2_with fail
              go_ret
              exact ⟨rfl, by rw [← HB.out]; exact hbel3⟩
          · have hke : hs.drop k = [] := List.drop_eq_nil_of_le (by omega)
            have hd3 : decide ((k : Int) < (hs.length : Int)) = false := decide_eq_false (by omega)
            have hr3 : Hid ((if ord hs 13 [] = none then 5 else 0) = r) := by
              have a := hr2.out; have c := hi.out; rw [hke] at c; rw [show chk2From hs hs 0 = 0 from c, if_neg (by simp)] at a; exact a
            clear hi hke hr2 hhad hsum
            have hlo := HoldsAt.later (B := B) (B' := wr.heap.size) (by rw [HB.out]; exact HH.out) hbel (by rw [HB.out]; exact hbel.size)
            obtain ⟨q, hq⟩ : ∃ q, q = ord hs 13 [] := ⟨_, rfl⟩
            have hord := order_r q ao cap hs wr hlo (by omega) hq.symm
            rw [← hq] at hr3
            have HQ := Lib.hid hq
            clear hlo hq
            go_wp2_with fail
            refine hord.mono ?_
            rintro e w1 ⟨hres, hb1⟩
            have hbel3 := hbel.trans (hb1.mono (by rw [HB.out]; exact hbel.size))
            cases q with
            | none =>
              dsimp only at hres
              subst hres
              have hr4 : r = 5 := hr3.out.symm
              subst hr4
              have hnil := Lib.run_eql_slice_nil (P := Tryd.prog) w1 28 3 none 0 0 0 0 Tryd.underlying28
              clear hb1 hr3 hord
              go_wp2_with fail
              go_ret
              exact ⟨rfl, by rw [← HB.out]; exact hbel3⟩
            | some out =>
              obtain ⟨v, rfl, hown⟩ := hres
              have hr4 : r = 0 := hr3.out.symm
              subst hr4
              obtain ⟨g, cap2, hv, _⟩ := ownsRow_some hown (by have := ord_len HQ.out.symm; omega)
              have hnil := Lib.run_eql_slice_nil (P := Tryd.prog) w1 28 3 (some ⟨g, 0, none⟩) out.length cap2 0 0 Tryd.underlying28
              rw [hv]
              clear hb1 hr3 hord hv hown
              go_wp2_with fail
              go_ret
              exact ⟨rfl, by rw [← HB.out]; exact hbel3⟩
end Go.Proofs.YtbhndnjlplibmaaDoor
