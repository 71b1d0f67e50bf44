/- Memory that a disk owns: which blocks may turn ('Only'), rows of blocks of bytes, and what slices.Clone makes of them. -/
import Derived.Test.YtldpflijgbcbhaaBase
import Derived.RegionTactic
import Derived.ChangeAlike
import Derived.WalkSpells
import Derived.Laws.CopyOwn
namespace Go.Proofs.Ytldpflijgbcbhaa
open Go.RowKit

/-- Of the blocks that are there only those of S may have turned. -/
structure Only (S : Nat → Prop) (w w' : World) : Prop where
  os : w'.os = w.os
  tape : w'.tape = w.tape
  output : w'.output = w.output
  size : w.heap.size ≤ w'.heap.size
  block : ∀ k, k < w.heap.size → ¬ S k → w'.heap[k]? = w.heap[k]?

theorem Only.refl (S : Nat → Prop) (w : World) : Only S w w := ⟨rfl, rfl, rfl, Nat.le_refl _, fun _ _ _ => rfl⟩
theorem Only.trans {S T : Nat → Prop} {a b c : World} (h : Only S a b) (k : Only T b c) (hT : ∀ i, i < a.heap.size → T i → S i) : Only S a c :=
  ⟨k.os.trans h.os, k.tape.trans h.tape, k.output.trans h.output, Nat.le_trans h.size k.size, fun i hi hn => (k.block i (Nat.lt_of_lt_of_le hi h.size) (fun ht => hn (hT i hi ht))).trans (h.block i hi hn)⟩
theorem Only.of_below {S : Nat → Prop} {w w' : World} (h : Below w.heap.size w w') : Only S w w' := ⟨h.os, h.tape, h.output, h.size, fun k hk _ => h.block k hk⟩
theorem Only.below {S : Nat → Prop} {w w' : World} {B : Nat} (h : Only S w w') (hB : B ≤ w.heap.size) (hS : ∀ k, S k → B ≤ k) : Below B w w' :=
  ⟨h.os, h.tape, h.output, h.size, fun k hk => h.block k (Nat.lt_of_lt_of_le hk hB) (fun hs => by have := hS k hs; omega)⟩
theorem Only.later {S : Nat → Prop} {a b c : World} (h : Only S a b) (k : Below b.heap.size b c) : Only S a c := h.trans (T := S) (Only.of_below k) (fun _ _ h => h)
theorem Only.setCell {S : Nat → Prop} {a b : World} (h : Only S a b) {p : Addr} (hp : S p.block) (u : Value) : Only S a (b.setCell p u) :=
  h.trans (T := S) ⟨rfl, rfl, rfl, by simp, fun k _ hn => Below.heap_setCell _ _ _ _ (fun e => hn (by rw [e]; exact hp))⟩ (fun _ _ h => h)
theorem Only.drew {S : Nat → Prop} {a b : World} (h : Only S a b) : Only S a b.drew := ⟨h.os, h.tape, h.output, h.size, h.block⟩
theorem Only.alloc {S : Nat → Prop} {a b : World} (h : Only S a b) (o : Obj) : Only S a (b.alloc o) := h.later ((Below.refl _ _).alloc (Nat.le_refl _) o)
theorem Only.mono {S T : Nat → Prop} {a b : World} (h : Only S a b) (hS : ∀ k, k < a.heap.size → S k → T k) : Only T a b := ⟨h.os, h.tape, h.output, h.size, fun k hk hn => h.block k hk (fun hs => hn (hS k hk hs))⟩

theorem lt_of_heap {w : World} {b : Nat} {o : Obj} (h : w.heap[b]? = some o) : b < w.heap.size := by
  rcases Nat.lt_or_ge b w.heap.size with hlt | hge
  · exact hlt
  · rw [Array.getElem?_eq_none hge] at h; cases h
theorem cell_of_heap {w : World} {b : Nat} {cs : Array Value} {t : TypeId} (h : w.heap[b]? = some (.cells cs t (0, 0))) (j : Nat) : w.cell? ⟨b, j, none⟩ = cs[j]? := by
  simp [World.cell?, h]
theorem free_of_heap {w : World} {b : Nat} {cs : Array Value} {t : TypeId} (h : w.heap[b]? = some (.cells cs t (0, 0))) (j : Nat) : w.frozen? ⟨b, j, none⟩ = false := by
  simp [World.frozen?, h]
theorem heap_setCell_same {w : World} {b j : Nat} {cs : Array Value} {t : TypeId} (h : w.heap[b]? = some (.cells cs t (0, 0))) (v : Value) : (w.setCell ⟨b, j, none⟩ v).heap[b]? = some (.cells (cs.setIfInBounds j v) t (0, 0)) := by
  simp [World.setCell, Array.getElem?_modify, h]

theorem addr_add (b o j : Nat) : Addr.add ⟨b, o, none⟩ j = ⟨b, o + j, none⟩ := by
  cases j <;> simp [Addr.add]

def byteV (b : UInt8) : Value := .int .u8 b.toNat
def bytesArr (l : List UInt8) : Array Value := (l.map byteV).toArray

/-- a value that is a block's bytes, in a block of its own; none: nil, it was torn -/
def BlkAt (w : World) (S : Nat → Prop) (v : Value) : Option (List UInt8) → Prop
  | none => v = .slice none 0 0
  | some l => l.length = 64 ∧ ∃ g, v = .slice (some ⟨g, 0, none⟩) 64 64 ∧ S g ∧ w.heap[g]? = some (.cells (bytesArr l) 5 (0, 0))

theorem BlkAt.later {w w' : World} {S S' : Nat → Prop} {v : Value} {m : Option (List UInt8)} (h : BlkAt w S v m) (hk : ∀ g l, S g → w.heap[g]? = some (.cells (bytesArr l) 5 (0, 0)) → w'.heap[g]? = w.heap[g]?) (hS : ∀ k, S k → S' k) : BlkAt w' S' v m := by
  cases m with
  | none => exact h
  | some l =>
    obtain ⟨hl, g, hv, hg, hh⟩ := h
    exact ⟨hl, g, hv, hS g hg, (hk g l hg hh).trans hh⟩

/-- a row of blocks -/
def RowAt (w : World) (S : Nat → Prop) (v : Value) (l : List (Option (List UInt8))) : Prop :=
  ∃ ns, w.ownsRow 0 23 1 v l.length ns ∧ (∀ g, v.ownBlock = some g → S g) ∧ ∀ (i : Nat) (m : Option (List UInt8)), l[i]? = some m → ∃ x, ns[i]? = some x ∧ BlkAt w S x m

theorem ownsRow_some {w : World} {base : Nat} {e : TypeId} {sz : Nat} {v : Value} {n : Nat} {xs : List Value} (h : w.ownsRow base e sz v n xs) (hn : 0 < n) : ∃ g cap, v = .slice (some ⟨g, 0, none⟩) n cap ∧ base ≤ g ∧ g < w.heap.size ∧ n ≤ cap := by
  obtain ⟨_, h2⟩ := h
  rcases h2 with ⟨_, h2⟩ | ⟨g, cap, cur, hv, hg, hh, hc, _⟩
  · omega
  · exact ⟨g, cap, hv, hg, lt_of_heap hh, hc⟩
theorem ownsRow_base {w : World} {base : Nat} {e : TypeId} {sz : Nat} {v : Value} {n : Nat} {xs : List Value} (h : w.ownsRow base e sz v n xs) (b' : Nat) (hb : b' ≤ base := by omega) : w.ownsRow b' e sz v n xs := by
  obtain ⟨h1, h2⟩ := h
  refine ⟨h1, ?_⟩
  rcases h2 with h2 | ⟨g, cap, cur, hv, hg, r⟩
  · exact Or.inl h2
  · exact Or.inr ⟨g, cap, cur, hv, Nat.le_trans hb hg, r⟩

theorem infoSl : (Try.prog.info? 23).map (fun i => (i.zero, i.size, i.bytes)) = some (some (.slice none 0 0), 1, 24) := by kernel_rfl
theorem infoU8 : (Try.prog.info? 5).map (fun i => (i.zero, i.size, i.bytes)) = some (some (.int .u8 0), 1, 1) := by kernel_rfl

set_option maxHeartbeats 1000000 in
/-- slices.Clone of a row of slices: a row of the call's own, of the same values -/
theorem clone_rows (b cap n : Nat) (ns : List Value) (w : World) (h : w.ownsRow 0 23 1 (.slice (some ⟨b, 0, none⟩) n cap) n ns) (h0 : 0 < n) (hn : n ≤ 1000000) (h1 : ∀ v ∈ ns, v.oneCell' = true) :
    Calls Try.prog 50 #[.slice (some ⟨b, 0, none⟩) n cap] w fun e w' => ∃ g cap', e = .returned (.slice (some ⟨g, 0, none⟩) n cap') ∧ w.heap.size ≤ g ∧ w'.ownsRow 0 23 1 (.slice (some ⟨g, 0, none⟩) n cap') n ns ∧ Below w.heap.size w w' := by
  have hnil := fun wx => Lib.run_eql_slice_nil (P := Try.prog) wx 56 23 (some ⟨b, 0, none⟩) n cap 0 0 Try.underlying56
  obtain ⟨i0, hi, hz0, hz1, hz2⟩ := info_parts infoSl
  have HI := Lib.hid hi
  have HZ0 := Lib.hid hz0
  have HZ1 := Lib.hid hz1
  have HZ2 := Lib.hid hz2
  have H1 := Lib.hid h1
  have hlen : ns.length = n * 1 := h.1
  have hlen' := Lib.hid hlen
  clear hi hz0 hz1 hz2 h1 hlen
  have hown0 : (w.alloc (.cells #[] 23)).ownsRow w.heap.size 23 1 (.slice (some ⟨w.heap.size, 0, none⟩) 0 0) 0 [] :=
    ⟨rfl, Or.inr ⟨w.heap.size, 0, #[], rfl, Nat.le_refl _, by rw [show (w.alloc (.cells #[] 23)).heap = w.heap.push (.cells #[] 23) from rfl]; simp, Nat.le_refl _, by decide, rfl, rfl⟩⟩
  have hsrc : ∀ j u, ns[j]? = some u → (w.alloc (.cells #[] 23)).cell? (Addr.add ⟨b, 0, none⟩ j) = some u := by
    intro j u hj
    have hjn : j < n * 1 := by
      obtain ⟨hj', _⟩ := List.getElem?_eq_some_iff.1 hj
      rw [hlen'.out] at hj'; exact hj'
    have hc := h.cellAt j hjn
    have hb : b < w.heap.size := by
      rcases Nat.lt_or_ge b w.heap.size with hlt | hge
      · exact hlt
      · rw [hj] at hc; simp [World.cell?, Array.getElem?_eq_none hge] at hc
    rw [addr_add, Nat.zero_add, World.cell?_alloc_lt _ _ ⟨b, j, none⟩ hb, hc, hj]
  have HSRC := Lib.hid hsrc
  have H := Lib.hid h
  clear hsrc h
  go_enter Try.func50, Try.ntmps50
  have hbs : w.heap.size ≤ (w.alloc (.cells #[] 23)).heap.size := by simp
  have hbel : Below w.heap.size w (w.alloc (.cells #[] 23)) := (Below.refl _ _).alloc (Nat.le_refl _) _
  go_wp2_with (first
    | (at_builtin; refine wpList_append_own _ rfl _ _ 56 rfl w.heap.size 23 i0 (.slice none 0 0) 1 24 Try.underlying56 HI.out HZ0.out HZ1.out HZ2.out rfl (by decide) _ _ _ rfl hown0 ⟨b, 0, none⟩ n cap ns rfl hlen'.out HSRC.out H1.out (by unfold maxLen; omega) (by omega) hbs ?_))
  intro v' w1 hown1 hgrow hnn
  try simp only [Nat.zero_add, List.nil_append] at hown1
  obtain ⟨g, cap', hv, hg, hgs, hcg⟩ := ownsRow_some hown1 h0
  have hbel2 : Below w.heap.size w w1 := hbel.grown hgrow hbs (fun k hk => by simp [Value.ownBlock] at hk; omega)
  subst hv
  have hown2 := ownsRow_base hown1 0
  clear hnn hgrow hown0 hbel hbs
  go_wp2_with fail
  go_ret
  exact ⟨g, cap', rfl, hg, hown2, hbel2⟩

/-- the bytes l are what a slice holds -/
def BytesIn (w : World) (v : Value) (l : List UInt8) : Prop :=
  (v = .slice none 0 0 ∧ l = []) ∨ ∃ b off cap, v = .slice (some ⟨b, off, none⟩) l.length cap ∧ l.length ≤ cap ∧ b < w.heap.size ∧ ∀ (j : Nat) (x : UInt8), l[j]? = some x → w.cell? ⟨b, off + j, none⟩ = some (byteV x)

theorem BytesIn.below {B : Nat} {w w' : World} {v : Value} {l : List UInt8} (h : BytesIn w v l) (hb : Below B w w') (hB : ∀ b, v.ownBlock = some b → b < B) : BytesIn w' v l := by
  rcases h with h | ⟨b, off, cap, rfl, hc, hlt, hx⟩
  · exact Or.inl h
  · exact Or.inr ⟨b, off, cap, rfl, hc, Nat.lt_of_lt_of_le hlt hb.size, fun j x hj => (hb.cell (p := ⟨b, off + j, none⟩) (hB b rfl)).trans (hx j x hj)⟩
theorem BytesIn.lt {w : World} {v : Value} {l : List UInt8} (h : BytesIn w v l) : ∀ b, v.ownBlock = some b → b < w.heap.size := by
  intro b hb
  rcases h with ⟨rfl, _⟩ | ⟨b', off, cap, rfl, hc, hlt, _⟩
  · simp [Value.ownBlock] at hb
  · simp [Value.ownBlock] at hb; subst hb; exact hlt
theorem BytesIn.of_row {w : World} {base : Nat} {v : Value} {l : List UInt8} (h : w.ownsRow base 5 1 v l.length (l.map byteV)) : BytesIn w v l := by
  obtain ⟨h1, h2⟩ := h
  rcases h2 with ⟨h2, h3⟩ | ⟨g, cap, cur, hv, hg, hh, hc, hm, hsz, htk⟩
  · exact Or.inl ⟨h2, List.length_eq_zero_iff.1 h3⟩
  · refine Or.inr ⟨g, 0, cap, hv, hc, lt_of_heap hh, fun j x hj => ?_⟩
    rw [Nat.zero_add, cell_of_heap hh]
    obtain ⟨hj', _⟩ := List.getElem?_eq_some_iff.1 hj
    have h3 : (cur.toList.take (l.length * 1))[j]? = (l.map byteV)[j]? := by rw [htk]
    rw [List.getElem?_take, if_pos (by omega), List.getElem?_map, hj] at h3
    simpa using h3

theorem byteV_one (l : List UInt8) : ∀ v ∈ l.map byteV, v.oneCell' = true := by
  intro v hv
  obtain ⟨b, _, rfl⟩ := List.mem_map.1 hv
  rfl

def ClonePost (B : Nat) (w : World) (v : Value) (l : List UInt8) (e : Ending) (w' : World) : Prop :=
  ∃ v', e = .returned v' ∧ w'.ownsRow B 5 1 v' l.length (l.map byteV) ∧ (v = .slice none 0 0 → v' = .slice none 0 0) ∧ Below B w w'

set_option maxHeartbeats 1000000 in
theorem clone_bytes (v : Value) (l : List UInt8) (w : World) (h : BytesIn w v l) (hn : l.length ≤ 140737488351232) :
    Calls Try.prog 55 #[v] w (ClonePost w.heap.size w v l) := by
  rcases h with ⟨rfl, rfl⟩ | ⟨b, off, cap, rfl, hcap, hlt, hx⟩
  · have hnil : (binOp .eql 23 (.slice none 0 0) (.slice none 0 0)).run Try.prog w = .ok (.bool true) w := Lib.run_eql_slice_nil w 23 5 none 0 0 0 0 Try.underlying23
    go_enter Try.func55, Try.ntmps55
    go_wp2_with fail
    go_ret
    exact ⟨_, rfl, World.ownsRow_nil _ _ _ _, fun _ => rfl, Below.refl _ _⟩
  · have hnil := fun wx => Lib.run_eql_slice_nil (P := Try.prog) wx 23 5 (some ⟨b, off, none⟩) l.length cap 0 0 Try.underlying23
    obtain ⟨i0, hi, hz0, hz1, hz2⟩ := info_parts infoU8
    have HI := Lib.hid hi
    have HZ0 := Lib.hid hz0
    have HZ1 := Lib.hid hz1
    have HZ2 := Lib.hid hz2
    have hlen' : Hid ((l.map byteV).length = l.length * 1) := by show _ = _; simp
    clear hi hz0 hz1 hz2
    have hown0 : (w.alloc (.cells #[] 5)).ownsRow w.heap.size 5 1 (.slice (some ⟨w.heap.size, 0, none⟩) 0 0) 0 [] :=
      ⟨rfl, Or.inr ⟨w.heap.size, 0, #[], rfl, Nat.le_refl _, by rw [show (w.alloc (.cells #[] 5)).heap = w.heap.push (.cells #[] 5) from rfl]; simp, Nat.le_refl _, by decide, rfl, rfl⟩⟩
    have HSRC : Hid (∀ j u, (l.map byteV)[j]? = some u → (w.alloc (.cells #[] 5)).cell? (Addr.add ⟨b, off, none⟩ j) = some u) := by
      intro j u hj
      rw [List.getElem?_map] at hj
      cases hl : l[j]? with
      | none => rw [hl] at hj; cases hj
      | some x =>
        rw [hl] at hj
        simp only [Option.map_some, Option.some.injEq] at hj
        subst hj
        rw [addr_add, World.cell?_alloc_lt _ _ ⟨b, off + j, none⟩ hlt]
        exact hx j x hl
    have H1 := Lib.hid (byteV_one l)
    have hbs : w.heap.size ≤ (w.alloc (.cells #[] 5)).heap.size := by simp
    have hbel : Below w.heap.size w (w.alloc (.cells #[] 5)) := (Below.refl _ _).alloc (Nat.le_refl _) _
    clear hx
    go_enter Try.func55, Try.ntmps55
    go_wp2_with (first
      | (at_builtin; refine wpList_append_own _ rfl _ _ 23 rfl w.heap.size 5 i0 (.int .u8 0) 1 1 Try.underlying23 HI.out HZ0.out HZ1.out HZ2.out rfl (by decide) _ _ _ rfl hown0 ⟨b, off, none⟩ l.length cap (l.map byteV) rfl hlen'.out HSRC.out H1.out (by unfold maxLen; omega) (by omega) hbs ?_))
    intro v' w1 hown1 hgrow hnn
    try simp only [Nat.zero_add, List.nil_append] at hown1
    have hbel2 : Below w.heap.size w w1 := hbel.grown hgrow hbs (fun k hk => by simp [Value.ownBlock] at hk; omega)
    have hex : ∃ ao n c, v' = .slice ao n c := by
      obtain ⟨_, h2⟩ := hown1
      rcases h2 with ⟨h2, _⟩ | ⟨g, cap, cur, hv, _⟩
      · exact ⟨_, _, _, h2⟩
      · exact ⟨_, _, _, hv⟩
    obtain ⟨ao, n, c, rfl⟩ := hex
    clear hnn hgrow hown0 hbel hbs
    go_wp2_with fail
    go_ret
    exact ⟨_, rfl, hown1, (fun h => by cases h), hbel2⟩
end Go.Proofs.Ytldpflijgbcbhaa
