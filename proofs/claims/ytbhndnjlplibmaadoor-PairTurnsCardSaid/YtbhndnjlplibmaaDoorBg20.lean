/- money.Sum, money.Add. -/
import Derived.Test.YtbhndnjlplibmaaDoorBg19
import Derived.Test.YtbhndnjlplibmaaDoorInts
import Derived.WalkSmall
namespace Go.Proofs.YtbhndnjlplibmaaDoor.big
open Go.RowKit

theorem Abs.later {B p : Nat} {w w' : World} {ao : Option Addr} {n cap X : Nat} (h : Abs B p w ao n cap X) (hb : Below w.heap.size w w') : Abs B p w' ao n cap X := by
  rcases h with h | ⟨b, q, h1, h2, h3, h4, h5, h6⟩ | ⟨b, q0, q1, q2, R, h1, h2, h3, h4, h5, h6⟩
  · exact Or.inl h
  · exact Or.inr (Or.inl ⟨b, q, h1, h2, h3, h4, (hb.block b (lt_of_heap h5)).trans h5, h6⟩)
  · exact Or.inr (Or.inr ⟨b, q0, q1, q2, R, h1, h2, h3, h4, (hb.block b (lt_of_heap h5)).trans h5, h6⟩)
theorem Acc.later {B p : Nat} {w w' : World} {V : Int} (h : Acc B w p V) (hb : Below w.heap.size w w') : Acc B w' p V := by
  obtain ⟨h1, h2, neg, ao, n, cap, X, h3, h4, h5, h6⟩ := h
  exact ⟨h1, Nat.lt_of_lt_of_le h2 hb.size, neg, ao, n, cap, X, (hb.block p h2).trans h3, h4.later hb, h5, h6⟩
theorem Acc.has {B p : Nat} {w : World} {V : Int} (h : Acc B w p V) : ∃ neg ao n cap X, Has w p neg ao n cap X ∧ V = valI neg X := by
  obtain ⟨h1, h2, neg, ao, n, cap, X, h3, h4, h5, h6⟩ := h
  refine ⟨neg, ao, n, cap, X, ⟨h3, ?_⟩, h6⟩
  rcases h4 with ⟨_, h, _, h'⟩ | ⟨b, q, rfl, rfl, g1, g2, g3, g4, g7⟩ | ⟨b, q0, q1, q2, R, rfl, rfl, g1, g2, g3, g4, g5, g6, g7⟩
  · exact Or.inl ⟨h, h', h5 h'⟩
  · rcases g7 with ⟨rfl, g⟩ | ⟨rfl, rfl, hq⟩
    · exact Or.inl ⟨rfl, g, h5 g⟩
    · exact Or.inr (Or.inl ⟨rfl, hq, g4, b, rfl, words_cell g3 (by simp)⟩)
  · rcases g7 with ⟨rfl, g⟩ | ⟨rfl, rfl, hq⟩ | ⟨rfl, rfl, hq⟩
    · exact Or.inl ⟨rfl, g, h5 g⟩
    · exact Or.inr (Or.inl ⟨rfl, hq, g5, b, rfl, words_cell g3 (by simp)⟩)
    · exact Or.inr (Or.inr ⟨rfl, by unfold W64; omega⟩)
theorem Acc.start (w : World) : Acc w.heap.size (w.alloc (iObj false (.slice none 0 0))) w.heap.size 0 :=
  ⟨Nat.le_refl _, by simp, false, none, 0, 0, 0, heap_new_at rfl _, Or.inl ⟨rfl, rfl, rfl, rfl⟩, fun _ => rfl, rfl⟩
/-- an int as what is added -/
theorem big1_opd (x : Int) (h1 : -9223372036854775808 ≤ x) (h2 : x ≤ 9223372036854775807) (w : World) :
    ∃ py W, Calls Tryd.prog 104 #[.int .i64 x] w (fun e w' => e = .returned (.pointer (some ⟨py, 0, none⟩)) ∧ w' = W) ∧ OpdI W py x ∧ Below w.heap.size w W := by
  have hb1 : ∀ o, Below w.heap.size w (w.alloc o) := fun o => (Below.refl _ _).alloc (Nat.le_refl _) o
  have hb2 : ∀ o o', Below w.heap.size w ((w.alloc o).alloc o') := fun o o' => ((Below.refl _ _).alloc (Nat.le_refl _) o).alloc (by simp) o'
  have hw : ∀ o o', ((w.alloc o).alloc o').heap[w.heap.size]? = some o := fun o o' => by
    rw [show ((w.alloc o).alloc o').heap = (w.heap.push o).push o' from rfl]
    simp [Array.getElem?_push]
  rcases Int.lt_trichotomy x 0 with h | h | h
  · refine ⟨_, _, big1_any x _ w _ (fun V hV => by rw [hV]; exact new_neg x h h1 w), ⟨true, _, 1, 1, x.natAbs, heap_new_at (by simp) _, Or.inr ⟨w.heap.size, rfl, rfl, rfl, hw _ _, by omega, by unfold W64; omega⟩, fun h0 => by omega, ?_⟩, hb2 _ _⟩
    unfold valI; rw [if_pos rfl]; omega
  · subst h
    exact ⟨_, _, big1_any 0 _ w _ (fun V hV => by rw [hV]; exact new_zero w), ⟨false, none, 0, 0, 0, heap_new_at rfl _, Or.inl ⟨rfl, rfl, rfl, rfl⟩, fun _ => rfl, rfl⟩, hb1 _⟩
  · refine ⟨_, _, big1_any x _ w _ (fun V hV => by rw [hV]; exact new_pos x h h2 w), ⟨false, _, 1, 1, x.toNat, heap_new_at (by simp) _, Or.inr ⟨w.heap.size, rfl, rfl, rfl, hw _ _, by omega, by unfold W64; omega⟩, fun _ => rfl, ?_⟩, hb2 _ _⟩
    unfold valI; rw [if_neg (by simp)]; omega

def In64 (l : List Int) : Prop := ∀ x ∈ l, -9223372036854775808 ≤ x ∧ x ≤ 9223372036854775807
theorem sum_take (l : List Int) {k : Nat} (h : k < l.length) : (l.take (k + 1)).sum = (l.take k).sum + l.getD k 0 := by
  rw [List.take_succ_eq_append_getElem h, List.sum_append]
  simp [h]
theorem sum_bound {l : List Int} (hl : In64 l) : ∀ k, k ≤ l.length → ((l.take k).sum).natAbs ≤ k * 9223372036854775808
  | 0, _ => by simp
  | k + 1, h => by
    have ih := sum_bound hl k (by omega)
    have hk := hl (l.getD k 0) (by simp [show k < l.length by omega])
    rw [sum_take l (by omega)]
    omega

set_option maxRecDepth 100000 in
set_option maxHeartbeats 1000000 in
theorem sum_any (ao : Option Addr) (cap : Nat) (l : List Int) (w : World) (hz : IntsAt w ao l) (hl : In64 l) (hm : l.length ≤ 9223372036854775807) :
    Calls Tryd.prog 79 #[.slice ao l.length cap] w fun e w' => e = .returned (smallV l.sum) ∧ Below w.heap.size w w' := by
  have HZ := Lib.hid hz
  have HL := Lib.hid hl
  have A0 := Lib.hid (Acc.start w)
  have B0 : Hid (Below w.heap.size w (w.alloc (iObj false (.slice none 0 0)))) := (Below.refl _ _).alloc (Nat.le_refl _) _
  have hinfo : (Tryd.prog.info? 169).map (fun i => (i.zero, i.size, i.bytes)) = some (some (.agg #[.bool false, .slice none 0 0]), 2, 32) := by kernel_rfl
  clear hz hl
  go_enter Tryd.func79, Tryd.ntmps79
  go_wp2_with fail
  go_loopw [10] (fun i wr => ∃ k : Nat, k ≤ l.length ∧ i = .int .i64 (k : Int) ∧ Hid (Acc w.heap.size wr w.heap.size (l.take k).sum) ∧ Hid (Below w.heap.size w wr)) (fun i _ => l.length - (intOf i).toNat)
  case atStart => exact ⟨0, Nat.zero_le _, rfl, A0, B0⟩
  case round =>
    clear A0 B0
    obtain ⟨k, hk, rfl, hA, hB⟩ := hrel
    by_cases hlt : k < l.length
    · have hzz : IntsAt wr ao l := by
        rcases HZ.out with h | ⟨b, off, e, hc⟩
        · exact Or.inl h
        · refine Or.inr ⟨b, off, e, fun i hi => (hB.out.cell (p := ⟨b, off + i, none⟩) ?_).trans (hc i hi)⟩
          have h0 := hc i hi
          rcases Nat.lt_or_ge b w.heap.size with h1 | h1
          · exact h1
          · simp [World.cell?, Array.getElem?_eq_none h1] at h0
      obtain ⟨b, off, rfl, hc⟩ := hzz.resolve_left (fun e => by rw [e] at hlt; simp at hlt)
      have c0 := hc k hlt
      have hst := Lib.hid (sum_take l hlt)
      have hxr := HL.out (l.getD k 0) (by simp [hlt])
      have hbd := sum_bound HL.out k hk
      have hkI : (k : Int) < (l.length : Int) := by omega
      have hk0 : (0 : Int) ≤ (k : Int) := by omega
      obtain ⟨py, W, hbig, hop, hbW⟩ := big1_opd (l.getD k 0) hxr.1 hxr.2 wr
      have hadd := add_step (hA.out.later hbW) hop (Nat.le_trans hB.out.size hbW.size) (by omega)
      have HBW := Lib.hid (hB.out.trans (hbW.mono hB.out.size))
      clear hc hxr hbd hop hbW hA hB hzz
      obtain ⟨x, hx⟩ : ∃ x, x = l.getD k 0 := ⟨_, rfl⟩
      obtain ⟨s, hs⟩ : ∃ s, s = (l.take k).sum := ⟨_, rfl⟩
      rw [← hx] at c0 hbig hst hadd
      rw [← hs] at hst hadd
      clear hx hs
      go_wp2_with fail
      refine hbig.mono ?_
      rintro e w2 ⟨rfl, rfl⟩
      clear hbig c0
      go_wp2_with fail
      refine hadd.mono ?_
      rintro e w3 ⟨rfl, hA3, hB3⟩
      have HA3 : Hid (Acc w.heap.size w3 w.heap.size (l.take (k + 1)).sum) := by show Acc _ _ _ _; rw [hst.out]; exact hA3
      have HB3 := Lib.hid (HBW.out.trans hB3)
      clear hadd hA3 hB3 hst HBW
      go_wp2_with fail
      go_roundw
      case rel => exact ⟨k + 1, by omega, by go_num, HA3, HB3⟩
      case measure => simp [intOf]; omega
    · obtain rfl : k = l.length := by omega
      have hA' := hA.out
      rw [List.take_of_length_le (Nat.le_refl _)] at hA'
      obtain ⟨neg, xo, n, xc, X, hh, hv⟩ := hA'.has
      have hsm := small_any w.heap.size xc n X neg xo wr hh
      rw [← hv] at hsm
      clear hA hA' hh hv hlt
      have hsv : ∃ v e, smallV l.sum = .tuple #[v, e] := by unfold smallV; split <;> exact ⟨_, _, rfl⟩
      obtain ⟨v, er, hve⟩ := hsv
      have HVE := Lib.hid hve
      rw [hve] at hsm
      clear hve
      go_wp2_with fail
      refine hsm.mono ?_
      rintro e w' ⟨rfl, rfl⟩
      clear hsm
      go_wp2_with fail
      go_ret2
      exact ⟨by rw [HVE.out]; rfl, hB.out⟩

theorem madd_any (a b : Int) (w : World) (ha : -9223372036854775808 ≤ a ∧ a ≤ 9223372036854775807) (hb : -9223372036854775808 ≤ b ∧ b ≤ 9223372036854775807) :
    Calls Tryd.prog 57 #[.int .i64 a, .int .i64 b] w fun e w' => e = .returned (smallV (a + b)) ∧ Below w.heap.size w w' := by
  obtain ⟨W, hW⟩ : ∃ W, W = w.alloc (.cells #[.int .i64 a, .int .i64 b] 3) := ⟨_, rfl⟩
  have hbw : Below w.heap.size w W := by rw [hW]; exact (Below.refl _ _).alloc (Nat.le_refl _) _
  have hi : IntsAt W (some ⟨w.heap.size, 0, none⟩) [a, b] := by
    refine Or.inr ⟨w.heap.size, 0, rfl, fun i hi => ?_⟩
    subst hW
    match i, hi with
    | 0, _ | 1, _ => simp
  have hs := sum_any (some ⟨w.heap.size, 0, none⟩) 2 [a, b] W hi (fun x hx => by
    simp only [List.mem_cons, List.not_mem_nil, or_false] at hx
    rcases hx with rfl | rfl
    · exact ha
    · exact hb) (by simp)
  have hs' : Calls Tryd.prog 79 #[.slice (some ⟨w.heap.size, 0, none⟩) 2 2] W fun e w' => e = .returned (smallV [a, b].sum) ∧ Below W.heap.size W w' := hs
  rw [show [a, b].sum = a + b by simp] at hs'
  have hsv : ∃ v e, smallV (a + b) = .tuple #[v, e] := by unfold smallV; split <;> exact ⟨_, _, rfl⟩
  obtain ⟨v, er, hve⟩ := hsv
  have HVE := Lib.hid hve
  have HBW := Lib.hid hbw
  have HW := Lib.hid hW
  rw [hve] at hs'
  clear hve hs hi hbw hW ha hb
  go_enter Tryd.func57, Tryd.ntmps57
  go_wp2_with fail
  rw [← HW.out]
  refine hs'.mono ?_
  rintro e w' ⟨rfl, hb⟩
  have HB := Lib.hid (HBW.out.trans (hb.mono HBW.out.size))
  clear hs' hb
  go_wp2_with fail
  go_ret2
  exact ⟨by rw [HVE.out]; rfl, HB.out⟩
end Go.Proofs.YtbhndnjlplibmaaDoor.big
