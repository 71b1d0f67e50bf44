/- One step of a sum: x.Add(x, y). -/
import Derived.Test.YtbhndnjlplibmaaDoorBg18
import Derived.Test.YtbhndnjlplibmaaDoorBg12
import Derived.Test.YtbhndnjlplibmaaDoorBg13
import Derived.Test.YtbhndnjlplibmaaDoorBg15
namespace Go.Proofs.YtbhndnjlplibmaaDoor.big
open Go.RowKit

/-- the sum so far -/
def Acc (B : Nat) (w : World) (p : Nat) (V : Int) : Prop := B ≤ p ∧ p < w.heap.size ∧ ∃ neg ao n cap X, w.heap[p]? = some (iObj neg (.slice ao n cap)) ∧ Abs B p w ao n cap X ∧ (X = 0 → neg = false) ∧ V = valI neg X
/-- what is added -/
def OpdI (w : World) (py : Nat) (U : Int) : Prop := ∃ neg yo yn yc Y, w.heap[py]? = some (iObj neg (.slice yo yn yc)) ∧ Opd w yo yn yc Y ∧ (Y = 0 → neg = false) ∧ U = valI neg Y

theorem abs_zero {B p : Nat} {w : World} {ao : Option Addr} {n cap X : Nat} (h : Abs B p w ao n cap X) : decide (0 < n) = decide (0 < X) := by
  have : 0 < n ↔ 0 < X := by
    rcases h with ⟨_, h, _, h'⟩ | ⟨b, q, _, _, _, _, _, _, h⟩ | ⟨b, q0, q1, q2, R, _, _, _, _, _, _, _, _, h⟩ <;> omega
  exact decide_eq_decide.2 this
theorem Abs.moved {B p : Nat} {w w' : World} {ao : Option Addr} {n cap X : Nat} (h : Abs B p w ao n cap X) (hk : ∀ b, b ≠ p → w'.heap[b]? = w.heap[b]?) : Abs B p w' ao n cap X := by
  rcases h with h | ⟨b, q, h1, h2, h3, h4, h5, h6⟩ | ⟨b, q0, q1, q2, R, h1, h2, h3, h4, h5, h6⟩
  · exact Or.inl h
  · exact Or.inr (Or.inl ⟨b, q, h1, h2, h3, h4, (hk b h4).trans h5, h6⟩)
  · exact Or.inr (Or.inr ⟨b, q0, q1, q2, R, h1, h2, h3, h4, (hk b h4).trans h5, h6⟩)
theorem fin {B p : Nat} {w w1 : World} {neg nb : Bool} {xs : Value} {ro : Option Addr} {rn rc X : Nat} (hB : B ≤ p) (hx : w.heap[p]? = some (iObj neg xs)) (ha : After B p w ro rn rc X w1) :
    Acc B ((w1.setCell ⟨p, 1, none⟩ (.slice ro rn rc)).setCell ⟨p, 0, none⟩ (.bool (decide (0 < rn) && nb))) p (valI nb X) ∧ Below B w ((w1.setCell ⟨p, 1, none⟩ (.slice ro rn rc)).setCell ⟨p, 0, none⟩ (.bool (decide (0 < rn) && nb))) := by
  obtain ⟨hb, hp, hA⟩ := ha
  have hx1 : w1.heap[p]? = some (.cells #[.bool neg, xs] 169 (0, 0)) := hp.trans hx
  have h1 := Go.Proofs.YtbhndnjlplibmaaDoor.heap_setCell_same (w := w1) (b := p) (j := 1) hx1 (.slice ro rn rc)
  have h2 := Go.Proofs.YtbhndnjlplibmaaDoor.heap_setCell_same (b := p) (j := 0) h1 (.bool (decide (0 < rn) && nb))
  have hk : ∀ b, b ≠ p → ((w1.setCell ⟨p, 1, none⟩ (.slice ro rn rc)).setCell ⟨p, 0, none⟩ (.bool (decide (0 < rn) && nb))).heap[b]? = w1.heap[b]? := fun b hne => by
    rw [Below.heap_setCell _ _ _ _ hne, Below.heap_setCell _ _ _ _ hne]
  have hbel : Below B w ((w1.setCell ⟨p, 1, none⟩ (.slice ro rn rc)).setCell ⟨p, 0, none⟩ (.bool (decide (0 < rn) && nb))) := by
    refine hb.trans ?_
    refine Below.setCell (Below.setCell (Below.refl _ _) ?_ _) ?_ _ <;> exact hB
  refine ⟨⟨hB, lt_of_heap h2, decide (0 < rn) && nb, ro, rn, rc, X, h2, hA.moved hk, fun h => ?_, ?_⟩, hbel⟩
  · rw [abs_zero hA, h]; rfl
  · rw [abs_zero hA]
    by_cases h : X = 0
    · subst h; cases nb <;> rfl
    · rw [decide_eq_true (show 0 < X by omega), Bool.true_and]

theorem add_step {B p py : Nat} {w : World} {V U : Int} (hx : Acc B w p V) (hy : OpdI w py U) (hB : B ≤ w.heap.size) (hs : V.natAbs + U.natAbs < 170141183460469231731687303715884105728) :
    Calls Tryd.prog 103 #[.pointer (some ⟨p, 0, none⟩), .pointer (some ⟨p, 0, none⟩), .pointer (some ⟨py, 0, none⟩)] w fun e w' => e = .returned (.pointer (some ⟨p, 0, none⟩)) ∧ Acc B w' p (V + U) ∧ Below B w w' := by
  obtain ⟨hBp, hp, neg, ao, n, cap, X, hxh, hA, hX0, rfl⟩ := hx
  obtain ⟨yneg, yo, yn, yc, Y, hyh, hO, hY0, rfl⟩ := hy
  have hXY : X + Y < 170141183460469231731687303715884105728 := by
    have e1 : (valI neg X).natAbs = X := by unfold valI; cases neg <;> simp
    have e2 : (valI yneg Y).natAbs = Y := by unfold valI; cases yneg <;> simp
    rw [e1, e2] at hs; exact hs
  by_cases hsg : yneg = neg
  · subst hsg
    obtain ⟨ro, rn, rc, hc⟩ := nadd hA hB hp hO hXY
    refine (add_same p py yneg ao yo ro n cap yn yc rn rc (After B p w ro rn rc (X + Y)) w hxh hyh (fun V ⟨k, hk⟩ => by rw [hk]; exact hc k) (fun w' ha => ha.2.1.trans hxh)).mono ?_
    rintro e w' ⟨he, w1, ha, rfl⟩
    have hv : valI yneg X + valI yneg Y = valI yneg (X + Y) := by unfold valI; cases yneg <;> simp <;> omega
    rw [hv]
    exact ⟨he, fin hBp hxh ha⟩
  · obtain rfl : yneg = !neg := by cases yneg <;> cases neg <;> simp_all
    have hne : 0 < X ∨ 0 < Y := by
      rcases Nat.eq_zero_or_pos X with h | h
      · rcases Nat.eq_zero_or_pos Y with h' | h'
        · have a := hX0 h; have b := hY0 h'; rw [a] at b; cases b
        · exact Or.inr h'
      · exact Or.inl h
    obtain ⟨r, hr, hcmp⟩ := ncmp hA hO hne
    by_cases hle : Y ≤ X
    · rw [decide_eq_true hle] at hr
      obtain ⟨ro, rn, rc, hc⟩ := nsub_ge hA hB hp hO hle (by omega)
      refine (add_ge p py neg ao yo ro n cap yn yc rn rc r (After B p w ro rn rc (X - Y)) w hxh hyh hr hcmp (fun V ⟨k, hk⟩ => by rw [hk]; exact hc k) (fun w' ha => ha.2.1.trans hxh)).mono ?_
      rintro e w' ⟨he, w1, ha, rfl⟩
      have hv : valI neg X + valI (!neg) Y = valI neg (X - Y) := by unfold valI; cases neg <;> simp <;> omega
      rw [hv]
      exact ⟨he, fin hBp hxh ha⟩
    · rw [decide_eq_false hle] at hr
      obtain ⟨ro, rn, rc, hc⟩ := nsub_lt hA hB hp hO (by omega)
      refine (add_lt p py neg ao yo ro n cap yn yc rn rc r (After B p w ro rn rc (Y - X)) w hxh hyh hr hcmp (fun V ⟨k, hk⟩ => by rw [hk]; exact hc k) (fun w' ha => ha.2.1.trans hxh)).mono ?_
      rintro e w' ⟨he, w1, ha, rfl⟩
      have hv : valI neg X + valI (!neg) Y = valI (!neg) (Y - X) := by unfold valI; cases neg <;> simp <;> omega
      rw [hv]
      exact ⟨he, fin hBp hxh ha⟩
end Go.Proofs.YtbhndnjlplibmaaDoor.big
