/- nat.add at whatever the receiver holds. -/
import Derived.Test.YtbhndnjlplibmaaDoorBg7
import Derived.Test.YtbhndnjlplibmaaDoorBg8
import Derived.Test.YtbhndnjlplibmaaDoorBg9
import Derived.Test.YtbhndnjlplibmaaDoorBg10
namespace Go.Proofs.YtbhndnjlplibmaaDoor.big
open Go.RowKit

/-- the words of the receiver: none, a block of one, a block of six; X: their value -/
def Abs (B p : Nat) (w : World) (ao : Option Addr) (n cap X : Nat) : Prop :=
  (ao = none ∧ n = 0 ∧ cap = 0 ∧ X = 0) ∨
  (∃ b q, ao = some ⟨b, 0, none⟩ ∧ cap = 1 ∧ B ≤ b ∧ b ≠ p ∧ w.heap[b]? = some (wObj [q]) ∧ q < W64 ∧ ((n = 0 ∧ X = 0) ∨ (n = 1 ∧ X = q ∧ 0 < q))) ∨
  (∃ b q0 q1 q2 R, ao = some ⟨b, 0, none⟩ ∧ cap = 6 ∧ B ≤ b ∧ b ≠ p ∧ w.heap[b]? = some (wObj (q0 :: q1 :: q2 :: R)) ∧ R.length = 3 ∧ q0 < W64 ∧ q1 < W64 ∧
    ((n = 0 ∧ X = 0) ∨ (n = 1 ∧ X = q0 ∧ 0 < q0) ∨ (n = 2 ∧ X = q0 + 18446744073709551616 * q1 ∧ 0 < q1)))
/-- the other one: none, or one word -/
def Opd (w : World) (yo : Option Addr) (yn yc Y : Nat) : Prop :=
  (yo = none ∧ yn = 0 ∧ yc = 0 ∧ Y = 0) ∨ (∃ yb, yo = some ⟨yb, 0, none⟩ ∧ yn = 1 ∧ yc = 1 ∧ w.heap[yb]? = some (wObj [Y]) ∧ 0 < Y ∧ Y < W64)
/-- what a call leaves -/
def After (B p : Nat) (w : World) (ro : Option Addr) (rn rc X : Nat) (w' : World) : Prop := Below B w w' ∧ w'.heap[p]? = w.heap[p]? ∧ Abs B p w' ro rn rc X

theorem After.same {B p : Nat} {w : World} {ao : Option Addr} {n cap X : Nat} (k : Nat) (h : Abs B p w ao n cap X) : After B p w ao n cap X (w.drewN k) := ⟨⟨rfl, rfl, rfl, Nat.le_refl _, fun _ _ => rfl⟩, rfl, h⟩
theorem below_only {B b : Nat} {w w' : World} (h : Only (fun k => k = b) w w') (hB : B ≤ w.heap.size) (hb : B ≤ b) : Below B w w' := h.below hB (fun k hk => by rw [hk]; exact hb)
theorem only_p {p b : Nat} {w w' : World} (h : Only (fun k => k = b) w w') (hp : p < w.heap.size) (hne : b ≠ p) : w'.heap[p]? = w.heap[p]? := h.block p hp (fun e => hne e.symm)
theorem only_row {b : Nat} (w : World) (cs : Array Value) (k : Nat) : Only (fun j => j = b) w ((w.drewN k).setRow b cs) :=
  ⟨rfl, rfl, rfl, by simp [World.setRow], fun j _ hj => setRow_other (w.drewN k) b j cs hj⟩

/-- what set answers where the receiver has no word -/
theorem set_y {B p : Nat} {w : World} {ao : Option Addr} {cap X yb Y : Nat} (h : Abs B p w ao 0 cap X) (hB : B ≤ w.heap.size) (hp : p < w.heap.size) (hy : w.heap[yb]? = some (wObj [Y])) (hY0 : 0 < Y) (hY : Y < W64) :
    ∃ ro rn rc, ∀ k, ∃ W, Calls Tryd.prog 139 #[.slice ao 0 cap, .slice (some ⟨yb, 0, none⟩) 1 1] (w.drewN k) (fun e w' => e = .returned (.slice ro rn rc) ∧ w' = W) ∧ After B p w ro rn rc Y W := by
  have hyc : w.cell? ⟨yb, 0, none⟩ = some (.int .u64 (Y : Int)) := words_cell hy (by simp)
  rcases h with ⟨rfl, _, rfl, _⟩ | ⟨b, q, rfl, rfl, h1, h2, h3, h4, _⟩ | ⟨b, q0, q1, q2, R, rfl, rfl, h1, h2, h3, h4, h5, h6, _⟩
  · refine ⟨some ⟨w.heap.size, 0, none⟩, 1, 1, fun k => ⟨_, set_new none yb 1 Y (w.drewN k) hyc, ?_⟩⟩
    refine ⟨⟨rfl, rfl, rfl, by simp, fun j hj => ?_⟩, ?_, Or.inr (Or.inl ⟨w.heap.size, Y, rfl, rfl, hB, by omega, heap_new_at rfl _, hY, Or.inr ⟨rfl, rfl, hY0⟩⟩)⟩
    · show ((w.drewN k).alloc _).heap[j]? = _
      rw [show ((w.drewN k).alloc (wObj [Y])).heap = w.heap.push (wObj [Y]) from rfl, Array.getElem?_push]
      rw [if_neg (by omega)]
    · rw [show ((w.drewN k).alloc (wObj [Y])).heap = w.heap.push (wObj [Y]) from rfl, Array.getElem?_push, if_neg (by omega)]
  · refine ⟨some ⟨b, 0, none⟩, 1, 1, fun k => ⟨_, set_in b 1 yb 1 Y q [] (w.drewN k) rfl h3 hyc, ?_⟩⟩
    have ho := only_row (b := b) w (wordsA (Y :: [])) k
    exact ⟨below_only ho hB h1, only_p ho hp h2, Or.inr (Or.inl ⟨b, Y, rfl, rfl, h1, h2, setRow_heap _ _ _ _ _ _ h3, hY, Or.inr ⟨rfl, rfl, hY0⟩⟩)⟩
  · refine ⟨some ⟨b, 0, none⟩, 1, 6, fun k => ⟨_, set_in b 6 yb 1 Y q0 (q1 :: q2 :: R) (w.drewN k) (by simp [h4]) h3 hyc, ?_⟩⟩
    have ho := only_row (b := b) w (wordsA (Y :: q1 :: q2 :: R)) k
    exact ⟨below_only ho hB h1, only_p ho hp h2, Or.inr (Or.inr ⟨b, Y, q1, q2, R, rfl, rfl, h1, h2, setRow_heap _ _ _ _ _ _ h3, h4, hY, h6, Or.inr (Or.inl ⟨rfl, rfl, hY0⟩)⟩)⟩
/-- what set answers of the receiver itself -/
theorem set_x {B p : Nat} {w : World} {ao : Option Addr} {n cap X : Nat} (h : Abs B p w ao n cap X) (hn : 0 < n) :
    ∀ k, Calls Tryd.prog 139 #[.slice ao n cap, .slice ao n cap] (w.drewN k) (fun e w' => e = .returned (.slice ao n cap) ∧ w' = w.drewN k) := by
  intro k
  rcases h with ⟨rfl, rfl, rfl, _⟩ | ⟨b, q, rfl, rfl, h1, h2, h3, h4, h7⟩ | ⟨b, q0, q1, q2, R, rfl, rfl, h1, h2, h3, h4, h5, h6, h7⟩
  · omega
  · exact set_self b n 1 [q] (w.drewN k) hn (by omega) rfl (by omega) h3
  · exact set_self b n 6 (q0 :: q1 :: q2 :: R) (w.drewN k) hn (by omega) (by simp [h4]) (by omega) h3
end Go.Proofs.YtbhndnjlplibmaaDoor.big
