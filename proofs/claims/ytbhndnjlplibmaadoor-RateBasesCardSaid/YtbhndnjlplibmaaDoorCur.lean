/- rate.Cur: is a text a currency? -/
import Derived.Test.YtbhndnjlplibmaaDoorTrim
import Derived.WalkSpells
namespace Go.Proofs.YtbhndnjlplibmaaDoor.lg
open Go.RowKit

def upper : ByteArray := ⟨#[65, 66, 67, 68, 69, 70, 71, 72, 73, 74, 75, 76, 77, 78, 79, 80, 81, 82, 83, 84, 85, 86, 87, 88, 89, 90]⟩
/-- is it a currency? -/
def curB (s : ByteArray) : Bool := decide (s.size = 3) && (Lib.trimS s.data.toList upper.data.toList).isEmpty
set_option maxHeartbeats 1000000 in
theorem cur_any (s : ByteArray) (w : World) : Calls Tryd.prog 64 #[.string s] w fun e w' => e = .returned (.bool (curB s)) ∧ Below w.heap.size w w' := by
  by_cases h3 : s.size = 3
  · have hw := trim_any s upper w (by omega) (by decide) (by decide)
    have hcb : Hid (curB s = (Lib.trimS s.data.toList upper.data.toList).isEmpty) := by show _ = _; unfold curB; rw [decide_eq_true h3]; rfl
    have hd : ((s.size : Int) == 3) = true := by simp; omega
    generalize hz : Lib.trimS s.data.toList upper.data.toList = z at *
    clear hz
    obtain ⟨y, hy⟩ : ∃ y : ByteArray, y = ⟨z.toArray⟩ := ⟨_, rfl⟩
    rw [← hy] at hw
    have hze : y.toList.isEmpty = z.isEmpty := by rw [hy, Lib.toList_data]
    unfold upper at hw
    clear hy
    cases hb : z.isEmpty with
    | true =>
      rw [hb] at hze hcb
      have hze2 : y.toList = [] := List.isEmpty_iff.1 hze
      clear hb h3
      go_enter Tryd.func64, Tryd.ntmps64
      go_wp2_with fail
      refine hw.mono ?_
      rintro e w' ⟨rfl, hb1⟩
      clear hw
      go_wp2_with fail
      go_ret
      exact ⟨ret_bool hcb.out.symm, hb1⟩
    | false =>
      rw [hb] at hze hcb
      clear hb h3
      go_enter Tryd.func64, Tryd.ntmps64
      go_wp2_with fail
      refine hw.mono ?_
      rintro e w' ⟨rfl, hb1⟩
      clear hw
      go_wp2_with fail
      go_ret
      exact ⟨ret_bool hcb.out.symm, hb1⟩
  · have hd : ((s.size : Int) == 3) = false := by simp; omega
    have hcb : Hid (curB s = false) := by show _ = _; unfold curB; rw [decide_eq_false h3]; rfl
    clear h3
    go_enter Tryd.func64, Tryd.ntmps64
    go_wp2_with fail
    go_ret
    exact ⟨ret_bool hcb.out.symm, Below.refl _ _⟩

end Go.Proofs.YtbhndnjlplibmaaDoor.lg
