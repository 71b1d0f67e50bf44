/- entry.Ref at any text: what it answers. -/
import Derived.Test.YtbhndnjlplibmaaDoorIt1
import Derived.Test.YtbhndnjlplibmaaDoorTrim
namespace Go.Proofs.YtbhndnjlplibmaaDoor.mt
open Go.RowKit

/-- a bool that is answered, in memory that grows -/
def BoolPost (w : World) (b : Bool) (e : Ending) (w' : World) : Prop := e = .returned (.bool b) ∧ Below w.heap.size w w'

set_option maxHeartbeats 1000000 in
theorem ref_any (s : ByteArray) (w : World) : Calls Tryd.prog 54 #[.string s] w (BoolPost w (refB s)) := by
  have hsz := Lib.size_eq s
  have htl := Lib.toList_data s
  cases hl : s.data.toList with
  | nil =>
    have hb := Lib.hid (ref_none hl)
    have he : s.toList.isEmpty = true := by rw [htl, hl]; rfl
    have he2 : s.toList = [] := by rw [htl, hl]
    clear hl htl hsz
    generalize refB s = R at *
    go_enter Tryd.func54, Tryd.ntmps54
    go_wp2_with fail
    go_ret
    exact ⟨ret_bool hb.out.symm, Below.refl _ _⟩
  | cons c r =>
    have he : s.toList.isEmpty = false := by rw [htl, hl]; rfl
    have he2 : (!s.toList.isEmpty) = true := by rw [he]; rfl
    by_cases hlen : s.size ≤ 12
    · have hd : decide ((s.size : Int) ≤ 12) = true := decide_eq_true (by omega)
      have h0 : 0 < s.size := by rw [hsz, hl]; simp
      have hx : (s[0]'h0) = c := by
        have e : s.data.toList[0]? = some c := by rw [hl]; rfl
        have e2 : s.data[0]? = some c := by simpa using e
        obtain ⟨_, e3⟩ := Array.getElem?_eq_some_iff.1 e2
        exact e3
      have htr := trim_any s refCut
      by_cases hc : c = 45
      · have hb := Lib.hid (ref_dash (s := s) (r := r) (by rw [hl, hc]))
        have hq : (((s[0]'h0).toNat : Int) != 45) = false := by rw [hx, hc]; rfl
        clear hx hc htl hsz hl htr
        generalize refB s = R at *
        go_enter Tryd.func54, Tryd.ntmps54
        go_wp2_with fail
        go_ret
        exact ⟨ret_bool hb.out.symm, Below.refl _ _⟩
      · have hq : (((s[0]'h0).toNat : Int) != 45) = true := by
          rw [hx, bne_iff_ne]
          intro e
          exact hc (UInt8.toNat_inj.1 (by show c.toNat = 45; omega))
        have hw := htr w (by omega) (by decide) (by decide)
        have hiff := ref_trim hl hc (by rw [← hl, ← hsz]; exact hlen)
        clear hx hc htl hsz hl htr
        generalize refB s = R at *
        by_cases ht : Lib.trimS s.data.toList refCut.data.toList = []
        · have hb := Lib.hid (hiff.2 ht)
          rw [ht] at hw
          clear hiff ht
          go_enter Tryd.func54, Tryd.ntmps54
          go_wp2_with fail
          refine hw.mono ?_
          rintro e w' ⟨rfl, hb1⟩
          clear hw
          go_wp2_with fail
          go_ret
          exact ⟨ret_bool hb.out.symm, hb1⟩
        · have hb : Hid (R = false) := by
            cases R with
            | false => rfl
            | true => exact absurd (hiff.1 rfl) ht
          obtain ⟨x, y, hxy⟩ : ∃ x y, Lib.trimS s.data.toList refCut.data.toList = x :: y := by
            cases h : Lib.trimS s.data.toList refCut.data.toList with
            | nil => exact absurd h ht
            | cons x y => exact ⟨x, y, rfl⟩
          rw [hxy] at hw
          clear hiff ht hxy
          obtain ⟨z, hz⟩ : ∃ z : ByteArray, z = ⟨(x :: y).toArray⟩ := ⟨_, rfl⟩
          rw [← hz] at hw
          have hze : z.toList.isEmpty = false := by rw [hz, Lib.toList_data]; rfl
          clear hz
          go_enter Tryd.func54, Tryd.ntmps54
          go_wp2_with fail
          refine hw.mono ?_
          rintro e w' ⟨rfl, hb1⟩
          clear hw
          go_wp2_with fail
          go_ret
          exact ⟨ret_bool hb.out.symm, hb1⟩
    · have hd : decide ((s.size : Int) ≤ 12) = false := decide_eq_false (by omega)
      have hb := Lib.hid (ref_long (s := s) (by omega))
      clear hl htl hsz
      generalize refB s = R at *
      go_enter Tryd.func54, Tryd.ntmps54
      go_wp2_with fail
      go_ret
      exact ⟨ret_bool hb.out.symm, Below.refl _ _⟩
end Go.Proofs.YtbhndnjlplibmaaDoor.mt
