/- dayref2.Text: a text's bytes behind bytes. -/
import Derived.Test.YtldpflijgbcbhaaDoorSnum
import Derived.Test.YtldpflijgbcbhaaDoorRowSt
import Derived.Test.YtldpflijgbcbhaaDoorFwr
namespace Go.Proofs.YtldpflijgbcbhaaDoor
open Go.RowKit

set_option maxRecDepth 100000 in
set_option maxHeartbeats 2000000 in
theorem stext_any (BASE : Nat) (v : Value) (l : List UInt8) (s : ByteArray) (w : World) (h : w.ownsRow BASE 5 1 v l.length (l.map byteV)) (hB : BASE ≤ w.heap.size) (hl : l.length ≤ 1000000000) (hs : s.size ≤ 1000000000) :
    Calls Tryd.prog 62 #[v, .string s] w (NumPost BASE w v (l ++ textB s)) := by
  have hn := snum_any BASE v l (s.size : Int) w h hB hl (by omega) (by omega)
  have hnl := numB_len (n := (s.size : Int)) (by omega) (by omega)
  obtain ⟨i0, hi, hz0, hz1, hz2⟩ := info_parts infoU8
  have HI := Lib.hid hi
  have HZ0 := Lib.hid hz0
  have HZ1 := Lib.hid hz1
  have HZ2 := Lib.hid hz2
  clear hi hz0 hz1 hz2 h
  go_enter Tryd.func62, Tryd.ntmps62
  go_wp2_with fail
  refine hn.mono ?_
  rintro e w1 ⟨v1, rfl, hown, hmv⟩
  have HOWN := Lib.hid hown
  have HMV := Lib.hid hmv
  have hl1 : (l ++ numB (s.size : Int)).length ≤ 1000000010 := by rw [List.length_append]; omega
  have hB1 : BASE ≤ w1.heap.size := Nat.le_trans hB hmv.only.size
  clear hn hown hmv
  go_wp2_with (refine wpList_append_str_at (o := ⟨some 11, _, _, _, _, _⟩) _ rfl (.tmp 9) (.tmp 10) 22 9 rfl BASE 5 i0 Tryd.underlying22 Tryd.underlying9 HI.out HZ0.out HZ1.out HZ2.out v1 (l ++ numB (s.size : Int)).length ((l ++ numB (s.size : Int)).map byteV) rfl HOWN.out s rfl (by unfold maxLen; omega) (by omega) hB1 ?_)
  intro v2 w2 hown2 hg2 hat2
  have HOUT : Hid (NumPost BASE w v (l ++ textB s) (.returned v2) w2) := by
    refine ⟨v2, rfl, ?_, HMV.out.trans (Moved.append0 hg2 hat2)⟩
    rw [strCells_eq] at hown2
    exact ownsRow_cast hown2 (by simp [textB, size_list]; omega) (by simp [textB])
  clear hown2 hg2 hat2
  obtain ⟨ao, n1, c1, rfl⟩ : ∃ ao n1 c1, v2 = .slice ao n1 c1 := by
    obtain ⟨v', hv, hrow, _⟩ := HOUT.out
    injection hv with hv
    subst hv
    rcases hrow.2 with ⟨hv, _⟩ | ⟨g, cap, cur, hv, _⟩
    · exact ⟨_, _, _, hv⟩
    · exact ⟨_, _, _, hv⟩
  go_wp2_with fail
  go_ret
  exact HOUT.out
end Go.Proofs.YtldpflijgbcbhaaDoor
