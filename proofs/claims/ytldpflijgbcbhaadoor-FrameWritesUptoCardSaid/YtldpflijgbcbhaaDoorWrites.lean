/- FrameWrites: what is written, by the program and by the document, is alike. -/
import Derived.Test.YtldpflijgbcbhaaDoorSbal
import Derived.Test.YtldpflijgbcbhaaDoorFbalw
import Derived.Test.YtldpflijgbcbhaaDoorBackL
import Derived.Test.YtldpflijgbcbhaaDoorTold
namespace Go.Proofs.YtldpflijgbcbhaaDoor.writes
open Go.RowKit

def resB (l : List UInt8) (c : Int) : List UInt8 := if c = 0 then l else []
theorem res_src {w : World} {B : Nat} {v : Value} {l : List UInt8} {c : Int} (h : c = 0 → w.ownsRow B 5 1 v l.length (l.map byteV)) : ∃ sp cap, (if c = 0 then v else .slice none 0 0) = .slice sp (resB l c).length cap ∧ SrcW w sp (resB l c) := by
  unfold resB
  by_cases hc : c = 0
  · have h' := h hc
    rw [if_pos hc, if_pos hc]
    rcases h'.2 with ⟨hv, hn⟩ | ⟨g, cap, cur, hv, _⟩
    · exact ⟨none, 0, by rw [hv, hn], fun h0 => by omega⟩
    · subst hv
      exact ⟨_, cap, rfl, src_take h' l (List.prefix_refl l)⟩
  · rw [if_neg hc, if_neg hc]
    exact ⟨none, 0, rfl, fun h0 => by simp at h0⟩
theorem sres {w w' : World} {l : List UInt8} {c : Int} {e : Ending} (h : SEntPost w.heap.size w l c e w') : Below w.heap.size w w' ∧ ∃ sp cap, e = .returned (.tuple #[.slice sp (resB l c).length cap, .int .i64 c]) ∧ SrcW w' sp (resB l c) := by
  obtain ⟨v, he, hb, hr⟩ := h
  obtain ⟨sp, cap, h1, h2⟩ := res_src hr
  exact ⟨hb, sp, cap, by rw [he, h1], h2⟩
theorem fres {w w' : World} {l : List UInt8} {c : Int} {e : Ending} (h : EntPost w.heap.size w l c e w') : Below w.heap.size w w' ∧ ∃ sp cap, e = .returned (.tuple #[.slice sp (resB l c).length cap, errV c]) ∧ SrcW w' sp (resB l c) := by
  obtain ⟨v, he, hb, hr⟩ := h
  obtain ⟨sp, cap, h1, h2⟩ := res_src hr
  exact ⟨hb, sp, cap, by rw [he, h1], h2⟩

theorem conv0 {w : World} {sp : Option Addr} {l : List UInt8} (h : SrcW w sp l) (cap : Nat) : (convert 22 9 (.slice sp l.length cap)).run Tryd.prog w = .ok (.string ⟨l.toArray⟩) w := conv_src h cap 0

set_option maxRecDepth 100000 in
set_option maxHeartbeats 4000000 in
theorem walk (x : EntryM) (lao : Option Addr) (lc : Nat) (t : List BalM) (bao : Option Addr) (bc : Nat) (w : World) (hg : Door w) (hx : x.fair) (hz : LinesAt w lao x.lines) (htf : ∀ y ∈ t, y.fair) (htm : t.length ≤ 9223372036854775807) (hbz : BalsAt w bao t) :
    Calls Tryd.prog 4 #[entryV x lao lc, .slice bao t.length bc] w fun e w' => e = .returned (.bool true) ∧ Below w.heap.size w w' := by
  obtain ⟨W1, hW1⟩ : ∃ W1, W1 = w.alloc (.cells #[.string x.ref, .int .i64 x.ent, .int .i64 x.per, .slice lao x.lines.length lc] 25) := ⟨_, rfl⟩
  have hb1 : Below w.heap.size w W1 := by rw [hW1]; exact (Below.refl _ _).alloc (Nat.le_refl _) _
  have F1 : Fr w [(w.heap.size, eBoxW x lao lc)] W1 := by rw [hW1]; exact (Fr.nil w).new _
  have hpos := hg.pos
  have hs1 := sentry_any x lao lc W1 hx (hz.below hb1 (Nat.le_refl _))
  obtain ⟨C, hC⟩ : ∃ C, C = x.code := ⟨_, rfl⟩
  rw [← hC] at hs1
  obtain ⟨D, hD⟩ : ∃ D, D = balsCode t := ⟨_, rfl⟩
  have hok1 : ((C : Int) == C) = true := by simp
  have hok2 : ((D : Int) == D) = true := by simp
  have HK1 := Lib.hid hok1
  have HK2 := Lib.hid hok2
  have HG := Lib.hid hg
  have HX := Lib.hid hx
  have HZ := Lib.hid hz
  have HTF := Lib.hid htf
  have HBZ := Lib.hid hbz
  have HF1 := Lib.hid F1
  have HW1 := Lib.hid hW1
  have HC := Lib.hid hC
  have HD := Lib.hid hD
  unfold entryV at hs1 ⊢
  clear hg hx hz htf hbz F1 hW1 hC hD hok1 hok2 hb1
  go_enter Tryd.func4, Tryd.ntmps4
  go_wp2_with fail
  rw [← HW1.out]
  refine hs1.mono ?_
  intro e w2 hq
  obtain ⟨hb2, sp2, cap2, rfl, hr2⟩ := sres hq
  have F2 := HF1.out.later hb2
  have hs2 := entry_any x lao lc w2 HX.out (HZ.out.below F2.below (Nat.le_refl _))
  rw [← HC.out] at hs2
  unfold entryV at hs2
  have k0 : w2.cell? ⟨w.heap.size, 0, none⟩ = some (.string x.ref) := cell_of_heap F2.hd 0
  have k1 : w2.cell? ⟨w.heap.size, 1, none⟩ = some (.int .i64 x.ent) := cell_of_heap F2.hd 1
  have k2 : w2.cell? ⟨w.heap.size, 2, none⟩ = some (.int .i64 x.per) := cell_of_heap F2.hd 2
  have k3 : w2.cell? ⟨w.heap.size, 3, none⟩ = some (.slice lao x.lines.length lc) := cell_of_heap F2.hd 3
  have HR2 := Lib.hid hr2
  have HF2 := Lib.hid F2
  clear hs1 hq hb2 hr2 F2 HF1
  go_wp2_with fail
  refine hs2.mono ?_
  intro e w3 hq
  obtain ⟨hb3, sp3, cap3, rfl, hr3⟩ := fres hq
  have F3 := HF2.out.later hb3
  have hs3 := error_any C C w3 (HG.out.below F3.below hpos)
  have HR23 := Lib.hid (HR2.out.below hb3 (Nat.le_refl _))
  have HR3 := Lib.hid hr3
  have HF3 := Lib.hid F3
  clear hs2 hq hb3 hr3 F3 HF2 HR2 k0 k1 k2 k3
  go_wp2_with fail
  refine hs3.mono ?_
  rintro e w4 ⟨rfl, hb4⟩
  rw [HK1.out]
  have F4 := HF3.out.later hb4
  have cv1 := conv0 (HR23.out.below hb4 (Nat.le_refl _)) cap2
  have cv2 := conv0 (HR3.out.below hb4 (Nat.le_refl _)) cap3
  generalize resB x.bytes C = L1 at *
  have HF4 := Lib.hid F4
  clear hs3 hb4 F4 HF3 HR23 HR3
  have hs4 := sbals_any t bao bc w4 HTF.out htm (HBZ.out.below HF4.out.below (Nat.le_refl _))
  rw [← HD.out] at hs4
  go_wp2_with fail
  refine hs4.mono ?_
  intro e w5 hq
  obtain ⟨hb5, sp5, cap5, rfl, hr5⟩ := sres hq
  have F5 := HF4.out.later hb5
  have hs5 := bals_any t bao bc w5 HTF.out htm (HBZ.out.below F5.below (Nat.le_refl _))
  rw [← HD.out] at hs5
  have HR5 := Lib.hid hr5
  have HF5 := Lib.hid F5
  clear hs4 hq hb5 hr5 F5 HF4 cv1 cv2
  go_wp2_with fail
  refine hs5.mono ?_
  intro e w6 hq
  obtain ⟨hb6, sp6, cap6, rfl, hr6⟩ := fres hq
  have F6 := HF5.out.later hb6
  have hs6 := error_any D D w6 (HG.out.below F6.below hpos)
  have HR56 := Lib.hid (HR5.out.below hb6 (Nat.le_refl _))
  have HR6 := Lib.hid hr6
  have HF6 := Lib.hid F6
  clear hs5 hq hb6 hr6 F6 HF5 HR5
  go_wp2_with fail
  refine hs6.mono ?_
  rintro e w7 ⟨rfl, hb7⟩
  rw [HK2.out]
  have F7 := HF6.out.later hb7
  have cv1 := conv0 (HR56.out.below hb7 (Nat.le_refl _)) cap5
  have cv2 := conv0 (HR6.out.below hb7 (Nat.le_refl _)) cap6
  generalize resB (balsB t) D = L2 at *
  have HF7 := Lib.hid F7.below
  clear hs6 hb7 F7 HF6 HR56 HR6
  go_wp2_with fail
  go_ret
  exact ⟨ret_bool (by simp), HF7.out⟩
end Go.Proofs.YtldpflijgbcbhaaDoor.writes
