/- FrameReads: the walk of the law. -/
import Derived.Test.YtldpflijgbcbhaaDoorReadsL
import Derived.Test.YtldpflijgbcbhaaDoorTold
namespace Go.Proofs.YtldpflijgbcbhaaDoor.reads
open Go.RowKit

set_option maxRecDepth 100000 in
set_option maxHeartbeats 8000000 in
theorem walk (l : List UInt8) (sp : Option Addr) (cap : Nat) (w : World) (hg : Door w) (hsrc : SrcW w sp l) (hcap : l.length ≤ cap) (hmax : l.length ≤ 140737488355328) :
    Calls Tryd.prog 3 #[.slice sp l.length cap] w fun e w' => e = .returned (.bool true) ∧ Below w.heap.size w w' := by
  have hpos := hg.pos
  have hsb := dd.sreadEntry_any w sp cap l hsrc hcap hmax
  have hxl := ent_le l
  have hbl := bal_le l
  have HG := Lib.hid hg
  have HS := Lib.hid hsrc
  clear hg hsrc
  cases hok : entOk l <;> cases hbk : balOk l
  case' false.false | false.true =>
    have err_ok1 := fun w' (h : Door w') => error_any (okC false) 9 w' h
    have hok1 : ((okC false : Int) == 9) = true := rfl
  case' true.false | true.true =>
    have err_ok1 := fun w' (h : Door w') => error_any (okC true) 0 w' h
    have hok1 : ((okC true : Int) == 0) = true := rfl
  case' false.false | true.false =>
    have err_ok2 := fun w' (h : Door w') => error_any (okC false) 9 w' h
    have hok2 : ((okC false : Int) == 9) = true := rfl
  case' false.true | true.true =>
    have err_ok2 := fun w' (h : Door w') => error_any (okC true) 0 w' h
    have hok2 : ((okC true : Int) == 0) = true := rfl
  all_goals
    have HE1 := Lib.hid err_ok1
    have HE2 := Lib.hid err_ok2
    have HK1 := Lib.hid hok1
    have HK2 := Lib.hid hok2
    clear err_ok1 err_ok2 hok1 hok2
    have HOK := Lib.hid hok
    have HBK := Lib.hid hbk
    clear hok hbk
    go_enter Tryd.func3, Tryd.ntmps3
    go_wp2_with fail
    refine hsb.mono ?_
    intro e w1 hq
    obtain ⟨hb1, lao1, lc1, rfl, hl1⟩ := s_entry hq
    rw [HOK.out]
    have F1 := (Fr.nil w).later hb1
    have G1 := F1.new (.cells #[.string (entX l).ref, .int .i64 (entX l).ent, .int .i64 (entX l).per, .slice lao1 (entX l).lines.length lc1] 25 (0, 0))
    have L1 := Lib.hid (hl1.below ((Below.refl _ _).alloc (Nat.le_refl _) (.cells #[.string (entX l).ref, .int .i64 (entX l).ent, .int .i64 (entX l).per, .slice lao1 (entX l).lines.length lc1] 25 (0, 0))) (Nat.le_refl _))
    have hr := readEntry_any _ sp cap l (HS.out.below G1.below (Nat.le_refl _)) hcap hmax
    have G1 := Lib.hid G1
    have he1 : entryV (entX l) lao1 lc1 = .agg #[.string (entX l).ref, .int .i64 (entX l).ent, .int .i64 (entX l).per, .slice lao1 (entX l).lines.length lc1] := rfl
    rw [he1]
    clear hsb hq hb1 hl1 F1 he1
    go_wp2_with fail
    refine hr.mono ?_
    intro e w2 hq
    obtain ⟨hb2, lao2, lc2, rfl, hl2⟩ := f_entry hq
    rw [HOK.out]
    have G2 := (G1.out.later hb2).newAt rfl (.cells #[.string (entX l).ref, .int .i64 (entX l).ent, .int .i64 (entX l).per, .slice lao2 (entX l).lines.length lc2] 25 (0, 0))
    have L2 := hl2.below ((Below.refl _ _).alloc (Nat.le_refl _) (.cells #[.string (entX l).ref, .int .i64 (entX l).ent, .int .i64 (entX l).per, .slice lao2 (entX l).lines.length lc2] 25 (0, 0))) (Nat.le_refl _)
    have L12 := (L1.out.below hb2 (Nat.le_refl _)).below ((Below.refl _ _).alloc (Nat.le_refl _) (.cells #[.string (entX l).ref, .int .i64 (entX l).ent, .int .i64 (entX l).per, .slice lao2 (entX l).lines.length lc2] 25 (0, 0))) (Nat.le_refl _)
    have her := HE1.out _ (HG.out.below G2.below hpos)
    have he2 : entryV (entX l) lao2 lc2 = .agg #[.string (entX l).ref, .int .i64 (entX l).ent, .int .i64 (entX l).per, .slice lao2 (entX l).lines.length lc2] := rfl
    rw [he2]
    have G2 := Lib.hid G2
    have HL2 := Lib.hid L2
    have HL12 := Lib.hid L12
    clear hr hq hb2 hl2 he2 G1 L1 L2 L12
    go_wp2_with fail
    refine her.mono ?_
    rintro e w3 ⟨rfl, hb3⟩
    rw [HK1.out]
    have G3 := G2.out.later hb3
    have x0 : w3.cell? ⟨w2.heap.size, 0, none⟩ = some (.string (entX l).ref) := cell_of_heap G3.hd 0
    have x1 : w3.cell? ⟨w2.heap.size, 1, none⟩ = some (.int .i64 (entX l).ent) := cell_of_heap G3.hd 1
    have x2 : w3.cell? ⟨w2.heap.size, 2, none⟩ = some (.int .i64 (entX l).per) := cell_of_heap G3.hd 2
    have x3 : w3.cell? ⟨w2.heap.size, 3, none⟩ = some (.slice lao2 (entX l).lines.length lc2) := cell_of_heap G3.hd 3
    have y0 : w3.cell? ⟨w1.heap.size, 0, none⟩ = some (.string (entX l).ref) := cell_of_heap G3.snd 0
    have y1 : w3.cell? ⟨w1.heap.size, 1, none⟩ = some (.int .i64 (entX l).ent) := cell_of_heap G3.snd 1
    have y2 : w3.cell? ⟨w1.heap.size, 2, none⟩ = some (.int .i64 (entX l).per) := cell_of_heap G3.snd 2
    have y3 : w3.cell? ⟨w1.heap.size, 3, none⟩ = some (.slice lao1 (entX l).lines.length lc1) := cell_of_heap G3.snd 3
    have hsame := entry_same (entX l) w3 lao2 lao1 lc2 lc1 (HL2.out.below hb3 (Nat.le_refl _)) (HL12.out.below hb3 (Nat.le_refl _)) (by omega)
    unfold entryV at hsame
    have G3 := Lib.hid (G3.sub (cs := []) (fun p hp => by cases hp))
    clear her hb3 G2 HL2 HL12
    go_wp2_with fail
    refine hsame.mono ?_
    rintro e w4 ⟨rfl, hb4⟩
    have G4 := G3.out.later hb4
    have hsb2 := dd.sreadBals_any w4 sp cap l (HS.out.below G4.below (Nat.le_refl _)) hcap hmax
    have G4 := Lib.hid G4
    clear hsame hb4 x0 x1 x2 x3 y0 y1 y2 y3 G3
    go_wp2_with fail
    refine hsb2.mono ?_
    intro e w5 hq
    obtain ⟨hb5, lao5, lc5, rfl, hl5⟩ := s_bals hq
    rw [HBK.out]
    have G5 := G4.out.later hb5
    have hr5 := readBals_any w5 sp cap l (HS.out.below G5.below (Nat.le_refl _)) hcap hmax
    have G5 := Lib.hid G5
    clear hsb2 hq hb5 G4
    go_wp2_with fail
    refine hr5.mono ?_
    intro e w6 hq
    obtain ⟨hb6, lao6, lc6, rfl, hl6⟩ := f_bals hq
    rw [HBK.out]
    have G6 := G5.out.later hb6
    have her := HE2.out w6 (HG.out.below G6.below hpos)
    have hl56 := hl5.below hb6 (Nat.le_refl _)
    have G6 := Lib.hid G6
    clear hr5 hq hb6 hl5 G5
    go_wp2_with fail
    refine her.mono ?_
    rintro e w7 ⟨rfl, hb7⟩
    rw [HK2.out]
    have hsame := bals_same (balT l) w7 lao6 lao5 lc6 lc5 (hl6.below hb7 (Nat.le_refl _)) (hl56.below hb7 (Nat.le_refl _)) (by omega)
    have HOUT : ∀ n, Hid (Below w.heap.size w (w7.drewN n)) := fun n => below_drewN (G6.out.later hb7).below n
    clear her hb7 hl6 hl56 G6
    go_wp2_with fail
    refine hsame.mono ?_
    rintro e w8 ⟨rfl, n, rfl⟩
    clear hsame
    go_wp2_with fail
    go_ret
    exact ⟨rfl, (HOUT n).out⟩
end Go.Proofs.YtldpflijgbcbhaaDoor.reads
