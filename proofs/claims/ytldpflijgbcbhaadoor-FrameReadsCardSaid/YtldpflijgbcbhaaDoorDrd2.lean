/- dayref2's reader D: a text. -/
import Derived.Test.YtldpflijgbcbhaaDoorDrd
namespace Go.Proofs.YtldpflijgbcbhaaDoor.dd
open Go.RowKit

def RTextPost (g : Nat) (sp : Option Addr) (cap : Nat) (l : List UInt8) (at_ : Nat) (bad : Bool) (w : World) (e : Ending) (w' : World) : Prop :=
  ∃ (s : ByteArray) (at' : Nat) (bad' : Bool), e = .returned (.string s) ∧ Only (fun k => k = g) w w' ∧ ReaderIs w' g sp cap l at' bad' ∧ TextRel l at_ bad s at' bad'

set_option maxRecDepth 100000 in
set_option maxHeartbeats 4000000 in
theorem rtext_any (w : World) (g : Nat) (sp : Option Addr) (cap : Nat) (l : List UInt8) (at_ : Nat) (bad : Bool) (h : ReaderIs w g sp cap l at_ bad) :
    Calls Tryd.prog 54 #[.pointer (some ⟨g, 0, none⟩)] w (RTextPost g sp cap l at_ bad w) := by
  have hn := rnum_any 0 24 w g sp cap l at_ bad h
  clear h
  go_enter Tryd.func54, Tryd.ntmps54
  go_wp2_with fail
  refine hn.mono ?_
  rintro e w1 ⟨n, at1, bad1, rfl, ho1, hr1, hrel⟩
  have c0 := hr1.c0
  have c1 := hr1.c1
  have c2 := hr1.c2
  have f1 : w1.frozen? ⟨g, 1, none⟩ = false := free_of_heap hr1.self 1
  have f2 : w1.frozen? ⟨g, 2, none⟩ = false := free_of_heap hr1.self 2
  clear hn
  cases bad1 with
  | true =>
    have HOUT : ∀ n, Hid (RTextPost g sp cap l at_ bad w (.returned (.string ⟨#[]⟩)) ((w1.drewN n).setCell ⟨g, 2, none⟩ (.bool true))) := fun n =>
      ⟨⟨#[]⟩, at1, true, rfl, (show Only (fun k => k = g) w (w1.drewN n) from ⟨ho1.os, ho1.tape, ho1.output, ho1.size, ho1.block⟩).setCell (p := ⟨g, 2, none⟩) rfl _, (hr1.drewN n).set2 true, text_bad hrel _ _⟩
    clear ho1 hr1 hrel
    go_wp2_with fail
    go_quiet (fail)
    go_wp2_with fail
    go_ret
    exact (HOUT _).out
  | false =>
    obtain ⟨rfl, hl0, N, rfl, hN24, hrd⟩ := text_good hrel hr1.le
    have hle := hr1.le
    have hmax := hr1.max
    have hcap := hr1.cap
    obtain ⟨b, o, rfl, hb, hbg, hcell⟩ := hr1.src hl0
    by_cases hlong : l.length < at1 + N
    · have d1 : decide ((l.length : Int) - (at1 : Int) < (N : Int)) = true := decide_eq_true (by omega)
      have HOUT : ∀ n, Hid (RTextPost g (some ⟨b, o, none⟩) cap l at_ false w (.returned (.string ⟨#[]⟩)) ((w1.drewN n).setCell ⟨g, 2, none⟩ (.bool true))) := fun n =>
        ⟨⟨#[]⟩, at1, true, rfl, (show Only (fun k => k = g) w (w1.drewN n) from ⟨ho1.os, ho1.tape, ho1.output, ho1.size, ho1.block⟩).setCell (p := ⟨g, 2, none⟩) rfl _, (hr1.drewN n).set2 true, text_long hle hrd hlong _ _⟩
      clear ho1 hr1 hrel hrd hcell hb hbg
      go_wp2_with fail
      go_quiet (fail)
      go_wp2_with fail
      go_ret
      exact (HOUT _).out
    · have d1 : decide ((l.length : Int) - (at1 : Int) < (N : Int)) = false := decide_eq_false (by omega)
      have ho1' := Lib.hid ho1
      have HR1 := Lib.hid hr1
      have HRD := Lib.hid hrd
      have HC := Lib.hid hcell
      clear ho1 hr1 hrel hrd hcell
      go_wp2_with fail
      go_quiet (fail)
      have HOUT : ∀ n m, Hid (RTextPost g (some ⟨b, o, none⟩) cap l at_ false w (.returned (.string ⟨((l.drop at1).take N).toArray⟩)) (((w1.drewN n).setCell ⟨g, 1, none⟩ (.int .i64 ((at1 : Int) + (N : Int)))).drewN m)) := fun n m => by
        have hr := ((HR1.out.drewN n).set1 (at1 + N) (by omega)).drewN m
        rw [show ((at1 + N : Nat) : Int) = (at1 : Int) + (N : Int) by omega] at hr
        have ho : Only (fun k => k = g) w ((w1.drewN n).setCell ⟨g, 1, none⟩ (.int .i64 ((at1 : Int) + (N : Int)))) := (show Only (fun k => k = g) w (w1.drewN n) from ⟨ho1'.out.os, ho1'.out.tape, ho1'.out.output, ho1'.out.size, ho1'.out.block⟩).setCell (p := ⟨g, 1, none⟩) rfl _
        exact ⟨_, at1 + N, false, rfl, ⟨ho.os, ho.tape, ho.output, ho.size, ho.block⟩, hr, text_done HRD.out (by omega)⟩
      have kc : ∀ n m : Nat, (convert 22 9 (.slice (if cap = at1 then some ⟨b, o, none⟩ else some ⟨b, o + at1, none⟩) N (cap - at1))).run Tryd.prog (((w1.drewN n).setCell ⟨g, 1, none⟩ (.int .i64 ((at1 : Int) + (N : Int)))).drewN m) = .ok (.string ⟨((l.drop at1).take N).toArray⟩) (((w1.drewN n).setCell ⟨g, 1, none⟩ (.int .i64 ((at1 : Int) + (N : Int)))).drewN m) := fun n m =>
        conv_cut (by omega) hcap (fun j x hj => (World.cell?_of_block (a := ⟨b, o + j, none⟩) (show (((w1.drewN n).setCell ⟨g, 1, none⟩ (.int .i64 ((at1 : Int) + (N : Int)))).drewN m).heap[b]? = w1.heap[b]? from Below.heap_setCell (w1.drewN n) ⟨g, 1, none⟩ _ b hbg)).trans (HC.out j x hj))
      generalize hA : (if cap = at1 then some (⟨b, o, none⟩ : Addr) else some ⟨b, o + at1, none⟩) = A at kc
      generalize ((l.drop at1).take N).toArray = T at kc HOUT
      go_wp2_with fail
      go_quiet (fail)
      go_wp2_with fail
      go_ret
      exact (HOUT _ _).out
end Go.Proofs.YtldpflijgbcbhaaDoor.dd
