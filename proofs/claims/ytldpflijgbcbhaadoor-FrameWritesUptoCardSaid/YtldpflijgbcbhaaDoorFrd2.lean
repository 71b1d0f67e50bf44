/- The reader of package frame: a text. -/
import Derived.Test.YtldpflijgbcbhaaDoorFrd
namespace Go.Proofs.YtldpflijgbcbhaaDoor
open Go.RowKit

def TextRel (l : List UInt8) (at_ : Nat) (bad : Bool) (s : ByteArray) (at' : Nat) (bad' : Bool) : Prop :=
  if bad = true then bad' = true else
    match rdText (l.drop at_) with
    | some (t, r) => bad' = false ∧ s = t ∧ l.drop at' = r
    | none => bad' = true
def RTextPost (g : Nat) (sp : Option Addr) (cap : Nat) (l : List UInt8) (at_ : Nat) (bad : Bool) (w : World) (e : Ending) (w' : World) : Prop :=
  ∃ (s : ByteArray) (at' : Nat) (bad' : Bool), e = .returned (.string s) ∧ Only (fun k => k = g) w w' ∧ ReaderIs w' g sp cap l at' bad' ∧ TextRel l at_ bad s at' bad'

/-- what the number that a text begins with tells -/
theorem text_bad {l : List UInt8} {at_ : Nat} {bad : Bool} {n : Int} {at1 : Nat} (h : NumRel l 0 24 at_ bad n at1 true) (s : ByteArray) (at' : Nat) : TextRel l at_ bad s at' true := by
  unfold NumRel at h
  unfold TextRel
  split
  · rfl
  · rename_i hb
    rw [if_neg hb] at h
    unfold rdText
    cases h1 : rdNum 0 24 (l.drop at_) with
    | none => simp
    | some p => rw [h1] at h; exact absurd h.1 (by simp)
theorem text_good {l : List UInt8} {at_ : Nat} {bad : Bool} {n : Int} {at1 : Nat} (h : NumRel l 0 24 at_ bad n at1 false) (_ : at1 ≤ l.length) :
    bad = false ∧ 0 < l.length ∧ ∃ N : Nat, n = (N : Int) ∧ N ≤ 24 ∧ rdNum 0 24 (l.drop at_) = some ((N : Int), l.drop at1) := by
  unfold NumRel at h
  cases bad with
  | true => simp at h
  | false =>
    simp only [Bool.false_eq_true, if_false] at h
    cases h1 : rdNum 0 24 (l.drop at_) with
    | none => rw [h1] at h; simp at h
    | some p =>
      obtain ⟨m, r⟩ := p
      rw [h1] at h
      obtain ⟨_, hn, hr⟩ := h
      obtain ⟨e1, e2, e3⟩ := num_bwd h1
      refine ⟨rfl, ?_, m.toNat, by omega, by omega, by rw [hr]; congr 2; omega⟩
      rcases Nat.eq_zero_or_pos l.length with h0 | h0
      · rw [List.length_eq_zero_iff.1 h0] at h1; simp [rdNum, rdv] at h1
      · exact h0
theorem text_long {l : List UInt8} {at_ at1 N : Nat} (ha : at1 ≤ l.length) (h : rdNum 0 24 (l.drop at_) = some ((N : Int), l.drop at1)) (hN : l.length < at1 + N) (s : ByteArray) (at' : Nat) : TextRel l at_ false s at' true := by
  unfold TextRel rdText
  rw [h]
  simp only [Bool.false_eq_true, if_false, Option.bind_some, Int.toNat_natCast]
  rw [if_pos (by rw [List.length_drop]; omega)]
  trivial
theorem text_done {l : List UInt8} {at_ at1 N : Nat} (h : rdNum 0 24 (l.drop at_) = some ((N : Int), l.drop at1)) (hN : at1 + N ≤ l.length) : TextRel l at_ false ⟨((l.drop at1).take N).toArray⟩ (at1 + N) false := by
  unfold TextRel rdText
  rw [h]
  simp only [Bool.false_eq_true, if_false, Option.bind_some, Int.toNat_natCast]
  rw [if_neg (by rw [List.length_drop]; omega)]
  exact ⟨trivial, rfl, by rw [List.drop_drop]⟩

/-- a cut of the bytes as a text -/
theorem conv_cut {w : World} {b o cap at1 N : Nat} {l : List UInt8} (hN : at1 + N ≤ l.length) (hcap : l.length ≤ cap) (hc : ∀ (j : Nat) (x : UInt8), l[j]? = some x → w.cell? ⟨b, o + j, none⟩ = some (byteV x)) :
    (convert 22 9 (.slice (if cap = at1 then some ⟨b, o, none⟩ else some ⟨b, o + at1, none⟩) N (cap - at1))).run Tryd.prog w = .ok (.string ⟨((l.drop at1).take N).toArray⟩) w := by
  have hlen : N = ((l.drop at1).take N).length := by rw [List.length_take, List.length_drop]; omega
  by_cases h : cap = at1
  · rw [if_pos h]
    have hr := run_convert_bytes_back w 22 9 5 ⟨b, o, none⟩ (cap - at1) ((l.drop at1).take N) Tryd.underlying22 Tryd.underlying5 Tryd.underlying9 (fun j hj => by rw [List.length_take, List.length_drop] at hj; omega)
    rw [← hlen] at hr
    exact hr
  · rw [if_neg h]
    have hr := run_convert_bytes_back w 22 9 5 ⟨b, o + at1, none⟩ (cap - at1) ((l.drop at1).take N) Tryd.underlying22 Tryd.underlying5 Tryd.underlying9 (fun j hj => by
      rw [addr_add, Nat.add_assoc]
      have e : l[at1 + j]? = some (((l.drop at1).take N)[j]) := by
        rw [List.length_take, List.length_drop] at hj
        rw [List.getElem_take, List.getElem_drop, List.getElem?_eq_getElem (by omega)]
      exact hc _ _ e)
    rw [← hlen] at hr
    exact hr

set_option maxRecDepth 100000 in
set_option maxHeartbeats 4000000 in
theorem rtext_any (w : World) (g : Nat) (sp : Option Addr) (cap : Nat) (l : List UInt8) (at_ : Nat) (bad : Bool) (h : ReaderIs w g sp cap l at_ bad) :
    Calls Tryd.prog 56 #[.pointer (some ⟨g, 0, none⟩)] w (RTextPost g sp cap l at_ bad w) := by
  have hn := rnum_any 0 24 w g sp cap l at_ bad h
  clear h
  go_enter Tryd.func56, Tryd.ntmps56
  go_wp2_with fail
  refine hn.mono ?_
  rintro e w1 ⟨n, at1, bad1, rfl, ho1, hr1, hrel⟩
  have c0 := hr1.c0
  have c1 := hr1.c1
  have c2 := hr1.c2
  have f1 : w1.frozen? ⟨g, 1, none⟩ = false := free_of_heap hr1.self 1
  have f2 : w1.frozen? ⟨g, 2, none⟩ = false := free_of_heap hr1.self 2
  clear hn
  cases bad1 with
  | true =>
    have HOUT : ∀ n, Hid (RTextPost g sp cap l at_ bad w (.returned (.string ⟨#[]⟩)) ((w1.drewN n).setCell ⟨g, 2, none⟩ (.bool true))) := fun n =>
      ⟨⟨#[]⟩, at1, true, rfl, (show Only (fun k => k = g) w (w1.drewN n) from ⟨ho1.os, ho1.tape, ho1.output, ho1.size, ho1.block⟩).setCell (p := ⟨g, 2, none⟩) rfl _, (hr1.drewN n).set2 true, text_bad hrel _ _⟩
    clear ho1 hr1 hrel
    go_wp2_with fail
    go_quiet (fail)
    go_wp2_with fail
    go_ret
    exact (HOUT _).out
  | false =>
    obtain ⟨rfl, hl0, N, rfl, hN24, hrd⟩ := text_good hrel hr1.le
    have hle := hr1.le
    have hmax := hr1.max
    have hcap := hr1.cap
    obtain ⟨b, o, rfl, hb, hbg, hcell⟩ := hr1.src hl0
    by_cases hlong : l.length < at1 + N
    · have d1 : decide ((l.length : Int) - (at1 : Int) < (N : Int)) = true := decide_eq_true (by omega)
      have HOUT : ∀ n, Hid (RTextPost g (some ⟨b, o, none⟩) cap l at_ false w (.returned (.string ⟨#[]⟩)) ((w1.drewN n).setCell ⟨g, 2, none⟩ (.bool true))) := fun n =>
        ⟨⟨#[]⟩, at1, true, rfl, (show Only (fun k => k = g) w (w1.drewN n) from ⟨ho1.os, ho1.tape, ho1.output, ho1.size, ho1.block⟩).setCell (p := ⟨g, 2, none⟩) rfl _, (hr1.drewN n).set2 true, text_long hle hrd hlong _ _⟩
      clear ho1 hr1 hrel hrd hcell hb hbg
      go_wp2_with fail
      go_quiet (fail)
      go_wp2_with fail
      go_ret
      exact (HOUT _).out
    · have d1 : decide ((l.length : Int) - (at1 : Int) < (N : Int)) = false := decide_eq_false (by omega)
      have ho1' := Lib.hid ho1
      have HR1 := Lib.hid hr1
      have HRD := Lib.hid hrd
      have HC := Lib.hid hcell
      clear ho1 hr1 hrel hrd hcell
      go_wp2_with fail
      go_quiet (fail)
      have HOUT : ∀ n m, Hid (RTextPost g (some ⟨b, o, none⟩) cap l at_ false w (.returned (.string ⟨((l.drop at1).take N).toArray⟩)) (((w1.drewN n).setCell ⟨g, 1, none⟩ (.int .i64 ((at1 : Int) + (N : Int)))).drewN m)) := fun n m => by
        have hr := ((HR1.out.drewN n).set1 (at1 + N) (by omega)).drewN m
        rw [show ((at1 + N : Nat) : Int) = (at1 : Int) + (N : Int) by omega] at hr
        have ho : Only (fun k => k = g) w ((w1.drewN n).setCell ⟨g, 1, none⟩ (.int .i64 ((at1 : Int) + (N : Int)))) := (show Only (fun k => k = g) w (w1.drewN n) from ⟨ho1'.out.os, ho1'.out.tape, ho1'.out.output, ho1'.out.size, ho1'.out.block⟩).setCell (p := ⟨g, 1, none⟩) rfl _
        exact ⟨_, at1 + N, false, rfl, ⟨ho.os, ho.tape, ho.output, ho.size, ho.block⟩, hr, text_done HRD.out (by omega)⟩
      have kc : ∀ n m : Nat, (convert 22 9 (.slice (if cap = at1 then some ⟨b, o, none⟩ else some ⟨b, o + at1, none⟩) N (cap - at1))).run Tryd.prog (((w1.drewN n).setCell ⟨g, 1, none⟩ (.int .i64 ((at1 : Int) + (N : Int)))).drewN m) = .ok (.string ⟨((l.drop at1).take N).toArray⟩) (((w1.drewN n).setCell ⟨g, 1, none⟩ (.int .i64 ((at1 : Int) + (N : Int)))).drewN m) := fun n m =>
        conv_cut (by omega) hcap (fun j x hj => (World.cell?_of_block (a := ⟨b, o + j, none⟩) (show (((w1.drewN n).setCell ⟨g, 1, none⟩ (.int .i64 ((at1 : Int) + (N : Int)))).drewN m).heap[b]? = w1.heap[b]? from Below.heap_setCell (w1.drewN n) ⟨g, 1, none⟩ _ b hbg)).trans (HC.out j x hj))
      generalize hA : (if cap = at1 then some (⟨b, o, none⟩ : Addr) else some ⟨b, o + at1, none⟩) = A at kc
      generalize ((l.drop at1).take N).toArray = T at kc HOUT
      go_wp2_with fail
      go_quiet (fail)
      go_wp2_with fail
      go_ret
      exact (HOUT _ _).out
end Go.Proofs.YtldpflijgbcbhaaDoor
