/- Two logs on one disk, in memory, beside others' blocks. -/
import Derived.Test.YtldpflijgbcbhaaLgI
namespace Go.Proofs.Ytldpflijgbcbhaa.lg
open Go.RowKit

structure PairIs (B : Nat) (F S T U : Nat → Prop) (w : World) (d : Nat) (M : DiskM) (pa fa ma : Nat) (La : LogS) (pb fb mb : Nat) (Lb : LogS) : Prop where
  disk : DiskAt w S d M
  loga : LogAt w T pa d fa ma La
  logb : LogAt w U pb d fb mb Lb
  s_ : ∀ x, S x → B ≤ x ∧ ¬ F x ∧ ¬ T x ∧ ¬ U x
  t_ : ∀ x, T x → B ≤ x ∧ ¬ F x ∧ ¬ U x
  u_ : ∀ x, U x → B ≤ x ∧ ¬ F x
  size : B ≤ w.heap.size
  f_ : ∀ x, F x → x < w.heap.size
def Pair (B : Nat) (F : Nat → Prop) (w : World) (d : Nat) (M : DiskM) (pa fa ma : Nat) (La : LogS) (pb fb mb : Nat) (Lb : LogS) : Prop := ∃ S T U, PairIs B F S T U w d M pa fa ma La pb fb mb Lb
def StepP (B : Nat) (F : Nat → Prop) (w : World) (d : Nat) (r : Value) (M' : DiskM) (pa fa ma : Nat) (La : LogS) (pb fb mb : Nat) (Lb : LogS) (e : Ending) (w' : World) : Prop := e = .returned r ∧ Stays B F w w' ∧ Pair B F w' d M' pa fa ma La pb fb mb Lb
section
variable {B : Nat} {F : Nat → Prop} {w w' : World} {d pa fa ma pb fb mb : Nat} {M M' : DiskM} {La La' Lb Lb' : LogS}
theorem Pair.later (h : Pair B F w d M pa fa ma La pb fb mb Lb) (hb : Below w.heap.size w w') : Pair B F w' d M pa fa ma La pb fb mb Lb := by
  obtain ⟨S, T, U, h⟩ := h
  exact ⟨S, T, U, h.disk.later hb, h.loga.below hb, h.logb.below hb, h.s_, h.t_, h.u_, Nat.le_trans h.size hb.size, fun x hx => Nat.lt_of_lt_of_le (h.f_ x hx) hb.size⟩
/-- new blocks are others' -/
theorem Pair.more (h : Pair B F w d M pa fa ma La pb fb mb Lb) (hb : Below w.heap.size w w') (G : Nat → Prop) (hG : ∀ x, G x → F x ∨ (w.heap.size ≤ x ∧ x < w'.heap.size)) : Pair B G w' d M pa fa ma La pb fb mb Lb := by
  obtain ⟨S, T, U, h⟩ := h
  refine ⟨S, T, U, h.disk.later hb, h.loga.below hb, h.logb.below hb, fun x hx => ⟨(h.s_ x hx).1, fun hg => ?_, (h.s_ x hx).2.2⟩, fun x hx => ⟨(h.t_ x hx).1, fun hg => ?_, (h.t_ x hx).2.2⟩, fun x hx => ⟨(h.u_ x hx).1, fun hg => ?_⟩, Nat.le_trans h.size hb.size, fun x hx => ?_⟩
  · rcases hG x hg with hf | ⟨hf, _⟩
    · exact (h.s_ x hx).2.1 hf
    · have := diskAt_dom h.disk x hx; omega
  · rcases hG x hg with hf | ⟨hf, _⟩
    · exact (h.t_ x hx).2.1 hf
    · have := h.loga.dom x hx; omega
  · rcases hG x hg with hf | ⟨hf, _⟩
    · exact (h.u_ x hx).2 hf
    · have := h.logb.dom x hx; omega
  · rcases hG x hx with hf | ⟨_, hf⟩
    · exact Nat.lt_of_lt_of_le (h.f_ x hf) hb.size
    · exact hf
theorem Pair.less {G : Nat → Prop} (h : Pair B F w d M pa fa ma La pb fb mb Lb) (hG : ∀ x, G x → F x) : Pair B G w d M pa fa ma La pb fb mb Lb := h.more (Below.refl _ _) G (fun x hx => Or.inl (hG x hx))
theorem Pair.diskF (h : Pair B F w d M pa fa ma La pb fb mb Lb) : DiskF B F w d M := by
  obtain ⟨S, T, U, h⟩ := h
  exact ⟨S, h.disk, fun x hx => ⟨(h.s_ x hx).1, (h.s_ x hx).2.1⟩, h.size, h.f_⟩
theorem Pair.lt (h : Pair B F w d M pa fa ma La pb fb mb Lb) : B ≤ w.heap.size := by
  obtain ⟨S, T, U, h⟩ := h; exact h.size
/-- a step of the first log -/
theorem Pair.step_a {f : FuncId} {args : Array Value} {r : Value} (h : Pair B F w d M pa fa ma La pb fb mb Lb)
    (hc : ∀ G : Nat → Prop, (∀ x, F x → G x) → Sys B G w d M pa fa ma La → Calls Try.prog f args w (StepL B G w d r M' pa fa ma La')) : Calls Try.prog f args w (StepP B F w d r M' pa fa ma La' pb fb mb Lb) := by
  obtain ⟨S, T, U, h⟩ := h
  refine (hc (fun x => F x ∨ U x) (fun x hx => Or.inl hx) ⟨S, T, h.disk, h.loga, fun x hx => ⟨(h.s_ x hx).1, fun hg => ?_, (h.s_ x hx).2.2.1⟩, fun x hx => ⟨(h.t_ x hx).1, fun hg => ?_⟩, h.size, fun x hx => ?_⟩).mono ?_
  · rcases hg with hg | hg
    · exact (h.s_ x hx).2.1 hg
    · exact (h.s_ x hx).2.2.2 hg
  · rcases hg with hg | hg
    · exact (h.t_ x hx).2.1 hg
    · exact (h.t_ x hx).2.2 hg
  · rcases hx with hx | hx
    · exact h.f_ x hx
    · exact h.logb.dom x hx
  · rintro e w' ⟨rfl, hs, S', T', h'⟩
    exact ⟨rfl, hs.mono (fun x hx => Or.inl hx), S', T', U, h'.disk, h'.log, h.logb.later (fun x hx => hs.blk x (Or.inr hx)) hs.below.size,
      fun x hx => ⟨(h'.s_ x hx).1, fun hf => (h'.s_ x hx).2.1 (Or.inl hf), (h'.s_ x hx).2.2, fun hu => (h'.s_ x hx).2.1 (Or.inr hu)⟩,
      fun x hx => ⟨(h'.t_ x hx).1, fun hf => (h'.t_ x hx).2 (Or.inl hf), fun hu => (h'.t_ x hx).2 (Or.inr hu)⟩, h.u_, h'.size, fun x hx => h'.f_ x (Or.inl hx)⟩
theorem Pair.swap (h : Pair B F w d M pa fa ma La pb fb mb Lb) : Pair B F w d M pb fb mb Lb pa fa ma La := by
  obtain ⟨S, T, U, h⟩ := h
  exact ⟨S, U, T, h.disk, h.logb, h.loga, fun x hx => ⟨(h.s_ x hx).1, (h.s_ x hx).2.1, (h.s_ x hx).2.2.2, (h.s_ x hx).2.2.1⟩, fun x hx => ⟨(h.u_ x hx).1, (h.u_ x hx).2, fun ht => (h.t_ x ht).2.2 hx⟩, fun x hx => ⟨(h.t_ x hx).1, (h.t_ x hx).2.1⟩, h.size, h.f_⟩
/-- a step of the second log -/
theorem Pair.step_b {f : FuncId} {args : Array Value} {r : Value} (h : Pair B F w d M pa fa ma La pb fb mb Lb)
    (hc : ∀ G : Nat → Prop, (∀ x, F x → G x) → Sys B G w d M pb fb mb Lb → Calls Try.prog f args w (StepL B G w d r M' pb fb mb Lb')) : Calls Try.prog f args w (StepP B F w d r M' pa fa ma La pb fb mb Lb') :=
  (h.swap.step_a hc).mono (fun _ _ ⟨h1, h2, h3⟩ => ⟨h1, h2, h3.swap⟩)
theorem Pair.at (h : Pair B F w d M pa fa ma La pb fb mb Lb) : (∃ T, LogAt w T pa d fa ma La) ∧ ∃ U, LogAt w U pb d fb mb Lb := by
  obtain ⟨S, T, U, h⟩ := h; exact ⟨⟨T, h.loga⟩, ⟨U, h.logb⟩⟩
/-- two logs, opened one behind the other -/
theorem Pair.of {w1 w2 w3 : World} (h : DiskF B F w d M) (ha : LogAt w1 (fun x => w.heap.size ≤ x ∧ x < w1.heap.size) pa d fa ma La) (h1 : Below w.heap.size w w1) (h2 : Below w1.heap.size w1 w2) (hb : LogAt w3 (fun x => w2.heap.size ≤ x ∧ x < w3.heap.size) pb d fb mb Lb) (h3 : Below w2.heap.size w2 w3) : Pair B F w3 d M pa fa ma La pb fb mb Lb := by
  obtain ⟨S, g1, g2, g3, g4⟩ := h
  have s1 := h1.size
  have s2 := h2.size
  have s3 := h3.size
  have h13 : Below w1.heap.size w1 w3 := h2.trans (h3.mono s2)
  have h03 : Below w.heap.size w w3 := h1.trans (h13.mono s1)
  have hd := diskAt_dom g1
  exact ⟨S, _, _, g1.later h03, ha.below h13, hb, fun x hx => ⟨(g2 x hx).1, (g2 x hx).2, fun ht => by have := hd x hx; omega, fun hu => by have := hd x hx; omega⟩, fun x hx => ⟨by omega, fun hf => by have := g4 x hf; omega, fun hu => by omega⟩, fun x hx => ⟨by omega, fun hf => by have := g4 x hf; omega⟩, by omega, fun x hx => by have := g4 x hx; omega⟩
end
end Go.Proofs.Ytldpflijgbcbhaa.lg
