/- dayref2's reader D among blocks that are known, and a row that grows: what is so behind each step. -/
import Derived.Test.YtldpflijgbcbhaaDoorDrd2
import Derived.Test.YtldpflijgbcbhaaDoorHeld
import Derived.Test.YtldpflijgbcbhaaDoorFrds
namespace Go.Proofs.YtldpflijgbcbhaaDoor.dd
open Go.RowKit

structure RSt (w : World) (rb : Nat) (sp : Option Addr) (cap : Nat) (l : List UInt8) (bs : List (Nat × Obj)) (E : TypeId) (sz : Nat) (lv : Value) (n : Nat) (xs : List Value) (at_ : Nat) (bad : Bool) (wi : World) : Prop where
  fr : Fr w bs wi
  row : wi.ownsRow w.heap.size E sz lv n xs
  ne : ∀ k, lv.ownBlock = some k → k ≠ rb ∧ ∀ p ∈ bs, p.1 ≠ k
  rd : ReaderIs wi rb sp cap l at_ bad
  rb_ : w.heap.size ≤ rb ∧ ∀ p ∈ bs, p.1 ≠ rb
  srcB : ∀ b o, 0 < l.length → sp = some ⟨b, o, none⟩ → b < w.heap.size
variable {w wi wj : World} {rb : Nat} {sp : Option Addr} {cap : Nat} {l : List UInt8} {bs : List (Nat × Obj)} {E : TypeId} {sz : Nat} {lv : Value} {n : Nat} {xs : List Value} {at_ : Nat} {bad : Bool}
theorem ReaderIs.keep {g : Nat} (h : ReaderIs wi g sp cap l at_ bad) {S : Nat → Prop} (ho : Only S wi wj) (hg : ¬ S g) (hs : ∀ b o, 0 < l.length → sp = some ⟨b, o, none⟩ → ¬ S b) : ReaderIs wj g sp cap l at_ bad := by
  refine ⟨by rw [ho.block _ h.lt hg]; exact h.self, fun h0 => ?_, h.le, h.cap, h.max⟩
  obtain ⟨b, o, e, hlt, hne, hc⟩ := h.src h0
  exact ⟨b, o, e, Nat.lt_of_lt_of_le hlt ho.size, hne, fun j x hj => (World.cell?_of_block (a := ⟨b, o + j, none⟩) (ho.block b hlt (hs b o h0 e))).trans (hc j x hj)⟩
/-- a call of the reader -/
theorem RSt.call (h : RSt w rb sp cap l bs E sz lv n xs at_ bad wi) {at' : Nat} {bad' : Bool} (ho : Only (fun k => k = rb) wi wj) (hr : ReaderIs wj rb sp cap l at' bad') : RSt w rb sp cap l bs E sz lv n xs at' bad' wj :=
  ⟨h.fr.only ho (fun k hk => by have := h.rb_.1; omega) h.rb_.2, row_keep h.row (fun k hk => ho.block k (row_lt h.row k hk).2 (h.ne k hk).1), h.ne, hr, h.rb_, h.srcB⟩
/-- what is new -/
theorem RSt.later (h : RSt w rb sp cap l bs E sz lv n xs at_ bad wi) (hb : Below wi.heap.size wi wj) : RSt w rb sp cap l bs E sz lv n xs at_ bad wj :=
  ⟨h.fr.later hb, row_keep h.row (fun k hk => hb.block k (row_lt h.row k hk).2), h.ne, h.rd.keep (S := fun _ => False) ⟨hb.os, hb.tape, hb.output, hb.size, fun k hk _ => hb.block k hk⟩ id (fun _ _ _ _ => id), h.rb_, h.srcB⟩
theorem RSt.newAt (h : RSt w rb sp cap l bs E sz lv n xs at_ bad wi) {m : Nat} (hm : wi.heap.size = m) (o : Obj) : RSt w rb sp cap l ((m, o) :: bs) E sz lv n xs at_ bad (wi.alloc o) := by
  have h' := h.later ((Below.refl _ _).alloc (Nat.le_refl _) o)
  refine ⟨h.fr.newAt hm o, h'.row, fun k hk => ⟨(h.ne k hk).1, fun p hp => ?_⟩, h'.rd, ⟨h.rb_.1, fun p hp => ?_⟩, h.srcB⟩
  · rcases List.mem_cons.1 hp with rfl | hp
    · have := (row_lt h.row k hk).2; simp only; omega
    · exact (h.ne k hk).2 p hp
  · rcases List.mem_cons.1 hp with rfl | hp
    · have := h.rd.lt; simp only; omega
    · exact h.rb_.2 p hp
theorem RSt.sub {cs : List (Nat × Obj)} (h : RSt w rb sp cap l bs E sz lv n xs at_ bad wi) (hs : ∀ p ∈ cs, p ∈ bs) : RSt w rb sp cap l cs E sz lv n xs at_ bad wi :=
  ⟨h.fr.sub hs, h.row, fun k hk => ⟨(h.ne k hk).1, fun p hp => (h.ne k hk).2 p (hs p hp)⟩, h.rd, ⟨h.rb_.1, fun p hp => h.rb_.2 p (hs p hp)⟩, h.srcB⟩
/-- a store into a block that is known -/
theorem RSt.set {k : Nat} {cs : Array Value} {t : TypeId} (h : RSt w rb sp cap l ((k, .cells cs t (0, 0)) :: bs) E sz lv n xs at_ bad wi) (hk : ∀ p ∈ bs, p.1 ≠ k) (i : Nat) (v : Value) :
    RSt w rb sp cap l ((k, .cells (cs.setIfInBounds i v) t (0, 0)) :: bs) E sz lv n xs at_ bad (wi.setCell ⟨k, i, none⟩ v) := by
  have hkB := (h.fr.has _ (List.mem_cons_self ..)).1
  have hkr : k ≠ rb := h.rb_.2 _ (List.mem_cons_self ..)
  have ho : Only (fun j => j = k) wi (wi.setCell ⟨k, i, none⟩ v) := (Only.refl (fun j => j = k) wi).setCell (p := ⟨k, i, none⟩) rfl _
  refine ⟨h.fr.set hk i v, row_keep h.row (fun j hj => ho.block j (row_lt h.row j hj).2 (fun e => (h.ne j hj).2 _ (List.mem_cons_self ..) e.symm)), fun j hj => ⟨(h.ne j hj).1, fun p hp => ?_⟩, h.rd.keep ho (fun e => hkr e.symm) (fun b o h0 e e2 => by have := h.srcB b o h0 e; simp only at hkB; omega), ⟨h.rb_.1, fun p hp => ?_⟩, h.srcB⟩
  · rcases List.mem_cons.1 hp with rfl | hp
    · exact (h.ne j hj).2 (k, .cells cs t (0, 0)) (List.mem_cons_self ..)
    · exact (h.ne j hj).2 p (List.mem_cons_of_mem _ hp)
  · rcases List.mem_cons.1 hp with rfl | hp
    · exact hkr
    · exact h.rb_.2 p (List.mem_cons_of_mem _ hp)
/-- the reader is told that all is bad -/
theorem RSt.setBad (h : RSt w rb sp cap l bs E sz lv n xs at_ bad wi) : RSt w rb sp cap l bs E sz lv n xs at_ true (wi.setCell ⟨rb, 2, none⟩ (.bool true)) :=
  h.call ((Only.refl (fun k => k = rb) wi).setCell (p := ⟨rb, 2, none⟩) rfl _) (h.rd.set2 true)
/-- the row has grown -/
theorem RSt.push (h : RSt w rb sp cap l bs E sz lv n xs at_ bad wi) {v9 : Value} {w9 : World} {n' : Nat} {xs' : List Value} (hown : w9.ownsRow w.heap.size E sz v9 n' xs') (hg : wi.grownBy w9 lv.ownBlock) (hat : v9.ownBlock = lv.ownBlock ∨ v9.ownBlock = some wi.heap.size) :
    RSt w rb sp cap l bs E sz v9 n' xs' at_ bad w9 := by
  have ho : Only (fun k => lv.ownBlock = some k) wi w9 := Only.of_grown hg
  refine ⟨h.fr.only ho (fun k hk => (row_lt h.row k hk).1) (fun p hp hk => (h.ne _ hk).2 p hp rfl), hown, fun k hk => ?_, h.rd.keep ho (fun hk => (h.ne _ hk).1 rfl) (fun b o h0 e hk => by have := h.srcB b o h0 e; have := (row_lt h.row b hk).1; omega), h.rb_, h.srcB⟩
  rcases hat with e | e
  · rw [e] at hk; exact h.ne k hk
  · rw [e] at hk
    injection hk with hk
    refine ⟨fun e2 => ?_, fun p hp e2 => ?_⟩
    · have := h.rd.lt; omega
    · have := h.fr.lt hp; omega
end Go.Proofs.YtldpflijgbcbhaaDoor.dd
