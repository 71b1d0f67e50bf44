/- A disk beside blocks of others (F): what each method answers, what the disk is then, and that the others' blocks stay. -/
import Derived.Test.YtldpflijgbcbhaaDisk
import Derived.Test.YtldpflijgbcbhaaStays
namespace Go.Proofs.Ytldpflijgbcbhaa
open Go.RowKit

/-- a disk whose blocks lie from B on and are none of F's -/
def DiskF (B : Nat) (F : Nat → Prop) (w : World) (d : Nat) (M : DiskM) : Prop := ∃ S, DiskAt w S d M ∧ (∀ k, S k → B ≤ k ∧ ¬ F k) ∧ B ≤ w.heap.size ∧ ∀ k, F k → k < w.heap.size

theorem DiskF.later {B : Nat} {F : Nat → Prop} {w w' : World} {d : Nat} {M : DiskM} (h : DiskF B F w d M) (hb : Below w.heap.size w w') : DiskF B F w' d M := by
  obtain ⟨S, h1, h2, h3, h4⟩ := h
  exact ⟨S, h1.later hb, h2, Nat.le_trans h3 hb.size, fun k hk => Nat.lt_of_lt_of_le (h4 k hk) hb.size⟩
/-- the new blocks are others' -/
theorem DiskF.more {B : Nat} {F : Nat → Prop} {w w' : World} {d : Nat} {M : DiskM} (h : DiskF B F w d M) (hb : Below w.heap.size w w') (G : Nat → Prop) (hG : ∀ k, G k → F k ∨ (w.heap.size ≤ k ∧ k < w'.heap.size)) : DiskF B G w' d M := by
  obtain ⟨S, h1, h2, h3, h4⟩ := h
  have hdom : ∀ k, S k → k < w.heap.size := by obtain ⟨_, _, _, _, _, _, _, _, hd⟩ := h1; exact hd.dom
  refine ⟨S, h1.later hb, fun k hk => ⟨(h2 k hk).1, fun hg => ?_⟩, Nat.le_trans h3 hb.size, fun k hk => ?_⟩
  · rcases hG k hg with hf | ⟨hf, _⟩
    · exact (h2 k hk).2 hf
    · have := hdom k hk; omega
  · rcases hG k hk with hf | ⟨_, hf⟩
    · exact Nat.lt_of_lt_of_le (h4 k hf) hb.size
    · exact hf
/-- others write into their own blocks -/
theorem DiskF.stays {B : Nat} {F : Nat → Prop} {w w' : World} {d : Nat} {M : DiskM} (h : DiskF B F w d M) (ho : Only F w w') : DiskF B F w' d M := by
  obtain ⟨S, h1, h2, h3, h4⟩ := h
  exact ⟨S, h1.apart ho (fun k hk => (h2 k hk).2), h2, Nat.le_trans h3 ho.size, fun k hk => Nat.lt_of_lt_of_le (h4 k hk) ho.size⟩
theorem DiskF.lt {B : Nat} {F : Nat → Prop} {w : World} {d : Nat} {M : DiskM} (h : DiskF B F w d M) : B ≤ w.heap.size ∧ ∀ k, F k → k < w.heap.size := by
  obtain ⟨S, _, _, h3, h4⟩ := h
  exact ⟨h3, h4⟩
theorem DiskF.of_b {B : Nat} {w : World} {d : Nat} {M : DiskM} (h : DiskB B w d M) : DiskF B (fun _ => False) w d M := by
  obtain ⟨S, h1, h2, h3⟩ := h
  exact ⟨S, h1, fun k hk => ⟨h2 k hk, id⟩, h3, fun _ h => h.elim⟩

def StepF (B : Nat) (F : Nat → Prop) (w : World) (d : Nat) (r : Value) (M' : DiskM) (e : Ending) (w' : World) : Prop := e = .returned r ∧ Stays B F w w' ∧ DiskF B F w' d M'

theorem stepF_of {B : Nat} {F : Nat → Prop} {w w' : World} {S : Nat → Prop} {d : Nat} {M' : DiskM} (h2 : ∀ k, S k → B ≤ k ∧ ¬ F k) (h3 : B ≤ w.heap.size) (h4 : ∀ k, F k → k < w.heap.size) (ho : Only S w w') (hd : DiskAt w' (Grow S w w') d M') : Stays B F w w' ∧ DiskF B F w' d M' := by
  refine ⟨⟨ho.below h3 (fun k hk => (h2 k hk).1), fun k hk => ho.block k (h4 k hk) (fun hs => (h2 k hs).2 hk)⟩, Grow S w w', hd, fun k hk => ?_, Nat.le_trans h3 ho.size, fun k hk => Nat.lt_of_lt_of_le (h4 k hk) ho.size⟩
  rcases hk with hk | ⟨hk, _⟩
  · exact h2 k hk
  · exact ⟨by omega, fun hf => by have := h4 k hf; omega⟩
theorem stepF_below {B : Nat} {F : Nat → Prop} {w w' : World} {S : Nat → Prop} {d : Nat} {M : DiskM} (h1 : DiskAt w S d M) (h2 : ∀ k, S k → B ≤ k ∧ ¬ F k) (h3 : B ≤ w.heap.size) (h4 : ∀ k, F k → k < w.heap.size) (hb : Below w.heap.size w w') : Stays B F w w' ∧ DiskF B F w' d M :=
  ⟨Stays.of_below hb h3 h4, (DiskF.later ⟨S, h1, h2, h3, h4⟩ hb)⟩

theorem writeF (B : Nat) (F : Nat → Prop) (i : Int) (v : Value) (l : List UInt8) (w : World) (d : Nat) (M : DiskM) (h : DiskF B F w d M) (hs : M.steps ≤ 1000000000000) (hsn : M.since.length ≤ 1000000000) (hl : l.length ≤ 9223372036854775807) (hv : BytesW w v l) (hvB : 0 < l.length → ∀ b, v.ownBlock = some b → b < B ∨ F b) :
    Calls Try.prog 52 #[.pointer (some ⟨d, 0, none⟩), .int .i64 i, v] w (StepF B F w d (errV (M.wcode i l.length)) (M.wr i l)) := by
  obtain ⟨S, h1, h2, h3, h4⟩ := h
  by_cases hst : M.stopped = true
  · have e1 : M.wcode i l.length = 7 := by simp [DiskM.wcode, hst]
    have e2 : M.wr i l = M := by simp [DiskM.wr, e1]
    rw [e1, e2]
    refine (write_stop i v w S d M h1 hs hst).mono ?_
    rintro e w' ⟨rfl, hb⟩
    exact ⟨rfl, stepF_below h1 h2 h3 h4 hb⟩
  · have hst' : M.stopped = false := by simpa using hst
    by_cases hi : i < 0 ∨ (M.now.length : Int) ≤ i
    · have e1 : M.wcode i l.length = 1 := by simp [DiskM.wcode, hst', hi]
      have e2 : M.wr i l = M := by simp [DiskM.wr, e1]
      rw [e1, e2]
      refine (write_range i v w S d M h1 hs hst' hi).mono ?_
      rintro e w' ⟨rfl, hb⟩
      exact ⟨rfl, stepF_below h1 h2 h3 h4 hb⟩
    · obtain ⟨n, rfl⟩ := Int.eq_ofNat_of_zero_le (show 0 ≤ i by omega)
      by_cases hn : 64 < l.length
      · have e1 : M.wcode (n : Int) l.length = 4 := by rw [DiskM.wcode, if_neg hst, if_neg hi, if_pos hn]
        have e2 : M.wr (n : Int) l = M := by simp [DiskM.wr, e1]
        rw [e1, e2]
        obtain ⟨sp, c, rfl, _⟩ := hv
        refine (write_full n l.length sp c w S d M h1 hs hst' (by omega) hn hl).mono ?_
        rintro e w' ⟨rfl, hb⟩
        exact ⟨rfl, stepF_below h1 h2 h3 h4 hb⟩
      · have e1 : M.wcode (n : Int) l.length = 0 := by rw [DiskM.wcode, if_neg hst, if_neg hi, if_neg hn]
        have e2 : M.wr (n : Int) l = M.write n l := by simp [DiskM.wr, e1]
        rw [e1, e2]
        refine (write_ok n v l w S d M h1 hs hsn hst' (by omega) (by omega) hv (fun h0 b hb hS => ?_)).mono ?_
        · rcases hvB h0 b hb with hlt | hf
          · have := (h2 b hS).1; omega
          · exact (h2 b hS).2 hf
        · rintro e w' ⟨rfl, ho, hd⟩
          exact ⟨rfl, stepF_of h2 h3 h4 ho hd⟩

theorem flushF (B : Nat) (F : Nat → Prop) (w : World) (d : Nat) (M : DiskM) (h : DiskF B F w d M) (hs : M.steps ≤ 1000000000000) :
    Calls Try.prog 53 #[.pointer (some ⟨d, 0, none⟩)] w (StepF B F w d (errV M.fcode) M.fl) := by
  obtain ⟨S, h1, h2, h3, h4⟩ := h
  by_cases hst : M.stopped = true
  · have e1 : M.fcode = 7 := by simp [DiskM.fcode, hst]
    have e2 : M.fl = M := by simp [DiskM.fl, hst]
    rw [e1, e2]
    refine (flush_stop w S d M h1 hs hst).mono ?_
    rintro e w' ⟨rfl, hb⟩
    exact ⟨rfl, stepF_below h1 h2 h3 h4 hb⟩
  · have hst' : M.stopped = false := by simpa using hst
    have e1 : M.fcode = 0 := by simp [DiskM.fcode, hst']
    have e2 : M.fl = M.flush := by simp [DiskM.fl, hst']
    rw [e1, e2]
    refine (flush_ok w S d M h1 hs hst').mono ?_
    rintro e w' ⟨rfl, ho, hd⟩
    exact ⟨rfl, stepF_of h2 h3 h4 ho hd⟩

theorem crashF (B : Nat) (F : Nat → Prop) (ao : Option Addr) (kcap : Nat) (keep : List Int) (torn : Int) (w : World) (d : Nat) (M : DiskM) (h : DiskF B F w d M) (hz : IntsAt w ao keep) (hkl : keep.length ≤ 9223372036854775807) (hsn : M.since.length ≤ 1000000000) :
    Calls Try.prog 27 #[.pointer (some ⟨d, 0, none⟩), .slice ao keep.length kcap, .int .i64 torn] w (StepF B F w d (.tuple #[]) (M.crash keep torn)) := by
  obtain ⟨S, h1, h2, h3, h4⟩ := h
  refine (crash_any ao kcap keep torn w S d M h1 hz hkl hsn).mono ?_
  rintro e w' ⟨rfl, ho, hd⟩
  exact ⟨rfl, stepF_of h2 h3 h4 ho hd⟩

theorem failF (B : Nat) (F : Nat → Prop) (n : Int) (w : World) (d : Nat) (M : DiskM) (h : DiskF B F w d M) (hn : n ≤ 9223372036854775807) :
    Calls Try.prog 25 #[.pointer (some ⟨d, 0, none⟩), .int .i64 n] w (StepF B F w d (.tuple #[]) (M.fail n)) := by
  obtain ⟨S, h1, h2, h3, h4⟩ := h
  refine (fail_any n w S d M h1 hn).mono ?_
  rintro e w' ⟨rfl, ho, hd⟩
  exact ⟨rfl, stepF_of h2 h3 h4 ho hd⟩

theorem newF (n : Nat) (w : World) (h1 : 1 ≤ n) (h2 : n ≤ 200) :
    Calls Try.prog 18 #[.int .i64 n] w (fun e w' => e = .returned (.tuple #[.pointer (some ⟨w.heap.size, 0, none⟩), .nilIface]) ∧ Below w.heap.size w w' ∧ DiskF w.heap.size (fun _ => False) w' w.heap.size (DiskM.new n)) := by
  refine (new_b n w h1 h2).mono ?_
  rintro e w' ⟨rfl, hb, hd⟩
  exact ⟨rfl, hb, DiskF.of_b hd⟩

theorem readF (B : Nat) (F : Nat → Prop) (i : Nat) (m : Option (List UInt8)) (w : World) (d : Nat) (M : DiskM) (h : DiskF B F w d M) (hi : M.now[i]? = some m) :
    Calls Try.prog 69 #[.pointer (some ⟨d, 0, none⟩), .int .i64 i] w (ReadPost w m) := by
  obtain ⟨S, h1, h2, h3, h4⟩ := h
  cases m with
  | none =>
    refine (read_torn i w S d M h1 hi).mono ?_
    rintro e w' ⟨rfl, rfl⟩
    exact ⟨rfl, Below.refl _ _⟩
  | some l =>
    refine (read_ok i l w S d M h1 hi).mono ?_
    rintro e w' ⟨g, c, rfl, h4, h5, hb⟩
    exact ⟨⟨g, c, rfl, h4, h5⟩, hb⟩
theorem readF_no (B : Nat) (F : Nat → Prop) (i : Int) (w : World) (d : Nat) (M : DiskM) (h : DiskF B F w d M) (hi : i < 0 ∨ (M.now.length : Int) ≤ i) :
    Calls Try.prog 69 #[.pointer (some ⟨d, 0, none⟩), .int .i64 i] w fun e w' => e = .returned (.tuple #[.slice none 0 0, errV 1]) ∧ w = w' := by
  obtain ⟨S, h1, h2, h3, h4⟩ := h
  exact read_range i w S d M h1 hi
theorem stepsF (B : Nat) (F : Nat → Prop) (w : World) (d : Nat) (M : DiskM) (h : DiskF B F w d M) :
    Calls Try.prog 26 #[.pointer (some ⟨d, 0, none⟩)] w fun e w' => e = .returned (.int .i64 M.steps) ∧ w = w' := by
  obtain ⟨S, h1, _⟩ := h
  exact steps_any w S d M h1
theorem blocksF (B : Nat) (F : Nat → Prop) (w : World) (d : Nat) (M : DiskM) (h : DiskF B F w d M) :
    Calls Try.prog 59 #[.pointer (some ⟨d, 0, none⟩)] w fun e w' => e = .returned (.int .i64 M.now.length) ∧ w = w' := by
  obtain ⟨S, h1, _⟩ := h
  exact blocks_any w S d M h1

theorem BytesW.stays {B : Nat} {F : Nat → Prop} {w w' : World} {v : Value} {l : List UInt8} (h : BytesW w v l) (hs : Stays B F w w') (hv : 0 < l.length → ∀ b, v.ownBlock = some b → b < B ∨ F b) : BytesW w' v l := by
  obtain ⟨sp, c, rfl, h⟩ := h
  refine ⟨sp, c, rfl, fun h0 => ?_⟩
  obtain ⟨b, o, rfl, hlt, hc⟩ := h h0
  have hh : w'.heap[b]? = w.heap[b]? := by
    rcases hv h0 b rfl with h1 | h1
    · exact hs.below.block b h1
    · exact hs.blk b h1
  exact ⟨b, o, rfl, Nat.lt_of_lt_of_le hlt hs.below.size, fun j u hj => (World.cell?_of_block hh).trans (hc j u hj)⟩
end Go.Proofs.Ytldpflijgbcbhaa
