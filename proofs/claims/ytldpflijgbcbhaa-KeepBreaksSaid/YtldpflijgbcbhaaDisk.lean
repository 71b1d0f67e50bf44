/- A disk whose blocks all lie from block B on: what each method answers, and what the disk is then. -/
import Derived.Test.YtldpflijgbcbhaaBlk6
import Derived.Test.YtldpflijgbcbhaaBlk9
namespace Go.Proofs.Ytldpflijgbcbhaa
open Go.RowKit

def DiskB (B : Nat) (w : World) (d : Nat) (M : DiskM) : Prop := ∃ S, DiskAt w S d M ∧ (∀ k, S k → B ≤ k) ∧ B ≤ w.heap.size

theorem DiskB.later {B : Nat} {w w' : World} {d : Nat} {M : DiskM} (h : DiskB B w d M) (hb : Below w.heap.size w w') : DiskB B w' d M := by
  obtain ⟨S, h1, h2, h3⟩ := h
  exact ⟨S, h1.later hb, h2, Nat.le_trans h3 hb.size⟩
theorem diskB_of {B : Nat} {w w' : World} {S : Nat → Prop} {d : Nat} {M' : DiskM} (h2 : ∀ k, S k → B ≤ k) (h3 : B ≤ w.heap.size) (ho : Only S w w') (hd : DiskAt w' (Grow S w w') d M') : Below B w w' ∧ DiskB B w' d M' := by
  refine ⟨ho.below h3 h2, Grow S w w', hd, fun k hk => ?_, Nat.le_trans h3 ho.size⟩
  rcases hk with hk | ⟨hk, _⟩
  · exact h2 k hk
  · omega

/-- which error a write gives; 0: none -/
def DiskM.wcode (M : DiskM) (i : Int) (n : Nat) : Int := if M.stopped = true then 7 else if i < 0 ∨ (M.now.length : Int) ≤ i then 1 else if 64 < n then 4 else 0
/-- the disk behind a write -/
def DiskM.wr (M : DiskM) (i : Int) (l : List UInt8) : DiskM := if M.wcode i l.length = 0 then M.write i.toNat l else M

def StepPost (B : Nat) (w : World) (d : Nat) (r : Value) (M' : DiskM) (e : Ending) (w' : World) : Prop := e = .returned r ∧ Below B w w' ∧ DiskB B w' d M'

theorem write_any (B : Nat) (i : Int) (v : Value) (l : List UInt8) (w : World) (d : Nat) (M : DiskM) (h : DiskB B w d M) (hs : M.steps ≤ 1000000000000) (hsn : M.since.length ≤ 1000000000) (hl : l.length ≤ 9223372036854775807) (hv : BytesW w v l) (hvB : 0 < l.length → ∀ b, v.ownBlock = some b → b < B) :
    Calls Try.prog 52 #[.pointer (some ⟨d, 0, none⟩), .int .i64 i, v] w (StepPost B w d (errV (M.wcode i l.length)) (M.wr i l)) := by
  obtain ⟨S, h1, h2, h3⟩ := h
  by_cases hst : M.stopped = true
  · have e1 : M.wcode i l.length = 7 := by simp [DiskM.wcode, hst]
    have e2 : M.wr i l = M := by simp [DiskM.wr, e1]
    rw [e1, e2]
    refine (write_stop i v w S d M h1 hs hst).mono ?_
    rintro e w' ⟨rfl, hb⟩
    exact ⟨rfl, hb.mono h3, S, h1.later hb, h2, Nat.le_trans h3 hb.size⟩
  · have hst' : M.stopped = false := by simpa using hst
    by_cases hi : i < 0 ∨ (M.now.length : Int) ≤ i
    · have e1 : M.wcode i l.length = 1 := by simp [DiskM.wcode, hst', hi]
      have e2 : M.wr i l = M := by simp [DiskM.wr, e1]
      rw [e1, e2]
      refine (write_range i v w S d M h1 hs hst' hi).mono ?_
      rintro e w' ⟨rfl, hb⟩
      exact ⟨rfl, hb.mono h3, S, h1.later hb, h2, Nat.le_trans h3 hb.size⟩
    · obtain ⟨n, rfl⟩ := Int.eq_ofNat_of_zero_le (show 0 ≤ i by omega)
      by_cases hn : 64 < l.length
      · have e1 : M.wcode (n : Int) l.length = 4 := by rw [DiskM.wcode, if_neg hst, if_neg hi, if_pos hn]
        have e2 : M.wr (n : Int) l = M := by simp [DiskM.wr, e1]
        rw [e1, e2]
        obtain ⟨sp, c, rfl, _⟩ := hv
        refine (write_full n l.length sp c w S d M h1 hs hst' (by omega) hn hl).mono ?_
        rintro e w' ⟨rfl, hb⟩
        exact ⟨rfl, hb.mono h3, S, h1.later hb, h2, Nat.le_trans h3 hb.size⟩
      · have e1 : M.wcode (n : Int) l.length = 0 := by rw [DiskM.wcode, if_neg hst, if_neg hi, if_neg hn]
        have e2 : M.wr (n : Int) l = M.write n l := by simp [DiskM.wr, e1]
        rw [e1, e2]
        refine (write_ok n v l w S d M h1 hs hsn hst' (by omega) (by omega) hv (fun h0 b hb hS => by have := hvB h0 b hb; have := h2 b hS; omega)).mono ?_
        rintro e w' ⟨rfl, ho, hd⟩
        exact ⟨rfl, diskB_of h2 h3 ho hd⟩

/-- which error a flush gives -/
def DiskM.fcode (M : DiskM) : Int := if M.stopped = true then 7 else 0
def DiskM.fl (M : DiskM) : DiskM := if M.stopped = true then M else M.flush
theorem flush_any (B : Nat) (w : World) (d : Nat) (M : DiskM) (h : DiskB B w d M) (hs : M.steps ≤ 1000000000000) :
    Calls Try.prog 53 #[.pointer (some ⟨d, 0, none⟩)] w (StepPost B w d (errV M.fcode) M.fl) := by
  obtain ⟨S, h1, h2, h3⟩ := h
  by_cases hst : M.stopped = true
  · have e1 : M.fcode = 7 := by simp [DiskM.fcode, hst]
    have e2 : M.fl = M := by simp [DiskM.fl, hst]
    rw [e1, e2]
    refine (flush_stop w S d M h1 hs hst).mono ?_
    rintro e w' ⟨rfl, hb⟩
    exact ⟨rfl, hb.mono h3, S, h1.later hb, h2, Nat.le_trans h3 hb.size⟩
  · have hst' : M.stopped = false := by simpa using hst
    have e1 : M.fcode = 0 := by simp [DiskM.fcode, hst']
    have e2 : M.fl = M.flush := by simp [DiskM.fl, hst']
    rw [e1, e2]
    refine (flush_ok w S d M h1 hs hst').mono ?_
    rintro e w' ⟨rfl, ho, hd⟩
    exact ⟨rfl, diskB_of h2 h3 ho hd⟩

theorem crash_b (B : Nat) (ao : Option Addr) (kcap : Nat) (keep : List Int) (torn : Int) (w : World) (d : Nat) (M : DiskM) (h : DiskB B w d M) (hz : IntsAt w ao keep) (hkl : keep.length ≤ 9223372036854775807) (hsn : M.since.length ≤ 1000000000) :
    Calls Try.prog 27 #[.pointer (some ⟨d, 0, none⟩), .slice ao keep.length kcap, .int .i64 torn] w (StepPost B w d (.tuple #[]) (M.crash keep torn)) := by
  obtain ⟨S, h1, h2, h3⟩ := h
  refine (crash_any ao kcap keep torn w S d M h1 hz hkl hsn).mono ?_
  rintro e w' ⟨rfl, ho, hd⟩
  exact ⟨rfl, diskB_of h2 h3 ho hd⟩

theorem fail_b (B : Nat) (n : Int) (w : World) (d : Nat) (M : DiskM) (h : DiskB B w d M) (hn : n ≤ 9223372036854775807) :
    Calls Try.prog 25 #[.pointer (some ⟨d, 0, none⟩), .int .i64 n] w (StepPost B w d (.tuple #[]) (M.fail n)) := by
  obtain ⟨S, h1, h2, h3⟩ := h
  refine (fail_any n w S d M h1 hn).mono ?_
  rintro e w' ⟨rfl, ho, hd⟩
  exact ⟨rfl, diskB_of h2 h3 ho hd⟩

theorem new_b (n : Nat) (w : World) (h1 : 1 ≤ n) (h2 : n ≤ 200) :
    Calls Try.prog 18 #[.int .i64 n] w (StepPost w.heap.size w w.heap.size (.tuple #[.pointer (some ⟨w.heap.size, 0, none⟩), .nilIface]) (DiskM.new n)) := by
  refine (new_ok n w h1 h2).mono ?_
  rintro e w' ⟨rfl, hb, hd⟩
  exact ⟨rfl, hb, _, hd, fun k hk => hk.1, hb.size⟩

/-- what a read gives: the bytes, in a new row, or an error -/
def ReadPost (w : World) (m : Option (List UInt8)) (e : Ending) (w' : World) : Prop :=
  (match m with
   | none => e = .returned (.tuple #[.slice none 0 0, errV 9])
   | some l => ∃ g c, e = .returned (.tuple #[.slice (some ⟨g, 0, none⟩) 64 c, .nilIface]) ∧ w'.ownsRow w.heap.size 5 1 (.slice (some ⟨g, 0, none⟩) 64 c) 64 (l.map byteV) ∧ l.length = 64) ∧ Below w.heap.size w w'
theorem read_any (B : Nat) (i : Nat) (m : Option (List UInt8)) (w : World) (d : Nat) (M : DiskM) (h : DiskB B w d M) (hi : M.now[i]? = some m) :
    Calls Try.prog 69 #[.pointer (some ⟨d, 0, none⟩), .int .i64 i] w (ReadPost w m) := by
  obtain ⟨S, h1, h2, h3⟩ := h
  cases m with
  | none =>
    refine (read_torn i w S d M h1 hi).mono ?_
    rintro e w' ⟨rfl, rfl⟩
    exact ⟨rfl, Below.refl _ _⟩
  | some l =>
    refine (read_ok i l w S d M h1 hi).mono ?_
    rintro e w' ⟨g, c, rfl, h4, h5, hb⟩
    exact ⟨⟨g, c, rfl, h4, h5⟩, hb⟩
end Go.Proofs.Ytldpflijgbcbhaa
