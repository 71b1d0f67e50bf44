/- The log, in plain terms: making it empty; an opening, look by look; its records, one by one. No program here. -/
import Derived.Test.YtldpflijgbcbhaaDoorLgM
namespace Go.Proofs.YtldpflijgbcbhaaDoor.lg
open Go.RowKit

/-- n blocks are written with nothing -/
def fmtGo (M : DiskM) (fr : Nat) : Nat → DiskM
  | 0 => M
  | n + 1 => (fmtGo M fr n).write (fr + n) []
theorem fmtGo_len (M : DiskM) (fr : Nat) : ∀ n, (fmtGo M fr n).now.length = M.now.length ∧ (fmtGo M fr n).steps = M.steps + n ∧ (fmtGo M fr n).since.length = M.since.length + n ∧ (fmtGo M fr n).stop = M.stop := by
  intro n
  induction n with
  | zero => exact ⟨rfl, rfl, rfl, rfl⟩
  | succ n ih =>
    obtain ⟨h1, h2, h3, h4⟩ := ih
    refine ⟨?_, ?_, ?_, h4⟩
    · simp [fmtGo, DiskM.write, h1]
    · simp only [fmtGo, DiskM.write, h2]; omega
    · simp only [fmtGo, DiskM.write, List.length_append, h3, List.length_cons, List.length_nil]; omega
theorem fmtGo_in (M : DiskM) (fr : Nat) : ∀ n, fr + n ≤ M.now.length → ∀ j, j < n → (fmtGo M fr n).now[fr + j]? = some (some (padTo [])) := by
  intro n
  induction n with
  | zero => intro _ j hj; omega
  | succ n ih =>
    intro hn j hj
    have hl := (fmtGo_len M fr n).1
    simp only [fmtGo, DiskM.write]
    by_cases h : j = n
    · subst h; rw [List.getElem?_set_self (by omega)]
    · rw [List.getElem?_set_ne (by omega)]; exact ih (by omega) j (by omega)
theorem fmtGo_out (M : DiskM) (fr : Nat) : ∀ n, ∀ i, (i < fr ∨ fr + n ≤ i) → (fmtGo M fr n).now[i]? = M.now[i]? := by
  intro n
  induction n with
  | zero => intro i _; rfl
  | succ n ih =>
    intro i hi
    simp only [fmtGo, DiskM.write]
    rw [List.getElem?_set_ne (by omega)]; exact ih i (by omega)
def fmtAll (M : DiskM) (fr mn : Nat) : DiskM := (fmtGo M fr mn).flush
theorem fmt_blk {M : DiskM} {fr mn : Nat} (h : fr + mn ≤ M.now.length) : ∀ i, blkOf (fmtAll M fr mn).now fr mn i = none := by
  intro i
  unfold blkOf
  split
  · rename_i hi
    show chkOf ((fmtGo M fr mn).now.getD (fr + i) none) = none
    rw [List.getD_eq_getElem?_getD, fmtGo_in M fr mn h i hi]
    exact chk_nil
  · rfl
theorem fmt_apart {M : DiskM} {fr mn fr' mn' : Nat} (h : fr + mn ≤ fr' ∨ fr' + mn' ≤ fr) : blkOf (fmtAll M fr mn).now fr' mn' = blkOf M.now fr' mn' := by
  funext i
  unfold blkOf
  split
  · rename_i hi
    show chkOf ((fmtGo M fr mn).now.getD (fr' + i) none) = _
    rw [List.getD_eq_getElem?_getD, fmtGo_out M fr mn _ (by omega), ← List.getD_eq_getElem?_getD]
  · rfl

/-! an opening's round, look by look -/
def ixK (k j : Nat) : Nat := if j = 0 then 0 else if j = 1 then 1 else 2 + k
def accJ (blk : Nat → Option Chk) (k last : Nat) : Nat → Option (Chk × Nat)
  | 0 => none
  | j + 1 => look blk k last (accJ blk k last j) (ixK k j)
def epJ (blk : Nat → Option Chk) (k e : Nat) : Nat → Nat
  | 0 => e
  | j + 1 => max (epJ blk k e j) (epOf (blk (ixK k j)))
theorem accJ_pick (blk : Nat → Option Chk) (k last : Nat) : accJ blk k last 3 = pick blk k last := rfl
theorem epJ_epK (blk : Nat → Option Chk) (k e : Nat) : epJ blk k e 3 = epK blk k e := rfl
theorem accJ_mem {blk : Nat → Option Chk} {k last : Nat} : ∀ j p, accJ blk k last j = some p → ∃ i, blk i = some p.1 ∧ p.2 = i ∧ good k last i p.1 = true ∧ (i < 2 ∨ i = 2 + k) := by
  intro j
  induction j with
  | zero => intro p h; cases h
  | succ j ih =>
    intro p h
    rcases look_mem h with h | ⟨h1, h2, h3⟩
    · exact ih p h
    · refine ⟨_, h2, h1, h3, ?_⟩
      unfold ixK; split
      · omega
      · split
        · omega
        · right; rfl

/-! records, one by one -/
theorem parse_more : ∀ (f g : Nat) (l : List UInt8), l.length ≤ f → l.length ≤ g → parse f l = parse g l := by
  intro f
  induction f with
  | zero =>
    intro g l h _
    obtain rfl := List.length_eq_zero_iff.1 (Nat.le_zero.1 h)
    cases g <;> simp [parse]
  | succ f ih =>
    intro g l h h2
    cases g with
    | zero =>
      obtain rfl := List.length_eq_zero_iff.1 (Nat.le_zero.1 h2)
      simp [parse]
    | succ g =>
      simp only [parse]
      split
      · rfl
      · split
        · rfl
        · congr 1
          exact ih g _ (by simp; omega) (by simp; omega)
/-- the number ahead of a record -/
def lenAt (s : List UInt8) (a : Nat) : Nat := bAt (s.drop a) 0 * 256 + bAt (s.drop a) 1
theorem bAt_drop (s : List UInt8) (a i : Nat) : bAt (s.drop a) i = bAt s (a + i) := by
  simp [bAt, List.getD_eq_getElem?_getD, List.getElem?_drop]
/-- the records up to place a are rs -/
structure ParseAt (s : List UInt8) (a : Nat) (rs : List (List UInt8)) : Prop where
  le : a ≤ s.length
  enc : s.take a = enc rs
  rest : parse s.length s = rs ++ parse (s.length - a) (s.drop a)
  each : ∀ b ∈ rs, 1 ≤ b.length ∧ b.length ≤ 200
theorem ParseAt.start (s : List UInt8) : ParseAt s 0 [] := ⟨Nat.zero_le _, rfl, rfl, fun b hb => by cases hb⟩
theorem ParseAt.stop {s : List UInt8} {a : Nat} {rs : List (List UInt8)} (h : ParseAt s a rs) (hs : s.length < a + 2 ∨ lenAt s a < 1 ∨ 200 < lenAt s a ∨ s.length < a + 2 + lenAt s a) : parse s.length s = rs ∧ s.take a = Go.Proofs.YtldpflijgbcbhaaDoor.lg.enc rs := by
  refine ⟨?_, h.enc⟩
  rw [h.rest]
  have hle := h.le
  have hp : parse (s.length - a) (s.drop a) = [] := by
    cases hf : s.length - a with
    | zero => rfl
    | succ f =>
      have hl : (s.drop a).length = s.length - a := by simp
      unfold lenAt at hs
      simp only [parse]
      split
      · rfl
      · rw [if_pos (by omega)]
  rw [hp, List.append_nil]
theorem ParseAt.next {s : List UInt8} {a : Nat} {rs : List (List UInt8)} (h : ParseAt s a rs) (h1 : 1 ≤ lenAt s a) (h2 : lenAt s a ≤ 200) (h3 : a + 2 + lenAt s a ≤ s.length) :
    ParseAt s (a + 2 + lenAt s a) (rs ++ [(s.drop (a + 2)).take (lenAt s a)]) := by
  have hle := h.le
  have hl : (s.drop a).length = s.length - a := by simp
  have hrl : ((s.drop (a + 2)).take (lenAt s a)).length = lenAt s a := by simp; omega
  refine ⟨h3, ?_, ?_, fun b hb => ?_⟩
  · rw [enc_append, ← h.enc]
    have e : s.take (a + 2 + lenAt s a) = s.take a ++ (s.drop a).take (2 + lenAt s a) := by rw [Nat.add_assoc, List.take_add]
    rw [e]
    congr 1
    have e2 : (s.drop a).take (2 + lenAt s a) = (s.drop a).take 2 ++ (s.drop (a + 2)).take (lenAt s a) := by rw [List.take_add, List.drop_drop]
    rw [e2]
    show _ = Go.Proofs.YtldpflijgbcbhaaDoor.lg.enc [_]
    simp only [Go.Proofs.YtldpflijgbcbhaaDoor.lg.enc, List.flatMap_cons, List.flatMap_nil, List.append_nil, enc1, hrl]
    have hd : s.drop a = s[a]'(by omega) :: s[a + 1]'(by omega) :: s.drop (a + 2) := by
      rw [List.drop_eq_getElem_cons (by omega), List.drop_eq_getElem_cons (i := a + 1) (by omega)]
    have hb0 : bAt (s.drop a) 0 = (s[a]'(by omega)).toNat := by rw [hd]; rfl
    have hb1 : bAt (s.drop a) 1 = (s[a + 1]'(by omega)).toNat := by rw [hd]; rfl
    have u0 : UInt8.ofNat (lenAt s a / 256) = s[a]'(by omega) := by
      apply UInt8.toNat_inj.1
      rw [UInt8.toNat_ofNat', ← hb0]
      have := (s[a + 1]'(by omega)).toNat_lt
      rw [← hb1] at this
      unfold lenAt at *
      have h0 := (s[a]'(by omega)).toNat_lt
      rw [← hb0] at h0
      omega
    have u1 : UInt8.ofNat (lenAt s a) = s[a + 1]'(by omega) := by
      apply UInt8.toNat_inj.1
      rw [UInt8.toNat_ofNat', ← hb1]
      have := (s[a + 1]'(by omega)).toNat_lt
      rw [← hb1] at this
      unfold lenAt at *
      omega
    rw [u0, u1, hd]
    rfl
  · rw [h.rest, List.append_assoc]
    congr 1
    have hf : s.length - a = (s.length - a - 1) + 1 := by omega
    rw [hf]
    simp only [parse]
    rw [if_neg (by omega)]
    change (if lenAt s a < 1 ∨ 200 < lenAt s a ∨ (s.drop a).length < 2 + lenAt s a then [] else ((s.drop a).drop 2).take (lenAt s a) :: parse (s.length - a - 1) ((s.drop a).drop (2 + lenAt s a))) = _
    rw [if_neg (by omega), List.drop_drop, List.drop_drop]
    show _ :: _ = _ :: _
    congr 1
    rw [show a + (2 + lenAt s a) = a + 2 + lenAt s a by omega]
    exact parse_more _ _ _ (by simp; omega) (by simp)
  · rcases List.mem_append.1 hb with hb | hb
    · exact h.each b hb
    · rw [List.mem_singleton.1 hb, hrl]; exact ⟨h1, h2⟩
end Go.Proofs.YtldpflijgbcbhaaDoor.lg
