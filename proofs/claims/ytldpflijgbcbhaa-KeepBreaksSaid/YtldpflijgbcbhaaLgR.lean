/- The log, in plain terms: making it empty; an opening, look by look; its records, one by one. No program here. -/
import Derived.Test.YtldpflijgbcbhaaLgM
namespace Go.Proofs.Ytldpflijgbcbhaa.lg
open Go.RowKit

/-- n blocks are written with nothing -/
def fmtGo (M : DiskM) (fr : Nat) : Nat → DiskM
  | 0 => M
  | n + 1 => (fmtGo M fr n).write (fr + n) []
theorem fmtGo_len (M : DiskM) (fr : Nat) : ∀ n, (fmtGo M fr n).now.length = M.now.length ∧ (fmtGo M fr n).steps = M.steps + n ∧ (fmtGo M fr n).since.length = M.since.length + n ∧ (fmtGo M fr n).stop = M.stop := by
  intro n
  induction n with
  | zero => exact ⟨rfl, rfl, rfl, rfl⟩
  | succ n ih =>
    obtain ⟨h1, h2, h3, h4⟩ := ih
    refine ⟨?_, ?_, ?_, h4⟩
    · simp [fmtGo, DiskM.write, h1]
    · simp only [fmtGo, DiskM.write, h2]; omega
    · simp only [fmtGo, DiskM.write, List.length_append, h3, List.length_cons, List.length_nil]; omega
theorem fmtGo_in (M : DiskM) (fr : Nat) : ∀ n, fr + n ≤ M.now.length → ∀ j, j < n → (fmtGo M fr n).now[fr + j]? = some (some (padTo [])) := by
  intro n
  induction n with
  | zero => intro _ j hj; omega
  | succ n ih =>
    intro hn j hj
    have hl := (fmtGo_len M fr n).1
    simp only [fmtGo, DiskM.write]
    by_cases h : j = n
    · subst h; rw [List.getElem?_set_self (by omega)]
    · rw [List.getElem?_set_ne (by omega)]; exact ih (by omega) j (by omega)
theorem fmtGo_out (M : DiskM) (fr : Nat) : ∀ n, ∀ i, (i < fr ∨ fr + n ≤ i) → (fmtGo M fr n).now[i]? = M.now[i]? := by
  intro n
  induction n with
  | zero => intro i _; rfl
  | succ n ih =>
    intro i hi
    simp only [fmtGo, DiskM.write]
    rw [List.getElem?_set_ne (by omega)]; exact ih i (by omega)
def fmtAll (M : DiskM) (fr mn : Nat) : DiskM := (fmtGo M fr mn).flush
theorem fmt_blk {M : DiskM} {fr mn : Nat} (h : fr + mn ≤ M.now.length) : ∀ i, blkOf (fmtAll M fr mn).now fr mn i = none := by
  intro i
  unfold blkOf
  split
  · rename_i hi
    show chkOf ((fmtGo M fr mn).now.getD (fr + i) none) = none
    rw [List.getD_eq_getElem?_getD, fmtGo_in M fr mn h i hi]
    exact chk_nil
  · rfl
theorem fmt_apart {M : DiskM} {fr mn fr' mn' : Nat} (h : fr + mn ≤ fr' ∨ fr' + mn' ≤ fr) : blkOf (fmtAll M fr mn).now fr' mn' = blkOf M.now fr' mn' := by
  funext i
  unfold blkOf
  split
  · rename_i hi
    show chkOf ((fmtGo M fr mn).now.getD (fr' + i) none) = _
    rw [List.getD_eq_getElem?_getD, fmtGo_out M fr mn _ (by omega), ← List.getD_eq_getElem?_getD]
  · rfl

/-! an opening's round, look by look -/
def ixK (k j : Nat) : Nat := if j = 0 then 0 else if j = 1 then 1 else 2 + k
def accJ (blk : Nat → Option Chk) (k last : Nat) : Nat → Option (Chk × Nat)
  | 0 => none
  | j + 1 => look blk k last (accJ blk k last j) (ixK k j)
def epJ (blk : Nat → Option Chk) (k e : Nat) : Nat → Nat
  | 0 => e
  | j + 1 => max (epJ blk k e j) (epOf (blk (ixK k j)))
theorem accJ_pick (blk : Nat → Option Chk) (k last : Nat) : accJ blk k last 3 = pick blk k last := rfl
theorem epJ_epK (blk : Nat → Option Chk) (k e : Nat) : epJ blk k e 3 = epK blk k e := rfl
theorem accJ_mem {blk : Nat → Option Chk} {k last : Nat} : ∀ j p, accJ blk k last j = some p → ∃ i, blk i = some p.1 ∧ p.2 = i ∧ good k last i p.1 = true ∧ (i < 2 ∨ i = 2 + k) := by
  intro j
  induction j with
  | zero => intro p h; cases h
  | succ j ih =>
    intro p h
    rcases look_mem h with h | ⟨h1, h2, h3⟩
    · exact ih p h
    · refine ⟨_, h2, h1, h3, ?_⟩
      unfold ixK; split
      · omega
      · split
        · omega
        · right; rfl

/-! records, one by one -/
theorem parse_more : ∀ (f g : Nat) (l : List UInt8), l.length ≤ f → l.length ≤ g → parse f l = parse g l := by
  intro f
  induction f with
  | zero =>
    intro g l h _
    obtain rfl := List.length_eq_zero_iff.1 (Nat.le_zero.1 h)
    cases g <;> simp [parse]
  | succ f ih =>
    intro g l h h2
    cases g with
    | zero =>
      obtain rfl := List.length_eq_zero_iff.1 (Nat.le_zero.1 h2)
      simp [parse]
    | succ g =>
      simp only [parse]
      split
      · rfl
      · split
        · rfl
        · congr 1
          exact ih g _ (by simp; omega) (by simp; omega)
/-- the number ahead of a record -/
def lenAt (s : List UInt8) (a : Nat) : Nat := bAt (s.drop a) 0 * 256 + bAt (s.drop a) 1
theorem bAt_drop (s : List UInt8) (a i : Nat) : bAt (s.drop a) i = bAt s (a + i) := by
  simp [bAt, List.getD_eq_getElem?_getD, List.getElem?_drop]
/-- the records up to place a are rs -/
structure ParseAt (s : List UInt8) (a : Nat) (rs : List (List UInt8)) : Prop where
  le : a ≤ s.length
  enc : s.take a = enc rs
  rest : parse s.length s = rs ++ parse (s.length - a) (s.drop a)
  each : ∀ b ∈ rs, 1 ≤ b.length ∧ b.length ≤ 200
theorem ParseAt.start (s : List UInt8) : ParseAt s 0 [] := ⟨Nat.zero_le _, rfl, rfl, fun b hb => by cases hb⟩
theorem ParseAt.stop {s : List UInt8} {a : Nat} {rs : List (List UInt8)} (h : ParseAt s a rs) (hs : s.length < a + 2 ∨ lenAt s a < 1 ∨ 200 < lenAt s a ∨ s.length < a + 2 + lenAt s a) : parse s.length s = rs ∧ s.take a = Go.Proofs.Ytldpflijgbcbhaa.lg.enc rs := by
  refine ⟨?_, h.enc⟩
  rw [h.rest]
  have hle := h.le
  have hp : parse (s.length - a) (s.drop a) = [] := by
    cases hf : s.length - a with
    | zero => rfl
    | succ f =>
      have hl : (s.drop a).length = s.length - a := by simp
      unfold lenAt at hs
      simp only [parse]
      split
      · rfl
      · rw [if_pos (by omega)]
  rw [hp, List.append_nil]
theorem ParseAt.next {s : List UInt8} {a : Nat} {rs : List (List UInt8)} (h : ParseAt s a rs) (h1 : 1 ≤ lenAt s a) (h2 : lenAt s a ≤ 200) (h3 : a + 2 + lenAt s a ≤ s.length) :
    ParseAt s (a + 2 + lenAt s a) (rs ++ [(s.drop (a + 2)).take (lenAt s a)]) := by
  have hle := h.le
  have hl : (s.drop a).length = s.length - a := by simp
  have hrl : ((s.drop (a + 2)).take (lenAt s a)).length = lenAt s a := by simp; omega
  refine ⟨h3, ?_, ?_, fun b hb => ?_⟩
  · rw [enc_append, ← h.enc]
    have e : s.take (a + 2 + lenAt s a) = s.take a ++ (s.drop a).take (2 + lenAt s a) := by rw [Nat.add_assoc, List.take_add]
    rw [e]
    congr 1
    have e2 : (s.drop a).take (2 + lenAt s a) = (s.drop a).take 2 ++ (s.drop (a + 2)).take (lenAt s a) := by rw [List.take_add, List.drop_drop]
    rw [e2]
    show _ = Go.Proofs.Ytldpflijgbcbhaa.lg.enc [_]
    simp only [Go.Proofs.Ytldpflijgbcbhaa.lg.enc, List.flatMap_cons, List.flatMap_nil, List.append_nil, enc1, hrl]
    have hd : s.drop a = s[a]'(by omega) :: s[a + 1]'(by omega) :: s.drop (a + 2) := by
      rw [List.drop_eq_getElem_cons (by omega), List.drop_eq_getElem_cons (i := a + 1) (by omega)]
    have hb0 : bAt (s.drop a) 0 = (s[a]'(by omega)).toNat := by rw [hd]; rfl
    have hb1 : bAt (s.drop a) 1 = (s[a + 1]'(by omega)).toNat := by rw [hd]; rfl
    have u0 : UInt8.ofNat (lenAt s a / 256) = s[a]'(by omega) := by
      apply UInt8.toNat_inj.1
      rw [UInt8.toNat_ofNat', ← hb0]
      have := (s[a + 1]'(by omega)).toNat_lt
      rw [← hb1] at this
      unfold lenAt at *
      have h0 := (s[a]'(by omega)).toNat_lt
      rw [← hb0] at h0
      omega
    have u1 : UInt8.ofNat (lenAt s a) = s[a + 1]'(by omega) := by
      apply UInt8.toNat_inj.1
      rw [UInt8.toNat_ofNat', ← hb1]
      have := (s[a + 1]'(by omega)).toNat_lt
      rw [← hb1] at this
      unfold lenAt at *
      omega
    rw [u0, u1, hd]
    rfl
  · rw [h.rest, List.append_assoc]
    congr 1
    have hf : s.length - a = (s.length - a - 1) + 1 := by omega
    rw [hf]
    simp only [parse]
    rw [if_neg (by omega)]
    change (if lenAt s a < 1 ∨ 200 < lenAt s a ∨ (s.drop a).length < 2 + lenAt s a then [] else ((s.drop a).drop 2).take (lenAt s a) :: parse (s.length - a - 1) ((s.drop a).drop (2 + lenAt s a))) = _
    rw [if_neg (by omega), List.drop_drop, List.drop_drop]
    show _ :: _ = _ :: _
    congr 1
    rw [show a + (2 + lenAt s a) = a + 2 + lenAt s a by omega]
    exact parse_more _ _ _ (by simp; omega) (by simp)
  · rcases List.mem_append.1 hb with hb | hb
    · exact h.each b hb
    · rw [List.mem_singleton.1 hb, hrl]; exact ⟨h1, h2⟩
end Go.Proofs.Ytldpflijgbcbhaa.lg

/- The log and a disk that may stop, in plain terms: what making it empty, putting chunks and appending do. No program here. -/
namespace Go.Proofs.Ytldpflijgbcbhaa.lg
open Go.RowKit

def whereC (n : Nat) (fr mn : Int) : Int := if mn < 1 ∨ 200 < mn ∨ fr < 0 ∨ (n : Int) - mn < fr then 1 else 0

/-- blocks from i on, n of them, are written with nothing, as far as the disk goes -/
def fmtR (M : DiskM) (fr i : Nat) : Nat → DiskM × Int
  | 0 => (M.fl, M.fcode)
  | n + 1 => if M.wcode ((fr + i : Nat) : Int) 0 = 0 then fmtR (M.wr ((fr + i : Nat) : Int) []) fr (i + 1) n else (M, M.wcode ((fr + i : Nat) : Int) 0)
theorem fmtGo_free {M : DiskM} (h : Free M) (fr : Nat) (n : Nat) : Free (fmtGo M fr n) := (fmtGo_len M fr n).2.2.2.trans h
theorem fmtR_free {M : DiskM} (h : Free M) (fr : Nat) : ∀ n i, fr + i + n ≤ M.now.length → fmtR (fmtGo M fr i) fr i n = (fmtAll M fr (i + n), 0) := by
  intro n
  induction n with
  | zero =>
    intro i _
    simp only [fmtR, fmtAll, Nat.add_zero]
    rw [(fmtGo_free h fr i).fcode, (fmtGo_free h fr i).fl]
  | succ n ih =>
    intro i hi
    have hl := (fmtGo_len M fr i).1
    simp only [fmtR]
    rw [if_pos ((fmtGo_free h fr i).wcode (by omega) (by omega)), (fmtGo_free h fr i).wr (by omega) (by simp)]
    have := ih (i + 1) (by omega)
    rw [show i + 1 + n = i + (n + 1) by omega] at this
    exact this

/-! chunks are put -/
def putC (M : DiskM) (fr : Nat) (L : LogS) (k : Nat) : Int := M.wcode ((fr + putAt L.stream (1 - L.safe) k : Nat) : Int) (putBytes L.stream L.epoch k).length
def putM (M : DiskM) (fr : Nat) (L : LogS) (k : Nat) : DiskM := M.wr ((fr + putAt L.stream (1 - L.safe) k : Nat) : Int) (putBytes L.stream L.epoch k)
/-- chunks from k on, n of them, as far as the disk goes -/
def putsR (M : DiskM) (fr : Nat) (L : LogS) (k : Nat) : Nat → DiskM × Int
  | 0 => (M, 0)
  | n + 1 => if putC M fr L k = 0 then putsR (putM M fr L k) fr L (k + 1) n else (putM M fr L k, putC M fr L k)
theorem putM_len (M : DiskM) (fr : Nat) (L : LogS) (k : Nat) : (putM M fr L k).now.length = M.now.length ∧ (putM M fr L k).steps ≤ M.steps + 1 ∧ (putM M fr L k).since.length ≤ M.since.length + 1 := by
  unfold putM DiskM.wr
  split
  · exact ⟨by simp [DiskM.write], Nat.le_refl _, by simp [DiskM.write]⟩
  · exact ⟨rfl, by omega, by omega⟩
theorem putsR_len (fr : Nat) (L : LogS) : ∀ n k M, (putsR M fr L k n).1.now.length = M.now.length ∧ (putsR M fr L k n).1.steps ≤ M.steps + n ∧ (putsR M fr L k n).1.since.length ≤ M.since.length + n := by
  intro n
  induction n with
  | zero => intro k M; exact ⟨rfl, Nat.le_refl _, Nat.le_refl _⟩
  | succ n ih =>
    intro k M
    obtain ⟨h1, h2, h3⟩ := putM_len M fr L k
    simp only [putsR]
    split
    · obtain ⟨g1, g2, g3⟩ := ih (k + 1) (putM M fr L k)
      exact ⟨g1.trans h1, by omega, by omega⟩
    · exact ⟨h1, by show (putM M fr L k).steps ≤ _; omega, by show (putM M fr L k).since.length ≤ _; omega⟩
/-- what is safe is put where the last chunk belongs, if it stands in a block of its own -/
def bareR (M : DiskM) (fr : Nat) (L : LogS) : DiskM × Int :=
  if L.bare = true then (if putC M fr L (L.stream.length / 60) = 0 then ((putM M fr L (L.stream.length / 60)).fl, (putM M fr L (L.stream.length / 60)).fcode) else (putM M fr L (L.stream.length / 60), putC M fr L (L.stream.length / 60))) else (M, 0)
def LogS.bared (L : LogS) : LogS := if L.bare = true then { L with safe := 1 - L.safe, bare := false } else L
/-- what is refused -/
def appC (L : LogS) (mn n : Nat) : Int := if L.broken = true then 7 else if n = 0 then 3 else if 200 < n ∨ 60 * (mn - 2) - L.stream.length < n + 2 then 4 else 0
def appR (M : DiskM) (fr : Nat) (L : LogS) (b : List UInt8) : DiskM × Int :=
  if (bareR M fr L).2 = 0 then putsR (bareR M fr L).1 fr (L.bared.add b) (L.stream.length / 60) (chunks L.stream (enc1 b)) else bareR M fr L

/-! without a stop -/
theorem putAt_lt {s : List UInt8} {t k mn : Nat} (ht : t < 2) (hm : 2 < mn) (hs : s.length ≤ 60 * (mn - 2)) (hk : 60 * k < s.length) : putAt s t k < mn := by unfold putAt; split <;> omega
theorem putC_free {M : DiskM} (h : Free M) {fr k : Nat} {L : LogS} (hi : fr + putAt L.stream (1 - L.safe) k < M.now.length) : putC M fr L k = 0 := h.wcode hi (putBytes_len _ _ _)
theorem putM_free {M : DiskM} (h : Free M) {fr k : Nat} {L : LogS} (hi : fr + putAt L.stream (1 - L.safe) k < M.now.length) : putM M fr L k = M.write (fr + putAt L.stream (1 - L.safe) k) (putBytes L.stream L.epoch k) := h.wr hi (putBytes_len _ _ _)
theorem puts_free {M : DiskM} (h : Free M) (fr : Nat) (s : List UInt8) (E t a n : Nat) : Free (puts M fr s E t a n) := (puts_len M fr s E t a n).2.2.2.trans h
theorem putsR_free {M : DiskM} (h : Free M) {fr a mn : Nat} {L : LogS} (hs : L.safe < 2) (hm : 2 < mn) (hl : L.stream.length ≤ 60 * (mn - 2)) (hfr : fr + mn ≤ M.now.length) :
    ∀ n j, (∀ i, i < j + n → 60 * (a + i) < L.stream.length) → putsR (puts M fr L.stream L.epoch (1 - L.safe) a j) fr L (a + j) n = (puts M fr L.stream L.epoch (1 - L.safe) a (j + n), 0) := by
  intro n
  induction n with
  | zero => intro j _; rfl
  | succ n ih =>
    intro j hj
    have hlen := (puts_len M fr L.stream L.epoch (1 - L.safe) a j).1
    have hat := putAt_lt (s := L.stream) (t := 1 - L.safe) (k := a + j) (by omega) hm hl (hj j (by omega))
    have hF := puts_free h fr L.stream L.epoch (1 - L.safe) a j
    simp only [putsR]
    rw [if_pos (putC_free hF (by omega)), putM_free hF (by omega)]
    have := ih (j + 1) (fun i hi => hj i (by omega))
    rw [show j + 1 + n = j + (n + 1) by omega] at this
    exact this
theorem appR_free {M : DiskM} {fr mn : Nat} {L : LogS} {b : List UInt8} (h : Free M) (hok : LogOk M.now fr mn L) (hfr : fr + mn ≤ M.now.length) (hr : L.stream.length + b.length + 2 ≤ 60 * (mn - 2)) : appR M fr L b = (putsAdd M fr L b, 0) := by
  have hb : bareR M fr L = (M, 0) := by unfold bareR; rw [hok.bare, if_neg (by simp)]
  have hbd : L.bared = L := by unfold LogS.bared; rw [hok.bare, if_neg (by simp)]
  unfold appR
  rw [hb, if_pos rfl, hbd]
  have hsafe := hok.safe
  have := putsR_free (a := L.stream.length / 60) (mn := mn) (L := L.add b) h hsafe (by omega) (by show (L.stream ++ enc1 b).length ≤ _; rw [List.length_append, enc1_len]; omega) hfr (chunks L.stream (enc1 b)) 0 (fun i hi => chunks_lt i (by omega))
  rw [Nat.zero_add] at this
  exact this
theorem appC_ok {now : List (Option (List UInt8))} {fr mn : Nat} {L : LogS} (hok : LogOk now fr mn L) {n : Nat} (h1 : 1 ≤ n) (h2 : n ≤ 200) (hr : L.stream.length + n + 2 ≤ 60 * (mn - 2)) : appC L mn n = 0 := by
  unfold appC
  rw [hok.broken, if_neg (by simp), if_neg (by omega), if_neg (by omega)]
end Go.Proofs.Ytldpflijgbcbhaa.lg
