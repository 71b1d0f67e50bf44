/- The log and a disk that may stop, in plain terms: what making it empty, putting chunks and appending do. No program here. -/
import Derived.Test.YtldpflijgbcbhaaDoorLgF
namespace Go.Proofs.YtldpflijgbcbhaaDoor.lg
open Go.RowKit

def whereC (n : Nat) (fr mn : Int) : Int := if mn < 1 ∨ 200 < mn ∨ fr < 0 ∨ (n : Int) - mn < fr then 1 else 0

/-- blocks from i on, n of them, are written with nothing, as far as the disk goes -/
def fmtR (M : DiskM) (fr i : Nat) : Nat → DiskM × Int
  | 0 => (M.fl, M.fcode)
  | n + 1 => if M.wcode ((fr + i : Nat) : Int) 0 = 0 then fmtR (M.wr ((fr + i : Nat) : Int) []) fr (i + 1) n else (M, M.wcode ((fr + i : Nat) : Int) 0)
theorem fmtGo_free {M : DiskM} (h : Free M) (fr : Nat) (n : Nat) : Free (fmtGo M fr n) := (fmtGo_len M fr n).2.2.2.trans h
theorem fmtR_free {M : DiskM} (h : Free M) (fr : Nat) : ∀ n i, fr + i + n ≤ M.now.length → fmtR (fmtGo M fr i) fr i n = (fmtAll M fr (i + n), 0) := by
  intro n
  induction n with
  | zero =>
    intro i _
    simp only [fmtR, fmtAll, Nat.add_zero]
    rw [(fmtGo_free h fr i).fcode, (fmtGo_free h fr i).fl]
  | succ n ih =>
    intro i hi
    have hl := (fmtGo_len M fr i).1
    simp only [fmtR]
    rw [if_pos ((fmtGo_free h fr i).wcode (by omega) (by omega)), (fmtGo_free h fr i).wr (by omega) (by simp)]
    have := ih (i + 1) (by omega)
    rw [show i + 1 + n = i + (n + 1) by omega] at this
    exact this

/-! chunks are put -/
def putC (M : DiskM) (fr : Nat) (L : LogS) (k : Nat) : Int := M.wcode ((fr + putAt L.stream (1 - L.safe) k : Nat) : Int) (putBytes L.stream L.epoch k).length
def putM (M : DiskM) (fr : Nat) (L : LogS) (k : Nat) : DiskM := M.wr ((fr + putAt L.stream (1 - L.safe) k : Nat) : Int) (putBytes L.stream L.epoch k)
/-- chunks from k on, n of them, as far as the disk goes -/
def putsR (M : DiskM) (fr : Nat) (L : LogS) (k : Nat) : Nat → DiskM × Int
  | 0 => (M, 0)
  | n + 1 => if putC M fr L k = 0 then putsR (putM M fr L k) fr L (k + 1) n else (putM M fr L k, putC M fr L k)
theorem putM_len (M : DiskM) (fr : Nat) (L : LogS) (k : Nat) : (putM M fr L k).now.length = M.now.length ∧ (putM M fr L k).steps ≤ M.steps + 1 ∧ (putM M fr L k).since.length ≤ M.since.length + 1 := by
  unfold putM DiskM.wr
  split
  · exact ⟨by simp [DiskM.write], Nat.le_refl _, by simp [DiskM.write]⟩
  · exact ⟨rfl, by omega, by omega⟩
theorem putsR_len (fr : Nat) (L : LogS) : ∀ n k M, (putsR M fr L k n).1.now.length = M.now.length ∧ (putsR M fr L k n).1.steps ≤ M.steps + n ∧ (putsR M fr L k n).1.since.length ≤ M.since.length + n := by
  intro n
  induction n with
  | zero => intro k M; exact ⟨rfl, Nat.le_refl _, Nat.le_refl _⟩
  | succ n ih =>
    intro k M
    obtain ⟨h1, h2, h3⟩ := putM_len M fr L k
    simp only [putsR]
    split
    · obtain ⟨g1, g2, g3⟩ := ih (k + 1) (putM M fr L k)
      exact ⟨g1.trans h1, by omega, by omega⟩
    · exact ⟨h1, by show (putM M fr L k).steps ≤ _; omega, by show (putM M fr L k).since.length ≤ _; omega⟩
/-- what is safe is put where the last chunk belongs, if it stands in a block of its own -/
def bareR (M : DiskM) (fr : Nat) (L : LogS) : DiskM × Int :=
  if L.bare = true then (if putC M fr L (L.stream.length / 60) = 0 then ((putM M fr L (L.stream.length / 60)).fl, (putM M fr L (L.stream.length / 60)).fcode) else (putM M fr L (L.stream.length / 60), putC M fr L (L.stream.length / 60))) else (M, 0)
def LogS.bared (L : LogS) : LogS := if L.bare = true then { L with safe := 1 - L.safe, bare := false } else L
/-- what is refused -/
def appC (L : LogS) (mn n : Nat) : Int := if L.broken = true then 7 else if n = 0 then 3 else if 200 < n ∨ 60 * (mn - 2) - L.stream.length < n + 2 then 4 else 0
def appR (M : DiskM) (fr : Nat) (L : LogS) (b : List UInt8) : DiskM × Int :=
  if (bareR M fr L).2 = 0 then putsR (bareR M fr L).1 fr (L.bared.add b) (L.stream.length / 60) (chunks L.stream (enc1 b)) else bareR M fr L

/-! without a stop -/
theorem putAt_lt {s : List UInt8} {t k mn : Nat} (ht : t < 2) (hm : 2 < mn) (hs : s.length ≤ 60 * (mn - 2)) (hk : 60 * k < s.length) : putAt s t k < mn := by unfold putAt; split <;> omega
theorem putC_free {M : DiskM} (h : Free M) {fr k : Nat} {L : LogS} (hi : fr + putAt L.stream (1 - L.safe) k < M.now.length) : putC M fr L k = 0 := h.wcode hi (putBytes_len _ _ _)
theorem putM_free {M : DiskM} (h : Free M) {fr k : Nat} {L : LogS} (hi : fr + putAt L.stream (1 - L.safe) k < M.now.length) : putM M fr L k = M.write (fr + putAt L.stream (1 - L.safe) k) (putBytes L.stream L.epoch k) := h.wr hi (putBytes_len _ _ _)
theorem puts_free {M : DiskM} (h : Free M) (fr : Nat) (s : List UInt8) (E t a n : Nat) : Free (puts M fr s E t a n) := (puts_len M fr s E t a n).2.2.2.trans h
theorem putsR_free {M : DiskM} (h : Free M) {fr a mn : Nat} {L : LogS} (hs : L.safe < 2) (hm : 2 < mn) (hl : L.stream.length ≤ 60 * (mn - 2)) (hfr : fr + mn ≤ M.now.length) :
    ∀ n j, (∀ i, i < j + n → 60 * (a + i) < L.stream.length) → putsR (puts M fr L.stream L.epoch (1 - L.safe) a j) fr L (a + j) n = (puts M fr L.stream L.epoch (1 - L.safe) a (j + n), 0) := by
  intro n
  induction n with
  | zero => intro j _; rfl
  | succ n ih =>
    intro j hj
    have hlen := (puts_len M fr L.stream L.epoch (1 - L.safe) a j).1
    have hat := putAt_lt (s := L.stream) (t := 1 - L.safe) (k := a + j) (by omega) hm hl (hj j (by omega))
    have hF := puts_free h fr L.stream L.epoch (1 - L.safe) a j
    simp only [putsR]
    rw [if_pos (putC_free hF (by omega)), putM_free hF (by omega)]
    have := ih (j + 1) (fun i hi => hj i (by omega))
    rw [show j + 1 + n = j + (n + 1) by omega] at this
    exact this
theorem appR_free {M : DiskM} {fr mn : Nat} {L : LogS} {b : List UInt8} (h : Free M) (hok : LogOk M.now fr mn L) (hfr : fr + mn ≤ M.now.length) (hr : L.stream.length + b.length + 2 ≤ 60 * (mn - 2)) : appR M fr L b = (putsAdd M fr L b, 0) := by
  have hb : bareR M fr L = (M, 0) := by unfold bareR; rw [hok.bare, if_neg (by simp)]
  have hbd : L.bared = L := by unfold LogS.bared; rw [hok.bare, if_neg (by simp)]
  unfold appR
  rw [hb, if_pos rfl, hbd]
  have hsafe := hok.safe
  have := putsR_free (a := L.stream.length / 60) (mn := mn) (L := L.add b) h hsafe (by omega) (by show (L.stream ++ enc1 b).length ≤ _; rw [List.length_append, enc1_len]; omega) hfr (chunks L.stream (enc1 b)) 0 (fun i hi => chunks_lt i (by omega))
  rw [Nat.zero_add] at this
  exact this
theorem appC_ok {now : List (Option (List UInt8))} {fr mn : Nat} {L : LogS} (hok : LogOk now fr mn L) {n : Nat} (h1 : 1 ≤ n) (h2 : n ≤ 200) (hr : L.stream.length + n + 2 ≤ 60 * (mn - 2)) : appC L mn n = 0 := by
  unfold appC
  rw [hok.broken, if_neg (by simp), if_neg (by omega), if_neg (by omega)]
end Go.Proofs.YtldpflijgbcbhaaDoor.lg
