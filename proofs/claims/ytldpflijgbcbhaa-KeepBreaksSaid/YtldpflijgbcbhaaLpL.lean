/- LogParts: two logs on one disk, in plain terms. -/
import Derived.Test.YtldpflijgbcbhaaLgM
namespace Go.Proofs.Ytldpflijgbcbhaa.lp
open Go.RowKit Go.Proofs.Ytldpflijgbcbhaa.lg

theorem ok_apart {now now' : List (Option (List UInt8))} {fr mn : Nat} {L : LogS} (h : LogOk now fr mn L) (e : blkOf now' fr mn = blkOf now fr mn) : LogOk now' fr mn L :=
  ⟨h.recs, h.each, h.room, by rw [e]; exact h.cons, by rw [e]; exact h.holds, h.safe, h.bare, h.broken, h.many⟩

structure LP (M : DiskM) (a b : LogS) (i : Nat) : Prop where
  oka : LogOk M.now 0 30 a
  okb : LogOk M.now 30 30 b
  len : M.now.length = 60
  free : Free M
  ea : a.epoch = 1
  eb : b.epoch = 1
  la : a.stream.length ≤ 3 + 92 * i
  lb : b.stream.length ≤ 92 * i
  steps : M.steps ≤ 100 + 10 * i
  since : M.since.length ≤ 100 + 10 * i
theorem chunks_le {s x : List UInt8} (h : x.length ≤ 92) : chunks s x ≤ 3 := by unfold chunks; rw [List.length_append]; omega
theorem LP.addA {M : DiskM} {a b : LogS} {i : Nat} (h : LP M a b i) (hi : i < 12) {r : List UInt8} (h1 : 1 ≤ r.length) (h2 : r.length ≤ 90) : LP (putsAdd M 0 a r) (a.add r) b (i + 1) := by
  have hla := h.la
  have hx : (enc1 r).length ≤ 92 := by rw [enc1_len]; omega
  have hc := chunks_le (s := a.stream) hx
  obtain ⟨p1, p2, p3, p4⟩ := puts_len M 0 (a.stream ++ enc1 r) a.epoch (1 - a.safe) (a.stream.length / 60) (chunks a.stream (enc1 r))
  have hst := h.steps
  have hsi := h.since
  have hs := h.oka.safe
  refine ⟨ok_append h.oka (by rw [h.ea]; omega) (by rw [h.len]; omega) h1 (by omega) (by omega), ok_apart h.okb (puts_apart (mn := 30) (by omega) (by omega) (by omega) (by rw [List.length_append, enc1_len]; omega) _ (fun j hj => chunks_lt j hj)), p1.trans h.len, p4.trans h.free, h.ea, h.eb, ?_, ?_, ?_, ?_⟩
  · show (a.stream ++ enc1 r).length ≤ _; rw [List.length_append]; omega
  · have := h.lb; omega
  · show (puts _ _ _ _ _ _ _).steps ≤ _; omega
  · show (puts _ _ _ _ _ _ _).since.length ≤ _; omega
theorem LP.addB {M : DiskM} {a b : LogS} {i : Nat} (h : LP M a b i) (hi : i < 12) {r : List UInt8} (h1 : 1 ≤ r.length) (h2 : r.length ≤ 90) : LP (putsAdd M 30 b r) a (b.add r) (i + 1) := by
  have hlb := h.lb
  have hx : (enc1 r).length ≤ 92 := by rw [enc1_len]; omega
  have hc := chunks_le (s := b.stream) hx
  obtain ⟨p1, p2, p3, p4⟩ := puts_len M 30 (b.stream ++ enc1 r) b.epoch (1 - b.safe) (b.stream.length / 60) (chunks b.stream (enc1 r))
  have hst := h.steps
  have hsi := h.since
  have hs := h.okb.safe
  refine ⟨ok_apart h.oka (puts_apart (mn := 30) (by omega) (by omega) (by omega) (by rw [List.length_append, enc1_len]; omega) _ (fun j hj => chunks_lt j hj)), ok_append h.okb (by rw [h.eb]; omega) (by rw [h.len]; omega) h1 (by omega) (by omega), p1.trans h.len, p4.trans h.free, h.ea, h.eb, ?_, ?_, ?_, ?_⟩
  · have := h.la; omega
  · show (b.stream ++ enc1 r).length ≤ _; rw [List.length_append]; omega
  · show (puts _ _ _ _ _ _ _).steps ≤ _; omega
  · show (puts _ _ _ _ _ _ _).since.length ≤ _; omega
/-- made safe: what is opened is what was appended -/
theorem LP.opened {M : DiskM} {a b : LogS} {i : Nat} (h : LP M a b i) : (openS (blkOf M.now 0 30) 30).recs = a.recs ∧ (openS (blkOf M.now 30 30) 30).recs = b.recs := by
  have ha := ok_open (ok_sync h.oka) rfl
  have hb := ok_open (ok_sync h.okb) rfl
  exact ⟨ha.1, hb.1⟩
end Go.Proofs.Ytldpflijgbcbhaa.lp
