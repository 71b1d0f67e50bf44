/- Fail and Write of a disk. -/
import Derived.Test.YtldpflijgbcbhaaDoorBlk4
namespace Go.Proofs.YtldpflijgbcbhaaDoor
open Go.RowKit

/-- a change in the disk's own block alone: what it is made of stays -/
theorem own_end {w w' : World} {S : Nat → Prop} {d : Nat} {M M' : DiskM} {bn cn bs cs : Nat} {sv : Value} {ns ss xs : List Value} (h : DiskIs w S d M bn cn bs cs sv ns ss xs) (hs : Since d w w')
    (ho : Own w' d (.slice (some ⟨bn, 0, none⟩) M'.now.length cn) (.slice (some ⟨bs, 0, none⟩) M'.safe.length cs) sv M'.steps M'.stop) (e1 : M'.now = M.now) (e2 : M'.safe = M.safe) (e3 : M'.since = M.since) (hst : M'.stop ≤ 9223372036854775807 ∧ -1 ≤ M'.stop) :
    Only S w w' ∧ DiskAt w' (Grow S w w') d M' := by
  have hk : ∀ k, S k → k ≠ d → w'.heap[k]? = w.heap[k]? := fun k hk hne => hs.only.block k (h.dom k hk) hne
  refine ⟨hs.only.mono (fun k _ hk => by rw [hk]; exact h.sd), bn, cn, bs, cs, sv, ns, ss, xs, ?_⟩
  refine ⟨ho.heap, Or.inl h.sd, ?_, ?_, ?_, by rw [e1, e2]; exact h.slen, h.ne, by rw [e1]; exact h.pos, by rw [e1]; exact h.le, ?_, hst⟩
  · rw [e1]; exact h.now.later hk (fun k h => Or.inl h)
  · rw [e2]; exact h.safe.later hk (fun k h => Or.inl h)
  · rw [e1, e3]; exact h.since.later hk (fun k h => Or.inl h)
  · intro k hk
    rcases hk with hk | ⟨_, hk⟩
    · exact Nat.lt_of_lt_of_le (h.dom k hk) hs.only.size
    · exact hk

set_option maxHeartbeats 2000000 in
theorem fail_any (n : Int) (w : World) (S : Nat → Prop) (d : Nat) (M : DiskM) (h : DiskAt w S d M) (hn : n ≤ 9223372036854775807) :
    Calls Tryd.prog 33 #[.pointer (some ⟨d, 0, none⟩), .int .i64 n] w fun e w' => e = .returned (.tuple #[]) ∧ Only S w w' ∧ DiskAt w' (Grow S w w') d (M.fail n) := by
  obtain ⟨bn, cn, bs, cs, sv, ns, ss, xs, h⟩ := h
  have how : Own w d _ _ _ _ _ := ⟨h.self⟩
  have c4 := how.c4
  have f4 := how.free 4
  by_cases hc : n ≤ -1
  · have hfin := own_end (M' := M.fail n) h ((Since.refl d w).set 4 (.int .i64 (-1))) (by have := how.set4 (-1); simpa [DiskM.fail, hc] using this) rfl rfl rfl (by simp [DiskM.fail, hc])
    clear h how
    go_enter Tryd.func33, Tryd.ntmps33
    go_wp2_with fail
    go_end0
    exact ⟨rfl, hfin⟩
  · have hfin := own_end (M' := M.fail n) h ((Since.refl d w).set 4 (.int .i64 n)) (by have := how.set4 n; simpa [DiskM.fail, hc] using this) rfl rfl rfl (by simp [DiskM.fail, hc]; omega)
    clear h how
    go_enter Tryd.func33, Tryd.ntmps33
    go_wp2_with fail
    go_end0
    exact ⟨rfl, hfin⟩
end Go.Proofs.YtldpflijgbcbhaaDoor
