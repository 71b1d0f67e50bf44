/- (*log.Log).Append: what is refused. -/
import Derived.Test.YtldpflijgbcbhaaDoorLgZ
namespace Go.Proofs.YtldpflijgbcbhaaDoor.lg
open Go.RowKit

set_option maxRecDepth 100000 in
set_option maxHeartbeats 2000000 in
theorem append_no (vo : Option Addr) (m vc : Nat) (w : World) (p d fr mn : Nat) (L : LogS) (hs : SizeL w p mn L.stream.length L.recs.length) (hc : CellsL w p d fr mn L) (hbr : L.broken = false) (hmn : mn ≤ 200) (hlen : L.stream.length ≤ 12000) (hm : m ≤ 100000) (hC : appC L mn m ≠ 0) :
    Calls Tryd.prog 37 #[.pointer (some ⟨p, 0, none⟩), .slice vo m vc] w fun e w' => e = .returned (.tuple #[.int .i64 0, errV (appC L mn m)]) ∧ Below w.heap.size w w' := by
  have c9 := hc.c9
  rw [hbr] at c9
  have hrm := room_any w p mn L.stream.length L.recs.length hs hmn hlen
  obtain ⟨R, hR⟩ : ∃ R, R = 60 * (mn - 2) - L.stream.length := ⟨_, rfl⟩
  rw [← hR] at hrm
  have HC : Hid (appC L mn m = if m = 0 then 3 else if 200 < m ∨ R < m + 2 then 4 else 0) := by
    show _ = _
    unfold appC
    rw [hbr, if_neg (by simp), hR]
  have HC0 := Lib.hid hC
  clear hs hc hR hC
  by_cases h0 : m = 0
  · subst h0
    have hc3 : appC L mn 0 = 3 := by rw [HC.out, if_pos rfl]
    rw [hc3, errV_some (by decide)]
    clear hc3 HC HC0 hrm
    go_enter Tryd.func37, Tryd.ntmps37
    go_wp2_with fail
    exact bodyPost_ret (v := .tuple #[.int .i64 0, .iface 102 (.int .i64 3)]) (by simp [results, Tryd.results37, go_sem]) rfl ⟨rfl, Below.refl _ _⟩
  · have h4 : 200 < m ∨ R < m + 2 := by
      have := HC0.out
      rw [HC.out, if_neg h0] at this
      by_cases hx : 200 < m ∨ R < m + 2
      · exact hx
      · rw [if_neg hx] at this; exact absurd rfl this
    have hc4 : appC L mn m = 4 := by rw [HC.out, if_neg h0, if_pos h4]
    rw [hc4, errV_some (by decide)]
    have hm0 : ((m : Int) == 0) = false := by simp; omega
    clear hc4 HC HC0
    by_cases h2 : 200 < m
    · clear h4 hrm
      go_enter Tryd.func37, Tryd.ntmps37
      go_wp2_with fail
      exact bodyPost_ret (v := .tuple #[.int .i64 0, .iface 102 (.int .i64 4)]) (by simp [results, Tryd.results37, go_sem]) rfl ⟨rfl, Below.refl _ _⟩
    · have hrr : R < m + 2 := by omega
      clear h4
      go_enter Tryd.func37, Tryd.ntmps37
      go_wp2_with fail
      refine hrm.mono ?_
      rintro e w2 ⟨rfl, hb2⟩
      have HB2 := Lib.hid hb2
      clear hrm hb2
      go_wp2_with fail
      exact bodyPost_ret (v := .tuple #[.int .i64 0, .iface 102 (.int .i64 4)]) (by simp [results, Tryd.results37, go_sem]) rfl ⟨rfl, HB2.out⟩
end Go.Proofs.YtldpflijgbcbhaaDoor.lg
