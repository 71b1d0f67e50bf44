/- Balances as arguments, opened; their places are in bounds. -/
import Derived.Test.YtbhndnjlplibmaaOpG
import Derived.Test.YtbhndnjlplibmaaLo1
namespace Go.Proofs.Ytbhndnjlplibmaa.lg
open Go.ChangeShapes Go.WideShapes Go.ChangeAt Go.RowKit Go.Deep

theorem cellsBl : Try.prog.cellsOf 43 = 4 := by kernel_rfl
section
variable {H : Type} {enc : TypeId × Value → H} {w : World} {base : Nat} {spare : Nat → Bool} {held : Bool}
def balOk (y : BalM) : Prop := plOk (plOf y) ∧ (-9223372036854775808 ≤ y.amt ∧ y.amt ≤ 9223372036854775807)
theorem open_bal {fuel : Nat} {cs : List Value} {x : DataW H × List MemPlace} (h : DataW.trod enc Try.prog w base spare held fuel 43 cs = some x) :
    ∃ y : BalM, cs = [.int .i64 y.ent, .string y.acc, .string y.cur, .int .i64 y.amt] ∧ balOk y := by
  obtain ⟨xs, n, _, rfl, hl, hxl, hf⟩ := DataW.trod_struct Try.underlying43 h
  rw [cellsBl] at hl
  obtain ⟨c0, c1, c2, c3, rfl⟩ := list4 hl
  obtain ⟨y0, y1, y2, y3, rfl⟩ := list4 (hxl.trans (show _ = 4 from rfl))
  have k0 := hf 0 _ rfl
  have k1 := hf 1 _ rfl
  have k2 := hf 2 _ rfl
  have k3 := hf 3 _ rfl
  simp [cellsI] at k0
  simp [cellsStr] at k1
  simp [cellsStr] at k2
  simp [cellsI] at k3
  obtain ⟨n0, e0, rfl, w0⟩ := DataW.trod_int Try.underlying3 k0
  obtain ⟨s1, e1, rfl, m1⟩ := DataW.trod_string Try.underlying9 k1
  obtain ⟨s2, e2, rfl, m2⟩ := DataW.trod_string Try.underlying9 k2
  obtain ⟨n3, e3, rfl, w3⟩ := DataW.trod_int Try.underlying3 k3
  simp only [List.cons.injEq, and_true] at e0 e1 e2 e3
  subst e0 e1 e2 e3
  exact ⟨⟨n0, s1, s2, n3⟩, rfl, ⟨int_of_wf w0, m1, m2⟩, int_of_wf w3⟩
end
set_option maxRecDepth 100000 in
/-- balances -/
theorem open_balances {H : Type} {enc : TypeId × Value → H} {W : World} {base : Nat} {v : Value} {d : DataW H} {p : List MemPlace} (hv : Value.okWide Try.prog W .any base 39 v) (h : DataW.Trod enc Try.prog W 0 (fun _ => true) true 39 v d p) :
    ∃ (ao : Option Addr) (cap : Nat) (T : List BalM), v = .slice ao T.length cap ∧ BalsAt W ao T ∧ (∀ y ∈ T, balOk y) ∧ T.length ≤ maxLen := by
  obtain ⟨a0, len0, cap0, rfl⟩ := okWide_slice Try.underlying39 hv
  obtain ⟨fuel, hf⟩ := h
  rcases open_slice Try.underlying39 hf with ⟨hcs, _⟩ | ⟨a, len, cap, m, n, D, Pl, hcs, _, hl, hm, hmm, _, hi⟩
  · simp [Value.cells] at hcs
    obtain ⟨rfl, rfl, rfl⟩ := hcs
    exact ⟨none, 0, [], rfl, Or.inl rfl, fun y hy => (by cases hy), Nat.zero_le _⟩
  · simp [Value.cells] at hcs
    obtain ⟨rfl, rfl, rfl⟩ := hcs
    have hlm : len0 ≤ m := by rw [hmm]; split <;> omega
    rw [cellsBl] at hi
    have hone : ∀ i, i < len0 → ∃ y : BalM, W.cells? 0 (a.add (i * 4)) 4 = some [.int .i64 y.ent, .string y.acc, .string y.cur, .int .i64 y.amt] ∧ balOk y := fun i h' => by
      obtain ⟨cs', h1, h2⟩ := hi i (by omega)
      obtain ⟨y, rfl, hy⟩ := open_bal h2
      exact ⟨y, h1, hy⟩
    obtain ⟨f, hf⟩ := choose_lt hone
    have hlen : ((List.range len0).map f).length = len0 := by simp
    refine ⟨some a, cap0, (List.range len0).map f, by rw [hlen], ?_, fun y hy => ?_, by rw [hlen]; exact Nat.le_trans hl hm⟩
    · rcases Nat.eq_zero_or_pos len0 with h0 | h0
      · subst h0; exact Or.inl rfl
      · have h00 := (hf 0 h0).1
        rw [Nat.zero_mul] at h00
        obtain ⟨b, off, rfl, hb⟩ := spot_none h00 (by omega)
        refine Or.inr ⟨b, off, rfl, hb, fun i y hy => ?_⟩
        obtain ⟨hlt, rfl⟩ := range_get f len0 i y hy
        obtain ⟨_, hc⟩ := place_cells (hf i hlt).1
        exact ⟨hc 0 (by omega), hc 1 (by omega), hc 2 (by omega), hc 3 (by omega)⟩
    · obtain ⟨i, hi', rfl⟩ := List.mem_map.1 hy
      exact (hf i (List.mem_range.1 hi')).2
end Go.Proofs.Ytbhndnjlplibmaa.lg
