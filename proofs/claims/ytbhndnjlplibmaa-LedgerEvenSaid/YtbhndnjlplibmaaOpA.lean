/- Accounts as arguments, opened. -/
import Derived.Test.YtbhndnjlplibmaaOpG
import Derived.Test.YtbhndnjlplibmaaEv2
import Derived.ChangeArms
namespace Go.Proofs.Ytbhndnjlplibmaa.lg
open Go.ChangeShapes Go.WideShapes Go.ChangeAt Go.RowKit Go.Deep

theorem cellsAc : Try.prog.cellsOf 100 = 5 := by kernel_rfl
theorem cellsBo : Try.prog.cellsOf 4 = 1 := by kernel_rfl
theorem acc5 {α : Type} {l : List α} (h : l.length = 5) : ∃ a b c d e, l = [a, b, c, d, e] := by
  match l, h with
  | [a, b, c, d, e], _ => exact ⟨a, b, c, d, e, rfl⟩
section
variable {H : Type} {enc : TypeId × Value → H} {w : World} {base : Nat} {spare : Nat → Bool} {held : Bool}
theorem open_acc {fuel : Nat} {cs : List Value} {x : DataW H × List MemPlace} (h : DataW.trod enc Try.prog w base spare held fuel 100 cs = some x) :
    ∃ y : AccM, cs = [.string y.code, .string y.name, .int .i64 y.kind, .string y.parent, .bool y.money] ∧ y.code.size ≤ maxLen ∧ y.name.size ≤ maxLen := by
  obtain ⟨xs, n, _, rfl, hl, hxl, hf⟩ := DataW.trod_struct Try.underlying100 h
  rw [cellsAc] at hl
  obtain ⟨c0, c1, c2, c3, c4, rfl⟩ := acc5 hl
  obtain ⟨y0, y1, y2, y3, y4, rfl⟩ := acc5 (hxl.trans (show _ = 5 from rfl))
  have k0 := hf 0 _ rfl
  have k1 := hf 1 _ rfl
  have k2 := hf 2 _ rfl
  have k3 := hf 3 _ rfl
  have k4 := hf 4 _ rfl
  simp [cellsStr] at k0
  simp [cellsStr] at k1
  simp [cellsI] at k2
  simp [cellsStr] at k3
  simp [cellsBo] at k4
  obtain ⟨s0, e0, rfl, m0⟩ := DataW.trod_string Try.underlying9 k0
  obtain ⟨s1, e1, rfl, m1⟩ := DataW.trod_string Try.underlying9 k1
  obtain ⟨n2, e2, rfl, w2⟩ := DataW.trod_int Try.underlying3 k2
  obtain ⟨s3, e3, rfl, m3⟩ := DataW.trod_string Try.underlying9 k3
  obtain ⟨b4, e4, rfl⟩ := DataW.trod_bool Try.underlying4 k4
  simp only [List.cons.injEq, and_true] at e0 e1 e2 e3 e4
  subst e0 e1 e2 e3 e4
  exact ⟨⟨s0, s1, n2, s3, b4⟩, rfl, m0, m1⟩
end
set_option maxRecDepth 100000 in
theorem open_accounts {H : Type} {enc : TypeId × Value → H} {W : World} {base : Nat} {v : Value} {d : DataW H} {p : List MemPlace} (hv : Value.okWide Try.prog W .any base 54 v) (h : DataW.Trod enc Try.prog W 0 (fun _ => true) true 54 v d p) :
    ∃ (ao : Option Addr) (cap : Nat) (T : List AccM), v = .slice ao T.length cap ∧ AccsAt W ao T ∧ (∀ y ∈ T, y.code.size ≤ maxLen ∧ y.name.size ≤ maxLen) ∧ T.length ≤ maxLen ∧ T.length ≤ cap := by
  obtain ⟨a0, len0, cap0, rfl⟩ := okWide_slice Try.underlying54 hv
  obtain ⟨fuel, hf⟩ := h
  rcases open_slice Try.underlying54 hf with ⟨hcs, _⟩ | ⟨a, len, cap, m, n, D, Pl, hcs, _, hl, hm, hmm, _, hi⟩
  · simp [Value.cells] at hcs
    obtain ⟨rfl, rfl, rfl⟩ := hcs
    exact ⟨none, 0, [], rfl, Or.inl rfl, fun y hy => (by cases hy), Nat.zero_le _, Nat.le_refl _⟩
  · simp [Value.cells] at hcs
    obtain ⟨rfl, rfl, rfl⟩ := hcs
    have hlm : len0 ≤ m := by rw [hmm]; split <;> omega
    rw [cellsAc] at hi
    have hone : ∀ i, i < len0 → ∃ y : AccM, W.cells? 0 (a.add (i * 5)) 5 = some [.string y.code, .string y.name, .int .i64 y.kind, .string y.parent, .bool y.money] ∧ y.code.size ≤ maxLen ∧ y.name.size ≤ maxLen := fun i h' => by
      obtain ⟨cs', h1, h2⟩ := hi i (by omega)
      obtain ⟨y, rfl, hy⟩ := open_acc h2
      exact ⟨y, h1, hy⟩
    have hinh : Inhabited AccM := ⟨⟨⟨#[]⟩, ⟨#[]⟩, 0, ⟨#[]⟩, false⟩⟩
    obtain ⟨f, hf⟩ := choose_lt hone
    have hlen : ((List.range len0).map f).length = len0 := by simp
    refine ⟨some a, cap0, (List.range len0).map f, by rw [hlen], ?_, fun y hy => ?_, by rw [hlen]; exact Nat.le_trans hl hm, by rw [hlen]; exact hl⟩
    · rcases Nat.eq_zero_or_pos len0 with h0 | h0
      · subst h0; exact Or.inl rfl
      · have h00 := (hf 0 h0).1
        rw [Nat.zero_mul] at h00
        obtain ⟨b, off, rfl, hb⟩ := spot_none h00 (by omega)
        refine Or.inr ⟨b, off, rfl, hb, fun i y hy => ?_⟩
        obtain ⟨hlt, rfl⟩ := range_get f len0 i y hy
        obtain ⟨_, hc⟩ := place_cells (hf i hlt).1
        exact ⟨hc 0 (by omega), hc 1 (by omega), hc 2 (by omega), hc 3 (by omega), hc 4 (by omega)⟩
    · obtain ⟨i, hi', rfl⟩ := List.mem_map.1 hy
      exact (hf i (List.mem_range.1 hi')).2
end Go.Proofs.Ytbhndnjlplibmaa.lg
