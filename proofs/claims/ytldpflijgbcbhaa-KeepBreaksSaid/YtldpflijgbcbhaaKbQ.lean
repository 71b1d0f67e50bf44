/- KeepBreaks: what was saved is there, whatever breaks: for every list of events the law answers true, and the list reads as it did. No condition. -/
import Derived.Test.YtldpflijgbcbhaaKbW
import Derived.Test.YtldpflijgbcbhaaRows
import Derived.ProofKit
import Derived.OpenShut
import Derived.SizedLaws
import Derived.Deep.Matrix
namespace Go.Proofs.Ytldpflijgbcbhaa.lg
open Go.ChangeShapes Go.WideShapes Go.ChangeAt Go.RowKit

theorem own : ownKnob Try.prog.godebug = none := by kernel_rfl
theorem readsRows : Try.prog.readableRec 55 = true := by kernel_rfl
theorem laidOut : laidOutB Try.prog = true := by kernel_rfl
theorem cellsIs : Try.prog.cellsOf 42 = 1 := by kernel_rfl
theorem cellsInt : Try.prog.cellsOf 3 = 1 := by kernel_rfl

set_option maxRecDepth 100000 in
theorem open_rows {H : Type} {enc : TypeId × Value → H} {W : World} {base : Nat} {v : Value} {d : DataW H} {p : List MemPlace} (hv : Value.okWide Try.prog W .any base 55 v) (h : DataW.Trod enc Try.prog W 0 (fun _ => true) true 55 v d p) :
    ∃ (ao : Option Addr) (cap : Nat) (zss : List (List Int)), v = .slice ao zss.length cap ∧ IntRows W ao zss ∧ zss.length ≤ maxLen := by
  obtain ⟨a0, len, cap, rfl⟩ := okWide_slice Try.underlying55 hv
  obtain ⟨fuel, hf⟩ := h
  rcases Go.Deep.open_int_rows Try.underlying55 Try.underlying42 Try.underlying3 cellsIs cellsInt hf with ⟨hcs, hx⟩ | ⟨a, len', cap', A, L, C, Z, hcs, _, hl, hm, hx, hrow⟩
  · simp [Value.cells] at hcs
    obtain ⟨rfl, rfl, rfl⟩ := hcs
    exact ⟨none, 0, [], rfl, Or.inl rfl, Nat.zero_le _⟩
  · simp [Value.cells] at hcs
    obtain ⟨rfl, rfl, rfl⟩ := hcs
    have hlen : ((List.range len).map fun r => (Z r).take (L r)).length = len := by simp
    refine ⟨some a, cap, (List.range len).map fun r => (Z r).take (L r), by rw [hlen], ?_, by rw [hlen]; omega⟩
    rcases Nat.eq_zero_or_pos len with h0 | h0
    · subst h0; exact Or.inl rfl
    · have hc0 := (hrow 0 (by omega)).1
      obtain ⟨b, off, spot⟩ := a
      have hspot : spot = none := by simpa [Addr.add] using World.cell?_spot hc0
      subst hspot
      refine Or.inr ⟨b, off, rfl, ?_, fun i r hr => ?_⟩
      · rcases Nat.lt_or_ge b W.heap.size with h1 | h1
        · exact h1
        · simp [World.cell?, Addr.add, Array.getElem?_eq_none h1] at hc0
      · rw [List.getElem?_map] at hr
        cases hri : (List.range len)[i]? with
        | none => rw [hri] at hr; cases hr
        | some k =>
          obtain ⟨hlt, hke⟩ := List.getElem?_eq_some_iff.1 hri
          rw [List.length_range] at hlt
          rw [List.getElem_range] at hke
          subst hke
          rw [hri] at hr
          simp only [Option.map_some, Option.some.injEq] at hr
          subst hr
          obtain ⟨c1, c2, c3, c4, c5, c6, c7⟩ := hrow i (by omega)
          have hrl : ((Z i).take (L i)).length = L i := by simp; omega
          refine ⟨A i, C i, by rw [hrl]; rw [addr_add] at c1; exact c1, ?_, ⟨by rw [hrl]; exact c2, by rw [hrl]; unfold maxLen at c3; omega⟩, fun z hz => ?_⟩
          · rcases Nat.eq_zero_or_pos (L i) with hL | hL
            · exact Or.inl (by rw [hL]; rfl)
            · cases hA : A i with
              | none => have := c6 hA; omega
              | some a' =>
                obtain ⟨_, h7⟩ := c7 a' hA
                have h70 := h7 0 (by omega)
                obtain ⟨b', off', spot'⟩ := a'
                have hspot' : spot' = none := by simpa [Addr.add] using World.cell?_spot h70
                subst hspot'
                refine Or.inr ⟨b', off', rfl, fun j hj => ?_⟩
                have hjl : j < L i := by rwa [hrl] at hj
                have := h7 j (by omega)
                rw [addr_add] at this
                rw [this, List.getD_eq_getElem?_getD, List.getD_eq_getElem?_getD, List.getElem?_take_of_lt hjl]
          · have := c5 z (List.mem_of_mem_take hz)
            simpa [Lit.wf, IntKind.min, IntKind.max, IntKind.signed, IntKind.bits] using this

set_option maxRecDepth 100000 in
theorem lifted (os : Os) (started : os.Started) (H : Type) (enc : TypeId × Value → H) :
    ReturnsInHanded {} Try.checked os 8 .any (Rows.keepBreaksSpec.pre6 enc Try.prog Try.f8 Rows.keepBreaksRow.domain false) (Rows.keepBreaksSpec.post enc Try.prog Try.f8 false true false false) := by
  refine returnsInHanded_of_change_sized (C := Try.checked) own started (by kernel_rfl) Try.func8
    (ChangeSpec.witness6 (enc := enc) (C := Try.checked) false ⟨#[], #[.slice none 0 0], []⟩ 8 (by kernel_rfl) (by kernel_rfl) (by kernel_rfl) (by kernel_rfl)) ?_
  intro W base args ds gs before hval0 hW _ hsz0 _
  have hval : ∀ (j : Nat) t v, Try.f8.params[j]? = some t → args[j]? = some v → Value.okWide Try.prog W .any base t v := hval0
  have hW' := hW
  obtain ⟨p, q, hA0, hV, rfl, hfz, hnd⟩ := hW
  have hA : DataW.TrodAll enc Try.prog W 0 (fun _ => true) true Try.f8.params.toList args.toList ds p := hA0
  rw [Try.params8] at hA hval
  obtain ⟨v0, vs0, d0, ds0, p0, q0, hargs, rfl, rfl, h0, r0⟩ := trodAll_cons hA
  obtain ⟨rfl, rfl, rfl⟩ := trodAll_nil r0
  obtain rfl : args = #[v0] := by cases args; simp_all
  obtain ⟨rfl, rfl⟩ := trodVars_none hV
  have hlt : ∀ x ∈ p0 ++ [], x.block < W.heap.size := fun x hx => by
    have := hW'.lt x (by simpa using hx)
    exact this
  obtain ⟨ao, kcap, zss, rfl, hz, hkl⟩ := open_rows (hval 0 55 v0 rfl rfl) h0
  clear hA0 hval0
  refine (breaks_any ao kcap zss W hz (by unfold maxLen at hkl; omega)).mono fun e W' ⟨he, hb⟩ => ?_
  subst he
  refine ⟨_, rfl, _, _, _, [], p0 ++ [], [], hW', trodAll_cons_mk (shut_bool Try.underlying4 _) trodAll_mk0, ?_, rfl, hb.frame _, fun h => by cases h⟩
  exact trodAll_cons_mk (Below.trod laidOut readsRows (of_decide_eq_true (by kernel_rfl)) h0 hb (fun x hx => hlt x (by simp [hx]))) trodAll_mk0

theorem proved : Rows.KeepBreaksSaid :=
  OpenClaim.holds_of_wide 8 Try.f8 rfl rfl rfl rfl rfl rfl rfl ⟨rfl, rfl, rfl, rfl, rfl⟩ rfl rfl rfl rfl rfl (by kernel_rfl) Try.func8 (by kernel_rfl)
    (of_decide_eq_true (by kernel_rfl)) (by unfold Func.isWrapper; first | (rw [if_pos (by decide +kernel)]; kernel_rfl) | (rw [if_neg (by decide +kernel)]; exact ⟨rfl, rfl⟩))
    (fun os started H enc _ => lifted os started H enc)
#print axioms proved
end Go.Proofs.Ytldpflijgbcbhaa.lg
