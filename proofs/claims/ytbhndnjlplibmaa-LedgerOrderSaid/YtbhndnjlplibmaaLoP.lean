/- LedgerOrder: merging is adding: for every three lists of balances the law answers true, and they read as they did. No condition. -/
import Derived.Test.YtbhndnjlplibmaaLo2
import Derived.Test.YtbhndnjlplibmaaOpR
import Derived.Test.YtbhndnjlplibmaaRows
import Derived.ProofKit
import Derived.OpenShut
import Derived.SizedLaws
namespace Go.Proofs.Ytbhndnjlplibmaa.lg
open Go.ChangeShapes Go.WideShapes Go.ChangeAt Go.RowKit

theorem own : ownKnob Try.prog.godebug = none := by kernel_rfl
theorem readsBals : Try.prog.readableRec 39 = true := by kernel_rfl
theorem laidOut : laidOutB Try.prog = true := by kernel_rfl

set_option maxRecDepth 100000 in
theorem lifted (os : Os) (started : os.Started) (H : Type) (enc : TypeId × Value → H) :
    ReturnsInHanded {} Try.checked os 6 .any (Rows.ledgerOrderSpec.pre6 enc Try.prog Try.f6 Rows.ledgerOrderRow.domain false) (Rows.ledgerOrderSpec.post enc Try.prog Try.f6 false true false false) := by
  refine returnsInHanded_of_change_sized (C := Try.checked) own started (by kernel_rfl) Try.func6
    (ChangeSpec.witness6 (enc := enc) (C := Try.checked) false ⟨#[], #[.slice none 0 0, .slice none 0 0, .slice none 0 0], []⟩ 8 (by kernel_rfl) (by kernel_rfl) (by kernel_rfl) (by kernel_rfl)) ?_
  intro W base args ds gs before hval0 hW _ hsz0 _
  have hval : ∀ (j : Nat) t v, Try.f6.params[j]? = some t → args[j]? = some v → Value.okWide Try.prog W .any base t v := hval0
  have hW' := hW
  obtain ⟨p, q, hA0, hV, rfl, hfz, hnd⟩ := hW
  have hA : DataW.TrodAll enc Try.prog W 0 (fun _ => true) true Try.f6.params.toList args.toList ds p := hA0
  rw [Try.params6] at hA hval
  obtain ⟨v0, vs0, d0, ds0, p0, q0, hargs, rfl, rfl, h0, r0⟩ := trodAll_cons hA
  obtain ⟨v1, vs1, d1, ds1, p1, q1, rfl, rfl, rfl, h1, r1⟩ := trodAll_cons r0
  obtain ⟨v2, vs2, d2, ds2, p2, q2, rfl, rfl, rfl, h2, r2⟩ := trodAll_cons r1
  obtain ⟨rfl, rfl, rfl⟩ := trodAll_nil r2
  obtain rfl : args = #[v0, v1, v2] := by cases args; simp_all
  obtain ⟨rfl, rfl⟩ := trodVars_none hV
  have hlt : ∀ x ∈ p0 ++ (p1 ++ (p2 ++ [])), x.block < W.heap.size := fun x hx => by
    have := hW'.lt x (by simpa using hx)
    exact this
  obtain ⟨ao, ca, a, rfl, ha, hka, hla⟩ := open_balances (hval 0 39 v0 rfl rfl) h0
  obtain ⟨bo, cb, b, rfl, hb, hkb, hlb⟩ := open_balances (hval 1 39 v1 rfl rfl) h1
  obtain ⟨co, cc, c, rfl, hc, hkc, hlc⟩ := open_balances (hval 2 39 v2 rfl rfl) h2
  clear hA0 hval0
  refine (law_any ao ca a bo cb b co cc c W ha hb hc (fun x hx => (hka x hx).1) (fun x hx => (hkb x hx).1) (fun x hx => (hkc x hx).1) hla hlb hlc).mono fun e W' ⟨he, hbw⟩ => ?_
  subst he
  refine ⟨_, rfl, _, _, _, [], p0 ++ (p1 ++ (p2 ++ [])), [], hW', trodAll_cons_mk (shut_bool Try.underlying4 _) trodAll_mk0, ?_, rfl, hbw.frame _, fun h => by cases h⟩
  exact trodAll_cons_mk (Below.trod laidOut readsBals (of_decide_eq_true (by kernel_rfl)) h0 hbw (fun x hx => hlt x (by simp [hx]))) (trodAll_cons_mk (Below.trod laidOut readsBals (of_decide_eq_true (by kernel_rfl)) h1 hbw (fun x hx => hlt x (by simp [hx]))) (trodAll_cons_mk (Below.trod laidOut readsBals (of_decide_eq_true (by kernel_rfl)) h2 hbw (fun x hx => hlt x (by simp [hx]))) trodAll_mk0))

theorem proved : Rows.LedgerOrderSaid :=
  OpenClaim.holds_of_wide 6 Try.f6 rfl rfl rfl rfl rfl rfl rfl ⟨rfl, rfl, rfl, rfl, rfl⟩ rfl rfl rfl rfl rfl (by kernel_rfl) Try.func6 (by kernel_rfl)
    (of_decide_eq_true (by kernel_rfl)) (by unfold Func.isWrapper; first | (rw [if_pos (by decide +kernel)]; kernel_rfl) | (rw [if_neg (by decide +kernel)]; exact ⟨rfl, rfl⟩))
    (fun os started H enc _ => lifted os started H enc)
#print axioms proved
end Go.Proofs.Ytbhndnjlplibmaa.lg
