/- The law GroupChains answers true, at whatever three parts. No conditions. -/
import Derived.Test.YtbhndnjlplibmaaRows
import Derived.Test.YtbhndnjlplibmaaGroup6
import Derived.OpenShut
namespace Go.Proofs.Ytbhndnjlplibmaa.chains
open Go.ChangeShapes Go.WideShapes Go.ChangeAt Go.RowKit

def three (a b c : Int) : List Hold := [⟨1, 2, a⟩, ⟨2, 3, b⟩, ⟨4, 5, c⟩]

theorem three_ord (a b c : Int) : ord (three a b c) 13 [] = some [1, 2, 3, 4, 5, 6, 7, 8, 9, 10, 11, 12] := by kernel_rfl
theorem three_check (a b c : Int) (h : 1 ≤ a ∧ a ≤ 1000 ∧ 1 ≤ b ∧ b ≤ 1000 ∧ 1 ≤ c ∧ c ≤ 1000) : checkF (three a b c) = 0 := by
  obtain ⟨h1, h2, h3, h4, h5, h6⟩ := h
  have e1 : chkFrom (three a b c) (three a b c) 0 = 0 := by
    have ea : ¬ (entB 1 = false ∨ entB 2 = false ∨ a < 1 ∨ 1000 < a) := by simp [entB]; omega
    have eb : ¬ (entB 2 = false ∨ entB 3 = false ∨ b < 1 ∨ 1000 < b) := by simp [entB]; omega
    have ec : ¬ (entB 4 = false ∨ entB 5 = false ∨ c < 1 ∨ 1000 < c) := by simp [entB]; omega
    have ca : chkOne ((three a b c).take 0) ⟨1, 2, a⟩ = 0 := by rw [chkOne, if_neg ea]; rfl
    have cb : chkOne ((three a b c).take (0 + 1)) ⟨2, 3, b⟩ = 0 := by rw [chkOne, if_neg eb]; rfl
    have cc : chkOne ((three a b c).take (0 + 1 + 1)) ⟨4, 5, c⟩ = 0 := by rw [chkOne, if_neg ec]; rfl
    show chkFrom (three a b c) [⟨1, 2, a⟩, ⟨2, 3, b⟩, ⟨4, 5, c⟩] 0 = 0
    rw [chkFrom, if_pos ca, chkFrom, if_pos cb, chkFrom, if_pos cc, chkFrom]
  have e2 : chk2From (three a b c) (three a b c) 0 = 0 := by
    have ca : hadSum ((three a b c).take (0 + 1)) 2 = a := by simp [three, hadSum]
    have cb : hadSum ((three a b c).take (0 + 1 + 1)) 3 = b := by simp [three, hadSum]
    have cc : hadSum ((three a b c).take (0 + 1 + 1 + 1)) 5 = c := by simp [three, hadSum]
    show chk2From (three a b c) [⟨1, 2, a⟩, ⟨2, 3, b⟩, ⟨4, 5, c⟩] 0 = 0
    rw [chk2From, if_pos (by rw [ca]; omega), chk2From, if_pos (by rw [cb]; omega), chk2From, if_pos (by rw [cc]; omega), chk2From]
  rw [checkF, e1, e2, three_ord, if_neg (by simp [three]), if_neg (by simp), if_neg (by simp), if_neg (by simp)]
theorem three_one (a b c : Int) : let p := partsF (three a b c) 1 [1, 2, 3, 4, 5, 6, 7, 8, 9, 10, 11, 12]; p 0 = 1000 ∧ p 1 = a ∧ p 2 = a * b / 1000 ∧ p 3 = 0 ∧ p 4 = 0 := by
  have h2 : (1000 * a) / 1000 = a := by omega
  refine ⟨?_, ?_, ?_, ?_, ?_⟩ <;> simp [partsF, partsStep, psum, three, h2]
theorem three_two (a b c : Int) : let p := partsF (three a b c) 2 [1, 2, 3, 4, 5, 6, 7, 8, 9, 10, 11, 12]; p 0 = 0 ∧ p 2 = b := by
  have h2 : (1000 * b) / 1000 = b := by omega
  refine ⟨?_, ?_⟩ <;> simp [partsF, partsStep, psum, three, h2]

theorem own : ownKnob Try.prog.godebug = none := by kernel_rfl

set_option maxRecDepth 100000 in
set_option maxHeartbeats 4000000 in
theorem walk_in (a b c : Int) (w : World) (h : 1 ≤ a ∧ a ≤ 1000 ∧ 1 ≤ b ∧ b ≤ 1000 ∧ 1 ≤ c ∧ c ≤ 1000) :
    Calls Try.prog 4 #[.int .i64 a, .int .i64 b, .int .i64 c] w fun e w' => e = .returned (.bool true) ∧ Below w.heap.size w w' := by
  have hchk := Lib.hid (three_check a b c h)
  obtain ⟨h1, h2, h3, h4, h5, h6⟩ := h
  obtain ⟨w0, hw0⟩ : ∃ w0, w0 = w.alloc (.cells #[.int .i64 1, .int .i64 2, .int .i64 a, .int .i64 2, .int .i64 3, .int .i64 b, .int .i64 4, .int .i64 5, .int .i64 c] 27) := ⟨_, rfl⟩
  have hsz0 : w0.heap.size = w.heap.size + 1 := by rw [hw0]; simp
  have hcells : ∀ i h, (three a b c)[i]? = some h →
    w0.cell? ⟨w.heap.size, 0 + i * 3, none⟩ = some (.int .i64 h.e) ∧ w0.cell? ⟨w.heap.size, 0 + i * 3 + 1, none⟩ = some (.int .i64 h.o) ∧ w0.cell? ⟨w.heap.size, 0 + i * 3 + 2, none⟩ = some (.int .i64 h.p) := by
    intro i h hi
    subst hw0
    match i, hi with
    | 0, hi | 1, hi | 2, hi => simp only [three, List.getElem?_cons_zero, List.getElem?_cons_succ] at hi; injection hi with hi; subst hi; exact ⟨by simp, by simp, by simp⟩
    | n + 3, hi => simp [three] at hi
  have hbel0 : Below w.heap.size w w0 := by rw [hw0]; exact (Below.refl _ _).alloc (Nat.le_refl _) _
  have p1 := parts_any w.heap.size 0 3 (three a b c) 1 w0 (by omega) hcells (Nat.le_refl _) (by decide)
  have p2 := fun (w1 : World) (hb : Below w0.heap.size w0 w1) => parts_any w.heap.size 0 3 (three a b c) 2 w1 (by have := hb.size; omega)
    (fun i h hi => by
      obtain ⟨q1, q2, q3⟩ := hcells i h hi
      exact ⟨(hb.cell (p := ⟨_, _, none⟩) (by show w.heap.size < _; omega)).trans q1, (hb.cell (p := ⟨_, _, none⟩) (by show w.heap.size < _; omega)).trans q2, (hb.cell (p := ⟨_, _, none⟩) (by show w.heap.size < _; omega)).trans q3⟩) (Nat.le_refl _) (by decide)
  have P2 := Lib.hid p2
  have HC := Lib.hid hcells
  have HW0 := Lib.hid hw0
  have HSZ := Lib.hid hsz0
  clear hcells p2 hw0 hsz0
  go_enter Try.func4, Try.ntmps4
  go_wp2_with fail
  rw [← HW0.out]
  refine p1.mono ?_
  rintro e w1 ⟨hres, hb1⟩
  rw [if_neg (by rw [hchk.out]; simp), if_neg (by decide)] at hres
  obtain ⟨g, outs, ho, rfl, hg1, hg2, hfn⟩ := hres
  rw [three_ord] at ho
  injection ho with ho
  subst ho
  obtain ⟨v0, v1, v2, v3, v4⟩ := three_one a b c
  obtain ⟨c0, _⟩ := hfn 0 (by decide)
  obtain ⟨c1, _⟩ := hfn 1 (by decide)
  obtain ⟨c2, _⟩ := hfn 2 (by decide)
  obtain ⟨c3, _⟩ := hfn 3 (by decide)
  obtain ⟨c4, _⟩ := hfn 4 (by decide)
  rw [v0] at c0
  rw [v1] at c1
  rw [v2] at c2
  rw [v3] at c3
  rw [v4] at c4
  have pp := P2.out w1 hb1
  clear v0 v1 v2 v3 v4 hfn p1
  go_wp2_with fail
  refine pp.mono ?_
  rintro e w2 ⟨hres, hb2⟩
  rw [if_neg (by rw [hchk.out]; simp), if_neg (by decide)] at hres
  obtain ⟨g', outs, ho, rfl, hg1', hg2', hfn⟩ := hres
  rw [three_ord] at ho
  injection ho with ho
  subst ho
  obtain ⟨v0, v2⟩ := three_two a b c
  obtain ⟨d0, _⟩ := hfn 0 (by decide)
  obtain ⟨d2, _⟩ := hfn 2 (by decide)
  rw [v0] at d0
  rw [v2] at d2
  replace c0 := (hb2.cell (p := ⟨g, 0, none⟩) hg2).trans c0
  replace c1 := (hb2.cell (p := ⟨g, 1, none⟩) hg2).trans c1
  replace c2 := (hb2.cell (p := ⟨g, 2, none⟩) hg2).trans c2
  replace c3 := (hb2.cell (p := ⟨g, 3, none⟩) hg2).trans c3
  replace c4 := (hb2.cell (p := ⟨g, 4, none⟩) hg2).trans c4
  have hbel : Below w.heap.size w w2 := hbel0.trans ((hb1.mono (by rw [HSZ.out]; omega)).trans (hb2.mono (by have := hb1.size; rw [HSZ.out] at this; omega)))
  have m1 : 0 ≤ a * b := Int.mul_nonneg (by omega) (by omega)
  have m2 : a * b ≤ 1000 * 1000 := Int.mul_le_mul h2 h4 (by omega) (by omega)
  clear v0 v2 hfn pp hb2 hb1
  go_wp2_with fail
  go_ret
  exact ⟨rfl, hbel⟩

set_option maxRecDepth 100000 in
set_option maxHeartbeats 4000000 in
theorem walk (a b c : Int) (w : World) :
    Calls Try.prog 4 #[.int .i64 a, .int .i64 b, .int .i64 c] w fun e w' => e = .returned (.bool true) ∧ Below w.heap.size w w' := by
  by_cases h : 1 ≤ a ∧ a ≤ 1000 ∧ 1 ≤ b ∧ b ≤ 1000 ∧ 1 ≤ c ∧ c ≤ 1000
  · exact walk_in a b c w h
  · have h' : a < 1 ∨ (1 ≤ a ∧ 1000 < a) ∨ (1 ≤ a ∧ a ≤ 1000 ∧ b < 1) ∨ (1 ≤ a ∧ a ≤ 1000 ∧ 1 ≤ b ∧ 1000 < b) ∨ (1 ≤ a ∧ a ≤ 1000 ∧ 1 ≤ b ∧ b ≤ 1000 ∧ c < 1) ∨ (1 ≤ a ∧ a ≤ 1000 ∧ 1 ≤ b ∧ b ≤ 1000 ∧ 1 ≤ c ∧ 1000 < c) := by omega
    clear h
    rcases h' with h | ⟨h1, h⟩ | ⟨h1, h2, h⟩ | ⟨h1, h2, h3, h⟩ | ⟨h1, h2, h3, h4, h⟩ | ⟨h1, h2, h3, h4, h5, h⟩
    all_goals
      go_enter Try.func4, Try.ntmps4
      go_wp2_with fail
      go_ret
      exact ⟨rfl, Below.refl _ _⟩

set_option maxRecDepth 100000 in
theorem lifted (os : Os) (started : os.Started) (H : Type) (enc : TypeId × Value → H) :
    ReturnsInHanded {} Try.checked os 4 .any (Rows.groupChainsSpec.pre6 enc Try.prog Try.f4 Rows.groupChainsRow.domain false) (Rows.groupChainsSpec.post enc Try.prog Try.f4 false true false false) := by
  refine returnsInHanded_of_change (C := Try.checked) own started (by kernel_rfl) Try.func4
    (ChangeSpec.witness6 (enc := enc) (C := Try.checked) false ⟨#[], #[.int .i64 0, .int .i64 0, .int .i64 0], []⟩ 8 (by kernel_rfl) (by kernel_rfl) (by kernel_rfl) (by kernel_rfl)) ?_
  intro W base args ds gs before hval0 hW hcnd _
  have hval : ∀ (j : Nat) t v, Try.f4.params[j]? = some t → args[j]? = some v → Value.okWide Try.prog W .any base t v := hval0
  have hW' := hW
  obtain ⟨p, q, hA0, hV, rfl, hfz, hnd⟩ := hW
  have hA : DataW.TrodAll enc Try.prog W 0 (fun _ => true) true Try.f4.params.toList args.toList ds p := hA0
  rw [Try.params4] at hA hval
  obtain ⟨v0, vs0, d0, ds0, p0, q0, hargs, rfl, rfl, h0, r0⟩ := trodAll_cons hA
  obtain ⟨v1, vs1, d1, ds1, p1, q1, rfl, rfl, rfl, h1, r1⟩ := trodAll_cons r0
  obtain ⟨v2, vs2, d2, ds2, p2, q2, rfl, rfl, rfl, h2, r2⟩ := trodAll_cons r1
  obtain ⟨rfl, rfl, rfl⟩ := trodAll_nil r2
  obtain rfl : args = #[v0, v1, v2] := by cases args; simp_all
  obtain ⟨rfl, rfl⟩ := trodVars_none hV
  obtain ⟨a0, rfl, rfl, rfl, w0⟩ := open_int Try.underlying3 (hval 0 3 v0 rfl rfl) h0
  obtain ⟨a1, rfl, rfl, rfl, w1⟩ := open_int Try.underlying3 (hval 1 3 v1 rfl rfl) h1
  obtain ⟨a2, rfl, rfl, rfl, w2⟩ := open_int Try.underlying3 (hval 2 3 v2 rfl rfl) h2
  clear hA0 hval0
  simp only [List.append_nil] at hW'
  refine (walk a0 a1 a2 W).mono fun e W' ⟨he, hb⟩ => ?_
  subst he
  exact ⟨_, rfl, _, _, _, [], [], [], hW', trodAll_cons_mk (shut_bool Try.underlying4 _) trodAll_mk0, (trodAll_cons_mk (shut_int Try.underlying3 w0) (trodAll_cons_mk (shut_int Try.underlying3 w1) (trodAll_cons_mk (shut_int Try.underlying3 w2) trodAll_mk0))), rfl,
    hb.frame _, fun h => by cases h⟩

theorem proved : Rows.GroupChainsSaid :=
  OpenClaim.holds_of_wide 4 Try.f4 rfl rfl rfl rfl rfl rfl rfl ⟨rfl, rfl, rfl, rfl, rfl⟩ rfl rfl rfl rfl rfl (by kernel_rfl) Try.func4 (by kernel_rfl)
    (of_decide_eq_true (by kernel_rfl)) (by unfold Func.isWrapper; first | (rw [if_pos (by decide +kernel)]; kernel_rfl) | (rw [if_neg (by decide +kernel)]; exact ⟨rfl, rfl⟩))
    (fun os started H enc _ => lifted os started H enc)
#print axioms proved
end Go.Proofs.Ytbhndnjlplibmaa.chains
