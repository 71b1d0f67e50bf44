/- The card BlockTorn: a block that was torn is not read till it is written; for every number and bytes, the listed variable as the program's text lays it. -/
import Derived.Test.YtldpflijgbcbhaaDoorTorn
import Derived.Test.YtldpflijgbcbhaaDoorOpen
import Derived.Test.YtldpflijgbcbhaaDoorDoor
import Derived.Test.YtldpflijgbcbhaaDoorCards
import Derived.Test.YtldpflijgbcbhaaDoorTie
import Derived.SevenTiedAt
namespace Go.Proofs.YtldpflijgbcbhaaDoor.torn
open Go.ChangeShapes Go.WideShapes Go.ChangeAt Go.RowKit

set_option maxRecDepth 100000 in
set_option maxHeartbeats 8000000 in
theorem walk_out (n : Int) (v1 v2 : Value) (b c : List UInt8) (w : World) (hg : Door w) (h : n < 0 ∨ (0 ≤ n ∧ 3 < n) ∨ (0 ≤ n ∧ n ≤ 3 ∧ 64 < b.length) ∨ (0 ≤ n ∧ n ≤ 3 ∧ b.length ≤ 64 ∧ 64 < c.length)) (h1 : BytesW w v1 b) (h2 : BytesW w v2 c) (hb : b.length ≤ 9223372036854775807) (hc : c.length ≤ 9223372036854775807) :
    Calls Tryd.prog 5 #[.int .i64 n, v1, v2] w fun e w' => e = .returned (.bool true) ∧ Below w.heap.size w w' := by
  have hpos := hg.pos
  obtain ⟨s1, k1, rfl, -⟩ := h1
  obtain ⟨s2, k2, rfl, -⟩ := h2
  have hnew := new_b 4 w (by omega) (by omega)
  have HG := Lib.hid hg
  have hwr := fun w1 (hd1 : DiskB w.heap.size w1 w.heap.size D0) => write_any w.heap.size 4 (.slice none 0 0) [] w1 w.heap.size D0 hd1 (by decide) (by decide) (by decide) ⟨none, 0, rfl, fun h => by simp at h⟩ (fun h => by simp at h)
  have dc : D0.wcode 4 0 = 1 := by decide
  have HWR := Lib.hid hwr
  have HDC := Lib.hid dc
  clear hg hwr dc
  rcases h with h | ⟨h0, h⟩ | ⟨h0, h3, h⟩ | ⟨h0, h3, h4, h⟩
  all_goals
    go_enter Tryd.func5, Tryd.ntmps5
    go_wp2_with fail
    refine hnew.mono ?_
    rintro e w1 ⟨rfl, hb1, hd1⟩
    have hw := HWR.out w1 hd1
    rw [show ([] : List UInt8).length = 0 from rfl, HDC.out] at hw
    clear hnew
    go_wp2_with fail
    refine hw.mono ?_
    rintro e w2 ⟨rfl, hb2, _⟩
    have hbl := hb1.trans hb2
    have her := error_any 1 1 w2 (HG.out.below hbl hpos)
    clear hw
    go_wp2_with fail
    refine her.mono ?_
    rintro e w3 ⟨rfl, hb3⟩
    have h11 : ((1 : Int) == 1) = true := rfl
    rw [h11]
    clear her
    go_wp2_with fail
    go_ret
    exact ⟨rfl, hbl.trans (hb3.mono hbl.size)⟩

theorem walk (n : Int) (v1 v2 : Value) (b c : List UInt8) (w : World) (hg : Door w) (h1 : BytesW w v1 b) (h2 : BytesW w v2 c) (hb : b.length ≤ 9223372036854775807) (hc : c.length ≤ 9223372036854775807) :
    Calls Tryd.prog 5 #[.int .i64 n, v1, v2] w fun e w' => e = .returned (.bool true) ∧ Below w.heap.size w w' := by
  by_cases h : (0 ≤ n ∧ n ≤ 3) ∧ b.length ≤ 64 ∧ c.length ≤ 64
  · obtain ⟨⟨h3, h4⟩, h5, h6⟩ := h
    obtain ⟨m, rfl⟩ := Int.eq_ofNat_of_zero_le h3
    exact walk_in m v1 v2 b c w hg (by omega) h5 h6 h1 h2
  · exact walk_out n v1 v2 b c w hg (by omega) h1 h2 hb hc

theorem readsInt : Tryd.prog.readableRec 3 = true := by kernel_rfl
theorem readsSl : Tryd.prog.readableRec 22 = true := by kernel_rfl
theorem laidOut : laidOutB Tryd.prog = true := by kernel_rfl

set_option maxRecDepth 100000 in
theorem lifted (os : Os) (started : os.Started) (H : Type) (enc : TypeId × Value → H) :
    ReturnsInHanded {} Tryd.checked os 5 .any (fun w args => (Rows.blockTornSpec.pre enc Tryd.prog Tryd.f5 [] false w args ∧ laidMetH Tryd.prog [("errors.errorType", Rows.laid_errors_errorType)] w) ∧ sizedMet enc Tryd.prog Tryd.f5 (OpenSpec.ofChange Rows.blockTornSpec) false w args)
      (Rows.blockTornSpec.post enc Tryd.prog Tryd.f5 false true false false) := by
  refine returnsInHanded_of_change_and (C := Tryd.checked) (X := fun w _ => laidMetH Tryd.prog [("errors.errorType", Rows.laid_errors_errorType)] w) (fun _ _ _ hh h => h.of_heap hh) own started (by kernel_rfl) Tryd.func5
    (ChangeSpec.witness_at (enc := enc) (C := Tryd.checked) (os := os) (X := fun w _ => laidMetH Tryd.prog [("errors.errorType", Rows.laid_errors_errorType)] w) false (laidWorld os) #[.int .i64 0, .slice none 0 0, .slice none 0 0] 8 rfl (by kernel_rfl) (by kernel_rfl) (by kernel_rfl) (by kernel_rfl) (by kernel_rfl) (laidWorld_met os _)) ?_
  intro W base args ds gs before hval0 hW _ _ hL _
  have hval : ∀ (j : Nat) t v, Tryd.f5.params[j]? = some t → args[j]? = some v → Value.okWide Tryd.prog W .any base t v := hval0
  have hW' := hW
  obtain ⟨p, q, hA0, hV0, rfl, hfz, hnd⟩ := hW
  have hA : DataW.TrodAll enc Tryd.prog W 0 (fun _ => true) true Tryd.f5.params.toList args.toList ds p := hA0
  have hV : DataW.TrodVars enc Tryd.prog W (fun _ => true) [] gs q := hV0
  rw [Tryd.params5] at hA hval
  obtain ⟨v0, vs0, d0, ds0, p0, q0, hargs, rfl, rfl, h0, r0⟩ := trodAll_cons hA
  obtain ⟨v1, vs1, d1, ds1, p1, q1, rfl, rfl, rfl, h1, r1⟩ := trodAll_cons r0
  obtain ⟨v2, vs2, d2, ds2, p2, q2, rfl, rfl, rfl, h2, r2⟩ := trodAll_cons r1
  obtain ⟨rfl, rfl, rfl⟩ := trodAll_nil r2
  obtain rfl : args = #[v0, v1, v2] := by cases args; simp_all
  have hg := door_of_laid hL
  obtain ⟨rfl, rfl⟩ : gs = [] ∧ q = [] := by
    cases gs with
    | nil => exact ⟨rfl, hV⟩
    | cons g r => exact absurd hV (by intro h; cases h)
  obtain ⟨l1, hb1, hl1⟩ := open_bytes (hval 1 22 v1 rfl rfl) h1
  obtain ⟨l2, hb2, hl2⟩ := open_bytes (hval 2 22 v2 rfl rfl) h2
  have hlt : ∀ x ∈ p0 ++ (p1 ++ (p2 ++ [])), x.block < W.heap.size := fun x hx => by
    have := hW'.lt x (by simpa using hx)
    exact this
  have k0 := h0
  obtain ⟨n, rfl, rfl, rfl, wn⟩ := open_int Tryd.underlying3 (hval 0 3 v0 rfl rfl) h0
  clear hA0 hval0 hV0
  refine (walk n v1 v2 l1 l2 W hg hb1 hb2 (by unfold maxLen at hl1; omega) (by unfold maxLen at hl2; omega)).mono fun e W' ⟨he, hb⟩ => ?_
  subst he
  refine ⟨_, rfl, _, _, _, [], [] ++ (p1 ++ (p2 ++ [])), [], hW', trodAll_cons_mk (shut_bool Tryd.underlying4 _) trodAll_mk0, ?_, rfl, hb.frame _, fun h => by cases h⟩
  exact trodAll_cons_mk (shut_int Tryd.underlying3 wn) (trodAll_cons_mk (Below.trod laidOut readsSl (of_decide_eq_true (by kernel_rfl)) h1 hb (fun x hx => hlt x (by simp [hx]))) (trodAll_cons_mk (Below.trod laidOut readsSl (of_decide_eq_true (by kernel_rfl)) h2 hb (fun x hx => hlt x (by simp [hx]))) trodAll_mk0))

theorem said : Rows.BlockTornSaid :=
  OpenClaim.holds_of_wide 5 Tryd.f5 rfl rfl rfl rfl rfl rfl rfl ⟨rfl, rfl, rfl, rfl, rfl⟩ rfl rfl rfl rfl rfl (by kernel_rfl) Tryd.func5 (by kernel_rfl)
    (of_decide_eq_true (by kernel_rfl)) (by unfold Func.isWrapper; rw [if_neg (of_decide_eq_false (by kernel_rfl))]; exact ⟨rfl, rfl⟩)
    (fun os started H enc _ => lifted os started H enc)

theorem plain (f : FuncId) (fn : Func) (hf : Tryd.pinned.checked.prog.funcNamed "quarterday/daylaw5.BlockTorn" = some f) (hfn : Tryd.pinned.checked.prog.funcs[f]? = some fn) :
    true = Tryd.pinned.checked.prog.looks [] ∧ ∀ (j : Nat) t, fn.params[j]? = some t → Tryd.pinned.checked.prog.wantsStandIn t = false := by
  obtain rfl : f = 5 := Option.some.inj ((show Tryd.prog.funcNamed "quarterday/daylaw5.BlockTorn" = some 5 by kernel_rfl).symm.trans hf) |>.symm
  obtain rfl : fn = Tryd.f5 := (Option.some.inj (Tryd.func5.symm.trans hfn)).symm
  refine ⟨by kernel_rfl, fun j t ht => ?_⟩
  rw [Tryd.params5] at ht
  have hm := Array.mem_of_getElem? ht
  simp at hm
  rcases hm with rfl | rfl
  · exact (show Tryd.prog.wantsStandIn 3 = false by kernel_rfl)
  · exact (show Tryd.prog.wantsStandIn 22 = false by kernel_rfl)

theorem card : Rows.BlockTornCardSaid :=
  Claim7.holds_tied_plain_at .later [] _ _ _ _ said (fun _ h => by cases h) (by kernel_rfl) (fun _ h => by cases h) blockTorn_row_tie rfl ⟨rfl, rfl⟩ (by kernel_rfl) rfl plain (by kernel_rfl)
#print axioms card
end Go.Proofs.YtldpflijgbcbhaaDoor.torn
