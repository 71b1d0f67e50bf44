/- ledger.some by Balances's choice. -/
import Derived.Test.YtbhndnjlplibmaaEn2
import Derived.BigRegion
import Derived.Carry
namespace Go.Proofs.Ytbhndnjlplibmaa.lg
open Go.RowKit

set_option maxRecDepth 100000 in
set_option maxHeartbeats 16000000 in
theorem some_bal (n : Int) (g : Nat) (ao : Option Addr) (ca : Nat) (t : List EntryM) (w : World) (ha : EntsAt w ao t) (hok : ∀ e ∈ t, entOk e) (hm : t.length ≤ 9223372036854775807) (hlm : ∀ e ∈ t, e.lines.length ≤ 9223372036854775807) (hg : w.cell? ⟨g, 0, none⟩ = some (.int .i64 n)) (hgt : g < w.heap.size) :
    Calls Try.prog 32 #[.slice ao t.length ca, .func (.func 34) #[] #[.pointer (some ⟨g, 0, none⟩)]] w (SomePost w.heap.size w (pickBal n) t) := by
  by_cases hlen : 200 < t.length
  · have hd : decide ((200 : Int) < (t.length : Int)) = true := decide_eq_true (by omega)
    go_enter Try.func32, Try.ntmps32
    go_wp2
    go_ret2
    exact ⟨Below.refl _ _, Or.inl ⟨hlen, rfl⟩⟩
  · have hd : decide ((200 : Int) < (t.length : Int)) = false := decide_eq_false (by omega)
    have hlen2 : t.length ≤ 200 := by omega
    have HA := Lib.hid ha
    have HK := Lib.hid hok
    have HLM := Lib.hid hlm
    have hpick : ∀ (e : EntryM) (lao : Option Addr) (lc : Nat) (W : World), Below w.heap.size w W → Calls Try.prog 34 #[.agg #[.string e.ref, .int .i64 e.ent, .int .i64 e.per, .slice lao e.lines.length lc], .pointer (some ⟨g, 0, none⟩)] W fun e' w' => e' = .returned (.bool ((pickBal n) e)) ∧ Below W.heap.size W w' :=
      fun e lao lc W hb => pick_bal n g e lao lc W ((hb.cell (p := ⟨g, 0, none⟩) hgt).trans hg) (Nat.lt_of_lt_of_le hgt hb.size)
    have HPICK := Lib.hid hpick
    obtain ⟨pick, hpk⟩ : ∃ pick, pick = pickBal n := ⟨_, rfl⟩
    rw [← hpk] at HPICK ⊢
    obtain ⟨bm, hbm⟩ : ∃ bm, bm = w.heap.size := ⟨_, rfl⟩
    have hmm := @run_makeMap Try.prog 71 w
    rw [← hbm] at hmm
    obtain ⟨W1, hW1⟩ : ∃ W1, W1 = w.alloc (.map #[] 0) := ⟨_, rfl⟩
    rw [← hW1] at hmm
    have HM1 : Hid (MapT W1 bm []) := by show MapT _ _ _; rw [hW1, hbm]; exact map_made w
    have HB1 : Hid (Below w.heap.size w W1) := by show Below _ _ _; rw [hW1]; exact (Below.refl _ _).alloc (Nat.le_refl _) _
    obtain ⟨R, hR⟩ : ∃ R, foldT (someB pick t) [] = R := ⟨_, rfl⟩
    obtain ⟨bd, hbd⟩ : ∃ bd, badAll t = bd := ⟨_, rfl⟩
    have HR := Lib.hid hR
    have HBD := Lib.hid hbd
    have HBM : Hid (w.heap.size ≤ bm) := by show _ ≤ _; omega
    clear hW1 hbm hR hbd ha hok hlm hpick hlen hpk hg
    go_enter Try.func32, Try.ntmps32
    go_wp2_with fail
    go_loopw [18] (fun i wr => ∃ k : Nat, k ≤ t.length ∧ i = .int .i64 (k : Int) ∧ Hid (∃ T, MapT wr bm T ∧ foldT (someB pick (t.drop k)) T = R) ∧ Hid (badAll (t.drop k) = bd) ∧ Hid (Below w.heap.size w wr)) (fun i _ => t.length - (intOf i).toNat)
    case atStart => exact ⟨0, Nat.zero_le _, rfl, ⟨[], HM1.out, HR.out⟩, HBD, HB1⟩
    case round =>
      clear HM1 HB1
      obtain ⟨k, hk, rfl, HT, HD, HBW⟩ := hrel
      by_cases hlt : k < t.length
      · obtain ⟨x, hx⟩ := getElem?_ex hlt
        have hkx := HK.out x (List.mem_of_getElem? hx)
        have hlx := HLM.out x (List.mem_of_getElem? hx)
        obtain ⟨b9, off, rfl, hb9, hcc⟩ := (HA.out.below HBW.out).resolve_left (fun e => by rw [e] at hlt; simp at hlt)
        obtain ⟨lao, lc, x0, x1, x2, x3, _⟩ := hcc k x hx
        have HLN : Hid (LinesAt w lao x.lines) := by
          obtain ⟨b1, o1, e1, hb1, hc1⟩ := HA.out.resolve_left (fun e => by rw [e] at hlt; simp at hlt)
          obtain ⟨lao1, lc1, _, _, _, z3, z4⟩ := hc1 k x hx
          simp only [Option.some.injEq, Addr.mk.injEq, and_true] at e1
          obtain ⟨rfl, rfl⟩ := e1
          have := (HBW.out.cell (p := ⟨b9, off + k * 4 + 3, none⟩) hb1).trans z3
          rw [x3] at this
          simp only [Option.some.injEq, Value.slice.injEq, true_and] at this
          rw [this.1]
          exact z4
        have hi1 : (k : Int) < (t.length : Int) := by omega
        have hi0 : (0 : Int) ≤ (k : Int) := by omega
        obtain ⟨T, hT, hfold⟩ := HT.out
        rw [someB_drop hx] at hfold
        have hbad := HD.out
        rw [badAll_drop hx] at hbad
        obtain ⟨W, hW⟩ : ∃ W, W = wr.alloc (.cells #[.string x.ref, .int .i64 x.ent, .int .i64 x.per, .slice lao x.lines.length lc] 50) := ⟨_, rfl⟩
        obtain ⟨B8, hB8⟩ : ∃ B8, B8 = wr.heap.size := ⟨_, rfl⟩
        have hbw : Below wr.heap.size wr W := by rw [hW]; exact (Below.refl _ _).alloc (Nat.le_refl _) _
        have HMW : Hid (MapT W bm T) := hT.later (hbw.block bm hT.lt)
        have HBX : Hid (W.heap[B8]? = some (.cells #[.string x.ref, .int .i64 x.ent, .int .i64 x.per, .slice lao x.lines.length lc] 50 (0, 0))) := by show _ = _; rw [hW, hB8]; exact heap_new_at rfl _
        have HBW1 : Hid (Below w.heap.size w W) := HBW.out.trans (hbw.mono HBW.out.size)
        have hne8 : Hid (B8 ≠ bm) := by show _ ≠ _; have := hT.lt; omega
        have HW := Lib.hid hW
        have hq3 : W.cell? ⟨B8, 3, none⟩ = some (.slice lao x.lines.length lc) := cell_of_heap HBX.out 3
        have HFD := Lib.hid hfold
        have HBB := Lib.hid hbad
        have HKX := Lib.hid hkx
        have HSZ8 : Hid (w.heap.size ≤ B8) := by show _ ≤ _; have := HBW.out.size; omega
        clear hW hfold hbad hcc HT HD HBW hT hbw hx hkx
        go_wp2_with fail
        rw [← HW.out, ← hB8]
        go_wp2_with fail
        clear x0 x1 x2 x3 hq3 HW hB8
        go_loopw [25] (fun i wr => ∃ j : Nat, j ≤ x.lines.length ∧ i = .int .i64 (j : Int) ∧ Hid (∃ T, MapT wr bm T ∧ foldT (restB pick x (x.lines.drop j) ++ someB pick (t.drop (k + 1))) T = R) ∧ Hid ((badL (x.lines.drop j) || badAll (t.drop (k + 1))) = bd) ∧ Hid (Below w.heap.size w wr) ∧ Hid (W.heap.size ≤ wr.heap.size) ∧ Hid (wr.heap[B8]? = some (.cells #[.string x.ref, .int .i64 x.ent, .int .i64 x.per, .slice lao x.lines.length lc] 50 (0, 0)))) (fun i _ => x.lines.length - (intOf i).toNat)
        case atStart => exact ⟨0, Nat.zero_le _, rfl, ⟨T, HMW.out, HFD.out⟩, HBB, HBW1, Nat.le_refl _, HBX⟩
        case round =>
          clear HMW HFD HBB HBW1 HBX
          obtain ⟨j, hj, rfl, HT, HBB, HBW, HSZ, HBX⟩ := hrel
          by_cases hjt : j < x.lines.length
          · obtain ⟨y, hy⟩ := getElem?_ex hjt
            obtain ⟨b7, of7, rfl, hb7, hcl⟩ := (HLN.out.below HBW.out).resolve_left (fun e => by rw [e] at hjt; simp at hjt)
            obtain ⟨y0, y1, y2⟩ := hcl j y hy
            have hj1 : (j : Int) < (x.lines.length : Int) := by omega
            have hj0 : (0 : Int) ≤ (j : Int) := by omega
            have HPY := Lib.hid (HKX.out y (List.mem_of_getElem? hy))
            obtain ⟨T2, hT2, hf2⟩ := HT.out
            rw [restB_drop hy, List.append_assoc] at hf2
            have hb2 := HBB.out
            rw [badL_drop hy] at hb2
            obtain ⟨V, hV⟩ : ∃ V, V = wr.alloc (.cells #[.string y.acc, .string y.cur, .int .i64 y.amt] 81) := ⟨_, rfl⟩
            obtain ⟨B10, hB10⟩ : ∃ B10, B10 = wr.heap.size := ⟨_, rfl⟩
            have hbv : Below wr.heap.size wr V := by rw [hV]; exact (Below.refl _ _).alloc (Nat.le_refl _) _
            have HBV : Hid (Below w.heap.size w V) := HBW.out.trans (hbv.mono HBW.out.size)
            have hV8 : V.heap[B8]? = some (.cells #[.string x.ref, .int .i64 x.ent, .int .i64 x.per, .slice (some ⟨b7, of7, none⟩) x.lines.length lc] 50 (0, 0)) := (hbv.block B8 (lt_of_heap HBX.out)).trans HBX.out
            have hV10 : V.heap[B10]? = some (.cells #[.string y.acc, .string y.cur, .int .i64 y.amt] 81 (0, 0)) := by rw [hV, hB10]; exact heap_new_at rfl _
            have hMV : MapT V bm T2 := hT2.later (hbv.block bm hT2.lt)
            have hne10 : B10 ≠ bm := by have := hT2.lt; omega
            have p0 : V.cell? ⟨B8, 0, none⟩ = some (.string x.ref) := cell_of_heap hV8 0
            have p1 : V.cell? ⟨B8, 1, none⟩ = some (.int .i64 x.ent) := cell_of_heap hV8 1
            have p2 : V.cell? ⟨B8, 2, none⟩ = some (.int .i64 x.per) := cell_of_heap hV8 2
            have p3 : V.cell? ⟨B8, 3, none⟩ = some (.slice (some ⟨b7, of7, none⟩) x.lines.length lc) := cell_of_heap hV8 3
            have q2 : V.cell? ⟨B10, 2, none⟩ = some (.int .i64 y.amt) := cell_of_heap hV10 2
            have hmy := fun w' => amount_any y.amt w'
            have hpc := HPICK.out x (some ⟨b7, of7, none⟩) lc V HBV.out
            have HV := Lib.hid hV
            have HV8 := Lib.hid hV8
            have HV10 := Lib.hid hV10
            have HMV := Lib.hid hMV
            have HN10 := Lib.hid hne10
            have HSZV : Hid (W.heap.size ≤ V.heap.size) := Nat.le_trans HSZ.out hbv.size
            have HF2 := Lib.hid hf2
            clear hV hV8 hV10 hMV hne10 hf2 hT2 HT hcl hy hbv HBB HBX HBW HSZ
            cases hmb : mayA y.amt with
            | false =>
              have HR1 : Hid (bd = true) := by show _ = _; rw [hmb] at hb2; exact hb2.symm
              rw [hmb] at hmy
              clear hmb hb2 hpc
              go_wp2_with fail
              rw [← HV.out, ← hB10]
              clear hB10
              go_wp2_with fail
              refine (hmy _).mono ?_
              rintro e w' ⟨rfl, rfl⟩
              clear hmy
              go_wp2_with fail
              go_ret2
              exact ⟨HBV.out, Or.inr (Or.inl ⟨hlen2, by rw [HBD.out]; exact HR1.out, rfl⟩)⟩
            | true =>
              have HB3 : Hid ((badL (x.lines.drop (j + 1)) || badAll (t.drop (k + 1))) = bd) := by show _ = _; rw [hmb] at hb2; exact hb2
              rw [hmb] at hmy
              clear hmb hb2
              cases hpx : pick x with
              | false =>
                rw [hpx] at hpc
                rw [hpx] at HF2
                clear hpx
                go_wp2_with fail
                rw [← HV.out, ← hB10]
                clear hB10
                go_wp2_with fail
                refine (hmy _).mono ?_
                rintro e w' ⟨rfl, rfl⟩
                clear hmy
                go_wp2_with fail
                refine hpc.mono ?_
                rintro e w9 ⟨rfl, hb9'⟩
                have HT9 : Hid (∃ T, MapT w9 bm T ∧ foldT (restB pick x (x.lines.drop (j + 1)) ++ someB pick (t.drop (k + 1))) T = R) := ⟨T2, HMV.out.later (hb9'.block bm HMV.out.lt), HF2.out⟩
                have HB9 : Hid (Below w.heap.size w w9) := HBV.out.trans (hb9'.mono HBV.out.size)
                have HS9 : Hid (W.heap.size ≤ w9.heap.size) := Nat.le_trans HSZV.out hb9'.size
                have HX9 : Hid (w9.heap[B8]? = some (.cells #[.string x.ref, .int .i64 x.ent, .int .i64 x.per, .slice (some ⟨b7, of7, none⟩) x.lines.length lc] 50 (0, 0))) := (hb9'.block B8 (lt_of_heap HV8.out)).trans HV8.out
                clear hpc hb9' p0 p1 p2 p3 q2
                go_wp2_with fail
                go_roundw
                case rel => exact ⟨j + 1, by omega, by go_num, HT9, HB3, HB9, HS9, HX9⟩
                case measure => simp [intOf]; omega
              | true =>
                rw [hpx] at hpc
                rw [hpx] at HF2
                clear hpx
                go_wp2_with fail
                rw [← HV.out, ← hB10]
                clear hB10
                go_wp2_with fail
                refine (hmy _).mono ?_
                rintro e w' ⟨rfl, rfl⟩
                clear hmy
                go_wp2_with fail
                refine hpc.mono ?_
                rintro e w9 ⟨rfl, hb9'⟩
                have hM9 : MapT w9.drew bm T2 := HMV.out.later (hb9'.block bm HMV.out.lt)
                have h98 := (hb9'.block B8 (lt_of_heap HV8.out)).trans HV8.out
                have h910 := (hb9'.block B10 (lt_of_heap HV10.out)).trans HV10.out
                have HB9 : Hid (Below w.heap.size w w9) := HBV.out.trans (hb9'.mono HBV.out.size)
                have HS9 : Hid (W.heap.size ≤ w9.heap.size) := Nat.le_trans HSZV.out hb9'.size
                obtain ⟨g9, st, U, U2, r1, r2, r3, r4, o1, o2, s1, s2, hm2⟩ := round_runs hM9 (x := lineB x y) HPY.out
                rw [IntWalk.i64_left] at r4
                dsimp only [lineB] at r1 r2 r3 r4
                have u8 : U.heap[B8]? = _ := (o1.block B8 (lt_of_heap h98) hne8.out).trans h98
                have u10 : U.heap[B10]? = _ := (o1.block B10 (lt_of_heap h910) HN10.out).trans h910
                have a1 : w9.cell? ⟨B8, 1, none⟩ = some (.int .i64 x.ent) := cell_of_heap h98 1
                have a2 : w9.cell? ⟨B10, 0, none⟩ = some (.string y.acc) := cell_of_heap h910 0
                have a3 : w9.cell? ⟨B10, 1, none⟩ = some (.string y.cur) := cell_of_heap h910 1
                have a4 : w9.cell? ⟨B10, 2, none⟩ = some (.int .i64 y.amt) := cell_of_heap h910 2
                have v1 : U.cell? ⟨B8, 1, none⟩ = some (.int .i64 x.ent) := cell_of_heap u8 1
                have v2 : U.cell? ⟨B10, 0, none⟩ = some (.string y.acc) := cell_of_heap u10 0
                have v3 : U.cell? ⟨B10, 1, none⟩ = some (.string y.cur) := cell_of_heap u10 1
                have v4 : U.cell? ⟨B10, 2, none⟩ = some (.int .i64 y.amt) := cell_of_heap u10 2
                have HT9 : Hid (∃ T, MapT U2 bm T ∧ foldT (restB pick x (x.lines.drop (j + 1)) ++ someB pick (t.drop (k + 1))) T = R) := ⟨_, hm2, HF2.out⟩
                have HBU : Hid (Below w.heap.size w U2) := HB9.out.drew.trans (o2.below HB9.out.size (fun k hk => by have := HBM.out; omega))
                have HSU : Hid (W.heap.size ≤ U2.heap.size) := by show _ ≤ _; rw [s2]; exact HS9.out
                have HX9 : Hid (U2.heap[B8]? = some (.cells #[.string x.ref, .int .i64 x.ent, .int .i64 x.per, .slice (some ⟨b7, of7, none⟩) x.lines.length lc] 50 (0, 0))) := (o2.block B8 (lt_of_heap h98) hne8.out).trans h98
                clear hpc hb9' p0 p1 p2 p3 q2 hM9 h98 h910 o1 o2 s1 s2 hm2 u8 u10
                go_wp2_with fail
                go_big_region
                all_goals go_wp2_with fail
                all_goals go_roundw
                case rel => exact ⟨j + 1, by omega, by go_num, HT9, HB3, HBU, HSU, HX9⟩
                case measure => simp [intOf]; omega
          · obtain rfl : j = x.lines.length := by omega
            have h1 := HBB.out
            rw [List.drop_of_length_le (Nat.le_refl _)] at h1
            have HBB2 : Hid (badAll (t.drop (k + 1)) = bd) := h1
            obtain ⟨T2, hT2, hf2⟩ := HT.out
            rw [List.drop_of_length_le (Nat.le_refl _)] at hf2
            have HT2 : Hid (∃ T, MapT wr bm T ∧ foldT (someB pick (t.drop (k + 1))) T = R) := ⟨T2, hT2, by
              have e : restB pick x [] = [] := by unfold restB; split <;> rfl
              rw [e] at hf2
              exact hf2⟩
            clear h1 hT2 hf2 HT HBB
            go_wp2_with fail
            go_roundw
            case rel => exact ⟨k + 1, by omega, by go_num, HT2, HBB2, HBW⟩
            case measure => simp [intOf]; omega
      · obtain rfl : k = t.length := by omega
        obtain ⟨T, hT, hfold⟩ := HT.out
        have h1 := HD.out
        rw [List.drop_of_length_le (Nat.le_refl _)] at hfold h1
        obtain rfl : T = R := hfold
        have HF : Hid (badAll t = false) := by show _ = _; rw [HBD.out, ← h1]; rfl
        have hlist := list_any sortAll bm T wr hT
        clear h1 hT HT HD HBD
        go_wp2_with fail
        refine hlist.mono ?_
        rintro e w5 ⟨hb5, hp5⟩
        have HB5 := Lib.hid (HBW.out.trans (hb5.mono HBW.out.size))
        clear hlist hb5 HBW
        rcases hp5 with ⟨h4, rfl⟩ | ⟨h4, lo, lc, L, rfl, hbL, hisL⟩
        · go_wp2_with fail
          go_ret2
          exact ⟨HB5.out, Or.inr (Or.inr (Or.inl ⟨hlen2, HF.out, by rw [HR.out]; exact h4, rfl⟩))⟩
        · have HBL := Lib.hid hbL
          have HIS := Lib.hid hisL
          clear hbL hisL
          go_wp2_with fail
          go_ret2
          exact ⟨HB5.out, Or.inr (Or.inr (Or.inr ⟨hlen2, HF.out, by rw [HR.out]; exact h4, lo, lc, L, by rw [HR.out]; exact HIS.out, HBL.out, rfl⟩))⟩
end Go.Proofs.Ytbhndnjlplibmaa.lg
