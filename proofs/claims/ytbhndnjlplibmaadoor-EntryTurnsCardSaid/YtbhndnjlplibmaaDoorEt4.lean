/- entry.grouped: lines put together, sorted. -/
import Derived.Test.YtbhndnjlplibmaaDoorEt3
import Derived.Test.YtbhndnjlplibmaaDoorGd2
import Derived.Deep.RegionHeld3
import Derived.BigQuiet
import Derived.BigRegion
namespace Go.Proofs.YtbhndnjlplibmaaDoor.lg
open Go.RowKit

theorem step_last {O : List LineM} {x y : LineM} {m : Nat} (hm : O.length = m + 1) (hy : O[m]? = some y) : stepG (O.map toB) (toB x) = (if lineCmp y x = 0 then O.set m (addL y x) else O ++ [x]).map toB := by
  have h1 : (O.map toB).getLast? = some (toB y) := by
    rw [List.getLast?_eq_getElem?, List.length_map, hm, List.getElem?_map]
    simp [hy]
  unfold stepG
  rw [h1]
  simp only
  rw [lineCmp_bal]
  split
  · rw [List.map_set, addL_bal]
    have hl : (O.map toB).length = m + 1 := by simp [hm]
    generalize O.map toB = L at *
    obtain ⟨M, z, rfl⟩ : ∃ M z, L = M ++ [z] := ⟨L.dropLast, L.getLast (by intro e; subst e; simp at hl), (List.dropLast_concat_getLast _).symm⟩
    have hM : M.length = m := by simpa using hl
    rw [List.dropLast_concat, List.set_append_right _ _ (by omega), hM, Nat.sub_self]
    rfl
  · rw [List.map_append]; rfl
theorem foldG_snoc {l : List LineM} {k : Nat} {x : LineM} (h : l[k]? = some x) : ((l.take (k + 1)).map toB).foldl stepG [] = stepG (((l.take k).map toB).foldl stepG []) (toB x) := by
  obtain ⟨hk, rfl⟩ := List.getElem?_eq_some_iff.1 h
  rw [List.take_succ_eq_append_getElem hk, List.map_append, List.foldl_append]
  rfl
theorem stepG_len (l : List BalM) (x : BalM) : (stepG l x).length ≤ l.length + 1 := by
  unfold stepG
  split
  · simp
  · split
    · simp
    · simp
theorem foldG_len : ∀ (l O : List BalM), (l.foldl stepG O).length ≤ O.length + l.length
  | [], O => by simp
  | x :: r, O => by
    have h1 := foldG_len r (stepG O x)
    have h2 := stepG_len O x
    rw [List.foldl_cons, List.length_cons]
    omega
theorem foldG_lenL {l O : List LineM} (h : O.map toB = (l.map toB).foldl stepG []) : O.length ≤ l.length := by
  have h1 := congrArg List.length h
  have h2 := foldG_len (l.map toB) []
  simp only [List.length_map, List.length_nil] at h1 h2
  omega
def GrgIs (B : Nat) (wr : World) (l : List LineM) (k : Nat) (v : Value) : Prop := ∃ O : List LineM, wr.ownsRow B 87 3 v O.length (O.flatMap encL) ∧ O.map toB = ((l.take k).map toB).foldl stepG []
set_option maxRecDepth 100000 in
set_option maxHeartbeats 16000000 in
theorem grouped_any (lo : Option Addr) (lc : Nat) (l : List LineM) (w : World) (hl : LinesAt w lo l) (hnil : lo = none → lc = 0) (hn : l.length ≤ 20) (ham : ∀ x ∈ l, -1000000000000000 ≤ x.amt ∧ x.amt ≤ 1000000000000000) :
    Calls Tryd.prog 71 #[.slice lo l.length lc] w (GrdPost w.heap.size w ((l.map toB).foldl putB [])) := by
  have hc1 := clone_lines lo lc l w hl hnil (by omega)
  have HAM := Lib.hid ham
  clear hl hnil ham
  go_enter Tryd.func71, Tryd.ntmps71
  go_wp2_with fail
  refine hc1.mono ?_
  rintro e w1 ⟨hb1, v1, rfl, hown1⟩
  have hc2 := sort_lines w.heap.size v1 l w1 hown1 (by omega)
  have HB1 := Lib.hid hb1
  clear hc1 hb1 hown1
  go_wp2_with fail
  refine hc2.mono ?_
  rintro e w2 ⟨rfl, hb2, S, hperm, hweak, so, sc, rfl, hS⟩
  have hSl : S.length = l.length := hperm.length_eq
  have HB2 : Hid (Below w.heap.size w w2) := HB1.out.trans hb2
  have HEQ : Hid ((S.map toB).foldl stepG [] = (l.map toB).foldl putB []) := grp_eq (hperm.map toB) hweak (fun x hx => by obtain ⟨y, hy, rfl⟩ := List.mem_map.1 hx; exact HAM.out y hy) (by simp; omega)
  have HS := Lib.hid hS
  have hSl2 : S.length ≤ 20 := by omega
  clear hc2 hb2 hperm hweak hS hSl HB1 HAM
  go_wp2_with fail
  go_loopw [2, 12] (fun v i wr => ∃ k : Nat, k ≤ S.length ∧ i = .int .i64 (k : Int) ∧ Hid (GrgIs w2.heap.size wr S k v) ∧ Hid (Below w2.heap.size w2 wr)) (fun _ i _ => S.length - (intOf i).toNat)
  case atStart => exact ⟨0, Nat.zero_le _, rfl, ⟨[], World.ownsRow_nil _ _ _ _, rfl⟩, Below.refl _ _⟩
  case round =>
    obtain ⟨k, hk, rfl, HI, HBW⟩ := hrel
    have hi0 : (0 : Int) ≤ (k : Int) := by omega
    by_cases hlt : k < S.length
    · obtain ⟨x, hx⟩ := getElem?_ex hlt
      have hHL : LinesAt wr so S := HS.out.below HBW.out
      obtain ⟨b9, off, rfl, hb9, hcc⟩ := hHL.resolve_left (fun e => by rw [e] at hlt; simp at hlt)
      obtain ⟨x0, x1, x2⟩ := hcc k x hx
      have hi1 : (k : Int) < (S.length : Int) := by omega
      have HSN := Lib.hid (foldG_snoc hx)
      obtain ⟨B3, hB3⟩ : ∃ B3, B3 = wr.heap.size := ⟨_, rfl⟩
      obtain ⟨W, hW⟩ : ∃ W, W = wr.alloc (.cells #[.string x.acc, .string x.cur, .int .i64 x.amt] 87) := ⟨_, rfl⟩
      have hb0 : Below wr.heap.size wr W := by rw [hW]; exact (Below.refl _ _).alloc (Nat.le_refl _) _
      have HBX : Hid (W.heap[B3]? = some (.cells #[.string x.acc, .string x.cur, .int .i64 x.amt] 87 (0, 0))) := by show _ = _; rw [hW, hB3]; exact heap_new_at rfl _
      have HB0 : Hid (Below w2.heap.size w2 W) := HBW.out.trans (hb0.mono HBW.out.size)
      obtain ⟨O, ho1, ho2⟩ := HI.out
      have hOl : O.length ≤ 20 := Nat.le_trans (foldG_lenL ho2) (by rw [List.length_take]; omega)
      have ho1W : W.ownsRow w2.heap.size 87 3 u2 O.length (O.flatMap encL) := row_keep ho1 (fun j hj => hb0.block j (row_lt ho1 j hj).2)
      have HO2 := Lib.hid ho2
      have HW := Lib.hid hW
      have HB3 := Lib.hid hB3
      have hB3lt : B3 < W.heap.size := lt_of_heap HBX.out
      have HOWN := Lib.hid ho1W
      have hgr := nil_slot (w := W) (O := O) ho1W
      obtain ⟨ao, cap, rfl⟩ := lines_row_of ho1W
      -- an append at a later world
      have happ : ∀ W2, Below W.heap.size W W2 → ∃ v3 w3, (Builtin.append_ #[79, 79] 79 #[.slice ao O.length cap, .slice (some ⟨W2.heap.size, 0, none⟩) 1 1]).run Tryd.prog (W2.alloc (.cells #[.string x.acc, .string x.cur, .int .i64 x.amt] 87)) = .ok v3 w3 ∧
          w3.ownsRow w2.heap.size 87 3 v3 (O ++ [x]).length ((O ++ [x]).flatMap encL) ∧ Below w2.heap.size w2 w3 := fun W2 hW2 => by
        obtain ⟨V, hV⟩ : ∃ V, V = W2.alloc (.cells #[.string x.acc, .string x.cur, .int .i64 x.amt] 87) := ⟨_, rfl⟩
        have hbV : Below W2.heap.size W2 V := by rw [hV]; exact (Below.refl _ _).alloc (Nat.le_refl _) _
        have hbWV : Below W.heap.size W V := hW2.trans (hbV.mono hW2.size)
        have hnew : V.heap[W2.heap.size]? = some (.cells #[.string x.acc, .string x.cur, .int .i64 x.amt] 87 (0, 0)) := by rw [hV]; exact heap_new_at rfl _
        obtain ⟨v3, w3, hr3, hown3, hgrow3, hblk3⟩ := run_append_lines (sc := 1) (row_keep HOWN.out (fun k hk => hbWV.block k (row_lt HOWN.out k hk).2)) (l := [x]) (so := some ⟨W2.heap.size, 0, none⟩) (lines_one hnew) (by simp; omega) (Nat.le_trans HB0.out.size hbWV.size) 79
        rw [hV] at hr3
        refine ⟨v3, w3, hr3, ownsRow_cast hown3 (by simp) (by simp), (HB0.out.trans (hbWV.mono HB0.out.size)).trans ((Only.of_grown hgrow3).below (Nat.le_trans HB0.out.size hbWV.size) (fun k hk => (row_lt HOWN.out k hk).1))⟩
      have HAPP := Lib.hid happ
      clear ho1 ho1W ho2 hcc HI hx hW hB3 hb0 hHL hb9 happ
      rcases Nat.eq_zero_or_pos O.length with h0 | h0
      · obtain rfl : O = [] := List.length_eq_zero_iff.1 h0
        rw [List.length_nil] at *
        clear h0 hgr
        go_wp2_with fail
        rw [← HW.out, ← HB3.out]
        clear x0 x1 x2
        go_quiet (fail)
        obtain ⟨w9, hw9⟩ : ∃ w9, w9 = W.drewN nq := ⟨_, rfl⟩
        rw [← hw9]
        have HB9 : Hid (Below W.heap.size W w9) := by show Below _ _ _; rw [hw9]; exact ⟨rfl, rfl, rfl, Nat.le_refl _, fun _ _ => rfl⟩
        clear hw9 nq
        obtain ⟨v3, w3, hr3, hown3, hb3⟩ := HAPP.out w9 HB9.out
        obtain ⟨V, hV⟩ : ∃ V, V = w9.alloc (.cells #[.string x.acc, .string x.cur, .int .i64 x.amt] 87) := ⟨_, rfl⟩
        rw [← hV] at hr3
        have HV := Lib.hid hV
        have s0 : w9.cell? ⟨B3, 0, none⟩ = some (.string x.acc) := (HB9.out.cell (p := ⟨B3, 0, none⟩) hB3lt).trans (cell_of_heap HBX.out 0)
        have s1 : w9.cell? ⟨B3, 1, none⟩ = some (.string x.cur) := (HB9.out.cell (p := ⟨B3, 1, none⟩) hB3lt).trans (cell_of_heap HBX.out 1)
        have s2 : w9.cell? ⟨B3, 2, none⟩ = some (.int .i64 x.amt) := (HB9.out.cell (p := ⟨B3, 2, none⟩) hB3lt).trans (cell_of_heap HBX.out 2)
        have HBN := Lib.hid hb3
        have HREL : Hid (GrgIs w2.heap.size w3 S (k + 1) v3) := ⟨[x], hown3, by rw [HSN.out, ← HO2.out]; rfl⟩
        clear HAPP hown3 hb3 hV HB9
        go_wp2_with (at_builtin; rw [← HV.out]; refine Lib.wpList_append_run _ rfl _ _ _ _ rfl _ _ rfl rfl _ _ hr3 ?_)
        go_roundw
        case rel => exact ⟨k + 1, by omega, by go_num, HREL, HBN⟩
        case measure => simp [intOf]; omega
      · obtain ⟨g, c, e1, hOc, hgB, hOat⟩ := hgr h0
        simp only [Value.slice.injEq] at e1
        obtain ⟨rfl, _, rfl⟩ := e1
        obtain ⟨m, hm⟩ : ∃ m, O.length = m + 1 := ⟨O.length - 1, by omega⟩
        obtain ⟨y, hy⟩ := getElem?_ex (show m < O.length by omega)
        have hstep := step_last (x := x) hm hy
        obtain ⟨g', off', e8, hg8, hcc8⟩ := hOat.resolve_left (fun e => by rw [e] at h0; simp at h0)
        simp only [Option.some.injEq, Addr.mk.injEq, and_true] at e8
        obtain ⟨rfl, rfl⟩ := e8
        obtain ⟨y0, y1, y2⟩ := hcc8 m y hy
        rw [Nat.zero_add] at y0 y1 y2
        have hgW : g < W.heap.size := hg8
        have z0 : W.cell? ⟨B3, 0, none⟩ = some (.string x.acc) := cell_of_heap HBX.out 0
        have z1 : W.cell? ⟨B3, 1, none⟩ = some (.string x.cur) := cell_of_heap HBX.out 1
        have z2 : W.cell? ⟨B3, 2, none⟩ = some (.int .i64 x.amt) := cell_of_heap HBX.out 2
        have em : (O.length : Int) - 1 = (m : Int) := by omega
        have hm0 : (0 : Int) ≤ (m : Int) := by omega
        have hm1 : (m : Int) < (O.length : Int) := by omega
        have hcm : Calls Tryd.prog 89 #[.agg #[.string y.acc, .string y.cur, .int .i64 y.amt], .agg #[.string x.acc, .string x.cur, .int .i64 x.amt]] W.drew fun e w' => e = .returned (.int .i64 (lineCmp y x)) ∧ Below W.drew.heap.size W.drew w' := (compare_lines y x W.drew).mono fun _ _ h => ⟨h.1, h.2.1⟩
        have KEEP : ∀ w9, Below W.drew.heap.size W.drew w9 → w9.cell? ⟨g, m * 3, none⟩ = some (.string y.acc) ∧ w9.cell? ⟨g, m * 3 + 1, none⟩ = some (.string y.cur) ∧ w9.cell? ⟨g, m * 3 + 2, none⟩ = some (.int .i64 y.amt) ∧
            w9.cell? ⟨B3, 0, none⟩ = some (.string x.acc) ∧ w9.cell? ⟨B3, 1, none⟩ = some (.string x.cur) ∧ w9.cell? ⟨B3, 2, none⟩ = some (.int .i64 x.amt) := fun w9 hb9' =>
          ⟨(hb9'.cell (p := ⟨g, m * 3, none⟩) hgW).trans y0, (hb9'.cell (p := ⟨g, m * 3 + 1, none⟩) hgW).trans y1, (hb9'.cell (p := ⟨g, m * 3 + 2, none⟩) hgW).trans y2,
            (hb9'.cell (p := ⟨B3, 0, none⟩) hB3lt).trans z0, (hb9'.cell (p := ⟨B3, 1, none⟩) hB3lt).trans z1, (hb9'.cell (p := ⟨B3, 2, none⟩) hB3lt).trans z2⟩
        have HKEEP := Lib.hid KEEP
        have HOM := Lib.hid hm
        have HST := Lib.hid hstep
        have HY := Lib.hid hy
        have HEM := Lib.hid em
        obtain ⟨cmp, hcmp⟩ : ∃ cmp, lineCmp y x = cmp := ⟨_, rfl⟩
        rw [hcmp] at hcm HST
        clear hcc8 hg8 hOat hstep hy hm KEEP hcmp h0 em
        have hpre : True := trivial
        by_cases hz : cmp = 0
        · have hzb : (cmp == 0) = true := by simp [hz]
          have HO3 : Hid (stepG (O.map toB) (toB x) = (O.set m (addL y x)).map toB) := by show _ = _; rw [HST.out, if_pos hz]
          clear HST
          go_wp2_with fail
          rw [← HW.out, ← HB3.out, HEM.out]
          clear x0 x1 x2
          go_region_held3 (fun w' => w'.cell? ⟨g, m * 3, none⟩ = some (.string y.acc) ∧ w'.cell? ⟨g, m * 3 + 1, none⟩ = some (.string y.cur) ∧ w'.cell? ⟨g, m * 3 + 2, none⟩ = some (.int .i64 y.amt) ∧
            w'.cell? ⟨B3, 0, none⟩ = some (.string x.acc) ∧ w'.cell? ⟨B3, 1, none⟩ = some (.string x.cur) ∧ w'.cell? ⟨B3, 2, none⟩ = some (.int .i64 x.amt))
            (first | exact HKEEP.out _ hb9' | exact ⟨y0, y1, y2, z0, z1, z2⟩ | go_keep)
            (first
              | (go_at_call 89; refine hcm.mono ?_; rintro e w9 ⟨rfl, hb9'⟩))
          have HB9 : Hid (Below w2.heap.size w2 w9) := HB0.out.trans (((show Below W.heap.size W W.drew from ⟨rfl, rfl, rfl, Nat.le_refl _, fun _ _ => rfl⟩).trans hb9').mono HB0.out.size)
          obtain ⟨q0, q1, q2, s0, s1, s2⟩ := HKEEP.out w9 hb9'
          have hrow : w9.ownsRow w2.heap.size 87 3 (.slice (some ⟨g, 0, none⟩) O.length cap) O.length (O.flatMap encL) := row_keep HOWN.out (fun k hk => hb9'.block k (row_lt HOWN.out k hk).2)
          have hfz : w9.frozen? ⟨g, m * 3 + 2, none⟩ = false := hrow.frozenAt _
          have hst := (World.ownsRow.drew hrow).stored (m * 3 + 2) (.int .i64 (wrap64 (y.amt + x.amt)))
          have hfs : (O.flatMap encL).set (m * 3 + 2) (.int .i64 (wrap64 (y.amt + x.amt))) = (O.set m (addL y x)).flatMap encL := flatL_set 2 (fun z => addL z x) (fun z => .int .i64 (wrap64 (z.amt + x.amt))) (by omega) (fun z => rfl) O m y HY.out
          rw [hfs] at hst
          have HREL : Hid (GrgIs w2.heap.size (w9.drew.setCell ⟨g, m * 3 + 2, none⟩ (.int .i64 (wrap64 (y.amt + x.amt)))) S (k + 1) (.slice (some ⟨g, 0, none⟩) O.length cap)) := ⟨O.set m (addL y x), ownsRow_cast hst.1 (by simp) rfl, by rw [HSN.out, ← HO2.out]; exact HO3.out.symm⟩
          have HBN : Hid (Below w2.heap.size w2 (w9.drew.setCell ⟨g, m * 3 + 2, none⟩ (.int .i64 (wrap64 (y.amt + x.amt))))) := HB9.out.drew.setCell (p := ⟨g, m * 3 + 2, none⟩) hgB _
          clear hcm HKEEP hb9' y0 y1 y2 z0 z1 z2 hrow hst hfs HOWN HAPP hgr HB9
          go_wp2_with fail
          go_big_region
          all_goals go_wp2_with fail
          all_goals go_roundw
          case rel => exact ⟨k + 1, by omega, by go_num, HREL, HBN⟩
          case measure => simp [intOf]; omega
        · have hzb : (cmp == 0) = false := by simp [hz]
          have HO3 : Hid (stepG (O.map toB) (toB x) = (O ++ [x]).map toB) := by show _ = _; rw [HST.out, if_neg hz]
          clear HST
          go_wp2_with fail
          rw [← HW.out, ← HB3.out, HEM.out]
          clear x0 x1 x2
          go_region_held3 (fun w' => w'.cell? ⟨g, m * 3, none⟩ = some (.string y.acc) ∧ w'.cell? ⟨g, m * 3 + 1, none⟩ = some (.string y.cur) ∧ w'.cell? ⟨g, m * 3 + 2, none⟩ = some (.int .i64 y.amt) ∧
            w'.cell? ⟨B3, 0, none⟩ = some (.string x.acc) ∧ w'.cell? ⟨B3, 1, none⟩ = some (.string x.cur) ∧ w'.cell? ⟨B3, 2, none⟩ = some (.int .i64 x.amt))
            (first | exact HKEEP.out _ hb9' | exact ⟨y0, y1, y2, z0, z1, z2⟩ | go_keep)
            (first
              | (go_at_call 89; refine hcm.mono ?_; rintro e w9 ⟨rfl, hb9'⟩))
          have HB9 : Hid (Below W.heap.size W w9) := (show Below W.heap.size W W.drew from ⟨rfl, rfl, rfl, Nat.le_refl _, fun _ _ => rfl⟩).trans hb9'
          obtain ⟨v3, w3, hr3, hown3, hb3⟩ := HAPP.out w9 HB9.out
          obtain ⟨V, hV⟩ : ∃ V, V = w9.alloc (.cells #[.string x.acc, .string x.cur, .int .i64 x.amt] 87) := ⟨_, rfl⟩
          rw [← hV] at hr3
          have HV := Lib.hid hV
          obtain ⟨q0, q1, q2, s0, s1, s2⟩ := HKEEP.out w9 hb9'
          have HBN := Lib.hid hb3
          have HREL : Hid (GrgIs w2.heap.size w3 S (k + 1) v3) := ⟨O ++ [x], hown3, by rw [HSN.out, ← HO2.out]; exact HO3.out.symm⟩
          clear hcm HKEEP hb9' y0 y1 y2 z0 z1 z2 HOWN hgr
          clear HAPP hown3 hb3 hV HB9
          go_wp2_with (at_builtin; rw [← HV.out]; refine Lib.wpList_append_run _ rfl _ _ _ _ rfl _ _ rfl rfl _ _ hr3 ?_)
          go_roundw
          case rel => exact ⟨k + 1, by omega, by go_num, HREL, HBN⟩
          case measure => simp [intOf]; omega
    · obtain rfl : k = S.length := by omega
      obtain ⟨O, h1, h2⟩ := HI.out
      have HZ : Hid (GrdPost w.heap.size w ((l.map toB).foldl putB []) (.returned u2) wr) := ⟨HB2.out.trans (HBW.out.mono HB2.out.size), u2, O, rfl, row_base h1 HB2.out.size, by rw [h2, List.take_length, HEQ.out]⟩
      clear h1 h2 HI
      go_wp2_with fail
      go_ret
      exact HZ.out
end Go.Proofs.YtbhndnjlplibmaaDoor.lg
