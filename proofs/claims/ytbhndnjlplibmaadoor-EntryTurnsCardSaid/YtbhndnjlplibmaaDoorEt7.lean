/- slices.DeleteFunc at lines, by Net's choice; entry.Net. -/
import Derived.Test.YtbhndnjlplibmaaDoorEt6
import Derived.Laws.IdiomCopy
import Derived.Deep.Upon
namespace Go.Proofs.YtbhndnjlplibmaaDoor.lg
open Go.RowKit

theorem zeroLine (w : World) : (zeroValue 87).run Tryd.prog w = .ok (.agg #[.string ⟨#[]⟩, .string ⟨#[]⟩, .int .i64 0]) w := by kernel_rfl
theorem only_cells (g : Nat) : ∀ (vs : List Value) (o : Nat) (w : World), Only (fun k => k = g) w (w.setCells g o vs)
  | [], _, w => Only.refl _ w
  | v :: r, o, w => by
    rw [World.setCells]
    exact ((Only.refl (fun k => k = g) w).setCell (p := ⟨g, o, none⟩) rfl v).trans (only_cells g r (o + 1) _) (fun _ _ h => h)
/-- clear, of what is left -/
theorem clear_run {w : World} {B g c n : Nat} {xs : List Value} (h : w.ownsRow B 87 3 (.slice (some ⟨g, 0, none⟩) n c) n xs) (hx : xs.length = n * 3) {i : Nat} (hi : i < n) (c' : Nat) :
    ∃ w', (∀ ty, (Builtin.clear_ #[79] ty #[.slice (some ⟨g, i * 3, none⟩) (n - i) c']).run Tryd.prog w = .ok (.tuple #[]) w') ∧ Only (fun k => k = g) w w' ∧ ∀ o, o < i * 3 → w'.cell? ⟨g, o, none⟩ = w.cell? ⟨g, o, none⟩ := by
  obtain ⟨vs, hvs⟩ : ∃ vs, vs = (Builtin.zeroCells #[.string ⟨#[]⟩, .string ⟨#[]⟩, .int .i64 0] (n - i)).toList := ⟨_, rfl⟩
  have hlen : vs.length = (n - i) * 3 := by rw [hvs]; simp [Builtin.zeroCells]
  have hone : ∀ v ∈ vs, v.oneCell' = true := by
    intro v hv
    rw [hvs] at hv
    simp only [Builtin.zeroCells, Array.toList_map, List.mem_map, Array.toList_range] at hv
    obtain ⟨a, _, rfl⟩ := hv
    have : a % 3 = 0 ∨ a % 3 = 1 ∨ a % 3 = 2 := by omega
    show (#[Value.string ⟨#[]⟩, Value.string ⟨#[]⟩, Value.int IntKind.i64 0][a % 3]!).oneCell' = true
    rcases this with e | e | e <;> rw [e] <;> rfl
  have hst := run_storeCells_cells (P := Tryd.prog) g (i * 3) vs 0 w (fun j hj => by rw [Nat.add_zero, h.cellAt _ (by omega), List.getElem?_eq_getElem (by omega)]; rfl) (fun j _ => h.frozenAt _) hone
  simp only [Nat.add_zero] at hst
  refine ⟨w.setCells g (i * 3) vs, fun ty => ?_, ?_, fun o ho => World.cell?_setCells_out g vs (i * 3) w ⟨g, o, none⟩ (fun _ _ => Or.inl ho)⟩
  · obtain ⟨m, hm⟩ : ∃ m, n - i = m + 1 := ⟨n - i - 1, by omega⟩
    rw [hm] at hvs ⊢
    rw [hvs] at hst
    simp [Builtin.clear_, run_underlying Tryd.underlying79, zeroLine, Value.cells, hst, hvs]
  · exact only_cells g vs (i * 3) w
theorem net1_any (x : LineM) (w : World) : Calls Tryd.prog 73 #[.agg #[.string x.acc, .string x.cur, .int .i64 x.amt]] w fun e w' => e = .returned (.bool (x.amt == 0)) ∧ Below w.heap.size w w' := by
  have HB : Hid (Below w.heap.size w (w.alloc (.cells #[.string x.acc, .string x.cur, .int .i64 x.amt] 87))) := (Below.refl _ _).alloc (Nat.le_refl _) _
  go_enter Tryd.func73, Tryd.ntmps73
  go_wp2_with fail
  go_ret
  exact ⟨rfl, HB.out⟩
theorem enter_net1 : ∀ args w, (callFunc 73 args).run Tryd.prog w = .ok (.enter 73 args) w := enters_of Tryd.func73 (by kernel_rfl) rfl
theorem flatL_put {M : List LineM} {a : Nat} {y : LineM} (x : LineM) (h : M[a]? = some y) : (((M.flatMap encL).set (a * 3) (.string x.acc)).set (a * 3 + 1) (.string x.cur)).set (a * 3 + 2) (.int .i64 x.amt) = (M.set a x).flatMap encL := by
  have h1 := flatL_set 0 (fun z => { z with acc := x.acc }) (fun _ => .string x.acc) (by omega) (fun z => rfl) M a y h
  rw [Nat.add_zero] at h1
  have hl : a < M.length := (List.getElem?_eq_some_iff.1 h).1
  have h2 := flatL_set 1 (fun z => { z with cur := x.cur }) (fun _ => .string x.cur) (by omega) (fun z => rfl) (M.set a { y with acc := x.acc }) a _ (List.getElem?_set_self hl)
  have h3 := flatL_set 2 (fun z => { z with amt := x.amt }) (fun _ => .int .i64 x.amt) (by omega) (fun z => rfl) ((M.set a { y with acc := x.acc }).set a { acc := x.acc, cur := x.cur, amt := y.amt }) a _ (List.getElem?_set_self (by simpa using hl))
  rw [h1, h2, h3, List.set_set, List.set_set]
def isZ (x : LineM) : Bool := x.amt == 0
def notZ (x : LineM) : Bool := !isZ x
theorem firstL_neg {p : LineM → Bool} {l : List LineM} {k : Nat} (h : firstL p l k = -1) : l.any p = false := by
  cases ha : l.any p with
  | false => rfl
  | true => have := (firstL_nonneg p l k).2 ha; omega
theorem firstL_at {p : LineM → Bool} : ∀ {l : List LineM} {k : Nat}, 0 ≤ firstL p l k → ∃ i, firstL p l k = ((k + i : Nat) : Int) ∧ i < l.length ∧ (l.take (i + 1)).filter (fun x => !p x) = l.take i
  | [], k, h => by simp [firstL] at h
  | z :: r, k, h => by
    unfold firstL at h ⊢
    by_cases hz : p z = true
    · rw [if_pos hz]
      exact ⟨0, rfl, by simp, by simp [hz]⟩
    · rw [if_neg hz] at h ⊢
      obtain ⟨i, h1, h2, h3⟩ := firstL_at h
      refine ⟨i + 1, by rw [h1]; congr 1; omega, by simpa using h2, ?_⟩
      rw [List.take_succ_cons, List.filter_cons_of_pos (by simp [hz]), h3, List.take_succ_cons]
/-- DeleteFunc's answer -/
def DelPost (B : Nat) (w : World) (R : List LineM) (e : Ending) (w' : World) : Prop := Below B w w' ∧ ∃ ao cap, e = .returned (.slice ao R.length cap) ∧ LinesAt w' ao R ∧ ∀ a, ao = some a → B ≤ a.block
def DelIs (B : Nat) (wr : World) (g c : Nat) (L : List LineM) (i j : Nat) : Prop := ∃ M : List LineM, M.length = L.length ∧ wr.ownsRow B 87 3 (.slice (some ⟨g, 0, none⟩) L.length c) L.length (M.flatMap encL) ∧ M.take i = (L.take j).filter notZ ∧ M.drop j = L.drop j ∧ i = ((L.take j).filter notZ).length
theorem del_keep {L M : List LineM} {i j : Nat} {x : LineM} (hx : L[j]? = some x) (hz : notZ x = true) (hij : i < j) (hM : M.length = L.length) (h1 : M.take i = (L.take j).filter notZ) (h2 : M.drop j = L.drop j) (h3 : i = ((L.take j).filter notZ).length) :
    (M.set i x).take (i + 1) = (L.take (j + 1)).filter notZ ∧ (M.set i x).drop (j + 1) = L.drop (j + 1) ∧ i + 1 = ((L.take (j + 1)).filter notZ).length := by
  obtain ⟨hj, rfl⟩ := List.getElem?_eq_some_iff.1 hx
  have e : (L.take (j + 1)).filter notZ = (L.take j).filter notZ ++ [L[j]] := by rw [List.take_succ_eq_append_getElem hj, List.filter_append, List.filter_cons_of_pos hz]; rfl
  refine ⟨?_, ?_, by rw [e, List.length_append, ← h3]; rfl⟩
  · rw [e, ← h1, List.take_succ_eq_append_getElem (by rw [List.length_set]; omega), List.getElem_set_self, List.take_set_of_le (Nat.le_refl _)]
  · rw [List.drop_set_of_lt (by omega)]
    have := congrArg (List.drop 1) h2
    simpa using this
theorem del_skip {L M : List LineM} {i j : Nat} {x : LineM} (hx : L[j]? = some x) (hz : notZ x = false) (h1 : M.take i = (L.take j).filter notZ) (h2 : M.drop j = L.drop j) (h3 : i = ((L.take j).filter notZ).length) :
    M.take i = (L.take (j + 1)).filter notZ ∧ M.drop (j + 1) = L.drop (j + 1) ∧ i = ((L.take (j + 1)).filter notZ).length := by
  obtain ⟨hj, rfl⟩ := List.getElem?_eq_some_iff.1 hx
  have e : (L.take (j + 1)).filter notZ = (L.take j).filter notZ := by rw [List.take_succ_eq_append_getElem hj, List.filter_append, List.filter_cons_of_neg (by simp [hz])]; simp
  refine ⟨by rw [e]; exact h1, ?_, by rw [e]; exact h3⟩
  have := congrArg (List.drop 1) h2
  simpa using this
set_option maxRecDepth 100000 in
set_option maxHeartbeats 2000000 in
theorem del_any (base : Nat) (v : Value) (L : List LineM) (w : World) (hown : w.ownsRow base 87 3 v L.length (L.flatMap encL)) (hn : L.length ≤ 1000) (hbw : base ≤ w.heap.size) :
    Calls Tryd.prog 72 #[v, .func (.func 73) #[] #[]] w (DelPost base w (L.filter notZ)) := by
  obtain ⟨ao, cap, hv, hLA, hcap, hnc, hblk⟩ := lines_of_row_cap hown rfl
  subst hv
  have hidx := index_any 73 isZ enter_net1 (fun x w => net1_any x w) ao cap L w hLA (by omega)
  have HBW := Lib.hid hbw
  by_cases hneg : firstL isZ L 0 = -1
  · have hno := firstL_neg hneg
    have HF : Hid (L.filter notZ = L) := List.filter_eq_self.2 (fun x hx => by
      have := List.any_eq_false.1 hno x hx
      unfold notZ
      simpa using this)
    have HLA := Lib.hid hLA
    have HBK : Hid (∀ a, ao = some a → base ≤ a.block) := fun a ha => hblk a.block (by rw [ha]; rfl)
    rw [hneg] at hidx
    clear hneg hno hown hLA hblk hnc
    go_enter Tryd.func72, Tryd.ntmps72
    go_wp2_with fail
    refine hidx.mono ?_
    rintro e w1 ⟨rfl, hb1⟩
    have HR : Hid (DelPost base w (L.filter notZ) (.returned (.slice ao L.length cap)) w1) := ⟨hb1.mono HBW.out, ao, cap, by rw [HF.out], by rw [HF.out]; exact HLA.out.below hb1, HBK.out⟩
    clear hidx hb1
    go_wp2_with fail
    go_ret
    exact HR.out
  · have h0 : 0 ≤ firstL isZ L 0 := by
      by_cases hge : 0 ≤ firstL isZ L 0
      · exact hge
      · exfalso
        refine hneg ?_
        have : ∀ (l : List LineM) (k : Nat), firstL isZ l k < 0 → firstL isZ l k = -1 := fun l => by
          induction l with
          | nil => intro k _; rfl
          | cons z r ih =>
            intro k hk
            unfold firstL at hk ⊢
            by_cases hz : isZ z = true
            · rw [if_pos hz] at hk; omega
            · rw [if_neg hz] at hk ⊢; exact ih _ hk
        exact this L 0 (by omega)
    obtain ⟨i, h1, h2, h3⟩ := firstL_at h0
    rw [h1, Nat.zero_add] at hidx
    rcases hown.2 with ⟨_, h0'⟩ | ⟨g, c, cur, e9, hg, _⟩
    · omega
    · simp only [Value.slice.injEq] at e9
      obtain ⟨rfl, _, rfl⟩ := e9
      have hine : (((i : Nat) : Int) == -1) = false := by simp
      have HOWN := Lib.hid hown
      have HG := Lib.hid hg
      have H3 : Hid ((L.take (i + 1)).filter notZ = L.take i) := h3
      have hi1 : i < L.length := h2
      clear hneg h0 h1 h2 h3 hown hLA hblk hnc hg hbw
      go_enter Tryd.func72, Tryd.ntmps72
      go_wp2_with fail
      refine hidx.mono ?_
      rintro e w1 ⟨rfl, hb1⟩
      have HI0 : Hid (DelIs base w1 g cap L i (i + 1)) := ⟨L, rfl, row_keep HOWN.out (fun k hk => hb1.block k (row_lt HOWN.out k hk).2), H3.out.symm, rfl, by rw [H3.out, List.length_take]; omega⟩
      have HB1 : Hid (Below base w w1) := hb1.mono HBW.out
      clear hidx hb1
      go_wp2_with fail
      clear hine
      go_loopw [5, 6] (fun vi vj wr => ∃ a b : Nat, a < b ∧ b ≤ L.length ∧ vi = .int .i64 (a : Int) ∧ vj = .int .i64 (b : Int) ∧ Hid (DelIs base wr g cap L a b) ∧ Hid (Below base w wr)) (fun _ vj _ => L.length - (intOf vj).toNat)
      case atStart => exact ⟨i, i + 1, by omega, by omega, rfl, by go_num, HI0, HB1⟩
      case round =>
        clear HI0 HB1
        obtain ⟨a, b, hab, hbl, rfl, rfl, HI, HB⟩ := hrel
        by_cases hlt : b < L.length
        · obtain ⟨x, hx⟩ := getElem?_ex hlt
          obtain ⟨M, hM, hrow, hm1, hm2, hm3⟩ := HI.out
          have hMx : M[b]? = some x := by
            have := congrArg (fun l => l[0]?) hm2
            simp only [List.getElem?_drop, Nat.add_zero] at this
            rw [this]; exact hx
          have hrow' := ownsRow_cast hrow hM.symm rfl
          have hlen : (M.flatMap encL).length = L.length * 3 := by rw [flatL_len, hM]
          have hc : ∀ j, j < 3 → wr.cell? ⟨g, b * 3 + j, none⟩ = (encL x)[j]? := fun j hj => by rw [hrow.cellAt _ (by omega), flat3 M b j x hMx hj]
          have x0 : wr.cell? ⟨g, b * 3, none⟩ = some (.string x.acc) := hc 0 (by omega)
          have x1 : wr.cell? ⟨g, b * 3 + 1, none⟩ = some (.string x.cur) := hc 1 (by omega)
          have x2 : wr.cell? ⟨g, b * 3 + 2, none⟩ = some (.int .i64 x.amt) := hc 2 (by omega)
          have hb1 : (b : Int) < (L.length : Int) := by omega
          have hb0 : (0 : Int) ≤ (b : Int) := by omega
          have ha0 : (0 : Int) ≤ (a : Int) := by omega
          have ha1 : (a : Int) < (L.length : Int) := by omega
          obtain ⟨B3, hB3⟩ : ∃ B3, B3 = wr.heap.size := ⟨_, rfl⟩
          obtain ⟨W, hW⟩ : ∃ W, W = wr.alloc (.cells #[.string x.acc, .string x.cur, .int .i64 x.amt] 87) := ⟨_, rfl⟩
          have hbW : Below wr.heap.size wr W := by rw [hW]; exact (Below.refl _ _).alloc (Nat.le_refl _) _
          have HBX : Hid (W.heap[B3]? = some (.cells #[.string x.acc, .string x.cur, .int .i64 x.amt] 87 (0, 0))) := by show _ = _; rw [hW, hB3]; exact heap_new_at rfl _
          have HBBW : Hid (Below base w W) := HB.out.trans (hbW.mono (Nat.le_trans (Nat.le_of_lt (Nat.lt_of_le_of_lt HG.out (row_lt hrow g rfl).2)) (Nat.le_refl _)))
          have HIW : Hid (DelIs base W g cap L a b) := ⟨M, hM, row_keep hrow (fun k hk => hbW.block k (row_lt hrow k hk).2), hm1, hm2, hm3⟩
          have hcall := net1_any x W
          have HW := Lib.hid hW
          have HB3 := Lib.hid hB3
          have HX := Lib.hid hx
          clear hrow hrow' hlen hc hm1 hm2 hm3 hMx hM hbW hW hB3 HI HB hx
          cases hz : notZ x with
          | true =>
            have hz2 : (x.amt == 0) = false := by unfold notZ isZ at hz; simpa using hz
            rw [hz2] at hcall
            have HZ := Lib.hid hz
            clear hz hz2
            go_wp2_with fail
            rw [← HW.out, ← HB3.out]
            go_wp2_with fail
            refine hcall.mono ?_
            rintro e w3 ⟨rfl, hb3⟩
            have hgW : g < W.heap.size := by obtain ⟨M, _, hr, _⟩ := HIW.out; exact (row_lt hr g rfl).2
            have HBX3 : Hid (w3.heap[B3]? = some (.cells #[.string x.acc, .string x.cur, .int .i64 x.amt] 87 (0, 0))) := (hb3.block B3 (lt_of_heap HBX.out)).trans HBX.out
            have z0 : w3.cell? ⟨B3, 0, none⟩ = some (.string x.acc) := cell_of_heap HBX3.out 0
            have z1 : w3.cell? ⟨B3, 1, none⟩ = some (.string x.cur) := cell_of_heap HBX3.out 1
            have z2 : w3.cell? ⟨B3, 2, none⟩ = some (.int .i64 x.amt) := cell_of_heap HBX3.out 2
            obtain ⟨M, hM, hrow, hm1, hm2, hm3⟩ := HIW.out
            have hrow3 : w3.ownsRow base 87 3 (.slice (some ⟨g, 0, none⟩) L.length cap) L.length (M.flatMap encL) := row_keep hrow (fun k hk => hb3.block k (row_lt hrow k hk).2)
            have hbase : Below base w w3 := HBBW.out.trans (hb3.mono (Nat.le_of_lt (Nat.lt_of_le_of_lt HG.out hgW)))
            have hMa : ∃ y, M[a]? = some y := getElem?_ex (by omega)
            obtain ⟨y, hy⟩ := hMa
            have hlen : (M.flatMap encL).length = L.length * 3 := by rw [flatL_len, hM]
            have hfa : ∀ j, j < 3 → w3.cell? ⟨g, a * 3 + j, none⟩ = (encL y)[j]? := fun j hj => by rw [hrow3.cellAt _ (by omega), flat3 M a j y hy hj]
            have y0 : w3.cell? ⟨g, a * 3, none⟩ = some (.string y.acc) := hfa 0 (by omega)
            have y1 : w3.cell? ⟨g, a * 3 + 1, none⟩ = some (.string y.cur) := hfa 1 (by omega)
            have y2 : w3.cell? ⟨g, a * 3 + 2, none⟩ = some (.int .i64 y.amt) := hfa 2 (by omega)
            have f0 : w3.frozen? ⟨g, a * 3, none⟩ = false := hrow3.frozenAt _
            have f1 : w3.frozen? ⟨g, a * 3 + 1, none⟩ = false := hrow3.frozenAt _
            have f2 : w3.frozen? ⟨g, a * 3 + 2, none⟩ = false := hrow3.frozenAt _
            have hs := (((hrow3.stored (a * 3) (.string x.acc)).1.stored (a * 3 + 1) (.string x.cur)).1.stored (a * 3 + 2) (.int .i64 x.amt)).1
            rw [flatL_put x hy] at hs
            obtain ⟨k1, k2, k3⟩ := del_keep HX.out HZ.out hab hM hm1 hm2 hm3
            have HREL : Hid (DelIs base (((w3.setCell ⟨g, a * 3, none⟩ (.string x.acc)).setCell ⟨g, a * 3 + 1, none⟩ (.string x.cur)).setCell ⟨g, a * 3 + 2, none⟩ (.int .i64 x.amt)) g cap L (a + 1) (b + 1)) := ⟨M.set a x, by rw [List.length_set]; exact hM, hs, k1, k2, k3⟩
            have HBN : Hid (Below base w (((w3.setCell ⟨g, a * 3, none⟩ (.string x.acc)).setCell ⟨g, a * 3 + 1, none⟩ (.string x.cur)).setCell ⟨g, a * 3 + 2, none⟩ (.int .i64 x.amt))) := ((hbase.setCell (p := ⟨g, a * 3, none⟩) HG.out _).setCell (p := ⟨g, a * 3 + 1, none⟩) HG.out _).setCell (p := ⟨g, a * 3 + 2, none⟩) HG.out _
            clear hcall hb3 hrow hrow3 hm1 hm2 hm3 hM hfa hs k1 k2 k3 hy hbase hlen x0 x1 x2 HBX HBX3
            go_wp2_with fail
            go_roundw
            case rel => exact ⟨a + 1, b + 1, by omega, by omega, by go_num, by go_num, HREL, HBN⟩
            case measure => simp [intOf]; omega
          | false =>
            have hz2 : (x.amt == 0) = true := by unfold notZ isZ at hz; simpa using hz
            rw [hz2] at hcall
            have HZ := Lib.hid hz
            clear hz hz2
            go_wp2_with fail
            rw [← HW.out, ← HB3.out]
            go_wp2_with fail
            refine hcall.mono ?_
            rintro e w3 ⟨rfl, hb3⟩
            have hgW : g < W.heap.size := by obtain ⟨M, _, hr, _⟩ := HIW.out; exact (row_lt hr g rfl).2
            obtain ⟨M, hM, hrow, hm1, hm2, hm3⟩ := HIW.out
            obtain ⟨k1, k2, k3⟩ := del_skip HX.out HZ.out hm1 hm2 hm3
            have HREL : Hid (DelIs base w3 g cap L a (b + 1)) := ⟨M, hM, row_keep hrow (fun k hk => hb3.block k (row_lt hrow k hk).2), k1, k2, k3⟩
            have HBN : Hid (Below base w w3) := HBBW.out.trans (hb3.mono (Nat.le_of_lt (Nat.lt_of_le_of_lt HG.out hgW)))
            clear hcall hb3 hrow hm1 hm2 hm3 hM k1 k2 k3 x0 x1 x2 HBX
            go_wp2_with fail
            go_roundw
            case rel => exact ⟨a, b + 1, by omega, by omega, rfl, by go_num, HREL, HBN⟩
            case measure => simp [intOf]; omega
        · obtain rfl : b = L.length := by omega
          have hd1 : decide ((L.length : Int) < (L.length : Int)) = false := decide_eq_false (by omega)
          obtain ⟨M, hM, hrow, hm1, hm2, hm3⟩ := HI.out
          have hlen : (M.flatMap encL).length = L.length * 3 := by rw [flatL_len, hM]
          obtain ⟨w9, hcl, hon, hcells⟩ := clear_run hrow hlen hab (cap - a)
          have hgW : g < wr.heap.size := (row_lt hrow g rfl).2
          rw [List.take_length] at hm1 hm3
          have HR0 : Hid (Below base w w9 ∧ ∃ ao cap', Ending.returned (.slice (some ⟨g, 0, none⟩) a cap) = .returned (.slice ao (L.filter notZ).length cap') ∧ LinesAt w9 ao (L.filter notZ)) := by
            refine ⟨HB.out.trans (hon.below (Nat.le_of_lt (Nat.lt_of_le_of_lt HG.out hgW)) (fun k hk => by rw [hk]; exact HG.out)), some ⟨g, 0, none⟩, cap, by rw [← hm3], Or.inr ⟨g, 0, rfl, Nat.lt_of_lt_of_le hgW hon.size, fun j y hy => ?_⟩⟩
            have hj : j < a := by rw [hm3]; exact (List.getElem?_eq_some_iff.1 hy).1
            have hyM : M[j]? = some y := by rw [← hm1, List.getElem?_take, if_pos hj] at hy; exact hy
            have hc : ∀ q, q < 3 → w9.cell? ⟨g, 0 + j * 3 + q, none⟩ = (encL y)[q]? := fun q hq => by rw [Nat.zero_add, hcells _ (by omega), hrow.cellAt _ (by omega), flat3 M j q y hyM hq]
            exact ⟨hc 0 (by omega), hc 1 (by omega), hc 2 (by omega)⟩
          have HR : Hid (DelPost base w (L.filter notZ) (.returned (.slice (some ⟨g, 0, none⟩) a cap)) w9) := by
            obtain ⟨k1, ao9, cap9, k2, k3⟩ := HR0.out
            have k4 := k2
            simp only [Ending.returned.injEq, Value.slice.injEq] at k4
            obtain ⟨rfl, _, rfl⟩ := k4
            exact ⟨k1, _, _, k2, k3, fun a ha => by cases ha; exact HG.out⟩
          have hlk : ¬ cap = a := by omega
          have hklc : a ≤ cap := by omega
          have hal : a ≤ L.length := by omega
          clear hM hrow hm1 hm2 hm3 hlen hon hcells HI
          go_wp2_with (simp only [hcl])
          go_ret
          exact HR.out
end Go.Proofs.YtbhndnjlplibmaaDoor.lg
