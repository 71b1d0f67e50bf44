/- slices.SortStableFunc at no more than twenty lines, by entry.Compare. -/
import Derived.Test.YtbhndnjlplibmaaDoorEt2
namespace Go.Proofs.YtbhndnjlplibmaaDoor.lg
open Go.RowKit Go.Shelf Go.Lib Go.Sort

theorem swoL : SWO (ltOf lineCmp) where
  irrefl x := by have := swoB.irrefl (toB x); unfold ltOf at *; rwa [lineCmp_bal] at this
  trans x y z h1 h2 := by
    have := swoB.trans (toB x) (toB y) (toB z)
    unfold ltOf at *
    rw [lineCmp_bal, lineCmp_bal, lineCmp_bal] at this
    exact this h1 h2
  ntrans x y z h1 h2 := by
    have := swoB.ntrans (toB x) (toB y) (toB z)
    unfold ltOf at *
    rw [lineCmp_bal, lineCmp_bal, lineCmp_bal] at this
    exact this h1 h2
theorem growL_two (w : World) (m : Nat) (dk : Array LineM) (os : Array Obj) (blk off : Nat) (o1 o2 o3 : Obj) :
    ∃ q os', (((sortWorldK encL 3 w blk off m dk os).alloc o1).alloc o2).drew.alloc o3 = grow ((sortWorldK encL 3 w blk off m dk os).drewN q) os' :=
  ⟨1, #[o1, o2, o3], by
    generalize sortWorldK encL 3 w blk off m dk os = W
    have h : ((W.heap.push o1).push o2).push o3 = W.heap ++ #[o1, o2, o3] := by rw [Array.push_eq_append, Array.push_eq_append, Array.push_eq_append, Array.append_assoc, Array.append_assoc]; rfl
    show ({ W with heap := ((W.heap.push o1).push o2).push o3, drawn := W.drawn + 1 } : World) = { W with heap := W.heap ++ #[o1, o2, o3], drawn := W.drawn + 1 }
    rw [h]⟩
theorem cmpL (blk off size : Nat) (w : World) : CmpLays Tryd.prog 89 #[] encL 3 lineCmp blk off size w := by
  intro m os dk _ x y
  have h := compare_lines x y (sortWorldK encL 3 w blk off m dk os)
  refine Calls.mono h fun e w' hp => ?_
  obtain ⟨he, _, o, hw⟩ := hp
  obtain ⟨q, os', hg⟩ := growL_two w m dk os blk off (.cells #[.string x.acc, .string x.cur, .int .i64 x.amt] 87) (.cells #[.string y.acc, .string y.cur, .int .i64 y.amt] 87) o
  exact ⟨he, q, os', hw.trans hg⟩
theorem holdsL {w : World} {g : Nat} {cur : Array Value} {e : TypeId} {l : List LineM} (hb : w.heap[g]? = some (.cells cur e (0, 0))) (ht : cur.toList.take (l.length * 3) = l.flatMap encL) : HoldsK encL 3 w g 0 l.toArray := by
  intro t htl
  rw [size_flatK] at htl
  simp only [List.size_toArray] at htl
  refine ⟨?_, by simp [World.frozen?, hb]⟩
  rw [get_flatK _ _ _ _ (by simpa using htl)]
  have hi : t / 3 < l.length := by omega
  have h1 : (cur.toList.take (l.length * 3))[t]? = (l.flatMap encL)[t]? := by rw [ht]
  rw [List.getElem?_take_of_lt htl] at h1
  have h2 := flat3 l (t / 3) (t % 3) l[t / 3] (by simp [hi]) (by omega)
  rw [show t / 3 * 3 + t % 3 = t by omega] at h2
  simp only [World.cell?, hb, Nat.zero_add]
  simp only [Option.isSome_none, Bool.false_eq_true, if_false]
  rw [← Array.getElem?_toList, h1, h2]
  have h3 : (l.toArray)[t / 3]! = l[t / 3] := by simp [hi]
  rw [h3]
  have h4 : t % 3 < (encL l[t / 3]).length := by simp [encL]; omega
  rw [List.getElem?_eq_getElem h4]
  congr 1
  exact (getElem!_pos (encL l[t / 3]) (t % 3) h4).symm
theorem sortedL_only {w : World} {g n : Nat} {os : Array Obj} (d : Array LineM) : Only (fun k => k = g) w (sortWorldK encL 3 w g 0 n d os) := by
  refine ⟨rfl, rfl, rfl, by simp [sortWorldK, putRowK, putRow, mapBlock, Sort.ahead, grow], fun k hk hne => ?_⟩
  unfold sortWorldK
  rw [heap_grow_old _ _ (by simpa [putRowK, putRow, mapBlock, Sort.ahead] using hk)]
  have : g ≠ k := fun e => hne e.symm
  simp [putRowK, putRow, mapBlock, Sort.ahead, Array.getElem?_modify, this]
theorem isAggL (w : World) : (isAgg 87).run Tryd.prog w = .ok true w := Tryd.isAgg87 w
theorem sizeL (w : World) : (Go.sizeOf 87).run Tryd.prog w = .ok 3 w := Tryd.sizeOf87 w
theorem enter_cmpL : ∀ args w, (callFunc 89 args).run Tryd.prog w = .ok (.enter 89 args) w := enters_of Tryd.func89 (by kernel_rfl) rfl
theorem ins_self (d : Array LineM) (a : Nat) : Sort.insertionSort (ltOf lineCmp) d a a = d := by unfold Sort.insertionSort; rw [insOuter, if_neg (by omega)]
/-- what the sort leaves -/
def SortL (base : Nat) (g cap : Nat) (l : List LineM) (w : World) (e : Ending) (w' : World) : Prop := e = .returned (.tuple #[]) ∧ Below base w w' ∧ ∃ S : List LineM, S.Perm l ∧ Weak (S.map toB) ∧ LinesAt w' (some ⟨g, 0, none⟩) S
/-- insertion sort of a piece, once -/
theorem ins_call (g c : Nat) (d : Array LineM) (a b : Nat) (w : World) (hH : HoldsK encL 3 w g 0 d) (hlt : g < w.heap.size) (hab : a ≤ b) (hb : b ≤ d.size) (hsz : d.size ≤ 1000) :
    Calls Tryd.prog 134 #[.slice (some ⟨g, 0, none⟩) d.size c, .int .i64 (a : Int), .int .i64 (b : Int), .func (.func 89) #[] #[]] w fun e w' =>
      e = .returned (.tuple #[]) ∧ HoldsK encL 3 w' g 0 (Sort.insertionSort (ltOf lineCmp) d a b) ∧ Only (fun k => k = g) w w' := by
  have hp := (insertionSort_holds (lt := ltOf lineCmp)) swoL d a b hab hb
  refine (AnyQ.insertionSortCmpFunc insLine_lays 3 isAggL sizeL encL (fun _ => rfl) (fun x v hv => by simp [encL] at hv; rcases hv with rfl | rfl | rfl <;> rfl) lineCmp 89 #[] g 0 c a b d w enter_cmpL (cmpL g 0 _ w) hH hlt hab hb (by omega)).mono fun e w' h => ?_
  obtain ⟨he, n, os, rfl⟩ := h
  exact ⟨he, holdsK_sortWorldK_c encL 3 w g 0 d _ n os hH hlt (by have := hp.1.1; omega), sortedL_only _⟩
theorem ins_none (p : Option Addr) (c : Nat) (w : World) : Calls Tryd.prog 134 #[.slice p 0 c, .int .i64 0, .int .i64 0, .func (.func 89) #[] #[]] w fun e w' => e = .returned (.tuple #[]) ∧ w = w' :=
  (AnyF.insertionSortCmpFunc_none insLine_lays p c _ w).mono fun _ _ h => ⟨h.1, h.2.symm⟩
set_option maxRecDepth 100000 in
set_option maxHeartbeats 4000000 in
theorem stable_none (p : Option Addr) (c : Nat) (w : World) : Calls Tryd.prog 110 #[.slice p 0 c, .int .i64 0, .func (.func 89) #[] #[]] w fun e w' => e = .returned (.tuple #[]) ∧ w = w' := by
  have hc := ins_none p c w
  go_enter Tryd.func110, Tryd.ntmps110
  go_wp2_with fail
  refine wp_loop_rounds 1 ?_
  rw [rounds_succ]
  go_wp2_with fail
  refine hc.mono ?_
  rintro e w' ⟨rfl, rfl⟩
  go_wp2_with fail
  refine wp_loop_rounds 1 ?_
  rw [rounds_succ]
  go_wp2_with fail
  go_end0
  exact ⟨rfl, rfl⟩
theorem weak_of {S : List LineM} (h : ∀ i j, i < j → j < S.length → ltOf lineCmp S[j]! S[i]! = false) : Weak (S.map toB) := by
  unfold Weak
  rw [List.pairwise_map]
  refine List.pairwise_iff_getElem.2 fun i j hi hj hij => ?_
  have := h i j hij hj
  rw [getElem!_pos S j hj, getElem!_pos S i hi] at this
  intro hlt
  have h2 := balCmp_lt.2 hlt
  rw [lineCmp_bal] at h2
  unfold ltOf at this
  exact absurd h2 (of_decide_eq_false this)
set_option maxRecDepth 100000 in
set_option maxHeartbeats 4000000 in
theorem stable_any (g c : Nat) (d : Array LineM) (w : World) (hH : HoldsK encL 3 w g 0 d) (hlt : g < w.heap.size) (hsz : d.size ≤ 20) :
    Calls Tryd.prog 110 #[.slice (some ⟨g, 0, none⟩) d.size c, .int .i64 (d.size : Int), .func (.func 89) #[] #[]] w fun e w' =>
      e = .returned (.tuple #[]) ∧ HoldsK encL 3 w' g 0 (Sort.insertionSort (ltOf lineCmp) d 0 d.size) ∧ Only (fun k => k = g) w w' := by
  have hc := ins_call g c d 0 d.size w hH hlt (Nat.zero_le _) (Nat.le_refl _) (by omega)
  have hc2 := fun W (hW : HoldsK encL 3 W g 0 (Sort.insertionSort (ltOf lineCmp) d 0 d.size)) (hl : g < W.heap.size) => ins_call g c (Sort.insertionSort (ltOf lineCmp) d 0 d.size) 20 20 W hW hl (Nat.le_refl _)
  have hs : (Sort.insertionSort (ltOf lineCmp) d 0 d.size).size = d.size := ((insertionSort_holds (lt := ltOf lineCmp)) swoL d 0 d.size (Nat.zero_le _) (Nat.le_refl _)).1.1
  have hself := ins_self (Sort.insertionSort (ltOf lineCmp) d 0 d.size) 20
  generalize Sort.insertionSort (ltOf lineCmp) d 0 d.size = D at *
  rw [hself] at hc2
  have HC2 := Lib.hid hc2
  have HS := Lib.hid hs
  have HLT := Lib.hid hlt
  clear hc2 hs hself hlt hH
  by_cases h20 : d.size = 20
  · rw [h20] at hc HS ⊢
    have HSZ := Lib.hid h20
    clear hsz h20
    go_enter Tryd.func110, Tryd.ntmps110
    go_wp2_with fail
    refine wp_loop_rounds 2 ?_
    rw [rounds_succ]
    go_wp2_with fail
    refine hc.mono ?_
    rintro e w1 ⟨rfl, hH1, ho1⟩
    have hcc := HC2.out w1 hH1 (Nat.lt_of_lt_of_le HLT.out ho1.size) (by have := HS.out; omega) (by have := HS.out; omega)
    rw [HS.out] at hcc
    have HO1 := Lib.hid ho1
    clear hc hH1 ho1
    go_wp2_with fail
    rw [rounds_succ]
    go_wp2_with fail
    refine hcc.mono ?_
    rintro e w2 ⟨rfl, hH2, ho2⟩
    have HZ : Hid (HoldsK encL 3 w2 g 0 D ∧ Only (fun k => k = g) w w2) := ⟨hH2, HO1.out.trans ho2 (fun _ _ h => h)⟩
    clear hcc hH2 ho2 HO1
    go_wp2_with fail
    refine wp_loop_rounds 1 ?_
    rw [rounds_succ]
    go_wp2_with fail
    go_end0
    exact ⟨rfl, HZ.out⟩
  · have h1 : ¬ ((20 : Int) ≤ (d.size : Int)) := by omega
    have h2 : ¬ ((20 : Int) < (d.size : Int)) := by omega
    clear h20
    go_enter Tryd.func110, Tryd.ntmps110
    go_wp2_with fail
    refine wp_loop_rounds 1 ?_
    rw [rounds_succ]
    go_wp2_with fail
    refine hc.mono ?_
    rintro e w1 ⟨rfl, hH1, ho1⟩
    have HZ : Hid (HoldsK encL 3 w1 g 0 D ∧ Only (fun k => k = g) w w1) := ⟨hH1, ho1⟩
    clear hc hH1 ho1
    go_wp2_with fail
    refine wp_loop_rounds 1 ?_
    rw [rounds_succ]
    go_wp2_with fail
    go_end0
    exact ⟨rfl, HZ.out⟩
def SortPost (B : Nat) (w : World) (v : Value) (l : List LineM) (e : Ending) (w' : World) : Prop := e = .returned (.tuple #[]) ∧ Below B w w' ∧ ∃ S : List LineM, S.Perm l ∧ Weak (S.map toB) ∧ ∃ ao cap, v = .slice ao S.length cap ∧ LinesAt w' ao S
theorem sort_lines (base : Nat) (v : Value) (l : List LineM) (w : World) (hown : w.ownsRow base 87 3 v l.length (l.flatMap encL)) (hl : l.length ≤ 20) :
    Calls Tryd.prog 88 #[v, .func (.func 89) #[] #[]] w (SortPost base w v l) := by
  have hrow := hown
  obtain ⟨h1, h2⟩ := hown
  rcases h2 with ⟨rfl, hn⟩ | ⟨g, c, cur, rfl, hbase, hb, hc, hm, hs, htk⟩
  · obtain rfl : l = [] := List.length_eq_zero_iff.1 hn
    have hcall := stable_none none 0 w
    go_enter Tryd.func88, Tryd.ntmps88
    go_wp2_with fail
    refine hcall.mono ?_
    rintro e w' ⟨rfl, rfl⟩
    go_wp2_with fail
    go_end0
    exact ⟨rfl, Below.refl _ _, [], List.Perm.refl _, List.Pairwise.nil, none, 0, rfl, Or.inl rfl⟩
  · have hlt := lt_of_heap hb
    have hH := holdsL hb htk
    have hcall := stable_any g c l.toArray w hH hlt (by simpa using hl)
    have hp := (insertionSort_holds (lt := ltOf lineCmp)) swoL l.toArray 0 l.toArray.size (Nat.zero_le _) (Nat.le_refl _)
    generalize Sort.insertionSort (ltOf lineCmp) l.toArray 0 l.toArray.size = D at *
    rw [List.size_toArray] at hcall
    have HP := Lib.hid hp
    have HBA := Lib.hid hbase
    have HLT := Lib.hid hlt
    clear hp hH hrow h1 hb hc hm hs htk hbase hlt
    go_enter Tryd.func88, Tryd.ntmps88
    go_wp2_with fail
    refine hcall.mono ?_
    rintro e w' ⟨rfl, hH, ho⟩
    have HZ : Hid (SortPost base w (.slice (some ⟨g, 0, none⟩) l.length c) l (.returned (.tuple #[])) w') := by
      obtain ⟨⟨p1, p2, p3⟩, p4⟩ := HP.out
      simp only [List.size_toArray] at p1 p3 p4
      have hpl : D.toList.Perm l := by
        rw [show D.extract 0 l.length = D by rw [← p1]; simp, show l.toArray.extract 0 l.length = l.toArray by simp] at p3
        simpa using p3
      have hlen : D.toList.length = l.length := by simp [p1]
      refine ⟨rfl, ho.below (Nat.le_trans HBA.out (Nat.le_of_lt HLT.out)) (fun k hk => by have := HBA.out; omega), D.toList, hpl, weak_of (fun i j hij hj => ?_), some ⟨g, 0, none⟩, c, by rw [hlen], Or.inr ⟨g, 0, rfl, Nat.lt_of_lt_of_le HLT.out ho.size, fun i x hx => ?_⟩⟩
      · have hj' : j < D.size := by simpa using hj
        have := p4 i j (Nat.zero_le _) hij (by omega)
        rw [getElem!_pos D j hj', getElem!_pos D i (by omega)] at this
        rw [getElem!_pos D.toList j hj, getElem!_pos D.toList i (by omega)]
        simpa using this
      · have hi : i < D.size := by
          have := (List.getElem?_eq_some_iff.1 hx).1
          simpa using this
        have hx' : D[i]! = x := by
          rw [getElem!_pos D i hi]
          simpa [hi] using hx
        have hcell := fun c (hc : c < 3) => (hH.cell (c := c) hi hc).1
        rw [hx'] at hcell
        exact ⟨hcell 0 (by omega), hcell 1 (by omega), hcell 2 (by omega)⟩
    clear hcall hH ho HP HBA HLT
    go_wp2_with fail
    go_end0
    exact HZ.out
end Go.Proofs.YtbhndnjlplibmaaDoor.lg
