/- slices.SortFunc at balances, by frame.Compare. -/
import Derived.Test.YtbhndnjlplibmaaSrt
import Derived.Test.YtbhndnjlplibmaaOrd
import Derived.Shelf.SlSortCmp.NoneTotal
import Derived.Sort.OwnSorted
namespace Go.Proofs.Ytbhndnjlplibmaa.lg
open Go.RowKit Go.Shelf Go.Lib Go.Sort

theorem swoB : SWO (ltOf balCmp) where
  irrefl x := by
    unfold ltOf
    exact decide_eq_false (fun h => ltK_irrefl _ (balCmp_lt.1 h))
  trans x y z h1 h2 := by
    unfold ltOf at *
    exact decide_eq_true (balCmp_lt.2 (ltK_trans (balCmp_lt.1 (of_decide_eq_true h1)) (balCmp_lt.1 (of_decide_eq_true h2))))
  ntrans x y z h1 h2 := by
    unfold ltOf at *
    refine decide_eq_false (fun h => ?_)
    have n1 := fun k => of_decide_eq_false h1 (balCmp_lt.2 k)
    have n2 := fun k => of_decide_eq_false h2 (balCmp_lt.2 k)
    have hxz := balCmp_lt.1 h
    by_cases hxy : plOf x = plOf y
    · rw [hxy] at hxz; exact n2 hxz
    · rcases ltK_total hxy with k | k
      · exact n1 k
      · exact n2 (ltK_trans k hxz)
theorem grow_two (w : World) (m : Nat) (dk : Array BalM) (os : Array Obj) (blk off : Nat) (o1 o2 o3 : Obj) :
    ∃ q os', (((sortWorldK encB 4 w blk off m dk os).alloc o1).alloc o2).drew.alloc o3 = grow ((sortWorldK encB 4 w blk off m dk os).drewN q) os' :=
  ⟨1, #[o1, o2, o3], by
    generalize sortWorldK encB 4 w blk off m dk os = W
    have h : ((W.heap.push o1).push o2).push o3 = W.heap ++ #[o1, o2, o3] := by rw [Array.push_eq_append, Array.push_eq_append, Array.push_eq_append, Array.append_assoc, Array.append_assoc]; rfl
    show ({ W with heap := ((W.heap.push o1).push o2).push o3, drawn := W.drawn + 1 } : World) = { W with heap := W.heap ++ #[o1, o2, o3], drawn := W.drawn + 1 }
    rw [h]⟩
theorem cmpB (blk off size : Nat) (w : World) : CmpLays Try.prog 59 #[] encB 4 balCmp blk off size w := by
  intro m os dk _ x y
  have h := compare_grow x y (sortWorldK encB 4 w blk off m dk os)
  refine Calls.mono h fun e w' hp => ?_
  obtain ⟨he, _, o, hw⟩ := hp
  obtain ⟨q, os', hg⟩ := grow_two w m dk os blk off (.cells #[.int .i64 x.ent, .string x.acc, .string x.cur, .int .i64 x.amt] 43) (.cells #[.int .i64 y.ent, .string y.acc, .string y.cur, .int .i64 y.amt] 43) o
  exact ⟨he, q, os', hw.trans hg⟩
theorem flat4 : ∀ (l : List BalM) (i j : Nat) (x : BalM), l[i]? = some x → j < 4 → (l.flatMap encB)[i * 4 + j]? = (encB x)[j]?
  | [], i, _, _, h, _ => by simp at h
  | y :: r, 0, j, x, h, hj => by
    simp only [List.getElem?_cons_zero, Option.some.injEq] at h
    subst h
    rw [List.flatMap_cons, List.getElem?_append_left (by simp [encB]; omega)]
    simp
  | y :: r, i + 1, j, x, h, hj => by
    rw [List.flatMap_cons, List.getElem?_append_right (by simp [encB]; omega)]
    have := flat4 r i j x (by simpa using h) hj
    rw [← this]
    congr 1
    simp [encB]
    omega
theorem holdsB {w : World} {g : Nat} {cur : Array Value} {e : TypeId} {l : List BalM} (hb : w.heap[g]? = some (.cells cur e (0, 0))) (ht : cur.toList.take (l.length * 4) = l.flatMap encB) : HoldsK encB 4 w g 0 l.toArray := by
  intro t htl
  rw [size_flatK] at htl
  simp only [List.size_toArray] at htl
  refine ⟨?_, by simp [World.frozen?, hb]⟩
  rw [get_flatK _ _ _ _ (by simpa using htl)]
  have hi : t / 4 < l.length := by omega
  have h1 : (cur.toList.take (l.length * 4))[t]? = (l.flatMap encB)[t]? := by rw [ht]
  rw [List.getElem?_take_of_lt htl] at h1
  have h2 := flat4 l (t / 4) (t % 4) l[t / 4] (by simp [hi]) (by omega)
  rw [show t / 4 * 4 + t % 4 = t by omega] at h2
  simp only [World.cell?, hb, Nat.zero_add]
  simp only [Option.isSome_none, Bool.false_eq_true, if_false]
  rw [← Array.getElem?_toList, h1, h2]
  have h3 : (l.toArray)[t / 4]! = l[t / 4] := by simp [hi]
  rw [h3]
  have h4 : t % 4 < (encB l[t / 4]).length := by simp [encB]; omega
  rw [List.getElem?_eq_getElem h4]
  congr 1
  exact (getElem!_pos (encB l[t / 4]) (t % 4) h4).symm
theorem sorted_only {w : World} {g n : Nat} {os : Array Obj} (d : Array BalM) : Only (fun k => k = g) w (sortWorldK encB 4 w g 0 n d os) := by
  refine ⟨rfl, rfl, rfl, by simp [sortWorldK, putRowK, putRow, mapBlock, Sort.ahead, grow], fun k hk hne => ?_⟩
  unfold sortWorldK
  rw [heap_grow_old _ _ (by simpa [putRowK, putRow, mapBlock, Sort.ahead] using hk)]
  have : g ≠ k := fun e => hne e.symm
  simp [putRowK, putRow, mapBlock, Sort.ahead, Array.getElem?_modify, this]
theorem sorted_size {w : World} {g n : Nat} {os : Array Obj} (d : Array BalM) : w.heap.size ≤ (sortWorldK encB 4 w g 0 n d os).heap.size := (sorted_only d).size
theorem isAggB (w : World) : (isAgg 43).run Try.prog w = .ok true w := Try.isAgg43 w
theorem sizeB (w : World) : (Go.sizeOf 43).run Try.prog w = .ok 4 w := Try.sizeOf43 w
/-- SORTED: balances, no two of one place, in a row of the call's own -/
theorem sort_bals (base : Nat) (v : Value) (l : List BalM) (w : World) (hown : w.ownsRow base 43 4 v l.length (l.flatMap encB)) (hd : l.Pairwise fun x y => plOf x ≠ plOf y) (hl : l.length ≤ 1000) :
    Calls Try.prog 61 #[v, .func (.func 59) #[] #[]] w fun e w' => e = .returned (.tuple #[]) ∧ ∃ ao cap L, v = .slice ao L.length cap ∧ L.Perm l ∧ Rises L ∧ BalsAt w' ao L ∧ Below base w w' := by
  have hrow := hown
  obtain ⟨h1, h2⟩ := hown
  rcases h2 with ⟨rfl, hn⟩ | ⟨g, c, cur, rfl, hbase, hb, hc, hm, hs, htk⟩
  · obtain rfl : l = [] := List.length_eq_zero_iff.1 hn
    refine (AnyF.slices_SortFunc_none sortBal_lays none 0 (.func (.func 59) #[] #[]) w).mono fun e w' h => ?_
    obtain ⟨he, rfl⟩ := h
    exact ⟨he, none, 0, [], rfl, List.Perm.refl _, List.Pairwise.nil, Or.inl rfl, Below.refl _ _⟩
  · have hlt := lt_of_heap hb
    have eg : ∀ args w, (callFunc 59 args).run Try.prog w = .ok (.enter 59 args) w := enters_of Try.func59 (by kernel_rfl) rfl
    have hH := holdsB hb htk
    have hc := AnyQ.slices_SortFunc sortBal_lays 4 isAggB sizeB encB (fun _ => rfl) (fun x v hv => by simp [encB] at hv; rcases hv with rfl | rfl | rfl | rfl <;> rfl) balCmp swoB 59 #[] g 0 c l.toArray w eg (cmpB g 0 _ w) hH hlt (by simp; omega)
    rw [List.size_toArray] at hc
    refine Calls.mono hc fun e w' hp => ?_
    obtain ⟨he, d', n, os, hperm, hsort, rfl⟩ := hp
    have hps := hperm.1
    have hpp := hperm.2.2
    simp only [List.size_toArray] at hps
    have hpl : d'.toList.Perm l := by
      rw [show d'.extract 0 l.length = d' by rw [← hps]; simp, show l.toArray.extract 0 l.length = l.toArray by simp] at hpp
      simpa using hpp
    have hlen : d'.toList.length = l.length := by simp [hps]
    have hd' : d'.toList.Pairwise fun x y => plOf x ≠ plOf y := (hpl.pairwise_iff (fun h => Ne.symm h)).2 hd
    have hris : Rises d'.toList := by
      refine List.pairwise_iff_getElem.2 fun i j hi hj hij => ?_
      have hne := List.pairwise_iff_getElem.1 hd' i j hi hj hij
      have hj' : j < d'.size := by simpa using hj
      have hi' : i < d'.size := by simpa using hi
      have hs' := hsort i j (Nat.zero_le _) hij (by omega)
      rw [getElem!_pos d' j hj', getElem!_pos d' i hi'] at hs'
      have hn := fun k => of_decide_eq_false hs' (balCmp_lt.2 k)
      rcases ltK_total hne with k | k
      · exact k
      · exact absurd (by simpa using k) hn
    have hHs := holdsK_sortWorldK_c encB 4 w g 0 l.toArray d' n os hH hlt (by simp [hps])
    refine ⟨he, some ⟨g, 0, none⟩, c, d'.toList, by rw [hlen], hpl, hris, Or.inr ⟨g, 0, rfl, Nat.lt_of_lt_of_le hlt (sorted_size d'), fun i x hx => ?_⟩, (sorted_only d').below (Nat.le_trans hbase (Nat.le_of_lt hlt)) (fun k hk => by omega)⟩
    have hi : i < d'.size := by
      have := (List.getElem?_eq_some_iff.1 hx).1
      simpa using this
    have hx' : d'[i]! = x := by
      rw [getElem!_pos d' i hi]
      simpa [hi] using hx
    have hcell := fun c (hc : c < 4) => (hHs.cell (c := c) hi hc).1
    rw [hx'] at hcell
    exact ⟨hcell 0 (by omega), hcell 1 (by omega), hcell 2 (by omega), hcell 3 (by omega)⟩
theorem sortAll : SortAll := fun base v l w h1 h2 h3 => sort_bals base v l w h1 h2 h3
end Go.Proofs.Ytbhndnjlplibmaa.lg
