/- (sums).list: the sums that are not 0, in their order. -/
import Derived.Test.YtbhndnjlplibmaaMp2
import Derived.Test.YtbhndnjlplibmaaOrd
import Derived.OwnWalk
import Derived.Deep.AppendLies
import Derived.Deep.DeepMust
namespace Go.Proofs.Ytbhndnjlplibmaa.lg
open Go.RowKit

theorem infoBal : (Try.prog.info? 43).map (fun i => (i.zero, i.size, i.bytes)) = some (some (.agg #[.int .i64 0, .string ⟨#[]⟩, .string ⟨#[]⟩, .int .i64 0]), 4, 48) := by kernel_rfl
def balOf (q : PlM × Int) : BalM := ⟨q.1.ent, q.1.acc, q.1.cur, q.2⟩
theorem pl_balOf (q : PlM × Int) : plOf (balOf q) = q.1 := rfl
/-- those that are not 0 -/
def outT (T : List (PlM × Int)) : List BalM := (T.filter fun q => !(q.2 == 0)).map balOf
theorem outT_snoc (T : List (PlM × Int)) (q : PlM × Int) : outT (T ++ [q]) = outT T ++ if q.2 = 0 then [] else [balOf q] := by
  unfold outT
  rw [List.filter_append, List.map_append]
  by_cases h : q.2 = 0
  · simp [h]
  · simp [h]
theorem outT_len (T : List (PlM × Int)) : (outT T).length ≤ T.length := by
  unfold outT
  rw [List.length_map]
  exact List.length_filter_le _ _
theorem outT_perm {T T' : List (PlM × Int)} (h : T.Perm T') : (outT T).Perm (outT T') := (h.filter _).map _
theorem outT_ne {T : List (PlM × Int)} : ∀ x ∈ outT T, x.amt ≠ 0 := fun x hx => by
  obtain ⟨q, hq, rfl⟩ := List.mem_map.1 hx
  have := (List.mem_filter.1 hq).2
  simpa [balOf] using this
theorem outT_in {T : List (PlM × Int)} : ∀ x ∈ outT T, (plOf x, x.amt) ∈ T := fun x hx => by
  obtain ⟨q, hq, rfl⟩ := List.mem_map.1 hx
  exact (List.mem_filter.1 hq).1
theorem outT_apart {T : List (PlM × Int)} (h : (T.map (·.1)).Nodup) : (outT T).Pairwise fun x y => plOf x ≠ plOf y := by
  unfold outT
  refine List.pairwise_map.2 ?_
  exact (List.Pairwise.filter _ (List.pairwise_map.1 h))
theorem tabGet_cons (q : PlM × Int) (T : List (PlM × Int)) (p : PlM) : tabGet (q :: T) p = if q.1 = p then q.2 else tabGet T p := by
  unfold tabGet
  by_cases h : q.1 = p
  · rw [List.find?_cons_of_pos (by simpa using h), if_pos h]
  · rw [List.find?_cons_of_neg (by simpa using h), if_neg h]
theorem sumAt_outT : ∀ {T : List (PlM × Int)}, (T.map (·.1)).Nodup → ∀ p, sumAt (outT T) p = tabGet T p
  | [], _, _ => rfl
  | q :: r, h, p => by
    simp only [List.map_cons, List.nodup_cons] at h
    have ih := sumAt_outT h.2 p
    have e : outT (q :: r) = (if q.2 = 0 then [] else [balOf q]) ++ outT r := by
      unfold outT
      by_cases h0 : q.2 = 0
      · simp [h0]
      · simp [h0]
    rw [e, sumAt_append, ih, tabGet_cons]
    by_cases hp : q.1 = p
    · subst hp
      have hr : tabGet r q.1 = 0 := (tab_none (fun z hz (e : z.1 = q.1) => h.1 (e ▸ List.mem_map.2 ⟨z, hz, rfl⟩)) 0).1
      rw [if_pos rfl, hr]
      by_cases h0 : q.2 = 0
      · rw [if_pos h0, sumAt_nil, h0]; rfl
      · rw [if_neg h0, sumAt_cons, pl_balOf, if_pos rfl, sumAt_nil]; simp [balOf]
    · rw [if_neg hp]
      by_cases h0 : q.2 = 0
      · rw [if_pos h0, sumAt_nil]; omega
      · rw [if_neg h0, sumAt_cons, pl_balOf, if_neg hp, sumAt_nil]; omega
theorem rowst_only {w wi wj : World} {E : TypeId} {sz : Nat} {v : Value} {n : Nat} {xs : List Value} {S : Nat → Prop} (h : RowSt w [] E sz v n xs wi) (ho : Only S wi wj) (hS : ∀ k, S k → w.heap.size ≤ k) (hn : ∀ k, v.ownBlock = some k → ¬ S k) : RowSt w [] E sz v n xs wj :=
  ⟨h.fr.only ho hS (fun p hp => by cases hp), row_keep h.row (fun k hk => ho.block k (row_lt h.row k hk).2 (hn k hk)), fun k _ p hp => by cases hp⟩
/-- the list of a map T -/
structure IsList (T : List (PlM × Int)) (L : List BalM) : Prop where
  rises : Rises L
  ne : ∀ x ∈ L, x.amt ≠ 0
  sum : ∀ p, sumAt L p = tabGet T p
  mem : ∀ x ∈ L, (plOf x, x.amt) ∈ T
  len : L.length ≤ T.length
def ListPost (B : Nat) (w : World) (T : List (PlM × Int)) (e : Ending) (w' : World) : Prop :=
  Below B w w' ∧ ((200 < T.length ∧ e = .returned (.tuple #[.slice none 0 0, errV 4])) ∨ (T.length ≤ 200 ∧ ∃ ao cap L, e = .returned (.tuple #[.slice ao L.length cap, .nilIface]) ∧ BalsAt w' ao L ∧ IsList T L))

set_option maxRecDepth 100000 in
set_option maxHeartbeats 8000000 in
theorem list_any (hsort : SortAll) (b : Nat) (T : List (PlM × Int)) (w : World) (hT : MapT w b T) :
    Calls Try.prog 28 #[.map (some b)] w (ListPost w.heap.size w T) := by
  have HT := Lib.hid hT
  have HSRT := Lib.hid hsort
  clear hsort
  by_cases h200 : 200 < T.length
  · have hd : decide ((200 : Int) < (T.length : Int)) = true := decide_eq_true (by omega)
    go_enter Try.func28, Try.ntmps28
    go_wp2_with (at_len; refine wp_len_tab _ rfl _ rfl b T rfl hT ?_)
    go_ret2
    exact ⟨Below.refl _ _, Or.inl ⟨h200, rfl⟩⟩
  · have hd : decide ((200 : Int) < (T.length : Int)) = false := decide_eq_false (by omega)
    have hle : T.length ≤ 200 := by omega
    obtain ⟨i0, hi0, hz0, hz1, hz2⟩ := info_parts infoBal
    have HI0 := Lib.hid hi0
    have HZ0 := Lib.hid hz0
    have HZ1 := Lib.hid hz1
    have HZ2 := Lib.hid hz2
    have hlt := hT.lt
    clear hi0 hz0 hz1 hz2 h200
    go_enter Try.func28, Try.ntmps28
    go_wp2_with (first | (at_len; refine wp_len_tab _ rfl _ rfl b T rfl HT.out ?_) | (at_range; refine wp_range_tab _ rfl _ rfl b T rfl HT.out ?_; intro ob hr0))
    go_frame
    have HR0 := Lib.hid hr0
    have S0 : Hid (RowSt w [] 43 4 (.slice none 0 0) (outT []).length ((outT []).flatMap encB) (w.alloc ob)) := RowSt.start ⟨(Below.refl _ _).alloc (Nat.le_refl _) _, fun p hp => by cases hp⟩
    clear hr0 hT
    go_loopw [4] (fun v wr => ∃ Done, Hid (RangeT wr b w.heap.size T Done) ∧ Hid (RowSt w [] 43 4 v (outT Done).length ((outT Done).flatMap encB) wr) ∧ Hid (∀ k, v.ownBlock = some k → k ≠ w.heap.size)) (fun _ wr => wr.rangeLeft b w.heap.size)
    case atStart => exact ⟨[], HR0, S0, fun k hk => by cases hk⟩
    case round =>
      clear HR0 S0
      obtain ⟨Done, HR, HS, HNE⟩ := hrel
      go_wp2_with (at_next; refine wp_next_tab _ rfl _ rfl b w.heap.size T Done rfl HR.out ?_ ?_)
      · intro hd0
        have hnd : (Done.map (·.1)).Nodup := (hd0.map (·.1)).nodup_iff.2 HT.out.nodup
        have hdl := hd0.length_eq
        have hc := HSRT.out w.heap.size u4 (outT Done) wr HS.out.row (outT_apart hnd) (by have := outT_len Done; omega)
        have HIS : Hid (∀ L, L.Perm (outT Done) → Rises L → IsList T L) := fun L hp hr => ⟨hr, fun x hx => outT_ne x (hp.subset hx), fun p => by
          rw [sumAt_perm hp, sumAt_perm (outT_perm hd0)]
          exact sumAt_outT HT.out.nodup p, fun x hx => hd0.subset (outT_in x (hp.subset hx)), by rw [hp.length_eq]; have := outT_len Done; omega⟩
        have HBW := Lib.hid HS.out.fr.below
        clear hd0 hnd hdl HR HS HNE HT
        go_wp2_with fail
        refine hc.mono ?_
        rintro e w5 ⟨rfl, ao, cap, L, rfl, hp, hr, hb, hbel⟩
        have HL := Lib.hid (HIS.out L hp hr)
        have HBL := Lib.hid hb
        have HB5 := Lib.hid (HBW.out.trans hbel)
        clear hc hp hr hb hbel HIS HBW
        go_wp2_with fail
        go_ret2
        exact ⟨HB5.out, Or.inr ⟨hle, ao, cap, L, rfl, HBL.out, HL.out⟩⟩
      · intro p v w1 hp hr1 honly hsz hen
        have S1 : Hid (RowSt w [] 43 4 u4 (outT Done).length ((outT Done).flatMap encB) w1) := rowst_only HS.out honly (fun k hk => by omega) (fun k hk => HNE.out k hk)
        have HRL := Lib.hid HR.out.left
        have HR1 := Lib.hid hr1
        have HON := Lib.hid honly
        have hlen := HR1.out.left
        have hdl : (Done ++ [(p, v)]).length = Done.length + 1 := by simp
        have hol := outT_len Done
        have hsz1 := S1.out.fr.below.size
        have S2 : Hid (RowSt w [] 43 4 u4 (outT Done).length ((outT Done).flatMap encB) (w1.alloc (.cells #[.int .i64 p.ent, .string p.acc, .string p.cur] 74))) := S1.out.later ((Below.refl _ _).alloc (Nat.le_refl _) _)
        unfold plV at hen ⊢
        obtain ⟨pe, pa, pc⟩ := p
        dsimp only at hen S2 ⊢
        have hbx : b < w1.heap.size := by omega
        have hrx : w.heap.size < w1.heap.size := HR1.out.lt.1
        have HSZW := Lib.hid hsz
        have hdn : Done.length + 1 ≤ T.length := by omega
        have HDL := Lib.hid hdl
        clear hr1 honly HR HS S1 hsz hlen hdl
        by_cases hv : v = 0
        · have q1 : (v != 0) = false := by simpa using hv
          have hsn : outT (Done ++ [(⟨pe, pa, pc⟩, v)]) = outT Done := by rw [outT_snoc, if_pos hv, List.append_nil]
          have HR2 : Hid (RangeT (w1.alloc (.cells #[.int .i64 pe, .string pa, .string pc] 74)) b w.heap.size T (Done ++ [(⟨pe, pa, pc⟩, v)])) := HR1.out.later ((MapKept.heap_alloc w1 _).2 b hbx) ((MapKept.heap_alloc w1 _).2 _ hrx)
          have HSN := Lib.hid hsn
          clear hv hsn
          go_wp2_with fail
          go_roundw
          case rel => exact ⟨_, HR2, by show RowSt _ _ _ _ _ _ _ _; rw [HSN.out]; exact S2.out, HNE⟩
          case measure => have h1 := HR2.out.left; have h2 := HRL.out; have h3 := HDL.out; omega
        · have q1 : (v != 0) = true := by simpa using hv
          have hsn : outT (Done ++ [(⟨pe, pa, pc⟩, v)]) = outT Done ++ [⟨pe, pa, pc, v⟩] := by rw [outT_snoc, if_neg hv]; rfl
          have HSN := Lib.hid hsn
          obtain ⟨uo, um, uc, rfl⟩ := ownsRow_form S2.out.row
          clear hv hsn
          go_wp2_with (at_builtin; go_must (refine wpList_append_own_at (o := ⟨some 30, _, _, _, _, _⟩) _ rfl (.tmp 20) (.tmp 29) 39 rfl w.heap.size 43 i0 (.agg #[.int .i64 0, .string ⟨#[]⟩, .string ⟨#[]⟩, .int .i64 0]) 4 48 Try.underlying39 HI0.out HZ0.out HZ1.out HZ2.out rfl (by decide) (.slice uo um uc) (outT Done).length ((outT Done).flatMap encB) rfl (World.ownsRow.alloc S2.out.row _) ⟨w1.heap.size + 1, 0, none⟩ 1 1 [.int .i64 pe, .string pa, .string pc, .int .i64 v] rfl rfl (World.news_of_block (cs := #[.int .i64 pe, .string pa, .string pc, .int .i64 v]) (t := 43) (fr := (0, 0)) (by exact heap_new_at (by simp) _)) (by simp [Value.oneCell']) (by unfold maxLen; omega) (by omega) (by simp; omega) ?_); intro v1 wn hown1 hgrow1 _ hblk1)
          have HMV := Moved.append hgrow1 (by simpa using hblk1)
          have HS5 : Hid (RowSt w [] 43 4 v1 (outT (Done ++ [(⟨pe, pa, pc⟩, v)])).length ((outT (Done ++ [(⟨pe, pa, pc⟩, v)])).flatMap encB) wn) := S2.out.moved (ownsRow_cast hown1 (by rw [HSN.out]; simp) (by rw [HSN.out]; simp [encB])) HMV
          have HR2 : Hid (RangeT wn b w.heap.size T (Done ++ [(⟨pe, pa, pc⟩, v)])) := HR1.out.later ((HMV.only.block b (by simp; omega) (fun hk => by have := (row_lt S2.out.row b hk).1; omega)).trans ((MapKept.heap_alloc w1 _).2 b hbx)) ((HMV.only.block _ (by simp; omega) (fun hk => HNE.out _ hk rfl)).trans ((MapKept.heap_alloc w1 _).2 _ hrx))
          have HNE2 : Hid (∀ k, v1.ownBlock = some k → k ≠ w.heap.size) := fun k hk e => by
            rcases HMV.blk with h | ⟨g, h, hg⟩
            · exact HNE.out k (by rw [← h]; exact hk) e
            · rw [h] at hk
              injection hk with hk
              simp at hg
              omega
          clear hown1 hgrow1 hblk1 HMV S2 HR1 HON
          go_wp2_with fail
          go_roundw
          case rel => exact ⟨_, HR2, HS5, HNE2⟩
          case measure => have h1 := HR2.out.left; have h2 := HRL.out; have h3 := HDL.out; omega
end Go.Proofs.Ytbhndnjlplibmaa.lg
