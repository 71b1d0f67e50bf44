/- ledger.Merge at any two lists of balances. -/
import Derived.Test.YtbhndnjlplibmaaLg2
import Derived.Test.YtbhndnjlplibmaaMpR
import Derived.Test.YtbhndnjlplibmaaMp4
namespace Go.Proofs.Ytbhndnjlplibmaa.lg
open Go.RowKit
open Go.ChangeMaps (setBlock)

def badM (L : List BalM) : Bool := L.any fun x => !mayB x.amt
def MergePost (B : Nat) (w : World) (a b : List BalM) (e : Ending) (w' : World) : Prop :=
  Below B w w' ∧ ((chkB a ≠ 0 ∧ e = .returned (.tuple #[.slice none 0 0, errV (chkB a)])) ∨
    (chkB a = 0 ∧ chkB b ≠ 0 ∧ e = .returned (.tuple #[.slice none 0 0, errV (chkB b)])) ∨
    (chkB a = 0 ∧ chkB b = 0 ∧ 200 < (foldT (a ++ b) []).length ∧ e = .returned (.tuple #[.slice none 0 0, errV 4])) ∨
    (chkB a = 0 ∧ chkB b = 0 ∧ (foldT (a ++ b) []).length ≤ 200 ∧ ∃ ao cap L, IsList (foldT (a ++ b) []) L ∧ BalsAt w' ao L ∧
      ((badM L = true ∧ e = .returned (.tuple #[.slice none 0 0, errV 10])) ∨ (badM L = false ∧ e = .returned (.tuple #[.slice ao L.length cap, .nilIface])))))
theorem chk_len {t : List BalM} (h : chkB t = 0) : t.length ≤ 200 := by
  unfold chkB at h
  split at h
  · cases h
  · omega
set_option maxRecDepth 100000 in
set_option maxHeartbeats 8000000 in
theorem merge_any (hsort : SortAll) (ao : Option Addr) (ca : Nat) (a : List BalM) (bo : Option Addr) (cb : Nat) (b : List BalM) (w : World) (ha : BalsAt w ao a) (hb : BalsAt w bo b)
    (hoka : ∀ x ∈ a, plOk (plOf x)) (hokb : ∀ x ∈ b, plOk (plOf x)) (hma : a.length ≤ 9223372036854775807) (hmb : b.length ≤ 9223372036854775807) :
    Calls Try.prog 13 #[.slice ao a.length ca, .slice bo b.length cb] w (MergePost w.heap.size w a b) := by
  obtain ⟨ra, hra⟩ : ∃ r, chkB a = r := ⟨_, rfl⟩
  obtain ⟨rb, hrb⟩ : ∃ r, chkB b = r := ⟨_, rfl⟩
  have HRA := Lib.hid hra
  have HRB := Lib.hid hrb
  have HB := Lib.hid hb
  have hca := check_r ra ao ca a w ha hma HRA
  by_cases c1 : ra = 0
  · have z1 := zeroC_yes c1
    have hcb := fun w1 (h : Below w.heap.size w w1) => check_r rb bo cb b w1 (HB.out.below h) hmb HRB
    have HCB := Lib.hid hcb
    by_cases c2 : rb = 0
    · have z2 := zeroC_yes c2
      have hla := chk_len (hra.trans c1)
      have hlb := chk_len (hrb.trans c2)
      have HS := Lib.hid hsort
      have HA := Lib.hid ha
      have HK : Hid (∀ x ∈ a ++ b, plOk (plOf x)) := fun x hx => (List.mem_append.1 hx).elim (hoka x) (hokb x)
      have HC1 := Lib.hid c1
      have HC2 := Lib.hid c2
      clear hsort hra hrb c1 c2 hoka hokb hma hmb ha hb hcb
      go_enter Try.func13, Try.ntmps13
      go_wp2_with fail
      refine hca.mono ?_
      rintro e w1 ⟨rfl, hb1⟩
      have HB1 := Lib.hid hb1
      clear hca hb1
      go_wp2_with fail
      refine (HCB.out w1 HB1.out).mono ?_
      rintro e w2 ⟨rfl, hb2⟩
      have HB2 : Hid (Below w.heap.size w w2) := HB1.out.trans (hb2.mono HB1.out.size)
      clear hb2 HCB HB1
      obtain ⟨bm, hbm⟩ : ∃ bm, bm = w2.heap.size := ⟨_, rfl⟩
      have hmm := @run_makeMap Try.prog 71 w2
      rw [← hbm] at hmm
      obtain ⟨W1, hW1⟩ : ∃ W1, W1 = w2.alloc (.map #[] 0) := ⟨_, rfl⟩
      rw [← hW1] at hmm
      have hsz1 : W1.heap.size = bm + 1 := by rw [hW1, hbm]; simp
      have hM1 : MapT W1 bm [] := by rw [hW1, hbm]; exact map_made w2
      obtain ⟨W2, hW2⟩ : ∃ W2, W2 = W1.alloc (.cells #[.slice ao a.length ca, .slice bo b.length cb] 39) := ⟨_, rfl⟩
      have hbl : w.heap.size ≤ bm := by rw [hbm]; exact HB2.out.size
      have HBW2 : Hid (Below w.heap.size w W2) := by show Below _ _ _; rw [hW2, hW1]; exact (HB2.out.alloc HB2.out.size _).alloc (by simp; have := HB2.out.size; omega) _
      have hM2 : MapT W2 bm [] := by rw [hW2]; exact hM1.later ((MapKept.heap_alloc W1 _).2 bm (by omega))
      have hb2 : W2.heap[bm + 1]? = some (.cells #[.slice ao a.length ca, .slice bo b.length cb] 39 (0, 0)) := by rw [hW2, ← hsz1]; exact heap_new_at rfl _
      have hcall := concat_two (bm + 1) ao ca a bo cb b W2 (cell_of_heap hb2 0) (cell_of_heap hb2 1) (HA.out.below HBW2.out) (HB.out.below HBW2.out) hla hlb
      have hbx := hM2.lt
      have HM2 := Lib.hid hM2
      have HW2 := Lib.hid hW2
      obtain ⟨l, hl⟩ : ∃ l, l = a ++ b := ⟨_, rfl⟩
      have hll : l.length ≤ 400 := by rw [hl, List.length_append]; omega
      have HPOST : Hid (∀ e w', (Below w.heap.size w w' ∧ ((200 < (foldT l []).length ∧ e = .returned (.tuple #[.slice none 0 0, errV 4])) ∨
          ((foldT l []).length ≤ 200 ∧ ∃ ao cap L, IsList (foldT l []) L ∧ BalsAt w' ao L ∧
            ((badM L = true ∧ e = .returned (.tuple #[.slice none 0 0, errV 10])) ∨ (badM L = false ∧ e = .returned (.tuple #[.slice ao L.length cap, .nilIface])))))) → MergePost w.heap.size w a b e w') := fun e w' h => by
        rw [hl] at h
        have e1 : chkB a = 0 := HRA.out.trans HC1.out
        have e2 : chkB b = 0 := HRB.out.trans HC2.out
        refine ⟨h.1, h.2.elim (fun h => Or.inr (Or.inr (Or.inl ⟨e1, e2, h.1, h.2⟩))) (fun h => Or.inr (Or.inr (Or.inr ⟨e1, e2, h.1, h.2⟩)))⟩
      rw [← hl] at hcall HK
      clear hW2 hb2 hM2 hM1 hW1 HB2 hbm HRA HRB HC1 HC2 hl HA HB
      go_wp2_with fail
      rw [← HW2.out]
      refine hcall.mono ?_
      rintro e w3 ⟨hb3, ro, rc, rfl, hba3⟩
      have HB3 : Hid (Below w.heap.size w w3) := HBW2.out.trans (hb3.mono HBW2.out.size)
      have HM3 : Hid (MapT w3 bm []) := HM2.out.later (hb3.block bm hbx)
      have HL3 := Lib.hid hba3
      clear hcall hb3 hba3 HM2 HW2 HBW2 hbx
      obtain ⟨R, hR⟩ : ∃ R, foldT l [] = R := ⟨_, rfl⟩
      have HR := Lib.hid hR
      clear hR
      go_wp2_with fail
      go_loopw [29] (fun i wr => ∃ k : Nat, k ≤ l.length ∧ i = .int .i64 (k : Int) ∧ Hid (∃ T, MapT wr bm T ∧ foldT (l.drop k) T = R) ∧ Hid (Below w.heap.size w wr) ∧ Hid (BalsAt wr ro l)) (fun i _ => l.length - (intOf i).toNat)
      case atStart => exact ⟨0, Nat.zero_le _, rfl, ⟨[], HM3.out, HR.out⟩, HB3, HL3⟩
      case round =>
        clear HM3 HB3 HL3
        obtain ⟨k, hk, rfl, HT, HBW, HBL⟩ := hrel
        by_cases hlt : k < l.length
        · obtain ⟨T, hT, hfold⟩ := HT.out
          obtain ⟨x, hx⟩ := getElem?_ex hlt
          have hpx := HK.out x (List.mem_of_getElem? hx)
          rw [foldT_drop hx] at hfold
          obtain ⟨b9, off, rfl, hb9, hcc⟩ := HBL.out.resolve_left (fun e => by rw [e] at hlt; simp at hlt)
          obtain ⟨x0, x1, x2, x3⟩ := hcc k x hx
          have hi1 : (k : Int) < (l.length : Int) := by omega
          have hi0 : (0 : Int) ≤ (k : Int) := by omega
          obtain ⟨W, hW⟩ : ∃ W, W = wr.alloc (.cells #[.int .i64 x.ent, .string x.acc, .string x.cur, .int .i64 x.amt] 43) := ⟨_, rfl⟩
          have hbw : Below wr.heap.size wr W := by rw [hW]; exact (Below.refl _ _).alloc (Nat.le_refl _) _
          have hmW : MapT W.drew bm T := hT.later (by show W.heap[bm]? = _; exact hbw.block bm hT.lt)
          have hbx : W.heap[wr.heap.size]? = some (.cells #[.int .i64 x.ent, .string x.acc, .string x.cur, .int .i64 x.amt] 43 (0, 0)) := by rw [hW]; exact heap_new_at rfl _
          obtain ⟨g, st, V, V2, r1, r2, r3, r4, o1, o2, s1, s2, hm2⟩ := round_runs hmW hpx
          rw [IntWalk.i64_left] at r4
          have hne : wr.heap.size ≠ bm := by have := hT.lt; omega
          have hbv : V.heap[wr.heap.size]? = some (.cells #[.int .i64 x.ent, .string x.acc, .string x.cur, .int .i64 x.amt] 43 (0, 0)) := (o1.block _ (lt_of_heap hbx) hne).trans hbx
          have q0 : W.cell? ⟨wr.heap.size, 0, none⟩ = some (.int .i64 x.ent) := cell_of_heap hbx 0
          have q1 : W.cell? ⟨wr.heap.size, 1, none⟩ = some (.string x.acc) := cell_of_heap hbx 1
          have q2 : W.cell? ⟨wr.heap.size, 2, none⟩ = some (.string x.cur) := cell_of_heap hbx 2
          have q3 : W.cell? ⟨wr.heap.size, 3, none⟩ = some (.int .i64 x.amt) := cell_of_heap hbx 3
          have v0 : V.cell? ⟨wr.heap.size, 0, none⟩ = some (.int .i64 x.ent) := cell_of_heap hbv 0
          have v1 : V.cell? ⟨wr.heap.size, 1, none⟩ = some (.string x.acc) := cell_of_heap hbv 1
          have v2 : V.cell? ⟨wr.heap.size, 2, none⟩ = some (.string x.cur) := cell_of_heap hbv 2
          have v3 : V.cell? ⟨wr.heap.size, 3, none⟩ = some (.int .i64 x.amt) := cell_of_heap hbv 3
          have HL2 : Hid (BalsAt V2 (some ⟨b9, off, none⟩) l) := (HBL.out.below hbw).off (T := T) hmW.undrew (only_undrew o2)
          have HT2 : Hid (∃ T, MapT V2 bm T ∧ foldT (l.drop (k + 1)) T = R) := ⟨_, hm2, hfold⟩
          have HB2 : Hid (Below w.heap.size w V2) := by
            have e1 : Below w.heap.size w W.drew := by rw [hW]; exact (HBW.out.alloc HBW.out.size _).drew
            exact e1.trans (o2.below e1.size (fun k hk => by omega))
          have HW := Lib.hid hW
          clear hW hbx hbv o1 o2 s1 s2 hm2 hfold hcc HT HBW HBL hT hmW hbw hx hpx hb9
          go_wp2_with fail
          rw [← HW.out]
          go_big_region
          all_goals go_wp2_with fail
          all_goals go_roundw
          case rel => exact ⟨k + 1, by omega, by go_num, HT2, HB2, HL2⟩
          case measure => simp [intOf]; omega
        · obtain rfl : k = l.length := by omega
          obtain ⟨T, hT, hfold⟩ := HT.out
          rw [List.drop_of_length_le (Nat.le_refl _)] at hfold
          obtain rfl : T = R := hfold
          have hlist := list_any HS.out bm T wr hT
          have z4 := zeroC_no (c := 4) (by decide)
          clear HT hT
          go_wp2_with fail
          refine hlist.mono ?_
          rintro e w5 ⟨hb5, hp5⟩
          have HB5 := Lib.hid (HBW.out.trans (hb5.mono HBW.out.size))
          clear hlist hb5 HBW HBL
          rcases hp5 with ⟨h4, rfl⟩ | ⟨h4, lo, lc, L, rfl, hbL, hisL⟩
          · go_wp2_with fail
            go_ret2
            exact HPOST.out _ _ ⟨HB5.out, Or.inl ⟨by rw [HR.out]; exact h4, rfl⟩⟩
          · have hcb := contains_bad lo lc L w5 hbL (by have := hisL.len; omega)
            obtain ⟨bd, hbd⟩ : ∃ bd, (L.any fun x => !mayB x.amt) = bd := ⟨_, rfl⟩
            rw [hbd] at hcb
            have HBL := Lib.hid hbL
            have HIS := Lib.hid hisL
            have HBD := Lib.hid hbd
            clear hbL hisL hbd
            cases bd with
            | true =>
              go_wp2_with fail
              refine hcb.mono ?_
              rintro e w6 ⟨rfl, hb6⟩
              have HB6 := Lib.hid (HB5.out.trans (hb6.mono HB5.out.size))
              have HBL6 := Lib.hid (HBL.out.below hb6)
              clear hcb hb6
              go_wp2_with fail
              go_ret2
              exact HPOST.out _ _ ⟨HB6.out, Or.inr ⟨by rw [HR.out]; exact h4, lo, lc, L, by rw [HR.out]; exact HIS.out, HBL6.out, Or.inl ⟨HBD.out, rfl⟩⟩⟩
            | false =>
              go_wp2_with fail
              refine hcb.mono ?_
              rintro e w6 ⟨rfl, hb6⟩
              have HB6 := Lib.hid (HB5.out.trans (hb6.mono HB5.out.size))
              have HBL6 := Lib.hid (HBL.out.below hb6)
              clear hcb hb6
              go_wp2_with fail
              go_ret2
              exact HPOST.out _ _ ⟨HB6.out, Or.inr ⟨by rw [HR.out]; exact h4, lo, lc, L, by rw [HR.out]; exact HIS.out, HBL6.out, Or.inr ⟨HBD.out, rfl⟩⟩⟩
    · have z2 := zeroC_no c2
      have HC1 := Lib.hid c1
      have HC2 := Lib.hid c2
      clear hsort hra hrb c1 c2 hoka hokb hma hmb ha hb hcb
      go_enter Try.func13, Try.ntmps13
      go_wp2_with fail
      refine hca.mono ?_
      rintro e w1 ⟨rfl, hb1⟩
      have HB1 := Lib.hid hb1
      clear hca hb1
      go_wp2_with fail
      refine (HCB.out w1 HB1.out).mono ?_
      rintro e w2 ⟨rfl, hb2⟩
      have HB2 := Lib.hid (HB1.out.trans (hb2.mono HB1.out.size))
      clear hb2 HCB
      go_wp2_with fail
      go_ret2
      exact ⟨HB2.out, Or.inr (Or.inl ⟨HRA.out.trans HC1.out, fun h => HC2.out (HRB.out.symm.trans h), by rw [HRB.out]; rfl⟩)⟩
  · have z1 := zeroC_no c1
    have HC1 := Lib.hid c1
    clear hsort hra hrb c1 hoka hokb hma hmb ha hb
    go_enter Try.func13, Try.ntmps13
    go_wp2_with fail
    refine hca.mono ?_
    rintro e w1 ⟨rfl, hb1⟩
    have HB1 := Lib.hid hb1
    clear hca hb1
    go_wp2_with fail
    go_ret2
    exact ⟨HB1.out, Or.inl ⟨fun h => HC1.out (HRA.out.symm.trans h), by rw [HRA.out]; rfl⟩⟩
end Go.Proofs.Ytbhndnjlplibmaa.lg
