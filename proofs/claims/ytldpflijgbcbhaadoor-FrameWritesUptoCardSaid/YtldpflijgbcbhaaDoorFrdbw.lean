/- frame.ReadBalances: the walk. -/
import Derived.Test.YtldpflijgbcbhaaDoorFrdb
import Derived.Deep.RegionHeld3
namespace Go.Proofs.YtldpflijgbcbhaaDoor
open Go.RowKit

theorem rbal_no {w wi : World} {l : List UInt8} (hb : Below w.heap.size w wi) (hno : rdBals balCmp l = none) : RBalPost w.heap.size w l (.returned (.tuple #[.slice none 0 0, .int .i64 0, .iface 102 (.int .i64 9)])) wi := by
  refine ⟨hb, ?_⟩
  rw [hno]
  rfl
theorem rbal_yes {w wi : World} {sp : Option Addr} {cap : Nat} {l : List UInt8} {lv : Value} {t : List BalM} {at_ : Nat} (h : RbSt w sp cap l lv t at_ false wi) (hyes : rdBals balCmp l = some (t, l.drop at_)) (n : Nat) : RBalPost w.heap.size w l (.returned (.tuple #[lv, .int .i64 (at_ : Int), .nilIface])) (wi.drewN n) := by
  refine ⟨below_drewN h.below _, ?_⟩
  rw [hyes]
  obtain ⟨lao, lc, rfl, hl⟩ := bals_of_row h.row
  have hle := h.rd.le
  have e : l.length - (l.drop at_).length = at_ := by rw [List.length_drop]; omega
  exact ⟨lao, lc, by show _ = _; rw [e], hl⟩

set_option maxRecDepth 100000 in
set_option maxHeartbeats 8000000 in
theorem readBals_any (w : World) (sp : Option Addr) (cap : Nat) (l : List UInt8) (hsrc : SrcW w sp l) (hcap : l.length ≤ cap) (hmax : l.length ≤ 140737488355328) :
    Calls Tryd.prog 16 #[.slice sp l.length cap] w (RBalPost w.heap.size w l) := by
  have hst : RbSt w sp cap l (.slice none 0 0) [] 0 false (w.alloc (.cells #[.slice sp l.length cap, .int .i64 0, .bool false] 101)) := by
    refine ⟨(Below.refl _ _).alloc (Nat.le_refl _) _, World.ownsRow_nil _ _ _ _, ⟨heap_new_at rfl _, fun h0 => ?_, Nat.zero_le _, hcap, hmax⟩, fun b o h0 e => ?_⟩
    · obtain ⟨b, o, e, hlt, hc⟩ := hsrc h0
      exact ⟨b, o, e, by simp; omega, by omega, fun j x hj => by rw [World.cell?_alloc_lt _ _ ⟨b, o + j, none⟩ hlt]; exact hc j x hj⟩
    · obtain ⟨b', o', e', hlt, _⟩ := hsrc h0
      rw [e'] at e
      injection e with e
      injection e with e _ _
      omega
  have hn := rnum_any 0 200 _ w.heap.size sp cap l 0 false hst.rd
  have HST := Lib.hid hst
  clear hsrc hst
  go_enter Tryd.func16, Tryd.ntmps16
  go_wp2_with fail
  refine hn.mono ?_
  rintro e w1 ⟨n, a1, b1, rfl, o1, r1, t1⟩
  have HH := Lib.hid (bals_head t1)
  have HS1 := Lib.hid (HST.out.step o1 r1)
  clear hn HST o1 r1
  cases b1 with
  | true =>
    have c2 := HS1.out.rd.c2
    have hno : Hid (rdBals balCmp l = none) := by have h := HH.out; rw [if_pos rfl] at h; exact h
    have HOUT := Lib.hid (rbal_no HS1.out.below hno.out)
    clear HH t1 hno
    by_cases hn : 0 < n
    all_goals
      go_wp2_with fail
      refine wp_loop_rounds 1 ?_
      rw [rounds_succ]
      go_wp2_with fail
      go_ret3
      exact HOUT.out
  | false =>
    obtain ⟨N, rfl, hN⟩ : ∃ N : Nat, n = (N : Int) ∧ N ≤ 200 := by
      have e := num_step t1
      simp only [Bool.false_eq_true, if_false] at e
      obtain ⟨_, h1, h2⟩ := num_bwd e
      exact ⟨n.toNat, by omega, by omega⟩
    have HK : Hid (rdBals balCmp l = if false = true then none else balK l [] (N - 0) a1) := by
      have h := HH.out
      rw [Int.toNat_natCast] at h
      exact h
    clear HH t1
    go_wp2_with fail
    go_loopw [6, 12] (fun v i wr => ∃ (k : Nat) (t : List BalM) (at_ : Nat) (bad : Bool), k ≤ N ∧ i = .int .i64 (k : Int) ∧ Hid (t.length = k) ∧ Hid (RbSt w sp cap l v t at_ bad wr) ∧ Hid (rdBals balCmp l = if bad = true then none else balK l t (N - k) at_)) (fun _ i _ => N - (intOf i).toNat)
    case atStart => exact ⟨0, [], a1, false, Nat.zero_le _, rfl, rfl, HS1, HK⟩
    case round =>
      clear HS1 HK
      obtain ⟨k, t, at_, bad, hk, rfl, htk, hst, hkk⟩ := hrel
      have c2 := hst.out.rd.c2
      cases bad with
      | true =>
        have hno : Hid (rdBals balCmp l = none) := by have h := hkk.out; rw [if_pos rfl] at h; exact h
        have HOUT := Lib.hid (rbal_no hst.out.below hno.out)
        clear hkk hst hno
        by_cases hlt : k < N
        all_goals
          go_wp2_with fail
          go_ret3
          exact HOUT.out
      | false =>
        by_cases hlt : k < N
        · have hn0 := rnum_any 0 200 wr w.heap.size sp cap l at_ false hst.out.rd
          have htl : t.length ≤ 200 := by have := htk.out; omega
          obtain ⟨lao, lc, rfl, hbat⟩ := bals_of_row hst.out.row
          clear hbat
          go_wp2_with fail
          refine hn0.mono ?_
          rintro e v1 ⟨ent, p1, b1, rfl, o1, r1, t1⟩
          have st1 := hst.out.step o1 r1
          have hn1 := rtext_any v1 w.heap.size sp cap l p1 b1 st1.rd
          have T1 := Lib.hid t1
          have ST1 := Lib.hid st1
          clear hn0 o1 r1 t1 st1
          go_wp2_with fail
          refine hn1.mono ?_
          rintro e v2 ⟨s1, p2, b2, rfl, o2, r2, t2⟩
          have st2 := ST1.out.step o2 r2
          have hn2 := rtext_any v2 w.heap.size sp cap l p2 b2 st2.rd
          have T2 := Lib.hid t2
          have ST2 := Lib.hid st2
          clear hn1 o2 r2 t2 st2 ST1
          go_wp2_with fail
          refine hn2.mono ?_
          rintro e v3 ⟨s2, p3, b3, rfl, o3, r3, t3⟩
          have st3 := ST2.out.step o3 r3
          have hn3 := rnum_any (-1000000000000000) 1000000000000000 v3 w.heap.size sp cap l p3 b3 st3.rd
          have T3 := Lib.hid t3
          have ST3 := Lib.hid st3
          clear hn2 o3 r3 t3 st3 ST2
          go_wp2_with fail
          refine hn3.mono ?_
          rintro e v4 ⟨amt, p4, b4, rfl, o4, r4, t4⟩
          have ST4 := Lib.hid (ST3.out.step o4 r4)
          have hline : Hid (rdBals balCmp l = if b4 = true then none else if rise balCmp t.getLast? ⟨ent, s1, s2, amt⟩ = true then balK l (t ++ [⟨ent, s1, s2, amt⟩]) (N - (k + 1)) p4 else none) := by
            have h := hkk.out
            rw [if_neg (by decide), show N - k = (N - (k + 1)) + 1 by omega, bal_line T1.out T2.out T3.out t4] at h
            exact h
          obtain ⟨V, hV⟩ : ∃ V, V = v4.alloc (.cells #[.int .i64 ent, .string s1, .string s2, .int .i64 amt] 106) := ⟨_, rfl⟩
          have HV := Lib.hid hV
          have hbV : Below v4.heap.size v4 V := by rw [hV]; exact (Below.refl _ _).alloc (Nat.le_refl _) _
          have SV := Lib.hid (ST4.out.below' hbV)
          have bxV : V.heap[v4.heap.size]? = some (.cells #[.int .i64 ent, .string s1, .string s2, .int .i64 amt] 106 (0, 0)) := by rw [hV]; exact heap_new_at rfl _
          have BXV := Lib.hid bxV
          clear hn3 o4 r4 t4 T1 T2 T3 ST3 hkk hst hV hbV bxV
          go_wp2_with fail
          rw [← HV.out]
          by_cases ht0 : t.length = 0
          · have d0 : decide ((0 : Int) < (t.length : Int)) = false := decide_eq_false (by omega)
            have d0n : decide (0 < t.length) = false := decide_eq_false (by omega)
            have d0x : t = [] := List.length_eq_zero_iff.1 ht0
            have HFIN0 : Hid (rdBals balCmp l = if b4 = true then none else balK l (t ++ [⟨ent, s1, s2, amt⟩]) (N - (k + 1)) p4) := by
              show _ = _
              rw [hline.out, show rise balCmp t.getLast? (⟨ent, s1, s2, amt⟩ : BalM) = true by rw [d0x]; rfl, if_pos rfl]
            clear d0x hline ht0
            go_wp2_with fail
            go_quiet (fail)
            obtain ⟨X, hX⟩ : ∃ X, X = V.drewN nq := ⟨_, rfl⟩
            rw [← hX]
            have STX : Hid (RbSt w sp cap l (.slice lao t.length lc) t p4 b4 X) := by rw [hX]; exact SV.out.below' (below_drewN (Below.refl _ _) _)
            have xq0 : X.cell? ⟨v4.heap.size, 0, none⟩ = some (.int .i64 ent) := by rw [hX]; exact cell_of_heap BXV.out 0
            have xq1 : X.cell? ⟨v4.heap.size, 1, none⟩ = some (.string s1) := by rw [hX]; exact cell_of_heap BXV.out 1
            have xq2 : X.cell? ⟨v4.heap.size, 2, none⟩ = some (.string s2) := by rw [hX]; exact cell_of_heap BXV.out 2
            have xq3 : X.cell? ⟨v4.heap.size, 3, none⟩ = some (.int .i64 amt) := by rw [hX]; exact cell_of_heap BXV.out 3
            obtain ⟨badX, hbadX⟩ : ∃ badX, badX = b4 := ⟨_, rfl⟩
            rw [← hbadX] at STX HFIN0
            have HFIN := HFIN0
            clear hX SV BXV HV HFIN0 hbadX ST4
            obtain ⟨i0, hi0, hz0, hz1, hz2⟩ := info_parts infoBl
            have HI0 := Lib.hid hi0
            have HZ0 := Lib.hid hz0
            have HZ1 := Lib.hid hz1
            have HZ2 := Lib.hid hz2
            clear hi0 hz0 hz1 hz2
            have hBX : w.heap.size ≤ X.heap.size := STX.out.below.size
            have hBX1 : w.heap.size ≤ X.heap.size + 1 := by omega
            have HROW : Hid ((X.alloc (.cells #[.int .i64 ent, .string s1, .string s2, .int .i64 amt] 106)).ownsRow w.heap.size 106 4 (.slice lao t.length lc) t.length (t.flatMap balCells)) := STX.out.row.alloc _
            have HNEW : Hid (∀ (j : Nat) (u : Value), ([.int .i64 ent, .string s1, .string s2, .int .i64 amt] : List Value)[j]? = some u → (X.alloc (.cells #[.int .i64 ent, .string s1, .string s2, .int .i64 amt] 106)).cell? (Addr.add ⟨X.heap.size, 0, none⟩ j) = some u) := by
              intro j u hj
              rw [addr_add, World.cell?_alloc_at _ _ _ _ rfl, Nat.zero_add]
              match j, hj with
              | 0, hj | 1, hj | 2, hj | 3, hj => exact hj
            have HONE : Hid (∀ u ∈ ([.int .i64 ent, .string s1, .string s2, .int .i64 amt] : List Value), u.oneCell' = true) := by
              intro u hu
              simp at hu
              rcases hu with rfl | rfl | rfl | rfl <;> rfl
            go_wp2_with (refine wpList_append_own_at (o := ⟨some 39, _, _, _, _, _⟩) _ rfl (.tmp 36) (.tmp 38) 34 rfl w.heap.size 106 i0 (.agg #[.int .i64 0, .string ⟨#[]⟩, .string ⟨#[]⟩, .int .i64 0]) 4 48 Tryd.underlying34 HI0.out HZ0.out HZ1.out HZ2.out rfl (by decide) (.slice lao t.length lc) t.length (t.flatMap balCells) rfl HROW.out ⟨X.heap.size, 0, none⟩ 1 1 [.int .i64 ent, .string s1, .string s2, .int .i64 amt] rfl rfl HNEW.out HONE.out (by unfold maxLen; omega) (by omega) (by simpa using hBX1) ?_)
            intro v9 w9 hown9 hgrow9 _ _
            have HST9 : Hid (RbSt w sp cap l v9 (t ++ [⟨ent, s1, s2, amt⟩]) p4 badX w9) :=
              (STX.out.below' ((Below.refl _ _).alloc (Nat.le_refl _) _)).push (x := ⟨ent, s1, s2, amt⟩) hown9 hgrow9
            have HTK : Hid ((t ++ [(⟨ent, s1, s2, amt⟩ : BalM)]).length = k + 1) := by
              show _ = _
              rw [List.length_append, htk.out]; rfl
            clear hown9 hgrow9 HROW HNEW HONE STX xq0 xq1 xq2 xq3
            go_wp2_with fail
            go_roundw
            case rel => exact ⟨k + 1, _, p4, badX, by omega, by go_num, HTK, HST9, HFIN⟩
            case measure => simp [intOf]; omega
          · obtain ⟨m, hm⟩ : ∃ m, t.length = m + 1 := ⟨t.length - 1, by omega⟩
            obtain ⟨z, hz⟩ : ∃ z, t[m]? = some z := ⟨t[m]'(by omega), List.getElem?_eq_getElem (by omega)⟩
            have hlast : Hid (t.getLast? = some z) := by
              show _ = _
              rw [List.getLast?_eq_getElem?, show t.length - 1 = m by omega]; exact hz
            obtain ⟨lao', lc', hlv, hba⟩ := bals_of_row SV.out.row
            injection hlv with hl1 _ hl2
            subst hl1 hl2
            obtain ⟨gb, off, rfl, hgl, hcell⟩ : ∃ gb off, lao = some ⟨gb, off, none⟩ ∧ gb < V.heap.size ∧ ∀ (i : Nat) (x : BalM), t[i]? = some x →
                V.cell? ⟨gb, off + i * 4, none⟩ = some (.int .i64 x.ent) ∧ V.cell? ⟨gb, off + i * 4 + 1, none⟩ = some (.string x.acc) ∧ V.cell? ⟨gb, off + i * 4 + 2, none⟩ = some (.string x.cur) ∧ V.cell? ⟨gb, off + i * 4 + 3, none⟩ = some (.int .i64 x.amt) := by
              rcases hba with h | h
              · rw [h] at hm; simp at hm
              · exact h
            obtain ⟨a0, a1, a2, a3⟩ := hcell m z hz
            have q0 : V.cell? ⟨v4.heap.size, 0, none⟩ = some (.int .i64 ent) := cell_of_heap BXV.out 0
            have q1 : V.cell? ⟨v4.heap.size, 1, none⟩ = some (.string s1) := cell_of_heap BXV.out 1
            have q2 : V.cell? ⟨v4.heap.size, 2, none⟩ = some (.string s2) := cell_of_heap BXV.out 2
            have q3 : V.cell? ⟨v4.heap.size, 3, none⟩ = some (.int .i64 amt) := cell_of_heap BXV.out 3
            have hv4 : w.heap.size < v4.heap.size := ST4.out.rd.lt
            have hcm := compare_bal z ⟨ent, s1, s2, amt⟩ V.drew
            unfold balV at hcm
            have sb : gb < V.drew.heap.size := hgl
            have sq : v4.heap.size < V.drew.heap.size := lt_of_heap BXV.out
            have KEEP : ∀ w9, Below V.drew.heap.size V.drew w9 → w9.cell? ⟨gb, off + m * 4, none⟩ = some (.int .i64 z.ent) ∧ w9.cell? ⟨gb, off + m * 4 + 1, none⟩ = some (.string z.acc) ∧ w9.cell? ⟨gb, off + m * 4 + 2, none⟩ = some (.string z.cur) ∧ w9.cell? ⟨gb, off + m * 4 + 3, none⟩ = some (.int .i64 z.amt) ∧
                w9.cell? ⟨v4.heap.size, 0, none⟩ = some (.int .i64 ent) ∧ w9.cell? ⟨v4.heap.size, 1, none⟩ = some (.string s1) ∧ w9.cell? ⟨v4.heap.size, 2, none⟩ = some (.string s2) ∧ w9.cell? ⟨v4.heap.size, 3, none⟩ = some (.int .i64 amt) := fun w9 hb =>
              ⟨(hb.cell (p := ⟨gb, off + m * 4, none⟩) sb).trans a0, (hb.cell (p := ⟨gb, off + m * 4 + 1, none⟩) sb).trans a1, (hb.cell (p := ⟨gb, off + m * 4 + 2, none⟩) sb).trans a2, (hb.cell (p := ⟨gb, off + m * 4 + 3, none⟩) sb).trans a3,
                (hb.cell (p := ⟨v4.heap.size, 0, none⟩) sq).trans q0, (hb.cell (p := ⟨v4.heap.size, 1, none⟩) sq).trans q1, (hb.cell (p := ⟨v4.heap.size, 2, none⟩) sq).trans q2, (hb.cell (p := ⟨v4.heap.size, 3, none⟩) sq).trans q3⟩
            have HKEEP := Lib.hid KEEP
            have d0 : decide ((0 : Int) < (t.length : Int)) = true := decide_eq_true (by omega)
            have d0n : decide (0 < t.length) = true := decide_eq_true (by omega)
            have hw1 : IntKind.i64.wrap ((t.length : Int) - 1) = (m : Int) := by rw [show (t.length : Int) - 1 = (m : Int) by omega]; exact IntWalk.i64_in _ (by omega)
            have hw2 : (t.length : Int) - 1 = (m : Int) := by omega
            have hw3 : IntKind.i64.wrap (m : Int) = (m : Int) := IntWalk.i64_in _ (by omega)
            have j0 : (0 : Int) ≤ (m : Int) := by omega
            have j1 : (m : Int) < (t.length : Int) := by omega
            clear KEEP hcell hz hba hm ht0 hgl
            go_wp2_with fail
            go_region_held3 (fun w' => w'.cell? ⟨gb, off + m * 4, none⟩ = some (.int .i64 z.ent) ∧ w'.cell? ⟨gb, off + m * 4 + 1, none⟩ = some (.string z.acc) ∧ w'.cell? ⟨gb, off + m * 4 + 2, none⟩ = some (.string z.cur) ∧ w'.cell? ⟨gb, off + m * 4 + 3, none⟩ = some (.int .i64 z.amt) ∧
                w'.cell? ⟨v4.heap.size, 0, none⟩ = some (.int .i64 ent) ∧ w'.cell? ⟨v4.heap.size, 1, none⟩ = some (.string s1) ∧ w'.cell? ⟨v4.heap.size, 2, none⟩ = some (.string s2) ∧ w'.cell? ⟨v4.heap.size, 3, none⟩ = some (.int .i64 amt))
              (first | exact HKEEP.out _ hb9 | exact ⟨a0, a1, a2, a3, q0, q1, q2, q3⟩ | go_keep)
              (first
                | (go_at_call 61; refine hcm.mono ?_; rintro e w9 ⟨rfl, hb9⟩))
            have SX := Lib.hid (SV.out.below' (below_of_still.trans (hb9.mono (Nat.le_refl _))))
            obtain ⟨_, _, _, _, x0, x1, x2, x3⟩ := HKEEP.out w9 hb9
            clear hw1 hw2 hw3 hcm HKEEP a0 a1 a2 a3 q0 q1 q2 q3 sb sq hb9 SV BXV HV ST4 j0 j1 d0 d0n
            by_cases hcc : balCmp z ⟨ent, s1, s2, amt⟩ < 0
            · have HFIN0 : Hid (rdBals balCmp l = if b4 = true then none else balK l (t ++ [⟨ent, s1, s2, amt⟩]) (N - (k + 1)) p4) := by
                show _ = _
                rw [hline.out, hlast.out, show rise balCmp (some z) (⟨ent, s1, s2, amt⟩ : BalM) = true from decide_eq_true hcc, if_pos rfl]
              have xq0 := x0
              have xq1 := x1
              have xq2 := x2
              have xq3 := x3
              obtain ⟨X, hX⟩ : ∃ X, X = w9 := ⟨_, rfl⟩
              obtain ⟨badX, hbadX⟩ : ∃ badX, badX = b4 := ⟨_, rfl⟩
              rw [← hX] at xq0 xq1 xq2 xq3
              have STX : Hid (RbSt w sp cap l (.slice (some ⟨gb, off, none⟩) t.length lc) t p4 badX X) := by rw [hX, hbadX]; exact SX.out
              rw [← hbadX] at HFIN0
              have HFIN := HFIN0
              rw [← hX]
              clear hX SX HFIN0 hbadX hline hlast x0 x1 x2 x3
              obtain ⟨i0, hi0, hz0, hz1, hz2⟩ := info_parts infoBl
              have HI0 := Lib.hid hi0
              have HZ0 := Lib.hid hz0
              have HZ1 := Lib.hid hz1
              have HZ2 := Lib.hid hz2
              clear hi0 hz0 hz1 hz2
              have hBX : w.heap.size ≤ X.heap.size := STX.out.below.size
              have hBX1 : w.heap.size ≤ X.heap.size + 1 := by omega
              have HROW : Hid ((X.alloc (.cells #[.int .i64 ent, .string s1, .string s2, .int .i64 amt] 106)).ownsRow w.heap.size 106 4 (.slice (some ⟨gb, off, none⟩) t.length lc) t.length (t.flatMap balCells)) := STX.out.row.alloc _
              have HNEW : Hid (∀ (j : Nat) (u : Value), ([.int .i64 ent, .string s1, .string s2, .int .i64 amt] : List Value)[j]? = some u → (X.alloc (.cells #[.int .i64 ent, .string s1, .string s2, .int .i64 amt] 106)).cell? (Addr.add ⟨X.heap.size, 0, none⟩ j) = some u) := by
                intro j u hj
                rw [addr_add, World.cell?_alloc_at _ _ _ _ rfl, Nat.zero_add]
                match j, hj with
                | 0, hj | 1, hj | 2, hj | 3, hj => exact hj
              have HONE : Hid (∀ u ∈ ([.int .i64 ent, .string s1, .string s2, .int .i64 amt] : List Value), u.oneCell' = true) := by
                intro u hu
                simp at hu
                rcases hu with rfl | rfl | rfl | rfl <;> rfl
              go_wp2_with (refine wpList_append_own_at (o := ⟨some 39, _, _, _, _, _⟩) _ rfl (.tmp 36) (.tmp 38) 34 rfl w.heap.size 106 i0 (.agg #[.int .i64 0, .string ⟨#[]⟩, .string ⟨#[]⟩, .int .i64 0]) 4 48 Tryd.underlying34 HI0.out HZ0.out HZ1.out HZ2.out rfl (by decide) (.slice (some ⟨gb, off, none⟩) t.length lc) t.length (t.flatMap balCells) rfl HROW.out ⟨X.heap.size, 0, none⟩ 1 1 [.int .i64 ent, .string s1, .string s2, .int .i64 amt] rfl rfl HNEW.out HONE.out (by unfold maxLen; omega) (by omega) (by simpa using hBX1) ?_)
              intro v9 w10 hown9 hgrow9 _ _
              have HST9 : Hid (RbSt w sp cap l v9 (t ++ [⟨ent, s1, s2, amt⟩]) p4 badX w10) :=
                (STX.out.below' ((Below.refl _ _).alloc (Nat.le_refl _) _)).push (x := ⟨ent, s1, s2, amt⟩) hown9 hgrow9
              have HTK : Hid ((t ++ [(⟨ent, s1, s2, amt⟩ : BalM)]).length = k + 1) := by
                show _ = _
                rw [List.length_append, htk.out]; rfl
              clear hown9 hgrow9 HROW HNEW HONE STX xq0 xq1 xq2 xq3
              go_wp2_with fail
              go_roundw
              case rel => exact ⟨k + 1, _, p4, badX, by omega, by go_num, HTK, HST9, HFIN⟩
              case measure => simp [intOf]; omega
            · have HFIN : Hid (rdBals balCmp l = if true = true then none else balK l (t ++ [⟨ent, s1, s2, amt⟩]) (N - (k + 1)) p4) := by
                show _ = _
                rw [hline.out, hlast.out, if_neg (show ¬ rise balCmp (some z) (⟨ent, s1, s2, amt⟩ : BalM) = true from fun h => hcc (of_decide_eq_true h)), if_pos rfl]
                split <;> rfl
              have hge : 0 ≤ balCmp z ⟨ent, s1, s2, amt⟩ := by omega
              have cc2 := SX.out.rd.c2
              have ff2 : w9.frozen? ⟨w.heap.size, 2, none⟩ = false := free_of_heap SX.out.rd.self 2
              have hneb : v4.heap.size ≠ w.heap.size := by omega
              have hneb2 : ¬ w.heap.size = v4.heap.size := by omega
              have hset : ∀ j, (w9.setCell ⟨w.heap.size, 2, none⟩ (.bool true)).cell? ⟨v4.heap.size, j, none⟩ = w9.cell? ⟨v4.heap.size, j, none⟩ := fun j => World.cell?_of_block (a := ⟨v4.heap.size, j, none⟩) (Below.heap_setCell _ _ _ _ hneb)
              have xq0 := x0
              have xq1 := x1
              have xq2 := x2
              have xq3 := x3
              have STX := Lib.hid SX.out.setBad
              clear hcc hset SX hline hlast x0 x1 x2 x3
              obtain ⟨i0, hi0, hz0, hz1, hz2⟩ := info_parts infoBl
              have HI0 := Lib.hid hi0
              have HZ0 := Lib.hid hz0
              have HZ1 := Lib.hid hz1
              have HZ2 := Lib.hid hz2
              clear hi0 hz0 hz1 hz2
              have hBX : w.heap.size ≤ (w9.setCell ⟨w.heap.size, 2, none⟩ (.bool true)).heap.size := STX.out.below.size
              have hBX1 : w.heap.size ≤ (w9.setCell ⟨w.heap.size, 2, none⟩ (.bool true)).heap.size + 1 := by omega
              have HROW : Hid (((w9.setCell ⟨w.heap.size, 2, none⟩ (.bool true)).alloc (.cells #[.int .i64 ent, .string s1, .string s2, .int .i64 amt] 106)).ownsRow w.heap.size 106 4 (.slice (some ⟨gb, off, none⟩) t.length lc) t.length (t.flatMap balCells)) := STX.out.row.alloc _
              have HNEW : Hid (∀ (j : Nat) (u : Value), ([.int .i64 ent, .string s1, .string s2, .int .i64 amt] : List Value)[j]? = some u → ((w9.setCell ⟨w.heap.size, 2, none⟩ (.bool true)).alloc (.cells #[.int .i64 ent, .string s1, .string s2, .int .i64 amt] 106)).cell? (Addr.add ⟨w9.heap.size, 0, none⟩ j) = some u) := by
                intro j u hj
                rw [addr_add, World.cell?_alloc_at _ _ _ _ (by simp), Nat.zero_add]
                match j, hj with
                | 0, hj | 1, hj | 2, hj | 3, hj => exact hj
              have HONE : Hid (∀ u ∈ ([.int .i64 ent, .string s1, .string s2, .int .i64 amt] : List Value), u.oneCell' = true) := by
                intro u hu
                simp at hu
                rcases hu with rfl | rfl | rfl | rfl <;> rfl
              go_wp2_with (refine wpList_append_own_at (o := ⟨some 39, _, _, _, _, _⟩) _ rfl (.tmp 36) (.tmp 38) 34 rfl w.heap.size 106 i0 (.agg #[.int .i64 0, .string ⟨#[]⟩, .string ⟨#[]⟩, .int .i64 0]) 4 48 Tryd.underlying34 HI0.out HZ0.out HZ1.out HZ2.out rfl (by decide) (.slice (some ⟨gb, off, none⟩) t.length lc) t.length (t.flatMap balCells) rfl HROW.out ⟨w9.heap.size, 0, none⟩ 1 1 [.int .i64 ent, .string s1, .string s2, .int .i64 amt] rfl rfl HNEW.out HONE.out (by unfold maxLen; omega) (by omega) (by simpa using hBX1) ?_)
              intro v9 w10 hown9 hgrow9 _ _
              have HST9 : Hid (RbSt w sp cap l v9 (t ++ [⟨ent, s1, s2, amt⟩]) p4 true w10) :=
                (STX.out.below' ((Below.refl _ _).alloc (Nat.le_refl _) _)).push (x := ⟨ent, s1, s2, amt⟩) hown9 hgrow9
              have HTK : Hid ((t ++ [(⟨ent, s1, s2, amt⟩ : BalM)]).length = k + 1) := by
                show _ = _
                rw [List.length_append, htk.out]; rfl
              clear hown9 hgrow9 HROW HNEW HONE STX xq0 xq1 xq2 xq3
              go_wp2_with fail
              go_roundw
              case rel => exact ⟨k + 1, _, p4, true, by omega, by go_num, HTK, HST9, HFIN⟩
              case measure => simp [intOf]; omega
        · obtain rfl : k = N := by omega
          have hyes : Hid (rdBals balCmp l = some (t, l.drop at_)) := by
            have h := hkk.out
            rw [if_neg (by decide), Nat.sub_self, balK_end] at h
            exact h
          have c1 := hst.out.rd.c1
          have HOUT := fun n => Lib.hid (rbal_yes hst.out hyes.out n)
          obtain ⟨lao, lm, lcap, rfl⟩ := ownsRow_form hst.out.row
          clear hkk hst htk hyes
          go_wp2_with fail
          go_quiet (fail)
          go_wp2_with fail
          go_ret3
          exact (HOUT _).out
end Go.Proofs.YtldpflijgbcbhaaDoor
