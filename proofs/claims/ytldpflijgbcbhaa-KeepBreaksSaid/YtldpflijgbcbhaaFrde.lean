/- frame.ReadEntry: the entry that bytes begin with, or none. -/
import Derived.Test.YtldpflijgbcbhaaFrds
namespace Go.Proofs.Ytldpflijgbcbhaa
open Go.RowKit

set_option maxRecDepth 100000 in
set_option maxHeartbeats 4000000 in
theorem readEntry_any (w : World) (sp : Option Addr) (cap : Nat) (l : List UInt8) (hsrc : SrcW w sp l) (hcap : l.length ≤ cap) (hmax : l.length ≤ 140737488355328) :
    Calls Try.prog 13 #[.slice sp l.length cap] w (ReadPost' w.heap.size w l) := by
  obtain ⟨wa, hwa⟩ : ∃ wa, wa = (w.alloc (.cells #[.string ⟨#[]⟩, .int .i64 0, .int .i64 0, .slice none 0 0] 30)).alloc (.cells #[.slice sp l.length cap, .int .i64 0, .bool false] 85) := ⟨_, rfl⟩
  have hr0 : ReaderIs wa (w.heap.size + 1) sp cap l 0 false := by
    subst hwa
    refine ⟨heap_new_at (by simp) _, fun h0 => ?_, Nat.zero_le _, hcap, hmax⟩
    obtain ⟨b, o, e, hlt, hc⟩ := hsrc h0
    refine ⟨b, o, e, by simp; omega, by omega, fun j x hj => ?_⟩
    rw [World.cell?_alloc_lt _ _ ⟨b, o + j, none⟩ (by simp; omega), World.cell?_alloc_lt _ _ ⟨b, o + j, none⟩ hlt]
    exact hc j x hj
  have ht0 := rtext_any wa (w.heap.size + 1) sp cap l 0 false hr0
  rw [hwa] at ht0
  have HWA := Lib.hid hwa
  have HSB : Hid (∀ b o, 0 < l.length → sp = some ⟨b, o, none⟩ → b < w.heap.size) := fun b o h0 e => by
    obtain ⟨b', o', e', hlt, _⟩ := hsrc h0
    rw [e'] at e
    injection e with e
    injection e with e _ _
    omega
  clear hsrc hr0 hwa
  go_enter Try.func13, Try.ntmps13
  go_wp2_with fail
  refine ht0.mono ?_
  rintro e w1 ⟨ref, a1, b1, rfl, o1, r1, t1⟩
  rw [← HWA.out] at o1
  have hn1 := rnum_any 0 200 w1 (w.heap.size + 1) sp cap l a1 b1 r1
  have O1 := Lib.hid o1
  have T1 := Lib.hid t1
  clear ht0 r1 o1 t1
  go_wp2_with fail
  refine hn1.mono ?_
  rintro e w2 ⟨ent, a2, b2, rfl, o2, r2, t2⟩
  have hn2 := rnum_any 0 200 w2 (w.heap.size + 1) sp cap l a2 b2 r2
  have O2 := Lib.hid o2
  have T2 := Lib.hid t2
  clear hn1 r2 o2 t2
  go_wp2_with fail
  refine hn2.mono ?_
  rintro e w3 ⟨per, a3, b3, rfl, o3, r3, t3⟩
  have st := RdSt.start ref ent per HWA.out (((O1.out.trans (T := fun k => k = w.heap.size + 1) O2.out (fun _ _ h => h)).trans (T := fun k => k = w.heap.size + 1) o3 (fun _ _ h => h))) r3 HSB.out
  have hn3 := rnum_any 0 20 _ (w.heap.size + 1) sp cap l a3 b3 st.rd
  obtain ⟨eb, heb⟩ : ∃ eb, eb = w3.heap.size := ⟨_, rfl⟩
  rw [← heb] at st
  have HEB := Lib.hid heb
  have T3 := Lib.hid t3
  have ST := Lib.hid st
  clear hn2 r3 o3 t3 st heb
  go_wp2_with fail
  refine hn3.mono ?_
  rintro e w4 ⟨n, a4, b4, rfl, o4, r4, t4⟩
  have hhead := ent_head T1.out T2.out T3.out t4
  rw [← HEB.out]
  have st4 := ST.out.step o4 r4
  have ST4 := Lib.hid st4
  have HH := Lib.hid hhead
  clear hn3 T1 T2 T3 O1 O2 ST HEB HWA o4 r4 st4 hhead
  cases b4 with
  | true =>
    have c2 := ST4.out.rd.c2
    have hno : Hid (rdEntry l = none) := by have h := HH.out; rw [if_pos rfl] at h; exact h
    have q0 : w4.cell? ⟨w.heap.size, 0, none⟩ = some (.string ⟨#[]⟩) := cell_of_heap ST4.out.res 0
    have q1 : w4.cell? ⟨w.heap.size, 1, none⟩ = some (.int .i64 0) := cell_of_heap ST4.out.res 1
    have q2 : w4.cell? ⟨w.heap.size, 2, none⟩ = some (.int .i64 0) := cell_of_heap ST4.out.res 2
    have q3 : w4.cell? ⟨w.heap.size, 3, none⟩ = some (.slice none 0 0) := cell_of_heap ST4.out.res 3
    have g0 : w4.frozen? ⟨w.heap.size, 0, none⟩ = false := free_of_heap ST4.out.res 0
    have g1 : w4.frozen? ⟨w.heap.size, 1, none⟩ = false := free_of_heap ST4.out.res 1
    have g2 : w4.frozen? ⟨w.heap.size, 2, none⟩ = false := free_of_heap ST4.out.res 2
    have g3 : w4.frozen? ⟨w.heap.size, 3, none⟩ = false := free_of_heap ST4.out.res 3
    have HOUT : Hid (ReadPost' w.heap.size w l (.returned (.tuple #[.agg #[.string ⟨#[]⟩, .int .i64 0, .int .i64 0, .slice none 0 0], .int .i64 0, .iface 75 (.int .i64 9)])) ((((w4.setCell ⟨w.heap.size, 0, none⟩ (.string ⟨#[]⟩)).setCell ⟨w.heap.size, 1, none⟩ (.int .i64 0)).setCell ⟨w.heap.size, 2, none⟩ (.int .i64 0)).setCell ⟨w.heap.size, 3, none⟩ (.slice none 0 0))) := by
      refine ⟨(((ST4.out.below.setCell (Nat.le_refl _) _).setCell (Nat.le_refl _) _).setCell (Nat.le_refl _) _).setCell (Nat.le_refl _) _, ?_⟩
      rw [hno.out]
      rfl
    clear HH t4
    by_cases hn : 0 < n
    all_goals
      go_wp2_with fail
      refine wp_loop_rounds 1 ?_
      rw [rounds_succ]
      go_wp2_with fail
      exact bodyPost_ret (v := .tuple #[.agg #[.string ⟨#[]⟩, .int .i64 0, .int .i64 0, .slice none 0 0], .int .i64 0, .iface 75 (.int .i64 9)]) (by simp [results, Try.results13, go_sem, q0, q1, q2, q3]) rfl HOUT.out
  | false =>
    obtain ⟨N, rfl, hN20⟩ : ∃ N : Nat, n = (N : Int) ∧ N ≤ 20 := by
      have e := num_step t4
      simp only [Bool.false_eq_true, if_false] at e
      cases b3 with
      | true => simp at e
      | false =>
        simp only [Bool.false_eq_true, if_false] at e
        obtain ⟨_, h1, h2⟩ := num_bwd e
        exact ⟨n.toNat, by omega, by omega⟩
    have HK : Hid (rdEntry l = if false = true then none else entK l ref ent per [] (N - 0) a4) := by
      have h := HH.out
      rw [Int.toNat_natCast] at h
      exact h
    clear HH t4
    go_wp2_with fail
    go_loopw [14] (fun i wr => ∃ (k : Nat) (lv : Value) (acc : List LineM) (at_ : Nat) (bad : Bool), k ≤ N ∧ i = .int .i64 (k : Int) ∧ Hid (acc.length = k) ∧ Hid (RdSt w eb sp cap l ref ent per lv acc at_ bad wr) ∧ Hid (rdEntry l = if bad = true then none else entK l ref ent per acc (N - k) at_)) (fun i _ => N - (intOf i).toNat)
    case atStart => exact ⟨0, .slice none 0 0, [], a4, false, Nat.zero_le _, rfl, rfl, ST4, HK⟩
    case round =>
      clear ST4 HK
      obtain ⟨k, lv, acc, at_, bad, hk, rfl, hak, hst, hkk⟩ := hrel
      have c2 := hst.out.rd.c2
      cases bad with
      | true =>
        have hno : Hid (rdEntry l = none) := by have h := hkk.out; rw [if_pos rfl] at h; exact h
        have q0 : wr.cell? ⟨w.heap.size, 0, none⟩ = some (.string ⟨#[]⟩) := cell_of_heap hst.out.res 0
        have q1 : wr.cell? ⟨w.heap.size, 1, none⟩ = some (.int .i64 0) := cell_of_heap hst.out.res 1
        have q2 : wr.cell? ⟨w.heap.size, 2, none⟩ = some (.int .i64 0) := cell_of_heap hst.out.res 2
        have q3 : wr.cell? ⟨w.heap.size, 3, none⟩ = some (.slice none 0 0) := cell_of_heap hst.out.res 3
        have g0 : wr.frozen? ⟨w.heap.size, 0, none⟩ = false := free_of_heap hst.out.res 0
        have g1 : wr.frozen? ⟨w.heap.size, 1, none⟩ = false := free_of_heap hst.out.res 1
        have g2 : wr.frozen? ⟨w.heap.size, 2, none⟩ = false := free_of_heap hst.out.res 2
        have g3 : wr.frozen? ⟨w.heap.size, 3, none⟩ = false := free_of_heap hst.out.res 3
        have HOUT : Hid (ReadPost' w.heap.size w l (.returned (.tuple #[.agg #[.string ⟨#[]⟩, .int .i64 0, .int .i64 0, .slice none 0 0], .int .i64 0, .iface 75 (.int .i64 9)])) ((((wr.setCell ⟨w.heap.size, 0, none⟩ (.string ⟨#[]⟩)).setCell ⟨w.heap.size, 1, none⟩ (.int .i64 0)).setCell ⟨w.heap.size, 2, none⟩ (.int .i64 0)).setCell ⟨w.heap.size, 3, none⟩ (.slice none 0 0))) := by
          refine ⟨(((hst.out.below.setCell (Nat.le_refl _) _).setCell (Nat.le_refl _) _).setCell (Nat.le_refl _) _).setCell (Nat.le_refl _) _, ?_⟩
          rw [hno.out]
          rfl
        clear hkk hst hno
        by_cases hlt : k < N
        all_goals
          go_wp2_with fail
          exact bodyPost_ret (v := .tuple #[.agg #[.string ⟨#[]⟩, .int .i64 0, .int .i64 0, .slice none 0 0], .int .i64 0, .iface 75 (.int .i64 9)]) (by simp [results, Try.results13, go_sem, q0, q1, q2, q3]) rfl HOUT.out
      | false =>
        by_cases hlt : k < N
        · have hE0 := hst.out.c3
          have st := hst.out.drew
          have hE := st.c3
          have hacc : acc.length ≤ 20 := by have := hak.out; omega
          obtain ⟨lao, lm, lcap, rfl⟩ := ownsRow_form st.row
          obtain ⟨i0, hi0, hz0, hz1, hz2⟩ := info_parts infoLn
          have HI0 := Lib.hid hi0
          have HZ0 := Lib.hid hz0
          have HZ1 := Lib.hid hz1
          have HZ2 := Lib.hid hz2
          have hsz := st.size
          clear hi0 hz0 hz1 hz2
          have tok1 : True := trivial
          go_wp2_with fail
          go_region_law
            (first
              | (go_simp; go_at_call 46; have _t := tok1; refine (rtext_any _ _ _ _ _ _ _ st.rd).mono ?_; rintro e v1 ⟨s1, p1, k1, rfl, ho1, hr1, tr1⟩; have st1 := st.step ho1 hr1; have hE1 := st1.c3; have hl1 := st1.size.2; have ne1 : v1.heap.size ≠ eb := Nat.ne_of_gt st1.size.2; clear tok1 _t)
              | (go_simp; go_at_call 46; refine (rtext_any _ _ _ _ _ _ _ st1.rd).mono ?_; rintro e v2 ⟨s2, p2, k2, rfl, ho2, hr2, tr2⟩; have st2 := st1.step ho2 hr2; have hE2 := st2.c3; have hl2 := st2.size.2; have ne2 : v2.heap.size ≠ eb := Nat.ne_of_gt st2.size.2)
              | (go_simp; go_at_call 47; refine (rnum_any _ _ _ _ _ _ _ _ _ st2.rd).mono ?_; rintro e v3 ⟨amt, p3, k3, rfl, ho3, hr3, tr3⟩; have st3 := st2.step ho3 hr3; have hE3 := st3.c3; have hl3 := st3.size.2; have ne3 : v3.heap.size ≠ eb := Nat.ne_of_gt st3.size.2)
              | (refine step_append_lies _ (by rfl) _ _ _ (by rfl) w.heap.size 82 i0 _ 3 40 Try.underlying28 HI0.out HZ0.out HZ1.out HZ2.out rfl (by omega) (.slice lao lm lcap) acc.length (acc.flatMap lineCells) (by rfl) (st3.row.alloc _)
                  ⟨v3.heap.size, 0, none⟩ 1 1 [.string s1, .string s2, .int .i64 amt] (by rfl) (by rfl) (World.news_of_block (cs := #[.string s1, .string s2, .int .i64 amt]) (t := 82) (fr := (0, 0)) (by exact heap_new_at (by simp) _)) (by simp [Value.oneCell'])
                  (by omega) (by unfold maxLen; omega) (by omega) (by have := st3.size; simp; omega) (v3.heap.size + 1) (by simp) ?_; intro gg gcap w9 hown9 hgrow9 hat9 hlt9; have kE := (st3.push (x := ⟨s1, s2, amt⟩) hown9 hgrow9 hat9).1; have kF := (st3.push (x := ⟨s1, s2, amt⟩) hown9 hgrow9 hat9).2.1))
          all_goals
            have hp := st3.push (x := ⟨s1, s2, amt⟩) hown9 hgrow9 hat9
            have HST' := Lib.hid hp.2.2
            have HKK' : Hid (rdEntry l = if k3 = true then none else entK l ref ent per (acc ++ [⟨s1, s2, amt⟩]) (N - (k + 1)) p3) := by
              have h := hkk.out
              rw [if_neg (by decide), show N - k = (N - (k + 1)) + 1 by omega, ent_line tr1 tr2 tr3] at h
              exact h
            have HAK' : Hid ((acc ++ [(⟨s1, s2, amt⟩ : LineM)]).length = k + 1) := by
              show _ = _
              rw [List.length_append, hak.out]; rfl
            clear hp hown9 hgrow9 hat9 hlt9 st st1 st2 st3 tr1 tr2 tr3 hkk hst hak
            go_wp2_with fail
            go_roundw
            case rel => exact ⟨k + 1, _, _, p3, k3, by omega, by go_num, HAK', HST', HKK'⟩
            case measure => simp [intOf]; omega
        · obtain rfl : k = N := by omega
          have hyes : Hid (rdEntry l = some (⟨ref, ent, per, acc⟩, l.drop at_)) := by
            have h := hkk.out
            rw [if_neg (by decide), Nat.sub_self, entK_end] at h
            exact h
          have q0 : wr.cell? ⟨w.heap.size, 0, none⟩ = some (.string ⟨#[]⟩) := cell_of_heap hst.out.res 0
          have q1 : wr.cell? ⟨w.heap.size, 1, none⟩ = some (.int .i64 0) := cell_of_heap hst.out.res 1
          have q2 : wr.cell? ⟨w.heap.size, 2, none⟩ = some (.int .i64 0) := cell_of_heap hst.out.res 2
          have q3 : wr.cell? ⟨w.heap.size, 3, none⟩ = some (.slice none 0 0) := cell_of_heap hst.out.res 3
          have g0 : wr.frozen? ⟨w.heap.size, 0, none⟩ = false := free_of_heap hst.out.res 0
          have g1 : wr.frozen? ⟨w.heap.size, 1, none⟩ = false := free_of_heap hst.out.res 1
          have g2 : wr.frozen? ⟨w.heap.size, 2, none⟩ = false := free_of_heap hst.out.res 2
          have g3 : wr.frozen? ⟨w.heap.size, 3, none⟩ = false := free_of_heap hst.out.res 3
          have x0 : wr.cell? ⟨eb, 0, none⟩ = some (.string ref) := cell_of_heap hst.out.box 0
          have x1 : wr.cell? ⟨eb, 1, none⟩ = some (.int .i64 ent) := cell_of_heap hst.out.box 1
          have x2 : wr.cell? ⟨eb, 2, none⟩ = some (.int .i64 per) := cell_of_heap hst.out.box 2
          have x3 : wr.cell? ⟨eb, 3, none⟩ = some lv := cell_of_heap hst.out.box 3
          have xa := hst.out.rd.c1
          obtain ⟨lao, lm, lcap, rfl⟩ := ownsRow_form hst.out.row
          have HOUT := fun wx hb => Lib.hid (rd_done (wx := wx) hst.out hyes.out hb)
          have nsz : eb ≠ w.heap.size := by have := hst.out.size; omega
          have nsz2 : w.heap.size ≠ eb := fun e => nsz e.symm
          clear hkk hst hak hyes
          go_wp2_with fail
          go_region
          go_wp2_with fail
          exact bodyPost_ret (v := .tuple #[.agg #[.string ref, .int .i64 ent, .int .i64 per, .slice lao lm lcap], .int .i64 (at_ : Int), .nilIface]) (by simp [results, Try.results13, go_sem, q0, q1, q2, q3]) rfl (readPost_drew (HOUT wr (Below.refl _ _)).out)
end Go.Proofs.Ytldpflijgbcbhaa
