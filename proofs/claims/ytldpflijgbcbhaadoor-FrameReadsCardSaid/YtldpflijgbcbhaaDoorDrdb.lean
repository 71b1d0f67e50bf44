/- dayref2.ReadBalances: the balances that bytes begin with, or none. -/
import Derived.Test.YtldpflijgbcbhaaDoorDst
import Derived.Test.YtldpflijgbcbhaaDoorAhead
import Derived.Test.YtldpflijgbcbhaaDoorFrdb
import Derived.Deep.RegionHeld3
import Derived.Deep.DeepCutAuto
namespace Go.Proofs.YtldpflijgbcbhaaDoor.dd
open Go.RowKit

def SRBPost (B : Nat) (w : World) (l : List UInt8) (e : Ending) (w' : World) : Prop :=
  Below B w w' ∧ match rdBals balCmp l with
    | some (t, r) => ∃ lao lc, e = .returned (.tuple #[.slice lao t.length lc, .int .i64 ((l.length - r.length : Nat) : Int), .bool true]) ∧ BalsAt w' lao t
    | none => e = .returned (.tuple #[.slice none 0 0, .int .i64 0, .bool false])
abbrev BSt (w : World) (sp : Option Addr) (cap : Nat) (l : List UInt8) (bs : List (Nat × Obj)) (lv : Value) (t : List BalM) (at_ : Nat) (bad : Bool) (wi : World) : Prop :=
  RSt w w.heap.size sp cap l bs 106 4 lv t.length (t.flatMap balCells) at_ bad wi
abbrev xBox (ent : Int) (acc cur : ByteArray) (amt : Int) : Obj := .cells #[.int .i64 ent, .string acc, .string cur, .int .i64 amt] 106 (0, 0)
theorem rb_no {w wi : World} {l : List UInt8} (hb : Below w.heap.size w wi) (hno : rdBals balCmp l = none) : SRBPost w.heap.size w l (.returned (.tuple #[.slice none 0 0, .int .i64 0, .bool false])) wi := by
  refine ⟨hb, ?_⟩
  rw [hno]
theorem rb_yes {w wi : World} {sp : Option Addr} {cap : Nat} {l : List UInt8} {bs : List (Nat × Obj)} {lv : Value} {t : List BalM} {at_ : Nat} (h : BSt w sp cap l bs lv t at_ false wi) (hyes : rdBals balCmp l = some (t, l.drop at_)) (n : Nat) :
    SRBPost w.heap.size w l (.returned (.tuple #[lv, .int .i64 (at_ : Int), .bool true])) (wi.drewN n) := by
  refine ⟨below_drewN h.fr.below _, ?_⟩
  rw [hyes]
  obtain ⟨lao, lc, rfl, hl⟩ := bals_of_row h.row
  have hle := h.rd.le
  have e : l.length - (l.drop at_).length = at_ := by rw [List.length_drop]; omega
  exact ⟨lao, lc, by show _ = _; rw [e], hl⟩

set_option maxRecDepth 100000 in
set_option maxHeartbeats 8000000 in
theorem sreadBals_any (w : World) (sp : Option Addr) (cap : Nat) (l : List UInt8) (hsrc : SrcW w sp l) (hcap : l.length ≤ cap) (hmax : l.length ≤ 140737488355328) :
    Calls Tryd.prog 15 #[.slice sp l.length cap] w (SRBPost w.heap.size w l) := by
  have hst : BSt w sp cap l [] (.slice none 0 0) [] 0 false (w.alloc (.cells #[.slice sp l.length cap, .int .i64 0, .bool false] 95)) := by
    have hf := (Fr.nil w).newAt rfl (.cells #[.slice sp l.length cap, .int .i64 0, .bool false] 95)
    refine ⟨hf.sub (fun p hp => by cases hp), World.ownsRow_nil _ _ _ _, fun k hk => by simp [Value.ownBlock] at hk, ⟨hf.hd, fun h0 => ?_, Nat.zero_le _, hcap, hmax⟩, ⟨Nat.le_refl _, fun p hp => by cases hp⟩, fun b o h0 e => ?_⟩
    · obtain ⟨b, o, e, hlt, hc⟩ := hsrc h0
      exact ⟨b, o, e, Nat.lt_of_lt_of_le hlt hf.below.size, by omega, fun j x hj => (hf.old hlt _).trans (hc j x hj)⟩
    · obtain ⟨b', o', e', hlt, _⟩ := hsrc h0
      rw [e'] at e
      injection e with e
      injection e with e _ _
      omega
  have ht0 := rnum_any 0 200 _ w.heap.size sp cap l 0 false hst.rd
  have HST := Lib.hid hst
  clear hsrc hst
  go_enter Tryd.func15, Tryd.ntmps15
  go_wp2_with fail
  refine ht0.mono ?_
  rintro e w4 ⟨n, a4, b4, rfl, o4, r4, t4⟩
  have S4 := Lib.hid (HST.out.call o4 r4)
  have HH := Lib.hid (bals_head t4)
  clear ht0 r4 o4 HST
  obtain ⟨N, hN⟩ : ∃ N : Nat, N = n.toNat := ⟨_, rfl⟩
  have hNb : b4 = false → n = (N : Int) ∧ N ≤ 200 := fun hb => by
    subst hb
    have e := num_step t4
    simp only [Bool.false_eq_true, if_false] at e
    obtain ⟨_, h1, h2⟩ := num_bwd e
    omega
  have HNB := Lib.hid hNb
  rw [← hN] at HH
  clear t4 hN hNb
  go_wp2_with fail
  go_loopw [7, 8] (fun v i wr => ∃ (k : Nat) (t : List BalM) (at_ : Nat) (bad : Bool), i = .int .i64 (k : Int) ∧ (k : Int) ≤ 200 ∧ Hid (b4 = false → k ≤ N) ∧ Hid (b4 = true → bad = true) ∧ Hid (t.length = k) ∧ Hid (BSt w sp cap l [] v t at_ bad wr) ∧ Hid (rdBals balCmp l = if bad = true then none else balK l t (N - k) at_)) (fun _ i _ => 201 - (intOf i).toNat)
  case atStart => exact ⟨0, [], a4, b4, rfl, by omega, fun _ => Nat.zero_le _, id, rfl, S4, HH⟩
  case round =>
    clear S4 HH
    obtain ⟨k, t, at_, bad, rfl, hk20, hkN, hbb, hak, hst, hkk⟩ := hrel
    have c2 := hst.out.rd.c2
    have hfin : bad = true ∨ (bad = false ∧ n = (N : Int) ∧ N ≤ 200 ∧ k ≤ N) := by
      cases bad with
      | true => exact Or.inl rfl
      | false =>
        have hb4 : b4 = false := by
          cases h : b4 with
          | true => exact absurd (hbb.out h) (by decide)
          | false => rfl
        exact Or.inr ⟨rfl, (HNB.out hb4).1, (HNB.out hb4).2, hkN.out hb4⟩
    rcases hfin with rfl | ⟨rfl, rfl, hN20, hkN'⟩
    · have hno : Hid (rdBals balCmp l = none) := by have h := hkk.out; rw [if_pos rfl] at h; exact h
      have HOUT := Lib.hid (rb_no hst.out.fr.below hno.out)
      clear hkk hst hno hkN hbb hak
      by_cases hlt : (k : Int) < n
      all_goals
        go_wp2_with fail
        go_ret3
        exact HOUT.out
    · by_cases hlt : k < N
      · have hacc : t.length ≤ 200 := by have := hak.out; omega
        have hltI : (k : Int) < (N : Int) := by omega
        obtain ⟨q, hq⟩ : ∃ q, q = wr.heap.size := ⟨_, rfl⟩
        have hqB : w.heap.size < q := by rw [hq]; exact hst.out.rd.lt
        have st0 := hst.out.newAt hq.symm (xBox 0 ⟨#[]⟩ ⟨#[]⟩ 0)
        have hneq : ∀ p ∈ ([] : List (Nat × Obj)), p.1 ≠ q := fun p hp => by cases hp
        have HNEQ := Lib.hid hneq
        have hn0 := rnum_any 0 200 _ w.heap.size sp cap l at_ false st0.rd
        have S0 := Lib.hid st0
        have HQ := Lib.hid hq
        clear st0 hneq hq
        go_wp2_with fail
        rw [← HQ.out]
        refine hn0.mono ?_
        rintro e v1 ⟨ent, p1, k1, rfl, o1, r1, t1⟩
        have st1 := S0.out.call o1 r1
        have x0 : v1.cell? ⟨q, 0, none⟩ = some (.int .i64 0) := cell_of_heap st1.fr.hd 0
        have f0 : v1.frozen? ⟨q, 0, none⟩ = false := free_of_heap st1.fr.hd 0
        have st1' := st1.set HNEQ.out 0 (.int .i64 ent)
        have hn1 := rtext_any _ w.heap.size sp cap l p1 k1 st1'.rd
        have S1 : Hid (BSt w sp cap l [(q, xBox ent ⟨#[]⟩ ⟨#[]⟩ 0)] u7 t p1 k1 (v1.setCell ⟨q, 0, none⟩ (.int .i64 ent))) := st1'
        have T1 := Lib.hid t1
        clear hn0 r1 o1 t1 st1 st1' S0
        go_wp2_with fail
        refine hn1.mono ?_
        rintro e v2 ⟨s1, p2, k2, rfl, o2, r2, t2⟩
        have st2 := S1.out.call o2 r2
        have x1 : v2.cell? ⟨q, 1, none⟩ = some (.string ⟨#[]⟩) := cell_of_heap st2.fr.hd 1
        have f1 : v2.frozen? ⟨q, 1, none⟩ = false := free_of_heap st2.fr.hd 1
        have st2' := st2.set HNEQ.out 1 (.string s1)
        have hn2 := rtext_any _ w.heap.size sp cap l p2 k2 st2'.rd
        have S2 : Hid (BSt w sp cap l [(q, xBox ent s1 ⟨#[]⟩ 0)] u7 t p2 k2 (v2.setCell ⟨q, 1, none⟩ (.string s1))) := st2'
        have T2 := Lib.hid t2
        clear hn1 r2 o2 t2 st2 st2' S1 x0 f0
        go_wp2_with fail
        refine hn2.mono ?_
        rintro e v3 ⟨s2, p3, k3, rfl, o3, r3, t3⟩
        have st3 := S2.out.call o3 r3
        have x2 : v3.cell? ⟨q, 2, none⟩ = some (.string ⟨#[]⟩) := cell_of_heap st3.fr.hd 2
        have f2 : v3.frozen? ⟨q, 2, none⟩ = false := free_of_heap st3.fr.hd 2
        have st3' := st3.set HNEQ.out 2 (.string s2)
        have hn3 := rnum_any (-1000000000000000) 1000000000000000 _ w.heap.size sp cap l p3 k3 st3'.rd
        have S3 : Hid (BSt w sp cap l [(q, xBox ent s1 s2 0)] u7 t p3 k3 (v3.setCell ⟨q, 2, none⟩ (.string s2))) := st3'
        have T3 := Lib.hid t3
        clear hn2 r3 o3 t3 st3 st3' S2 x1 f1
        go_wp2_with fail
        refine hn3.mono ?_
        rintro e v4 ⟨amt, p4, k4, rfl, o4, r4, t4⟩
        have st4 := S3.out.call o4 r4
        have x3 : v4.cell? ⟨q, 3, none⟩ = some (.int .i64 0) := cell_of_heap st4.fr.hd 3
        have f3 : v4.frozen? ⟨q, 3, none⟩ = false := free_of_heap st4.fr.hd 3
        have S5 : Hid (BSt w sp cap l [(q, xBox ent s1 s2 amt)] u7 t p4 k4 (v4.setCell ⟨q, 3, none⟩ (.int .i64 amt))) := st4.set HNEQ.out 3 (.int .i64 amt)
        have HLINE : Hid (rdBals balCmp l = if k4 = true then none else if rise balCmp t.getLast? ⟨ent, s1, s2, amt⟩ = true then balK l (t ++ [⟨ent, s1, s2, amt⟩]) (N - (k + 1)) p4 else none) := by
          have h := hkk.out
          rw [if_neg (by decide), show N - k = (N - (k + 1)) + 1 by omega, bal_line T1.out T2.out T3.out t4] at h
          exact h
        clear hn3 r4 o4 t4 st4 S3 x2 f2 T1 T2 T3 hkk hst c2
        obtain ⟨V, hV⟩ : ∃ V, V = v4.setCell ⟨q, 3, none⟩ (.int .i64 amt) := ⟨_, rfl⟩
        rw [← hV] at S5
        have HV := Lib.hid hV
        clear hV
        go_upto_region 12 with fail
        rw [← HV.out]
        clear HV x3 f3
        go_cut [50] (fun c wx => c = .bool (!rise balCmp t.getLast? ⟨ent, s1, s2, amt⟩) ∧ Hid (BSt w sp cap l [(q, xBox ent s1 s2 amt)] u7 t p4 k4 wx))
        case first =>
          by_cases hk0 : k = 0
          · have dk : decide ((0 : Int) < (k : Int)) = false := decide_eq_false (by omega)
            have dkn : decide (0 < k) = false := decide_eq_false (by omega)
            have HR : Hid (rise balCmp t.getLast? ⟨ent, s1, s2, amt⟩ = true) := by
              have h0 : t = [] := List.length_eq_zero_iff.1 (by have := hak.out; omega)
              show _ = _
              rw [h0]; rfl
            have HS := fun n => Lib.hid (show BSt w sp cap l [(q, xBox ent s1 s2 amt)] u7 t p4 k4 (V.drewN n) from S5.out.later (below_drewN (Below.refl _ _) n))
            clear hk0 S5
            go_quiet (fail)
            go_wp2_with fail
            go_meet
            exact ⟨by rw [HR.out]; rfl, HS _⟩
          · obtain ⟨m, hm⟩ : ∃ m, t.length = m + 1 := ⟨t.length - 1, by have := hak.out; omega⟩
            obtain ⟨z, hz⟩ : ∃ z, t[m]? = some z := ⟨t[m]'(by omega), List.getElem?_eq_getElem (by omega)⟩
            have HR : Hid (rise balCmp t.getLast? ⟨ent, s1, s2, amt⟩ = decide (balCmp z ⟨ent, s1, s2, amt⟩ < 0)) := by
              show _ = _
              rw [List.getLast?_eq_getElem?, show t.length - 1 = m by omega, hz]; rfl
            obtain ⟨lao, lc, hlv, hba⟩ := bals_of_row S5.out.row
            subst hlv
            obtain ⟨gb, off, rfl, hgl, hcell⟩ : ∃ gb off, lao = some ⟨gb, off, none⟩ ∧ gb < V.heap.size ∧ ∀ (i : Nat) (x : BalM), t[i]? = some x →
                V.cell? ⟨gb, off + i * 4, none⟩ = some (.int .i64 x.ent) ∧ V.cell? ⟨gb, off + i * 4 + 1, none⟩ = some (.string x.acc) ∧ V.cell? ⟨gb, off + i * 4 + 2, none⟩ = some (.string x.cur) ∧ V.cell? ⟨gb, off + i * 4 + 3, none⟩ = some (.int .i64 x.amt) := by
              rcases hba with h | h
              · rw [h] at hm; simp at hm
              · exact h
            obtain ⟨a0, a1, a2, a3⟩ := hcell m z hz
            have q0 : V.cell? ⟨q, 0, none⟩ = some (.int .i64 ent) := cell_of_heap S5.out.fr.hd 0
            have q1 : V.cell? ⟨q, 1, none⟩ = some (.string s1) := cell_of_heap S5.out.fr.hd 1
            have q2 : V.cell? ⟨q, 2, none⟩ = some (.string s2) := cell_of_heap S5.out.fr.hd 2
            have q3 : V.cell? ⟨q, 3, none⟩ = some (.int .i64 amt) := cell_of_heap S5.out.fr.hd 3
            have hcm := ahead_any z ⟨ent, s1, s2, amt⟩ V.drew
            unfold balV at hcm
            have sb : gb < V.drew.heap.size := hgl
            have sq : q < V.drew.heap.size := S5.out.fr.lt (List.mem_cons_self ..)
            have KEEP : ∀ w9, Below V.drew.heap.size V.drew w9 → w9.cell? ⟨gb, off + m * 4, none⟩ = some (.int .i64 z.ent) ∧ w9.cell? ⟨gb, off + m * 4 + 1, none⟩ = some (.string z.acc) ∧ w9.cell? ⟨gb, off + m * 4 + 2, none⟩ = some (.string z.cur) ∧ w9.cell? ⟨gb, off + m * 4 + 3, none⟩ = some (.int .i64 z.amt) ∧
                w9.cell? ⟨q, 0, none⟩ = some (.int .i64 ent) ∧ w9.cell? ⟨q, 1, none⟩ = some (.string s1) ∧ w9.cell? ⟨q, 2, none⟩ = some (.string s2) ∧ w9.cell? ⟨q, 3, none⟩ = some (.int .i64 amt) := fun w9 hb =>
              ⟨(hb.cell (p := ⟨gb, off + m * 4, none⟩) sb).trans a0, (hb.cell (p := ⟨gb, off + m * 4 + 1, none⟩) sb).trans a1, (hb.cell (p := ⟨gb, off + m * 4 + 2, none⟩) sb).trans a2, (hb.cell (p := ⟨gb, off + m * 4 + 3, none⟩) sb).trans a3,
                (hb.cell (p := ⟨q, 0, none⟩) sq).trans q0, (hb.cell (p := ⟨q, 1, none⟩) sq).trans q1, (hb.cell (p := ⟨q, 2, none⟩) sq).trans q2, (hb.cell (p := ⟨q, 3, none⟩) sq).trans q3⟩
            have HKEEP := Lib.hid KEEP
            have hkm : k = m + 1 := by have := hak.out; omega
            have d0 : decide ((0 : Int) < (k : Int)) = true := decide_eq_true (by omega)
            have d0n : decide (0 < k) = true := decide_eq_true (by omega)
            have hw1 : IntKind.i64.wrap ((k : Int) - 1) = (m : Int) := by rw [show (k : Int) - 1 = (m : Int) by omega]; exact IntWalk.i64_in _ (by omega)
            have hw2 : (k : Int) - 1 = (m : Int) := by omega
            have hw3 : IntKind.i64.wrap (m : Int) = (m : Int) := IntWalk.i64_in _ (by omega)
            have j0 : (0 : Int) ≤ (m : Int) := by omega
            have j1 : (m : Int) < (t.length : Int) := by omega
            clear KEEP hcell hz hba hm hgl hk0 hkm
            go_region_held3 (fun w' => w'.cell? ⟨gb, off + m * 4, none⟩ = some (.int .i64 z.ent) ∧ w'.cell? ⟨gb, off + m * 4 + 1, none⟩ = some (.string z.acc) ∧ w'.cell? ⟨gb, off + m * 4 + 2, none⟩ = some (.string z.cur) ∧ w'.cell? ⟨gb, off + m * 4 + 3, none⟩ = some (.int .i64 z.amt) ∧
                w'.cell? ⟨q, 0, none⟩ = some (.int .i64 ent) ∧ w'.cell? ⟨q, 1, none⟩ = some (.string s1) ∧ w'.cell? ⟨q, 2, none⟩ = some (.string s2) ∧ w'.cell? ⟨q, 3, none⟩ = some (.int .i64 amt))
              (first | exact HKEEP.out _ hb9 | exact ⟨a0, a1, a2, a3, q0, q1, q2, q3⟩ | go_keep)
              (first
                | (go_at_call 60; refine hcm.mono ?_; rintro e w9 ⟨rfl, hb9⟩))
            have SX : Hid (BSt w sp cap l [(q, xBox ent s1 s2 amt)] (.slice (some ⟨gb, off, none⟩) t.length lc) t p4 k4 w9) := S5.out.later (below_of_still.trans (hb9.mono (Nat.le_refl _)))
            clear hw1 hw2 hw3 hcm HKEEP a0 a1 a2 a3 q0 q1 q2 q3 sb sq hb9 S5 j0 j1 d0 d0n
            go_wp2_with fail
            go_meet
            exact ⟨by rw [HR.out], SX⟩
        case rest =>
          obtain ⟨rfl, hS⟩ := hcut
          go_upto_if 50 with (fail)
          go_cut [] (fun wx => ∃ bad' : Bool, Hid (bad' = (k4 || !rise balCmp t.getLast? ⟨ent, s1, s2, amt⟩)) ∧ Hid (BSt w sp cap l [(q, xBox ent s1 s2 amt)] u7 t p4 bad' wx))
          case first =>
            cases hr : rise balCmp t.getLast? ⟨ent, s1, s2, amt⟩ with
            | true =>
              have HR := Lib.hid hr
              clear hr
              rw [Bool.not_true]
              go_wp2_with fail
              go_meet
              exact ⟨k4, by show _ = _; rw [HR.out]; simp, hS⟩
            | false =>
              have HR := Lib.hid hr
              have c2 := hS.out.rd.c2
              have f2 : wc.frozen? ⟨w.heap.size, 2, none⟩ = false := free_of_heap hS.out.rd.self 2
              have HS := Lib.hid hS.out.setBad
              clear hr hS
              rw [Bool.not_false]
              go_wp2_with fail
              go_meet
              exact ⟨true, by show _ = _; rw [HR.out]; simp, HS⟩
          case rest =>
            obtain ⟨bad', hbad', hS'⟩ := hcut
            have HKK' : Hid (rdBals balCmp l = if bad' = true then none else balK l (t ++ [⟨ent, s1, s2, amt⟩]) (N - (k + 1)) p4) := by
              show _ = _
              rw [HLINE.out, hbad'.out]
              cases k4 <;> cases rise balCmp t.getLast? ⟨ent, s1, s2, amt⟩ <;> rfl
            clear HLINE hbad'
            clear hS
            have y0 : wc.cell? ⟨q, 0, none⟩ = some (.int .i64 ent) := cell_of_heap hS'.out.fr.hd 0
            have y1 : wc.cell? ⟨q, 1, none⟩ = some (.string s1) := cell_of_heap hS'.out.fr.hd 1
            have y2 : wc.cell? ⟨q, 2, none⟩ = some (.string s2) := cell_of_heap hS'.out.fr.hd 2
            have y3 : wc.cell? ⟨q, 3, none⟩ = some (.int .i64 amt) := cell_of_heap hS'.out.fr.hd 3
            obtain ⟨lao, lm, lcap, rfl⟩ := ownsRow_form hS'.out.row
            obtain ⟨i0, hi0, hz0, hz1, hz2⟩ := info_parts infoBl
            have HI0 := Lib.hid hi0
            have HZ0 := Lib.hid hz0
            have HZ1 := Lib.hid hz1
            have HZ2 := Lib.hid hz2
            clear hi0 hz0 hz1 hz2
            have S3a := Lib.hid (hS'.out.newAt rfl (.cells #[.int .i64 ent, .string s1, .string s2, .int .i64 amt] 106))
            have HROW : Hid ((wc.alloc (.cells #[.int .i64 ent, .string s1, .string s2, .int .i64 amt] 106)).ownsRow w.heap.size 106 4 (.slice lao lm lcap) t.length (t.flatMap balCells)) := S3a.out.row
            have HNEW : Hid (∀ (j : Nat) (u : Value), ([.int .i64 ent, .string s1, .string s2, .int .i64 amt] : List Value)[j]? = some u → (wc.alloc (.cells #[.int .i64 ent, .string s1, .string s2, .int .i64 amt] 106)).cell? (Addr.add ⟨wc.heap.size, 0, none⟩ j) = some u) := by
              intro j u hj
              rw [addr_add, World.cell?_alloc_at _ _ _ _ rfl, Nat.zero_add]
              match j, hj with
              | 0, hj | 1, hj | 2, hj | 3, hj => exact hj
            have HONE : Hid (∀ u ∈ ([.int .i64 ent, .string s1, .string s2, .int .i64 amt] : List Value), u.oneCell' = true) := by
              intro u hu
              simp at hu
              rcases hu with rfl | rfl | rfl | rfl <;> rfl
            have hB3 : w.heap.size ≤ wc.heap.size + 1 := by have := hS'.out.fr.below.size; omega
            clear hS'
            go_wp2_with (refine wpList_append_own_at (o := ⟨some 57, _, _, _, _, _⟩) _ rfl (.tmp 54) (.tmp 56) 34 rfl w.heap.size 106 i0 (.agg #[.int .i64 0, .string ⟨#[]⟩, .string ⟨#[]⟩, .int .i64 0]) 4 48 Tryd.underlying34 HI0.out HZ0.out HZ1.out HZ2.out rfl (by decide) (.slice lao lm lcap) t.length (t.flatMap balCells) rfl HROW.out ⟨wc.heap.size, 0, none⟩ 1 1 [.int .i64 ent, .string s1, .string s2, .int .i64 amt] rfl rfl HNEW.out HONE.out (by unfold maxLen; omega) (by omega) (by simpa using hB3) ?_)
            intro v9 w9 hown9 hgrow9 _ hat9
            have S9 : Hid (BSt w sp cap l [] v9 (t ++ [⟨ent, s1, s2, amt⟩]) p4 bad' w9) := (S3a.out.push (n' := (t ++ [(⟨ent, s1, s2, amt⟩ : BalM)]).length) (xs' := (t ++ [(⟨ent, s1, s2, amt⟩ : BalM)]).flatMap balCells) (ownsRow_cast hown9 (by simp) (by simp [balCells])) hgrow9 (hat9.imp id (fun h => h.trans (by simp)))).sub (cs := []) (fun p hp => by cases hp)
            have HAK' : Hid ((t ++ [(⟨ent, s1, s2, amt⟩ : BalM)]).length = k + 1) := by
              show _ = _
              rw [List.length_append, hak.out]; rfl
            have hkN2 : Hid (b4 = false → k + 1 ≤ N) := fun _ => by omega
            have hbb2 : Hid (b4 = true → bad' = true) := fun h => absurd (hbb.out h) (by decide)
            clear hown9 hgrow9 hat9 HROW HNEW HONE S3a hak hbb hkN y0 y1 y2 y3
            go_wp2_with fail
            go_roundw
            case rel => exact ⟨k + 1, _, p4, bad', by go_num, by omega, hkN2, hbb2, HAK', S9, HKK'⟩
            case measure => simp [intOf]; omega
      · obtain rfl : k = N := by omega
        have hyes : Hid (rdBals balCmp l = some (t, l.drop at_)) := by
          have h := hkk.out
          rw [if_neg (by decide), Nat.sub_self, balK_end] at h
          exact h
        have c1 := hst.out.rd.c1
        have hnlt : ¬ (k : Int) < (k : Int) := by omega
        have HOUT := fun n => Lib.hid (rb_yes hst.out hyes.out n)
        obtain ⟨lao, lm, lcap, rfl⟩ := ownsRow_form hst.out.row
        clear hkk hst hak hyes hkN hbb
        go_wp2_with fail
        go_quiet (fail)
        go_wp2_with fail
        go_ret3
        exact (HOUT _).out
end Go.Proofs.YtldpflijgbcbhaaDoor.dd
