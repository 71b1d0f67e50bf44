/- dayref2.ReadEntry: the entry that bytes begin with, or none. -/
import Derived.Test.YtldpflijgbcbhaaDoorDst
import Derived.Test.YtldpflijgbcbhaaDoorFrde
namespace Go.Proofs.YtldpflijgbcbhaaDoor.dd
open Go.RowKit

def SReadPost (B : Nat) (w : World) (l : List UInt8) (e : Ending) (w' : World) : Prop :=
  Below B w w' ∧ match rdEntry l with
    | some (x, r) => ∃ lao lc, e = .returned (.tuple #[entryV x lao lc, .int .i64 ((l.length - r.length : Nat) : Int), .bool true]) ∧ LinesAt w' lao x.lines
    | none => e = .returned (.tuple #[entryV ⟨⟨#[]⟩, 0, 0, []⟩ none 0, .int .i64 0, .bool false])
abbrev eRes : Obj := .cells #[.string ⟨#[]⟩, .int .i64 0, .int .i64 0, .slice none 0 0] 25 (0, 0)
abbrev eBox (ref : ByteArray) (ent per : Int) (lv : Value) : Obj := .cells #[.string ref, .int .i64 ent, .int .i64 per, lv] 25 (0, 0)
abbrev ESt (w : World) (sp : Option Addr) (cap : Nat) (l : List UInt8) (ref : ByteArray) (ent per : Int) (lv : Value) (acc : List LineM) (at_ : Nat) (bad : Bool) (wi : World) : Prop :=
  RSt w (w.heap.size + 1) sp cap l [(w.heap.size + 2, eBox ref ent per lv), (w.heap.size, eRes)] 99 3 lv acc.length (acc.flatMap lineCells) at_ bad wi

theorem sread_no {w wi : World} {l : List UInt8} (hb : Below w.heap.size w wi) (hno : rdEntry l = none) : SReadPost w.heap.size w l (.returned (.tuple #[.agg #[.string ⟨#[]⟩, .int .i64 0, .int .i64 0, .slice none 0 0], .int .i64 0, .bool false]))
    ((((wi.setCell ⟨w.heap.size, 0, none⟩ (.string ⟨#[]⟩)).setCell ⟨w.heap.size, 1, none⟩ (.int .i64 0)).setCell ⟨w.heap.size, 2, none⟩ (.int .i64 0)).setCell ⟨w.heap.size, 3, none⟩ (.slice none 0 0)) := by
  refine ⟨(((hb.setCell (Nat.le_refl _) _).setCell (Nat.le_refl _) _).setCell (Nat.le_refl _) _).setCell (Nat.le_refl _) _, ?_⟩
  rw [hno]
  rfl

theorem sread_yes {w wi : World} {sp : Option Addr} {cap : Nat} {l : List UInt8} {ref : ByteArray} {ent per : Int} {lv : Value} {acc : List LineM} {at_ : Nat} (h : ESt w sp cap l ref ent per lv acc at_ false wi) (hyes : rdEntry l = some (⟨ref, ent, per, acc⟩, l.drop at_)) :
    SReadPost w.heap.size w l (.returned (.tuple #[.agg #[.string ref, .int .i64 ent, .int .i64 per, lv], .int .i64 (at_ : Int), .bool true]))
      ((((wi.setCell ⟨w.heap.size, 0, none⟩ (.string ref)).setCell ⟨w.heap.size, 1, none⟩ (.int .i64 ent)).setCell ⟨w.heap.size, 2, none⟩ (.int .i64 per)).setCell ⟨w.heap.size, 3, none⟩ lv).drew := by
  refine ⟨((((h.fr.below.setCell (Nat.le_refl _) _).setCell (Nat.le_refl _) _).setCell (Nat.le_refl _) _).setCell (Nat.le_refl _) _).drew, ?_⟩
  rw [hyes]
  have hrow : ((((wi.setCell ⟨w.heap.size, 0, none⟩ (.string ref)).setCell ⟨w.heap.size, 1, none⟩ (.int .i64 ent)).setCell ⟨w.heap.size, 2, none⟩ (.int .i64 per)).setCell ⟨w.heap.size, 3, none⟩ lv).drew.ownsRow w.heap.size 99 3 lv acc.length (acc.flatMap lineCells) :=
    row_keep h.row (fun k hk => by
      have hne : k ≠ w.heap.size := fun e => (h.ne k hk).2 (w.heap.size, eRes) (by simp) e.symm
      show ((((wi.setCell ⟨w.heap.size, 0, none⟩ (.string ref)).setCell ⟨w.heap.size, 1, none⟩ (.int .i64 ent)).setCell ⟨w.heap.size, 2, none⟩ (.int .i64 per)).setCell ⟨w.heap.size, 3, none⟩ lv).heap[k]? = _
      rw [Below.heap_setCell _ _ _ _ hne, Below.heap_setCell _ _ _ _ hne, Below.heap_setCell _ _ _ _ hne, Below.heap_setCell _ _ _ _ hne])
  obtain ⟨lao, lc, rfl, hl, _⟩ := lines_of_row hrow
  have hle := h.rd.le
  have e : l.length - (l.drop at_).length = at_ := by rw [List.length_drop]; omega
  exact ⟨lao, lc, by show _ = _; rw [e]; rfl, hl⟩

set_option maxRecDepth 100000 in
set_option maxHeartbeats 8000000 in
theorem sreadEntry_any (w : World) (sp : Option Addr) (cap : Nat) (l : List UInt8) (hsrc : SrcW w sp l) (hcap : l.length ≤ cap) (hmax : l.length ≤ 140737488355328) :
    Calls Tryd.prog 11 #[.slice sp l.length cap] w (SReadPost w.heap.size w l) := by
  have hst : ESt w sp cap l ⟨#[]⟩ 0 0 (.slice none 0 0) [] 0 false (((w.alloc eRes).alloc (.cells #[.slice sp l.length cap, .int .i64 0, .bool false] 95)).alloc (eBox ⟨#[]⟩ 0 0 (.slice none 0 0))) := by
    have hf := (((Fr.nil w).newAt rfl eRes).newAt (n := w.heap.size + 1) (by simp) (.cells #[.slice sp l.length cap, .int .i64 0, .bool false] 95)).newAt (n := w.heap.size + 2) (by simp) (eBox ⟨#[]⟩ 0 0 (.slice none 0 0))
    refine ⟨hf.sub (fun p hp => by simp at hp ⊢; rcases hp with h | h <;> simp [h]), World.ownsRow_nil _ _ _ _, fun k hk => by simp [Value.ownBlock] at hk, ⟨hf.snd, fun h0 => ?_, Nat.zero_le _, hcap, hmax⟩, ⟨by omega, fun p hp => by simp at hp; rcases hp with rfl | rfl <;> simp⟩, fun b o h0 e => ?_⟩
    · obtain ⟨b, o, e, hlt, hc⟩ := hsrc h0
      exact ⟨b, o, e, Nat.lt_of_lt_of_le hlt hf.below.size, by omega, fun j x hj => (hf.old hlt _).trans (hc j x hj)⟩
    · obtain ⟨b', o', e', hlt, _⟩ := hsrc h0
      rw [e'] at e
      injection e with e
      injection e with e _ _
      omega
  have ht0 := rtext_any _ (w.heap.size + 1) sp cap l 0 false hst.rd
  have HST := Lib.hid hst
  have hne : ∀ p ∈ [(w.heap.size, eRes)], p.1 ≠ w.heap.size + 2 := fun p hp => by simp at hp; subst hp; simp
  have HNE := Lib.hid hne
  clear hsrc hst hne
  go_enter Tryd.func11, Tryd.ntmps11
  go_wp2_with fail
  refine ht0.mono ?_
  rintro e w1 ⟨ref, a1, b1, rfl, o1, r1, t1⟩
  have st1 := HST.out.call o1 r1
  have x0 : w1.cell? ⟨w.heap.size + 2, 0, none⟩ = some (.string ⟨#[]⟩) := cell_of_heap st1.fr.hd 0
  have f0 : w1.frozen? ⟨w.heap.size + 2, 0, none⟩ = false := free_of_heap st1.fr.hd 0
  have st1' := st1.set HNE.out 0 (.string ref)
  have hn1 := rnum_any 0 200 _ (w.heap.size + 1) sp cap l a1 b1 st1'.rd
  have S1 : Hid (ESt w sp cap l ref 0 0 (.slice none 0 0) [] a1 b1 (w1.setCell ⟨w.heap.size + 2, 0, none⟩ (.string ref))) := st1'
  have T1 := Lib.hid t1
  clear ht0 r1 o1 t1 st1 st1' HST
  go_wp2_with fail
  refine hn1.mono ?_
  rintro e w2 ⟨ent, a2, b2, rfl, o2, r2, t2⟩
  have st2 := S1.out.call o2 r2
  have x1 : w2.cell? ⟨w.heap.size + 2, 1, none⟩ = some (.int .i64 0) := cell_of_heap st2.fr.hd 1
  have f1 : w2.frozen? ⟨w.heap.size + 2, 1, none⟩ = false := free_of_heap st2.fr.hd 1
  have st2' := st2.set HNE.out 1 (.int .i64 ent)
  have hn2 := rnum_any 0 200 _ (w.heap.size + 1) sp cap l a2 b2 st2'.rd
  have S2 : Hid (ESt w sp cap l ref ent 0 (.slice none 0 0) [] a2 b2 (w2.setCell ⟨w.heap.size + 2, 1, none⟩ (.int .i64 ent))) := st2'
  have T2 := Lib.hid t2
  clear hn1 r2 o2 t2 st2 st2' S1 x0 f0
  go_wp2_with fail
  refine hn2.mono ?_
  rintro e w3 ⟨per, a3, b3, rfl, o3, r3, t3⟩
  have st3 := S2.out.call o3 r3
  have x2 : w3.cell? ⟨w.heap.size + 2, 2, none⟩ = some (.int .i64 0) := cell_of_heap st3.fr.hd 2
  have f2 : w3.frozen? ⟨w.heap.size + 2, 2, none⟩ = false := free_of_heap st3.fr.hd 2
  have st3' := st3.set HNE.out 2 (.int .i64 per)
  have hn3 := rnum_any 0 20 _ (w.heap.size + 1) sp cap l a3 b3 st3'.rd
  have S3 : Hid (ESt w sp cap l ref ent per (.slice none 0 0) [] a3 b3 (w3.setCell ⟨w.heap.size + 2, 2, none⟩ (.int .i64 per))) := st3'
  have T3 := Lib.hid t3
  clear hn2 r3 o3 t3 st3 st3' S2 x1 f1
  go_wp2_with fail
  refine hn3.mono ?_
  rintro e w4 ⟨n, a4, b4, rfl, o4, r4, t4⟩
  have S4 := Lib.hid (S3.out.call o4 r4)
  have HH := Lib.hid (ent_head T1.out T2.out T3.out t4)
  clear hn3 r4 o4 S3 x2 f2 T1 T2 T3
  obtain ⟨N, hN⟩ : ∃ N : Nat, N = n.toNat := ⟨_, rfl⟩
  have hNb : b4 = false → n = (N : Int) ∧ N ≤ 20 := fun hb => by
    subst hb
    have e := num_step t4
    simp only [Bool.false_eq_true, if_false] at e
    cases b3 with
    | true => simp at e
    | false =>
      simp only [Bool.false_eq_true, if_false] at e
      obtain ⟨_, h1, h2⟩ := num_bwd e
      omega
  have HNB := Lib.hid hNb
  rw [← hN] at HH
  clear t4 hN hNb
  go_wp2_with fail
  go_loopw [8] (fun i wr => ∃ (k : Nat) (lv : Value) (acc : List LineM) (at_ : Nat) (bad : Bool), i = .int .i64 (k : Int) ∧ (k : Int) ≤ 20 ∧ Hid (b4 = false → k ≤ N) ∧ Hid (b4 = true → bad = true) ∧ Hid (acc.length = k) ∧ Hid (ESt w sp cap l ref ent per lv acc at_ bad wr) ∧ Hid (rdEntry l = if bad = true then none else entK l ref ent per acc (N - k) at_)) (fun i _ => 21 - (intOf i).toNat)
  case atStart => exact ⟨0, .slice none 0 0, [], a4, b4, rfl, by omega, fun _ => Nat.zero_le _, id, rfl, S4, HH⟩
  case round =>
    clear S4 HH
    obtain ⟨k, lv, acc, at_, bad, rfl, hk20, hkN, hbb, hak, hst, hkk⟩ := hrel
    have c2 := hst.out.rd.c2
    have hfin : bad = true ∨ (bad = false ∧ n = (N : Int) ∧ N ≤ 20 ∧ k ≤ N) := by
      cases bad with
      | true => exact Or.inl rfl
      | false =>
        have hb4 : b4 = false := by
          cases h : b4 with
          | true => exact absurd (hbb.out h) (by decide)
          | false => rfl
        exact Or.inr ⟨rfl, (HNB.out hb4).1, (HNB.out hb4).2, hkN.out hb4⟩
    rcases hfin with rfl | ⟨rfl, rfl, hN20, hkN'⟩
    · have hno : Hid (rdEntry l = none) := by have h := hkk.out; rw [if_pos rfl] at h; exact h
      have q0 : wr.cell? ⟨w.heap.size, 0, none⟩ = some (.string ⟨#[]⟩) := cell_of_heap hst.out.fr.snd 0
      have q1 : wr.cell? ⟨w.heap.size, 1, none⟩ = some (.int .i64 0) := cell_of_heap hst.out.fr.snd 1
      have q2 : wr.cell? ⟨w.heap.size, 2, none⟩ = some (.int .i64 0) := cell_of_heap hst.out.fr.snd 2
      have q3 : wr.cell? ⟨w.heap.size, 3, none⟩ = some (.slice none 0 0) := cell_of_heap hst.out.fr.snd 3
      have g0 : wr.frozen? ⟨w.heap.size, 0, none⟩ = false := free_of_heap hst.out.fr.snd 0
      have g1 : wr.frozen? ⟨w.heap.size, 1, none⟩ = false := free_of_heap hst.out.fr.snd 1
      have g2 : wr.frozen? ⟨w.heap.size, 2, none⟩ = false := free_of_heap hst.out.fr.snd 2
      have g3 : wr.frozen? ⟨w.heap.size, 3, none⟩ = false := free_of_heap hst.out.fr.snd 3
      have HOUT := Lib.hid (sread_no hst.out.fr.below hno.out)
      clear hkk hst hno hkN hbb hak
      by_cases hlt : (k : Int) < n
      all_goals
        go_wp2_with fail
        exact bodyPost_ret (v := .tuple #[.agg #[.string ⟨#[]⟩, .int .i64 0, .int .i64 0, .slice none 0 0], .int .i64 0, .bool false]) (by simp [results, Tryd.results11, go_sem, q0, q1, q2, q3]) rfl HOUT.out
    · by_cases hlt : k < N
      · have hacc : acc.length ≤ 20 := by have := hak.out; omega
        have hltI : (k : Int) < (N : Int) := by omega
        obtain ⟨q, hq⟩ : ∃ q, q = wr.heap.size := ⟨_, rfl⟩
        have hqB : w.heap.size + 2 < q := by rw [hq]; exact lt_of_heap hst.out.fr.hd
        have st0 := hst.out.newAt hq.symm (.cells #[.string ⟨#[]⟩, .string ⟨#[]⟩, .int .i64 0] 99)
        have hneq : ∀ p ∈ [(w.heap.size + 2, eBox ref ent per lv), (w.heap.size, eRes)], p.1 ≠ q := fun p hp => by
          simp at hp
          rcases hp with rfl | rfl <;> simp <;> omega
        have HNEQ := Lib.hid hneq
        have hn0 := rtext_any _ (w.heap.size + 1) sp cap l at_ false st0.rd
        have S0 := Lib.hid st0
        have HQ := Lib.hid hq
        clear st0 hneq hq
        go_wp2_with fail
        rw [← HQ.out]
        refine hn0.mono ?_
        rintro e v1 ⟨s1, p1, k1, rfl, o1, r1, t1⟩
        have st1 := S0.out.call o1 r1
        have x0 : v1.cell? ⟨q, 0, none⟩ = some (.string ⟨#[]⟩) := cell_of_heap st1.fr.hd 0
        have f0 : v1.frozen? ⟨q, 0, none⟩ = false := free_of_heap st1.fr.hd 0
        have st1' := st1.set HNEQ.out 0 (.string s1)
        have hn1 := rtext_any _ (w.heap.size + 1) sp cap l p1 k1 st1'.rd
        have S1 : Hid (RSt w (w.heap.size + 1) sp cap l [(q, .cells #[.string s1, .string ⟨#[]⟩, .int .i64 0] 99), (w.heap.size + 2, eBox ref ent per lv), (w.heap.size, eRes)] 99 3 lv acc.length (acc.flatMap lineCells) p1 k1 (v1.setCell ⟨q, 0, none⟩ (.string s1))) := st1'
        have T1 := Lib.hid t1
        clear hn0 r1 o1 t1 st1 st1' S0
        go_wp2_with fail
        refine hn1.mono ?_
        rintro e v2 ⟨s2, p2, k2, rfl, o2, r2, t2⟩
        have st2 := S1.out.call o2 r2
        have x1 : v2.cell? ⟨q, 1, none⟩ = some (.string ⟨#[]⟩) := cell_of_heap st2.fr.hd 1
        have f1 : v2.frozen? ⟨q, 1, none⟩ = false := free_of_heap st2.fr.hd 1
        have st2' := st2.set HNEQ.out 1 (.string s2)
        have hn2 := rnum_any (-1000000000000000) 1000000000000000 _ (w.heap.size + 1) sp cap l p2 k2 st2'.rd
        have S2 : Hid (RSt w (w.heap.size + 1) sp cap l [(q, .cells #[.string s1, .string s2, .int .i64 0] 99), (w.heap.size + 2, eBox ref ent per lv), (w.heap.size, eRes)] 99 3 lv acc.length (acc.flatMap lineCells) p2 k2 (v2.setCell ⟨q, 1, none⟩ (.string s2))) := st2'
        have T2 := Lib.hid t2
        clear hn1 r2 o2 t2 st2 st2' S1 x0 f0
        go_wp2_with fail
        refine hn2.mono ?_
        rintro e v3 ⟨amt, p3, k3, rfl, o3, r3, t3⟩
        have st3 := S2.out.call o3 r3
        have x2 : v3.cell? ⟨q, 2, none⟩ = some (.int .i64 0) := cell_of_heap st3.fr.hd 2
        have f2 : v3.frozen? ⟨q, 2, none⟩ = false := free_of_heap st3.fr.hd 2
        have st3' := st3.set HNEQ.out 2 (.int .i64 amt)
        have S3 : Hid (RSt w (w.heap.size + 1) sp cap l [(q, .cells #[.string s1, .string s2, .int .i64 amt] 99), (w.heap.size + 2, eBox ref ent per lv), (w.heap.size, eRes)] 99 3 lv acc.length (acc.flatMap lineCells) p3 k3 (v3.setCell ⟨q, 2, none⟩ (.int .i64 amt))) := st3'
        have HKK' : Hid (rdEntry l = if k3 = true then none else entK l ref ent per (acc ++ [⟨s1, s2, amt⟩]) (N - (k + 1)) p3) := by
          have h := hkk.out
          rw [if_neg (by decide), show N - k = (N - (k + 1)) + 1 by omega, ent_line T1.out T2.out t3] at h
          exact h
        clear hn2 r3 o3 t3 st3 st3' S2 x1 f1 T1 T2 hkk hst
        obtain ⟨V, hV⟩ : ∃ V, V = v3.setCell ⟨q, 2, none⟩ (.int .i64 amt) := ⟨_, rfl⟩
        have SV := S3.out
        rw [← hV] at SV
        have y0 : V.cell? ⟨q, 0, none⟩ = some (.string s1) := cell_of_heap SV.fr.hd 0
        have y1 : V.cell? ⟨q, 1, none⟩ = some (.string s2) := cell_of_heap SV.fr.hd 1
        have y2 : V.cell? ⟨q, 2, none⟩ = some (.int .i64 amt) := cell_of_heap SV.fr.hd 2
        have y3 : V.cell? ⟨w.heap.size + 2, 3, none⟩ = some lv := cell_of_heap SV.fr.snd 3
        rw [hV] at y0 y1 y2 y3
        have HV := Lib.hid hV
        obtain ⟨lao, lm, lcap, rfl⟩ := ownsRow_form SV.row
        obtain ⟨i0, hi0, hz0, hz1, hz2⟩ := info_parts infoLn
        have HI0 := Lib.hid hi0
        have HZ0 := Lib.hid hz0
        have HZ1 := Lib.hid hz1
        have HZ2 := Lib.hid hz2
        clear hi0 hz0 hz1 hz2 SV hV
        have hsz3 : (v3.setCell ⟨q, 2, none⟩ (.int .i64 amt)).heap.size = v3.heap.size := by simp
        have S3a := Lib.hid (S3.out.newAt hsz3 (.cells #[.string s1, .string s2, .int .i64 amt] 99))
        have HROW : Hid (((v3.setCell ⟨q, 2, none⟩ (.int .i64 amt)).alloc (.cells #[.string s1, .string s2, .int .i64 amt] 99)).ownsRow w.heap.size 99 3 (.slice lao lm lcap) acc.length (acc.flatMap lineCells)) := S3a.out.row
        have HNEW : Hid (∀ (j : Nat) (u : Value), ([.string s1, .string s2, .int .i64 amt] : List Value)[j]? = some u → ((v3.setCell ⟨q, 2, none⟩ (.int .i64 amt)).alloc (.cells #[.string s1, .string s2, .int .i64 amt] 99)).cell? (Addr.add ⟨v3.heap.size, 0, none⟩ j) = some u) := by
          intro j u hj
          rw [addr_add, World.cell?_alloc_at _ _ _ _ (by simp), Nat.zero_add]
          match j, hj with
          | 0, hj | 1, hj | 2, hj => exact hj
        have HONE : Hid (∀ u ∈ ([.string s1, .string s2, .int .i64 amt] : List Value), u.oneCell' = true) := by
          intro u hu
          simp at hu
          rcases hu with rfl | rfl | rfl <;> rfl
        have hB3 : w.heap.size ≤ v3.heap.size + 1 := by have := S3.out.fr.below.size; rw [hsz3] at this; omega
        clear hsz3 S3
        go_wp2_with (refine wpList_append_own_at (o := ⟨some 49, _, _, _, _, _⟩) _ rfl (.tmp 46) (.tmp 48) 23 rfl w.heap.size 99 i0 (.agg #[.string ⟨#[]⟩, .string ⟨#[]⟩, .int .i64 0]) 3 40 Tryd.underlying23 HI0.out HZ0.out HZ1.out HZ2.out rfl (by decide) (.slice lao lm lcap) acc.length (acc.flatMap lineCells) rfl HROW.out ⟨v3.heap.size, 0, none⟩ 1 1 [.string s1, .string s2, .int .i64 amt] rfl rfl HNEW.out HONE.out (by unfold maxLen; omega) (by omega) (by simpa using hB3) ?_)
        intro v9 w9 hown9 hgrow9 _ hat9
        have st9 := (S3a.out.push (n' := (acc ++ [(⟨s1, s2, amt⟩ : LineM)]).length) (xs' := (acc ++ [(⟨s1, s2, amt⟩ : LineM)]).flatMap lineCells) (ownsRow_cast hown9 (by simp) (by simp [lineCells])) hgrow9 (hat9.imp id (fun h => h.trans (by simp)))).sub (cs := [(w.heap.size + 2, eBox ref ent per (.slice lao lm lcap)), (w.heap.size, eRes)]) (fun p hp => by simp at hp ⊢; rcases hp with h | h <;> simp [h])
        have x3 : w9.cell? ⟨w.heap.size + 2, 3, none⟩ = some (.slice lao lm lcap) := cell_of_heap st9.fr.hd 3
        have f3 : w9.frozen? ⟨w.heap.size + 2, 3, none⟩ = false := free_of_heap st9.fr.hd 3
        have S9 : Hid (ESt w sp cap l ref ent per v9 (acc ++ [⟨s1, s2, amt⟩]) p3 k3 (w9.setCell ⟨w.heap.size + 2, 3, none⟩ v9)) := st9.set HNE.out 3 v9
        have HAK' : Hid ((acc ++ [(⟨s1, s2, amt⟩ : LineM)]).length = k + 1) := by
          show _ = _
          rw [List.length_append, hak.out]; rfl
        have hkN2 : Hid (b4 = false → k + 1 ≤ N) := fun _ => by omega
        have hbb2 : Hid (b4 = true → k3 = true) := fun h => absurd (hbb.out h) (by decide)
        obtain ⟨lao9, lm9, lc9, rfl⟩ := ownsRow_form hown9
        clear hown9 hgrow9 hat9 HROW HNEW HONE S3a st9 hak hbb hkN y0 y1 y2 y3 x2 f2
        go_wp2_with fail
        go_roundw
        case rel => exact ⟨k + 1, _, _, p3, k3, by go_num, by omega, hkN2, hbb2, HAK', S9, HKK'⟩
        case measure => simp [intOf]; omega
      · obtain rfl : k = N := by omega
        have hyes : Hid (rdEntry l = some (⟨ref, ent, per, acc⟩, l.drop at_)) := by
          have h := hkk.out
          rw [if_neg (by decide), Nat.sub_self, entK_end] at h
          exact h
        have hnlt : ¬ (k : Int) < (k : Int) := by omega
        have HOUT := Lib.hid (sread_yes hst.out hyes.out)
        have q0 : wr.cell? ⟨w.heap.size, 0, none⟩ = some (.string ⟨#[]⟩) := cell_of_heap hst.out.fr.snd 0
        have q1 : wr.cell? ⟨w.heap.size, 1, none⟩ = some (.int .i64 0) := cell_of_heap hst.out.fr.snd 1
        have q2 : wr.cell? ⟨w.heap.size, 2, none⟩ = some (.int .i64 0) := cell_of_heap hst.out.fr.snd 2
        have q3 : wr.cell? ⟨w.heap.size, 3, none⟩ = some (.slice none 0 0) := cell_of_heap hst.out.fr.snd 3
        have g0 : wr.frozen? ⟨w.heap.size, 0, none⟩ = false := free_of_heap hst.out.fr.snd 0
        have g1 : wr.frozen? ⟨w.heap.size, 1, none⟩ = false := free_of_heap hst.out.fr.snd 1
        have g2 : wr.frozen? ⟨w.heap.size, 2, none⟩ = false := free_of_heap hst.out.fr.snd 2
        have g3 : wr.frozen? ⟨w.heap.size, 3, none⟩ = false := free_of_heap hst.out.fr.snd 3
        have x0 : wr.cell? ⟨w.heap.size + 2, 0, none⟩ = some (.string ref) := cell_of_heap hst.out.fr.hd 0
        have x1 : wr.cell? ⟨w.heap.size + 2, 1, none⟩ = some (.int .i64 ent) := cell_of_heap hst.out.fr.hd 1
        have x2 : wr.cell? ⟨w.heap.size + 2, 2, none⟩ = some (.int .i64 per) := cell_of_heap hst.out.fr.hd 2
        have x3 : wr.cell? ⟨w.heap.size + 2, 3, none⟩ = some lv := cell_of_heap hst.out.fr.hd 3
        have xa := hst.out.rd.c1
        obtain ⟨lao, lm, lcap, rfl⟩ := ownsRow_form hst.out.row
        clear hkk hst hak hyes hkN hbb
        go_wp2_with fail
        go_region
        go_wp2_with fail
        exact bodyPost_ret (v := .tuple #[.agg #[.string ref, .int .i64 ent, .int .i64 per, .slice lao lm lcap], .int .i64 (at_ : Int), .bool true]) (by simp [results, Tryd.results11, go_sem, q0, q1, q2, q3]) rfl HOUT.out
end Go.Proofs.YtldpflijgbcbhaaDoor.dd
