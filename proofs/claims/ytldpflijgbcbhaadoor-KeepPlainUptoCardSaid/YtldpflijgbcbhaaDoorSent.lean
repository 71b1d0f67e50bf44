/- The first fault of an entry, and of balances, line by line. -/
import Derived.Test.YtldpflijgbcbhaaDoorFent
import Derived.Test.YtldpflijgbcbhaaDoorFbal
import Derived.Test.YtldpflijgbcbhaaDoorStext
import Derived.BigQuiet
import Derived.Deep.QuietTactic
namespace Go.Proofs.YtldpflijgbcbhaaDoor
open Go.RowKit

theorem firstOf_append : ∀ {l : List Int} (m : List Int), firstOf l = 0 → firstOf (l ++ m) = firstOf m
  | [], _, _ => rfl
  | c :: t, m, h => by
    rw [firstOf] at h
    rw [List.cons_append, firstOf]
    by_cases hc : c = 0
    · rw [if_pos hc] at h ⊢; exact firstOf_append m h
    · rw [if_neg hc] at h; exact absurd h hc
theorem firstOf_stop : ∀ {l : List Int} (m : List Int), firstOf l ≠ 0 → firstOf (l ++ m) = firstOf l
  | [], _, h => absurd rfl h
  | c :: t, m, h => by
    rw [firstOf] at h
    rw [List.cons_append, firstOf, firstOf]
    by_cases hc : c = 0
    · rw [if_pos hc] at h ⊢; rw [if_pos hc]; exact firstOf_stop m h
    · rw [if_neg hc, if_neg hc]
theorem head_code (x : EntryM) : firstOf x.hcodes = if 24 < x.ref.size then 4 else if (itemB x.ent && itemB x.per) = true then 0 else 1 := by
  unfold EntryM.hcodes textC numC
  cases itemB x.ent <;> cases itemB x.per <;> (by_cases h : 24 < x.ref.size <;> simp [firstOf, h])
theorem line_code (y : LineM) : firstOf y.codes = if 24 < y.acc.size ∨ 24 < y.cur.size then 4 else numC (amtB y.amt) := by
  unfold LineM.codes textC
  by_cases h : 24 < y.acc.size
  · simp [firstOf, h]
  · by_cases h2 : 24 < y.cur.size
    · simp [firstOf, h, h2]
    · simp only [firstOf, h, h2, if_false, if_true, or_self]
      split <;> simp_all
theorem ent_split {x : EntryM} {k : Nat} {y : LineM} (h : x.lines[k]? = some y) : x.codes = (x.hcodes ++ (x.lines.take k).flatMap LineM.codes) ++ (y.codes ++ (x.lines.drop (k + 1)).flatMap LineM.codes) := by
  obtain ⟨hk, hy⟩ := List.getElem?_eq_some_iff.1 h
  unfold EntryM.codes
  rw [show [textC x.ref, numC (itemB x.ent), numC (itemB x.per)] = x.hcodes from rfl, List.append_assoc]
  congr 1
  conv => lhs; rw [← List.take_append_drop k x.lines]
  rw [List.flatMap_append, List.drop_eq_getElem_cons hk, hy, List.flatMap_cons]
theorem ent_stop {x : EntryM} {k : Nat} {y : LineM} (h : x.lines[k]? = some y) (h0 : firstOf (x.hcodes ++ (x.lines.take k).flatMap LineM.codes) = 0) (hc : firstOf y.codes ≠ 0) : firstOf x.codes = firstOf y.codes := by
  rw [ent_split h, firstOf_append _ h0, firstOf_stop _ hc]
theorem ent_next {x : EntryM} {k : Nat} {y : LineM} (h : x.lines[k]? = some y) (h0 : firstOf (x.hcodes ++ (x.lines.take k).flatMap LineM.codes) = 0) (hc : firstOf y.codes = 0) : firstOf (x.hcodes ++ (x.lines.take (k + 1)).flatMap LineM.codes) = 0 := by
  rw [flat_succ _ h, ← List.append_assoc, firstOf_append _ h0, hc]
theorem ent_hstop {x : EntryM} (hc : firstOf x.hcodes ≠ 0) : firstOf x.codes = firstOf x.hcodes := by
  unfold EntryM.codes
  rw [show [textC x.ref, numC (itemB x.ent), numC (itemB x.per)] = x.hcodes from rfl, firstOf_stop _ hc]
theorem ent_done {x : EntryM} (h : firstOf (x.hcodes ++ (x.lines.take x.lines.length).flatMap LineM.codes) = 0) : firstOf x.codes = 0 := by
  rw [List.take_length] at h
  exact h

theorem bal_code (p : Option BalM) (x : BalM) : firstOf (x.codes p) = if itemB x.ent = false then 1 else if 24 < x.acc.size ∨ 24 < x.cur.size then 4 else if amtB x.amt = false then 1 else ordC p x := by
  unfold BalM.codes textC numC
  cases itemB x.ent <;> cases amtB x.amt <;> (by_cases h : 24 < x.acc.size <;> by_cases h2 : 24 < x.cur.size <;> simp [firstOf, h, h2]) <;> intro h3 <;> exact h3.symm
theorem balCodes_ex : ∀ (a b : List BalM) (p : Option BalM), ∃ r, balCodes p (a ++ b) = balCodes p a ++ r
  | [], b, p => ⟨balCodes p b, rfl⟩
  | x :: a, b, p => by
    obtain ⟨r, hr⟩ := balCodes_ex a b (some x)
    exact ⟨r, by rw [List.cons_append, balCodes, balCodes, hr, List.append_assoc]⟩
theorem bal_stop {t : List BalM} {k : Nat} {y : BalM} (h : t[k]? = some y) (h0 : firstOf (balCodes none (t.take k)) = 0) (hc : firstOf (y.codes (prevB t k)) ≠ 0) : firstOf (balCodes none t) = firstOf (y.codes (prevB t k)) := by
  obtain ⟨r, hr⟩ := balCodes_ex (t.take (k + 1)) (t.drop (k + 1)) none
  rw [List.take_append_drop, balCodes_take h] at hr
  rw [hr, List.append_assoc, firstOf_append _ h0, firstOf_stop _ hc]
theorem bal_next {t : List BalM} {k : Nat} {y : BalM} (h : t[k]? = some y) (h0 : firstOf (balCodes none (t.take k)) = 0) (hc : firstOf (y.codes (prevB t k)) = 0) : firstOf (balCodes none (t.take (k + 1))) = 0 := by
  rw [balCodes_take h, firstOf_append _ h0, hc]
end Go.Proofs.YtldpflijgbcbhaaDoor

/- dayref2.Entry: the bytes of an entry, or its first fault. -/
namespace Go.Proofs.YtldpflijgbcbhaaDoor
open Go.RowKit

theorem ramount_any (n : Int) (w : World) : Calls Tryd.prog 64 #[.int .i64 n] w fun e w' => e = .returned (.bool (amtB n)) ∧ w = w' := by
  have hb : Hid (amtB n = (decide (-1000000000000000 ≤ n) && decide (n ≤ 1000000000000000))) := rfl
  generalize amtB n = b at hb
  by_cases h0 : -1000000000000000 ≤ n
  · have hb' : Hid (b = decide (n ≤ 1000000000000000)) := by show _ = _; rw [hb.out]; simp [h0]
    go_enter Tryd.func64, Tryd.ntmps64
    go_wp2_with fail
    go_ret
    exact ⟨ret_bool (by rw [hb'.out]), rfl⟩
  · have h0d : decide (-1000000000000000 ≤ n) = false := decide_eq_false h0
    have hb' : Hid (b = false) := by show _ = _; rw [hb.out]; simp [h0]
    go_enter Tryd.func64, Tryd.ntmps64
    go_wp2_with fail
    go_ret
    exact ⟨ret_bool (by rw [hb'.out]), rfl⟩

def SEntPost (B : Nat) (w : World) (l : List UInt8) (c : Int) (e : Ending) (w' : World) : Prop :=
  ∃ v, e = .returned (.tuple #[if c = 0 then v else .slice none 0 0, .int .i64 c]) ∧ Below B w w' ∧ (c = 0 → w'.ownsRow B 5 1 v l.length (l.map byteV))
theorem sent_bad {w w' : World} {l : List UInt8} {c d : Int} (hb : Below w.heap.size w w') (hc : c = d) (h0 : d ≠ 0) : SEntPost w.heap.size w l c (.returned (.tuple #[.slice none 0 0, .int .i64 d])) w' := by
  subst hc
  exact ⟨.slice none 0 0, by rw [if_neg h0], hb, fun h => absurd h h0⟩
def eBoxW (x : EntryM) (lao : Option Addr) (lc : Nat) : Obj := .cells #[.string x.ref, .int .i64 x.ent, .int .i64 x.per, .slice lao x.lines.length lc] 25 (0, 0)

set_option maxRecDepth 100000 in
set_option maxHeartbeats 2000000 in
theorem sent_many (x : EntryM) (lao : Option Addr) (lc : Nat) (w : World) (hl : 20 < x.lines.length) (hm : x.lines.length ≤ 9223372036854775807) :
    Calls Tryd.prog 18 #[entryV x lao lc] w (SEntPost w.heap.size w x.bytes 4) := by
  have hd : decide ((20 : Int) < (x.lines.length : Int)) = true := decide_eq_true (by omega)
  unfold entryV
  go_enter Tryd.func18, Tryd.ntmps18
  go_wp2_with fail
  go_ret2
  exact ⟨.slice none 0 0, rfl, (Below.refl _ _).alloc (Nat.le_refl _) _, fun h => by cases h⟩

set_option maxRecDepth 100000 in
set_option maxHeartbeats 2000000 in
theorem sent_ref (x : EntryM) (lao : Option Addr) (lc : Nat) (w : World) (hl : x.lines.length ≤ 20) (hr : 24 < x.ref.size) (hm : x.ref.size ≤ 9223372036854775807) :
    Calls Tryd.prog 18 #[entryV x lao lc] w (SEntPost w.heap.size w x.bytes 4) := by
  have hd : decide ((20 : Int) < (x.lines.length : Int)) = false := decide_eq_false (by omega)
  have hd2 : decide ((24 : Int) < (x.ref.size : Int)) = true := decide_eq_true (by omega)
  unfold entryV
  go_enter Tryd.func18, Tryd.ntmps18
  go_wp2_with fail
  go_ret2
  exact ⟨.slice none 0 0, rfl, (Below.refl _ _).alloc (Nat.le_refl _) _, fun h => by cases h⟩

set_option maxRecDepth 100000 in
set_option maxHeartbeats 4000000 in
theorem sent_num (x : EntryM) (lao : Option Addr) (lc : Nat) (w : World) (hl : x.lines.length ≤ 20) (hr : x.ref.size ≤ 24) (hn : (itemB x.ent && itemB x.per) = false) :
    Calls Tryd.prog 18 #[entryV x lao lc] w (SEntPost w.heap.size w x.bytes 1) := by
  have hd : decide ((20 : Int) < (x.lines.length : Int)) = false := decide_eq_false (by omega)
  have hd2 : decide ((24 : Int) < (x.ref.size : Int)) = false := decide_eq_false (by omega)
  have hcase : decide (x.ent < 0) = true ∨ (decide (x.ent < 0) = false ∧ decide (200 < x.ent) = true) ∨ (decide (x.ent < 0) = false ∧ decide (200 < x.ent) = false ∧ decide (x.per < 0) = true) ∨ (decide (x.ent < 0) = false ∧ decide (200 < x.ent) = false ∧ decide (x.per < 0) = false ∧ decide (200 < x.per) = true) := by
    unfold itemB at hn
    simp at hn ⊢
    omega
  unfold entryV
  clear hn
  rcases hcase with h1 | ⟨h1, h2⟩ | ⟨h1, h2, h3⟩ | ⟨h1, h2, h3, h4⟩
  all_goals
    go_enter Tryd.func18, Tryd.ntmps18
    go_wp2_with fail
    go_ret2
    exact ⟨.slice none 0 0, rfl, (Below.refl _ _).alloc (Nat.le_refl _) _, fun h => by cases h⟩

set_option maxRecDepth 100000 in
set_option maxHeartbeats 8000000 in
theorem sent_few (x : EntryM) (lao : Option Addr) (lc : Nat) (w : World) (hf : x.fair) (hl : x.lines.length ≤ 20) (hr : x.ref.size ≤ 24) (hn : (itemB x.ent && itemB x.per) = true) (hz : LinesAt w lao x.lines) :
    Calls Tryd.prog 18 #[entryV x lao lc] w (SEntPost w.heap.size w x.bytes (firstOf x.codes)) := by
  have hd : decide ((20 : Int) < (x.lines.length : Int)) = false := decide_eq_false (by omega)
  have hd2 : decide ((24 : Int) < (x.ref.size : Int)) = false := decide_eq_false (by omega)
  obtain ⟨q1, q2, q3, q4⟩ : decide (x.ent < 0) = false ∧ decide (200 < x.ent) = false ∧ decide (x.per < 0) = false ∧ decide (200 < x.per) = false := by
    unfold itemB at hn; simp at hn ⊢; omega
  have hb : 0 ≤ x.ent ∧ x.ent ≤ 200 ∧ 0 ≤ x.per ∧ x.per ≤ 200 := by unfold itemB at hn; simp at hn; omega
  obtain ⟨b1, b2, b3, b4⟩ := hb
  have HC0 : Hid (firstOf (x.hcodes ++ (x.lines.take 0).flatMap LineM.codes) = 0) := by
    show _ = _
    rw [List.take_zero, List.flatMap_nil, List.append_nil, head_code, if_neg (by omega), if_pos hn]
  have hn0 := numB_len (n := (x.ref.size : Int)) (by omega) (by omega)
  have hn1 := numB_len (n := x.ent) (by omega) (by omega)
  have hn2 := numB_len (n := x.per) (by omega) (by omega)
  have hn3 := numB_len (n := (x.lines.length : Int)) (by omega) (by omega)
  have hL0 : (textB x.ref).length ≤ 34 := by simp only [textB, List.length_append, size_list]; omega
  have st0 : RowSt w [(w.heap.size, eBoxW x lao lc)] 5 1 (.slice none 0 0) 0 [] (w.alloc (eBoxW x lao lc)) := RowSt.start ((Fr.nil w).new _)
  have ht0 := stext_any w.heap.size (.slice none 0 0) [] x.ref _ st0.row st0.fr.below.size (by simp) (by omega)
  rw [List.nil_append] at ht0
  have S0 := Lib.hid st0
  have HF := Lib.hid hf.2.2.2.2
  have HZ := Lib.hid hz
  unfold entryV
  clear hn hf hz st0
  go_enter Tryd.func18, Tryd.ntmps18
  go_wp2_with fail
  refine ht0.mono ?_
  rintro e w1 ⟨v1, rfl, hown1, hm1⟩
  have st1 := S0.out.moved hown1 hm1
  have hs1 := snum_any w.heap.size v1 (textB x.ref) x.ent w1 st1.row st1.fr.below.size (by omega) (by omega) (by omega)
  have k1 : w1.cell? ⟨w.heap.size, 1, none⟩ = some (.int .i64 x.ent) := cell_of_heap st1.fr.hd 1
  have S1 := Lib.hid st1
  clear ht0 hown1 hm1 st1 S0
  go_wp2_with fail
  refine hs1.mono ?_
  rintro e w2 ⟨v2, rfl, hown2, hm2⟩
  have st2 := S1.out.moved hown2 hm2
  have hs2 := snum_any w.heap.size v2 (textB x.ref ++ numB x.ent) x.per w2 st2.row st2.fr.below.size (by simp only [List.length_append]; omega) (by omega) (by omega)
  have k2 : w2.cell? ⟨w.heap.size, 2, none⟩ = some (.int .i64 x.per) := cell_of_heap st2.fr.hd 2
  have S2 := Lib.hid st2
  clear hs1 hown2 hm2 st2 S1 k1
  go_wp2_with fail
  refine hs2.mono ?_
  rintro e w3 ⟨v3, rfl, hown3, hm3⟩
  have st3 := S2.out.moved hown3 hm3
  have hs3 := snum_any w.heap.size v3 (textB x.ref ++ numB x.ent ++ numB x.per) (x.lines.length : Int) w3 st3.row st3.fr.below.size (by simp only [List.length_append]; omega) (by omega) (by omega)
  have k3 : w3.cell? ⟨w.heap.size, 3, none⟩ = some (.slice lao x.lines.length lc) := cell_of_heap st3.fr.hd 3
  have S3 := Lib.hid st3
  clear hs2 hown3 hm3 st3 S2 k2
  go_wp2_with fail
  refine hs3.mono ?_
  rintro e w4 ⟨v4, rfl, hown4, hm4⟩
  have st4 := S3.out.moved hown4 hm4
  have S4 : Hid (RowSt w [(w.heap.size, eBoxW x lao lc)] 5 1 v4 (x.head ++ (x.lines.take 0).flatMap LineM.bytes).length ((x.head ++ (x.lines.take 0).flatMap LineM.bytes).map byteV) w4) := by
    have e1 : x.head ++ (x.lines.take 0).flatMap LineM.bytes = textB x.ref ++ numB x.ent ++ numB x.per ++ numB (x.lines.length : Int) := by simp [EntryM.head, List.append_assoc]
    show RowSt _ _ _ _ _ _ _ _
    rw [e1]; exact st4
  have hLh : x.head.length ≤ 70 := by simp only [EntryM.head, List.length_append]; omega
  clear hs3 hown4 hm4 st4 S3 k3
  go_wp2_with fail
  go_loopw [4, 5] (fun b i wr => ∃ k : Nat, k ≤ x.lines.length ∧ i = .int .i64 (k : Int) ∧ Hid (RowSt w [(w.heap.size, eBoxW x lao lc)] 5 1 b (x.head ++ (x.lines.take k).flatMap LineM.bytes).length ((x.head ++ (x.lines.take k).flatMap LineM.bytes).map byteV) wr) ∧ Hid (firstOf (x.hcodes ++ (x.lines.take k).flatMap LineM.codes) = 0)) (fun _ i _ => x.lines.length - (intOf i).toNat)
  case atStart => exact ⟨0, Nat.zero_le _, rfl, S4, HC0⟩
  case round =>
    clear S4 HC0 hn0 hn1 hn2 hn3
    obtain ⟨k, hk, rfl, hR, hC⟩ := hrel
    have e3 : wr.cell? ⟨w.heap.size, 3, none⟩ = some (.slice lao x.lines.length lc) := cell_of_heap hR.out.fr.hd 3
    by_cases hlt : k < x.lines.length
    · obtain ⟨b, off, rfl, hbl, hcell⟩ : ∃ b off, lao = some ⟨b, off, none⟩ ∧ b < w.heap.size ∧ ∀ (i : Nat) (x_1 : LineM), x.lines[i]? = some x_1 →
          w.cell? ⟨b, off + i * 3, none⟩ = some (.string x_1.acc) ∧ w.cell? ⟨b, off + i * 3 + 1, none⟩ = some (.string x_1.cur) ∧ w.cell? ⟨b, off + i * 3 + 2, none⟩ = some (.int .i64 x_1.amt) := by
        rcases HZ.out with h | h
        · rw [h] at hlt; simp at hlt
        · exact h
      obtain ⟨y, hy⟩ : ∃ y, y = x.lines[k] := ⟨_, rfl⟩
      have hyk : x.lines[k]? = some y := by rw [hy]; exact List.getElem?_eq_getElem hlt
      obtain ⟨g0, g1, g2⟩ := hcell k y hyk
      have c0 : wr.cell? ⟨b, off + k * 3, none⟩ = some (.string y.acc) := (hR.out.fr.old hbl _).trans g0
      have c1 : wr.cell? ⟨b, off + k * 3 + 1, none⟩ = some (.string y.cur) := (hR.out.fr.old hbl _).trans g1
      have c2 : wr.cell? ⟨b, off + k * 3 + 2, none⟩ = some (.int .i64 y.amt) := (hR.out.fr.old hbl _).trans g2
      have hyf : y.fair := HF.out y (by rw [hy]; exact List.getElem_mem hlt)
      obtain ⟨hy1, hy2, hy3, hy4⟩ := hyf
      have hcode := line_code y
      have HY := Lib.hid hyk
      have hltI : (k : Int) < (x.lines.length : Int) := by omega
      have hk0 : (0 : Int) ≤ (k : Int) := by omega
      clear hy hyk g0 g1 g2 hcell
      obtain ⟨q, hq⟩ : ∃ q, q = wr.heap.size := ⟨_, rfl⟩
      have hqB : w.heap.size < q := by rw [hq]; exact lt_of_heap hR.out.fr.hd
      have st0 := hR.out.newAt hq.symm (.cells #[.string y.acc, .string y.cur, .int .i64 y.amt] 99 (0, 0))
      have HQ := Lib.hid hq
      clear hq
      by_cases hbig : 24 < y.acc.size ∨ 24 < y.cur.size
      · rw [if_pos hbig] at hcode
        have HOUT := Lib.hid (sent_bad st0.fr.below (l := x.bytes) ((ent_stop HY.out hC.out (by rw [hcode]; decide)).trans hcode) (by decide))
        clear st0 hR hC hcode
        by_cases hb1 : 24 < y.acc.size
        · have p1 : decide ((24 : Int) < (y.acc.size : Int)) = true := decide_eq_true (by omega)
          go_wp2_with fail
          go_ret2
          exact HOUT.out
        · have p1 : decide ((24 : Int) < (y.acc.size : Int)) = false := decide_eq_false (by omega)
          have p2 : decide ((24 : Int) < (y.cur.size : Int)) = true := decide_eq_true (by omega)
          go_wp2_with fail
          go_ret2
          exact HOUT.out
      · rw [if_neg hbig] at hcode
        have p1 : decide ((24 : Int) < (y.acc.size : Int)) = false := decide_eq_false (by omega)
        have p2 : decide ((24 : Int) < (y.cur.size : Int)) = false := decide_eq_false (by omega)
        have hra := ramount_any y.amt
        cases hamt : amtB y.amt with
        | false =>
          rw [hamt] at hcode hra
          have HOUT := Lib.hid (sent_bad st0.fr.below (l := x.bytes) ((ent_stop HY.out hC.out (by rw [hcode]; decide)).trans hcode) (by decide))
          clear st0 hR hC hcode hamt
          go_wp2_with fail
          refine (hra _).mono ?_
          rintro e w' ⟨rfl, rfl⟩
          clear hra
          go_wp2_with fail
          go_ret2
          exact HOUT.out
        | true =>
          rw [hamt] at hcode hra
          have hlen : (x.head ++ (x.lines.take k).flatMap LineM.bytes).length ≤ 500000000 := by
            have h1 := flatLen (x.lines.take k) (fun z hz => HF.out z (List.mem_of_mem_take hz))
            have h2 : (x.lines.take k).length ≤ 20 := by rw [List.length_take]; omega
            rw [List.length_append]; omega
          have HN := Lib.hid (ent_next HY.out hC.out hcode)
          have hend : Hid ((x.head ++ (x.lines.take (k + 1)).flatMap LineM.bytes) = (x.head ++ (x.lines.take k).flatMap LineM.bytes) ++ textB y.acc ++ textB y.cur ++ numB y.amt) := by
            show _ = _
            rw [flat_succ _ HY.out]; simp [LineM.bytes, List.append_assoc]
          have m1 := numB_len (n := (y.acc.size : Int)) (by omega) (by omega)
          have m2 := numB_len (n := (y.cur.size : Int)) (by omega) (by omega)
          have m3 : (textB y.acc).length ≤ 34 := by simp only [textB, List.length_append, size_list]; omega
          have m4 : (textB y.cur).length ≤ 34 := by simp only [textB, List.length_append, size_list]; omega
          generalize x.head ++ (x.lines.take k).flatMap LineM.bytes = P at *
          obtain ⟨V0, hV0⟩ : ∃ V0, V0 = wr.alloc (.cells #[.string y.acc, .string y.cur, .int .i64 y.amt] 99) := ⟨_, rfl⟩
          have st0' : RowSt w [(q, .cells #[.string y.acc, .string y.cur, .int .i64 y.amt] 99 (0, 0)), (w.heap.size, eBoxW x (some ⟨b, off, none⟩) lc)] 5 1 u4 P.length (P.map byteV) V0 := by rw [hV0]; exact st0
          have hc1 := stext_any w.heap.size u4 P y.acc _ st0'.row st0'.fr.below.size (by omega) (by omega)
          have x0 : V0.cell? ⟨q, 0, none⟩ = some (.string y.acc) := cell_of_heap st0'.fr.hd 0
          have S0 := Lib.hid st0'
          have HV0 := Lib.hid hV0
          clear st0 st0' hV0 hR hC hcode hamt
          go_wp2_with fail
          rw [← HQ.out, ← HV0.out]
          refine (hra _).mono ?_
          rintro e w' ⟨rfl, rfl⟩
          clear hra
          go_wp2_with fail
          refine hc1.mono ?_
          rintro e w5 ⟨v5, rfl, hown5, hm5⟩
          have st5 := S0.out.moved hown5 hm5
          have hc2 := stext_any w.heap.size v5 (P ++ textB y.acc) y.cur _ st5.row st5.fr.below.size (by rw [List.length_append]; omega) (by omega)
          have x1 : w5.cell? ⟨q, 1, none⟩ = some (.string y.cur) := cell_of_heap st5.fr.hd 1
          have S5 := Lib.hid st5
          clear hc1 hown5 hm5 st5 S0 x0
          go_wp2_with fail
          refine hc2.mono ?_
          rintro e w6 ⟨v6, rfl, hown6, hm6⟩
          have st6 := S5.out.moved hown6 hm6
          have hc3 := snum_any w.heap.size v6 (P ++ textB y.acc ++ textB y.cur) y.amt _ st6.row st6.fr.below.size (by simp only [List.length_append]; omega) hy3 hy4
          have x2 : w6.cell? ⟨q, 2, none⟩ = some (.int .i64 y.amt) := cell_of_heap st6.fr.hd 2
          have S6 := Lib.hid st6
          clear hc2 hown6 hm6 st6 S5 x1
          go_wp2_with fail
          refine hc3.mono ?_
          rintro e w7 ⟨v7, rfl, hown7, hm7⟩
          have st7 := S6.out.moved hown7 hm7
          have S7 : Hid (RowSt w [(w.heap.size, eBoxW x (some ⟨b, off, none⟩) lc)] 5 1 v7 (x.head ++ (x.lines.take (k + 1)).flatMap LineM.bytes).length ((x.head ++ (x.lines.take (k + 1)).flatMap LineM.bytes).map byteV) w7) := by
            show RowSt _ _ _ _ _ _ _ _
            rw [hend.out]; exact st7.sub (fun p hp => List.mem_cons_of_mem _ hp)
          clear hc3 hown7 hm7 st7 S6 x2
          go_wp2_with fail
          go_roundw
          case rel => exact ⟨k + 1, by omega, by go_num, S7, HN⟩
          case measure => simp [intOf]; omega
    · obtain rfl : k = x.lines.length := by omega
      have hdone := ent_done hC.out
      have HOUT : Hid (SEntPost w.heap.size w x.bytes (firstOf x.codes) (.returned (.tuple #[u4, .int .i64 0])) wr) := by
        have h := hR.out
        rw [List.take_length] at h
        have e1 : x.bytes = x.head ++ x.lines.flatMap LineM.bytes := by simp [EntryM.bytes, EntryM.head, List.append_assoc]
        rw [← e1] at h
        refine ⟨u4, by rw [hdone, if_pos rfl], h.fr.below, fun _ => h.row⟩
      obtain ⟨ao, n1, c1, rfl⟩ : ∃ ao n1 c1, u4 = .slice ao n1 c1 := ownsRow_form hR.out.row
      clear hR hC hdone
      go_wp2_with fail
      go_ret2
      exact HOUT.out

theorem sentry_any (x : EntryM) (lao : Option Addr) (lc : Nat) (w : World) (hf : x.fair) (hz : LinesAt w lao x.lines) :
    Calls Tryd.prog 18 #[entryV x lao lc] w (SEntPost w.heap.size w x.bytes x.code) := by
  unfold EntryM.code
  by_cases h : 20 < x.lines.length
  · rw [if_pos h]; exact sent_many x lao lc w h hf.2.2.2.1
  · rw [if_neg h]
    have hh := head_code x
    by_cases hr : 24 < x.ref.size
    · rw [if_pos hr] at hh
      rw [ent_hstop (by rw [hh]; decide), hh]
      exact sent_ref x lao lc w (by omega) hr (by have := hf.1; omega)
    · rw [if_neg hr] at hh
      cases hn : itemB x.ent && itemB x.per with
      | false =>
        rw [hn] at hh
        rw [ent_hstop (by rw [hh]; decide), hh]
        exact sent_num x lao lc w (by omega) (by omega) hn
      | true => exact sent_few x lao lc w hf (by omega) (by omega) hn hz
end Go.Proofs.YtldpflijgbcbhaaDoor
