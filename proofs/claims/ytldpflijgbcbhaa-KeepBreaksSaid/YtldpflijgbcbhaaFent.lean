/- frame.Entry: the bytes of an entry, and its first fault. -/
import Derived.Test.YtldpflijgbcbhaaFwr
import Derived.StillTailTactics
namespace Go.Proofs.Ytldpflijgbcbhaa
open Go.RowKit

theorem item_any (n : Int) (w : World) : Calls Try.prog 43 #[.int .i64 n] w fun e w' => e = .returned (.bool (itemB n)) ∧ w' = w := by
  have hb : Hid (itemB n = (decide (0 ≤ n) && decide (n ≤ 200))) := rfl
  generalize itemB n = b at hb
  by_cases h0 : 0 ≤ n
  · have hb' : Hid (b = decide (n ≤ 200)) := by show _ = _; rw [hb.out]; simp [h0]
    go_enter Try.func43, Try.ntmps43
    go_wp2_with fail
    go_ret
    exact ⟨ret_bool (by rw [hb'.out]), rfl⟩
  · have h0d : decide (0 ≤ n) = false := decide_eq_false h0
    have hb' : Hid (b = false) := by show _ = _; rw [hb.out]; simp [h0]
    go_enter Try.func43, Try.ntmps43
    go_wp2_with fail
    go_ret
    exact ⟨ret_bool (by rw [hb'.out]), rfl⟩
theorem amount_any (n : Int) (w : World) : Calls Try.prog 44 #[.int .i64 n] w fun e w' => e = .returned (.bool (amtB n)) ∧ w' = w := by
  have hb : Hid (amtB n = (decide (-1000000000000000 ≤ n) && decide (n ≤ 1000000000000000))) := rfl
  generalize amtB n = b at hb
  by_cases h0 : -1000000000000000 ≤ n
  · have hb' : Hid (b = decide (n ≤ 1000000000000000)) := by show _ = _; rw [hb.out]; simp [h0]
    go_enter Try.func44, Try.ntmps44
    go_wp2_with fail
    go_ret
    exact ⟨ret_bool (by rw [hb'.out]), rfl⟩
  · have h0d : decide (-1000000000000000 ≤ n) = false := decide_eq_false h0
    have hb' : Hid (b = false) := by show _ = _; rw [hb.out]; simp [h0]
    go_enter Try.func44, Try.ntmps44
    go_wp2_with fail
    go_ret
    exact ⟨ret_bool (by rw [hb'.out]), rfl⟩

/-- the lines t lie at the slice's address -/
def LinesAt (w : World) (ao : Option Addr) (t : List LineM) : Prop :=
  t = [] ∨ ∃ b off, ao = some ⟨b, off, none⟩ ∧ b < w.heap.size ∧ ∀ (i : Nat) (x : LineM), t[i]? = some x →
    w.cell? ⟨b, off + i * 3, none⟩ = some (.string x.acc) ∧ w.cell? ⟨b, off + i * 3 + 1, none⟩ = some (.string x.cur) ∧ w.cell? ⟨b, off + i * 3 + 2, none⟩ = some (.int .i64 x.amt)
/-- no text is great, and each number is one -/
def LineM.fair (x : LineM) : Prop := x.acc.size ≤ 10000000 ∧ x.cur.size ≤ 10000000 ∧ -9223372036854775808 ≤ x.amt ∧ x.amt ≤ 9223372036854775807
def EntryM.fair (e : EntryM) : Prop := e.ref.size ≤ 10000000 ∧ (-9223372036854775808 ≤ e.ent ∧ e.ent ≤ 9223372036854775807) ∧ (-9223372036854775808 ≤ e.per ∧ e.per ≤ 9223372036854775807) ∧ e.lines.length ≤ 9223372036854775807 ∧ ∀ x ∈ e.lines, x.fair
def entryV (e : EntryM) (lao : Option Addr) (lc : Nat) : Value := .agg #[.string e.ref, .int .i64 e.ent, .int .i64 e.per, .slice lao e.lines.length lc]

def EntPost (B : Nat) (w : World) (l : List UInt8) (c : Int) (e : Ending) (w' : World) : Prop :=
  ∃ v, e = .returned (.tuple #[if c = 0 then v else .slice none 0 0, errV c]) ∧ Below B w w' ∧ (c = 0 → w'.ownsRow B 5 1 v l.length (l.map byteV))

theorem firstOf_snoc : ∀ (l : List Int) (d : Int), firstOf (l ++ [d]) = mergeC (firstOf l) d
  | [], d => by
    simp only [List.nil_append, firstOf, mergeC]
    split <;> simp_all
  | c :: t, d => by
    rw [List.cons_append, firstOf, firstOf]
    by_cases h : c = 0
    · rw [if_pos h, if_pos h, firstOf_snoc t d]
    · rw [if_neg h, if_neg h, mergeC, if_neg h]
theorem mergeC_true (c : Int) : mergeC c (numC true) = c := by
  unfold mergeC numC; split <;> simp_all
theorem bodyLen (x : LineM) (h : x.fair) : x.bytes.length ≤ 20000030 := by
  obtain ⟨h1, h2, h3, h4⟩ := h
  have a := numB_len (n := (x.acc.size : Int)) (by omega) (by omega)
  have b := numB_len (n := (x.cur.size : Int)) (by omega) (by omega)
  have c := numB_len h3 h4
  simp only [LineM.bytes, textB, List.length_append, size_list]
  omega
theorem flatLen : ∀ (t : List LineM), (∀ x ∈ t, x.fair) → (t.flatMap LineM.bytes).length ≤ t.length * 20000030
  | [], _ => by simp
  | x :: t, h => by
    have h1 := bodyLen x (h x (by simp))
    have h2 := flatLen t (fun y hy => h y (by simp [hy]))
    rw [List.flatMap_cons, List.length_append, List.length_cons]
    omega

/-- what is so behind each call of the writer: the entry's own box, the writer -/
structure EntSt (x : EntryM) (lao : Option Addr) (lc : Nat) (w wi : World) (l : List UInt8) (c : Int) : Prop where
  below : Below w.heap.size w wi
  size : w.heap.size + 2 ≤ wi.heap.size
  box : wi.heap[w.heap.size]? = some (.cells #[.string x.ref, .int .i64 x.ent, .int .i64 x.per, .slice lao x.lines.length lc] 30 (0, 0))
  wr : WriterF w.heap.size (fun k => k = w.heap.size) wi (w.heap.size + 1) l c
theorem EntSt.k1 {x : EntryM} {lao : Option Addr} {lc : Nat} {w wi : World} {l : List UInt8} {c : Int} (h : EntSt x lao lc w wi l c) : wi.cell? ⟨w.heap.size, 1, none⟩ = some (.int .i64 x.ent) := cell_of_heap h.box 1
theorem EntSt.k2 {x : EntryM} {lao : Option Addr} {lc : Nat} {w wi : World} {l : List UInt8} {c : Int} (h : EntSt x lao lc w wi l c) : wi.cell? ⟨w.heap.size, 2, none⟩ = some (.int .i64 x.per) := cell_of_heap h.box 2
theorem EntSt.k3 {x : EntryM} {lao : Option Addr} {lc : Nat} {w wi : World} {l : List UInt8} {c : Int} (h : EntSt x lao lc w wi l c) : wi.cell? ⟨w.heap.size, 3, none⟩ = some (.slice lao x.lines.length lc) := cell_of_heap h.box 3
theorem EntSt.step {x : EntryM} {lao : Option Addr} {lc : Nat} {w wi wj : World} {l l' : List UInt8} {c c' : Int} (h : EntSt x lao lc w wi l c) (hs : Stays w.heap.size (fun k => k = w.heap.size) wi wj) (hw : WriterF w.heap.size (fun k => k = w.heap.size) wj (w.heap.size + 1) l' c') : EntSt x lao lc w wj l' c' :=
  ⟨h.below.trans hs.below, Nat.le_trans h.size hs.below.size, by rw [hs.blk _ rfl]; exact h.box, hw⟩
theorem EntSt.below' {x : EntryM} {lao : Option Addr} {lc : Nat} {w wi wj : World} {l : List UInt8} {c : Int} (h : EntSt x lao lc w wi l c) (hb : Below wi.heap.size wi wj) : EntSt x lao lc w wj l c :=
  ⟨h.below.trans (hb.mono (by have := h.size; omega)), Nat.le_trans h.size hb.size, by rw [hb.block _ (by have := h.size; omega)]; exact h.box, h.wr.more hb (fun k hk => Or.inl hk)⟩
theorem EntSt.start (x : EntryM) (lao : Option Addr) (lc : Nat) (w : World) : EntSt x lao lc w ((w.alloc (.cells #[.string x.ref, .int .i64 x.ent, .int .i64 x.per, .slice lao x.lines.length lc] 30)).alloc (.cells #[.slice none 0 0, .nilIface] 77)) [] 0 := by
  refine ⟨((Below.refl _ _).alloc (Nat.le_refl _) _).alloc (by simp) _, by simp, ?_, .slice none 0 0, heap_new_at (by simp) _, World.ownsRow_nil _ _ _ _, by omega, fun k hk => ⟨by simp; omega, by omega, by simp [Value.ownBlock]⟩⟩
  rw [Below.heap_alloc _ _ _ (by simp)]
  exact heap_new_at rfl _
theorem LinesAt.below {B : Nat} {w w' : World} {ao : Option Addr} {t : List LineM} (h : LinesAt w ao t) (hb : Below B w w') (hB : w.heap.size ≤ B) : LinesAt w' ao t := by
  rcases h with h | ⟨b, off, e, hlt, hc⟩
  · exact Or.inl h
  · refine Or.inr ⟨b, off, e, Nat.lt_of_lt_of_le hlt hb.size, fun i y hy => ?_⟩
    obtain ⟨h1, h2, h3⟩ := hc i y hy
    exact ⟨(hb.cell (p := ⟨b, off + i * 3, none⟩) (show b < B by omega)).trans h1, (hb.cell (p := ⟨b, off + i * 3 + 1, none⟩) (show b < B by omega)).trans h2, (hb.cell (p := ⟨b, off + i * 3 + 2, none⟩) (show b < B by omega)).trans h3⟩

/-- the same within a round: the line's own box besides -/
structure LnSt (x : EntryM) (y : LineM) (q : Nat) (lao : Option Addr) (lc : Nat) (w wi : World) (l : List UInt8) (c : Int) : Prop where
  below : Below w.heap.size w wi
  size : w.heap.size + 2 ≤ q ∧ q < wi.heap.size
  box : wi.heap[w.heap.size]? = some (.cells #[.string x.ref, .int .i64 x.ent, .int .i64 x.per, .slice lao x.lines.length lc] 30 (0, 0))
  lbox : wi.heap[q]? = some (.cells #[.string y.acc, .string y.cur, .int .i64 y.amt] 82 (0, 0))
  wr : WriterF w.heap.size (fun k => k = w.heap.size ∨ k = q) wi (w.heap.size + 1) l c
theorem LnSt.start {x : EntryM} {y : LineM} {lao : Option Addr} {lc : Nat} {w wr : World} {l : List UInt8} {c : Int} (h : EntSt x lao lc w wr l c) : LnSt x y wr.heap.size lao lc w (wr.alloc (.cells #[.string y.acc, .string y.cur, .int .i64 y.amt] 82)) l c := by
  have hb : Below wr.heap.size wr (wr.alloc (.cells #[.string y.acc, .string y.cur, .int .i64 y.amt] 82)) := (Below.refl _ _).alloc (Nat.le_refl _) _
  have h' := h.below' hb
  refine ⟨h'.below, ⟨h.size, by simp⟩, h'.box, heap_new_at rfl _, h.wr.more hb (fun k hk => ?_)⟩
  rcases hk with hk | hk
  · exact Or.inl hk
  · exact Or.inr ⟨by omega, by simp; omega⟩
theorem LnSt.step {x : EntryM} {y : LineM} {q : Nat} {lao : Option Addr} {lc : Nat} {w wi wj : World} {l l' : List UInt8} {c c' : Int} (h : LnSt x y q lao lc w wi l c) (hs : Stays w.heap.size (fun k => k = w.heap.size ∨ k = q) wi wj) (hw : WriterF w.heap.size (fun k => k = w.heap.size ∨ k = q) wj (w.heap.size + 1) l' c') : LnSt x y q lao lc w wj l' c' :=
  ⟨h.below.trans hs.below, ⟨h.size.1, Nat.lt_of_lt_of_le h.size.2 hs.below.size⟩, by rw [hs.blk _ (Or.inl rfl)]; exact h.box, by rw [hs.blk _ (Or.inr rfl)]; exact h.lbox, hw⟩
theorem LnSt.below' {x : EntryM} {y : LineM} {q : Nat} {lao : Option Addr} {lc : Nat} {w wi wj : World} {l : List UInt8} {c : Int} (h : LnSt x y q lao lc w wi l c) (hb : Below wi.heap.size wi wj) : LnSt x y q lao lc w wj l c :=
  ⟨h.below.trans (hb.mono (by have := h.size; omega)), ⟨h.size.1, Nat.lt_of_lt_of_le h.size.2 hb.size⟩, by rw [hb.block _ (by have := h.size; omega)]; exact h.box, by rw [hb.block _ h.size.2]; exact h.lbox, h.wr.more hb (fun k hk => Or.inl hk)⟩
theorem LnSt.done {x : EntryM} {y : LineM} {q : Nat} {lao : Option Addr} {lc : Nat} {w wi : World} {l : List UInt8} {c : Int} (h : LnSt x y q lao lc w wi l c) : EntSt x lao lc w wi l c :=
  ⟨h.below, by have := h.size; omega, h.box, h.wr.more (Below.refl _ _) (fun k hk => Or.inl (Or.inl hk))⟩
theorem LnSt.le {x : EntryM} {y : LineM} {q : Nat} {lao : Option Addr} {lc : Nat} {w wi : World} {l : List UInt8} {c : Int} (h : LnSt x y q lao lc w wi l c) : w.heap.size ≤ wi.heap.size := by have := h.size; omega
theorem flat_succ {α β : Type} (f : α → List β) {t : List α} {k : Nat} {y : α} (h : t[k]? = some y) : (t.take (k + 1)).flatMap f = (t.take k).flatMap f ++ f y := by
  obtain ⟨hlt, he⟩ := List.getElem?_eq_some_iff.1 h
  rw [List.take_succ_eq_append_getElem hlt, List.flatMap_append, he]
  simp

theorem below_of_still {w : World} : Below w.heap.size w w.drew := (Below.refl _ _).drew

/-- the bytes ahead of the lines -/
def EntryM.head (x : EntryM) : List UInt8 := textB x.ref ++ (numB x.ent ++ (numB x.per ++ numB x.lines.length))
def EntryM.hcodes (x : EntryM) : List Int := [textC x.ref, numC (itemB x.ent), numC (itemB x.per)]

set_option maxRecDepth 100000 in
set_option maxHeartbeats 4000000 in
theorem entry_few (x : EntryM) (lao : Option Addr) (lc : Nat) (w : World) (hf : x.fair) (hl : x.lines.length ≤ 20) (hz : LinesAt w lao x.lines) :
    Calls Try.prog 11 #[entryV x lao lc] w (EntPost w.heap.size w x.bytes (firstOf x.codes)) := by
  obtain ⟨f1, f2, f3, _, f5⟩ := hf
  have hst := EntSt.start x lao lc w
  have hd : decide ((20 : Int) < (x.lines.length : Int)) = false := decide_eq_false (by omega)
  have n0 := numB_len (n := (x.ref.size : Int)) (by omega) (by omega)
  have n1 := numB_len f2.1 f2.2
  have n2 := numB_len f3.1 f3.2
  have n3 := numB_len (n := (x.lines.length : Int)) (by omega) (by omega)
  have ht1 := wtext_any w.heap.size _ _ _ _ _ x.ref hst.wr (by have := hst.size; omega) (by simp) (by omega)
  unfold entryV
  have HZ := Lib.hid hz
  have HST := Lib.hid hst
  have HF := Lib.hid f5
  have L0 : (textB x.ref).length ≤ 10000010 := by simp only [textB, List.length_append, size_list]; omega
  clear hz hst f5
  go_enter Try.func11, Try.ntmps11
  go_wp2_with fail
  refine ht1.mono ?_
  rintro e w1 ⟨rfl, hs1, hw1⟩
  have st1 := HST.out.step hs1 hw1
  rw [List.nil_append] at st1
  have HS1 := Lib.hid st1
  have k1 := st1.k1
  clear ht1 hs1 hw1 HST st1
  go_wp2_with fail
  go_still_tail 5, (by kernel_rfl)
  still_call (item_any _ _)
  refine wpStill_nil ?_
  change wpList _ _ _ _ _ w1.drew
  have st2 := HS1.out.below' below_of_still
  generalize w1.drew = w2 at *
  have hc2 := wnum_any w.heap.size _ _ _ _ _ x.ent (itemB x.ent) st2.wr (by have := st2.size; omega) (by omega) f2.1 f2.2
  have HS2 := Lib.hid st2
  clear st2 HS1 k1
  go_wp2_with fail
  refine hc2.mono ?_
  rintro e w3 ⟨rfl, hs3, hw3⟩
  have st3 := HS2.out.step hs3 hw3
  have k2 := st3.k2
  have HS3 := Lib.hid st3
  clear hc2 hs3 hw3 HS2 st3
  go_wp2_with fail
  go_still_tail 5, (by kernel_rfl)
  still_call (item_any _ _)
  refine wpStill_nil ?_
  change wpList _ _ _ _ _ w3.drew
  have st4 := HS3.out.below' below_of_still
  generalize w3.drew = w4 at *
  have hc4 := wnum_any w.heap.size _ _ _ _ _ x.per (itemB x.per) st4.wr (by have := st4.size; omega) (by simp only [List.length_append]; omega) f3.1 f3.2
  have HS4 := Lib.hid st4
  clear st4 HS3 k2
  go_wp2_with fail
  refine hc4.mono ?_
  rintro e w5 ⟨rfl, hs5, hw5⟩
  have st5 := HS4.out.step hs5 hw5
  have k3 := st5.k3
  have hc5 := wnum_any w.heap.size _ _ _ _ _ (x.lines.length : Int) true st5.wr (by have := st5.size; omega) (by simp only [List.length_append]; omega) (by omega) (by omega)
  have HS5 := Lib.hid st5
  clear hc4 hs5 hw5 HS4 st5
  go_wp2_with fail
  refine hc5.mono ?_
  rintro e w6 ⟨rfl, hs6, hw6⟩
  have st6 := HS5.out.step hs6 hw6
  have k6 := st6.k3
  have HS6 : Hid (EntSt x lao lc w w6 (x.head ++ (x.lines.take 0).flatMap LineM.bytes) (firstOf (x.hcodes ++ (x.lines.take 0).flatMap LineM.codes))) := by
    show EntSt _ _ _ _ _ _ _
    have e1 : x.head ++ (x.lines.take 0).flatMap LineM.bytes = textB x.ref ++ numB x.ent ++ numB x.per ++ numB (x.lines.length : Int) := by simp [EntryM.head, List.append_assoc]
    have e2 : firstOf (x.hcodes ++ (x.lines.take 0).flatMap LineM.codes) = mergeC (mergeC (mergeC (mergeC 0 (textC x.ref)) (numC (itemB x.ent))) (numC (itemB x.per))) (numC true) := by
      rw [mergeC_true]
      simp only [EntryM.hcodes, List.take_zero, List.flatMap_nil, List.append_nil]
      rw [show [textC x.ref, numC (itemB x.ent), numC (itemB x.per)] = (([] ++ [textC x.ref]) ++ [numC (itemB x.ent)]) ++ [numC (itemB x.per)] from rfl, firstOf_snoc, firstOf_snoc, firstOf_snoc]
      rfl
    rw [e1, e2]; exact st6
  clear hc5 hs6 hw6 HS5 st6 k3
  go_wp2_with fail
  go_loopw [34] (fun i wr => ∃ k : Nat, k ≤ x.lines.length ∧ i = .int .i64 k ∧ Hid (EntSt x lao lc w wr (x.head ++ (x.lines.take k).flatMap LineM.bytes) (firstOf (x.hcodes ++ (x.lines.take k).flatMap LineM.codes)))) (fun i _ => x.lines.length - (intOf i).toNat)
  case atStart => exact ⟨0, Nat.zero_le _, rfl, HS6⟩
  case round =>
    clear HS6 k6 n1 n2 n3
    obtain ⟨k, hk, rfl, hR⟩ := hrel
    by_cases hlt : k < x.lines.length
    · obtain ⟨b, off, rfl, hbl, hcell⟩ : ∃ b off, lao = some ⟨b, off, none⟩ ∧ b < w.heap.size ∧ ∀ (i : Nat) (x_1 : LineM), x.lines[i]? = some x_1 →
          w.cell? ⟨b, off + i * 3, none⟩ = some (.string x_1.acc) ∧ w.cell? ⟨b, off + i * 3 + 1, none⟩ = some (.string x_1.cur) ∧ w.cell? ⟨b, off + i * 3 + 2, none⟩ = some (.int .i64 x_1.amt) := by
        rcases HZ.out with h | h
        · rw [h] at hlt; simp at hlt
        · exact h
      obtain ⟨y, hy⟩ : ∃ y, y = x.lines[k] := ⟨_, rfl⟩
      have hyk : x.lines[k]? = some y := by rw [hy]; exact List.getElem?_eq_getElem hlt
      obtain ⟨g0, g1, g2⟩ := hcell k y hyk
      have hbe : Below w.heap.size w wr := hR.out.below
      have c0 : wr.cell? ⟨b, off + k * 3, none⟩ = some (.string y.acc) := (hbe.cell (p := ⟨b, off + k * 3, none⟩) hbl).trans g0
      have c1 : wr.cell? ⟨b, off + k * 3 + 1, none⟩ = some (.string y.cur) := (hbe.cell (p := ⟨b, off + k * 3 + 1, none⟩) hbl).trans g1
      have c2 : wr.cell? ⟨b, off + k * 3 + 2, none⟩ = some (.int .i64 y.amt) := (hbe.cell (p := ⟨b, off + k * 3 + 2, none⟩) hbl).trans g2
      have hyf : y.fair := HF.out y (by rw [hy]; exact List.getElem_mem hlt)
      have HY := Lib.hid hyk
      clear hy hyk g0 g1 g2 hcell hbe
      have lst := LnSt.start (y := y) hR.out
      have hlen : (x.head ++ (x.lines.take k).flatMap LineM.bytes).length ≤ 500000000 := by
        have h1 := flatLen (x.lines.take k) (fun z hz => HF.out z (List.mem_of_mem_take hz))
        have h2 : (x.lines.take k).length ≤ 20 := by rw [List.length_take]; omega
        have a1 := numB_len f2.1 f2.2
        have a2 := numB_len f3.1 f3.2
        have a3 := numB_len (n := (x.lines.length : Int)) (by omega) (by omega)
        simp only [EntryM.head, List.length_append]
        omega
      obtain ⟨hy1, hy2, hy3, hy4⟩ := hyf
      have b1 := numB_len (n := (y.acc.size : Int)) (by omega) (by omega)
      have b2 := numB_len (n := (y.cur.size : Int)) (by omega) (by omega)
      have hc1 := wtext_any w.heap.size _ _ _ _ _ y.acc lst.wr lst.le (by omega) (by omega)
      have hend : Hid ((x.head ++ (x.lines.take (k + 1)).flatMap LineM.bytes) = (x.head ++ (x.lines.take k).flatMap LineM.bytes) ++ textB y.acc ++ textB y.cur ++ numB y.amt ∧
          firstOf (x.hcodes ++ (x.lines.take (k + 1)).flatMap LineM.codes) = mergeC (mergeC (mergeC (firstOf (x.hcodes ++ (x.lines.take k).flatMap LineM.codes)) (textC y.acc)) (textC y.cur)) (numC (amtB y.amt))) := by
        refine ⟨by rw [flat_succ _ HY.out]; simp [LineM.bytes, List.append_assoc], ?_⟩
        rw [flat_succ _ HY.out, ← firstOf_snoc, ← firstOf_snoc, ← firstOf_snoc]
        simp [LineM.codes, List.append_assoc]
      generalize x.head ++ (x.lines.take k).flatMap LineM.bytes = P at *
      generalize firstOf (x.hcodes ++ (x.lines.take k).flatMap LineM.codes) = C at *
      have LST := Lib.hid lst
      clear lst
      go_wp2_with fail
      refine hc1.mono ?_
      rintro e v1 ⟨rfl, ks1, kw1⟩
      have lt1 := LST.out.step ks1 kw1
      have m1 : v1.cell? ⟨wr.heap.size, 1, none⟩ = some (.string y.cur) := cell_of_heap lt1.lbox 1
      have hc2 := wtext_any w.heap.size _ _ _ _ _ y.cur lt1.wr lt1.le (by simp only [textB, List.length_append, size_list]; omega) (by omega)
      have LT1 := Lib.hid lt1
      clear hc1 ks1 kw1 LST lt1
      go_wp2_with fail
      refine hc2.mono ?_
      rintro e v2 ⟨rfl, ks2, kw2⟩
      have lt2 := LT1.out.step ks2 kw2
      have m2 : v2.cell? ⟨wr.heap.size, 2, none⟩ = some (.int .i64 y.amt) := cell_of_heap lt2.lbox 2
      have LT2 := Lib.hid lt2
      clear hc2 ks2 kw2 LT1 lt2 m1
      go_wp2_with fail
      go_still_tail 5, (by kernel_rfl)
      still_call (amount_any _ _)
      refine wpStill_nil ?_
      change wpList _ _ _ _ _ v2.drew
      have lt3 := LT2.out.below' below_of_still
      generalize v2.drew = v3 at *
      have hc3 := wnum_any w.heap.size _ _ _ _ _ y.amt (amtB y.amt) lt3.wr lt3.le (by simp only [textB, List.length_append, size_list]; omega) hy3 hy4
      have LT3 := Lib.hid lt3
      clear lt3 LT2 m2
      go_wp2_with fail
      refine hc3.mono ?_
      rintro e v4 ⟨rfl, ks4, kw4⟩
      have lt4 := LT3.out.step ks4 kw4
      have HN : Hid (EntSt x (some ⟨b, off, none⟩) lc w v4 (x.head ++ (x.lines.take (k + 1)).flatMap LineM.bytes) (firstOf (x.hcodes ++ (x.lines.take (k + 1)).flatMap LineM.codes))) := by
        show EntSt _ _ _ _ _ _ _
        rw [hend.out.1, hend.out.2]; exact lt4.done
      clear hc3 ks4 kw4 LT3 lt4 hend hR
      go_wp2_with fail
      go_roundw
      case rel => exact ⟨k + 1, by omega, by go_num, HN⟩
      case measure => simp [intOf]; omega
    · obtain rfl : k = x.lines.length := by omega
      have HE : Hid (EntSt x lao lc w wr x.bytes (firstOf x.codes)) := by
        have h := hR.out
        rw [List.take_length] at h
        have e1 : x.bytes = x.head ++ x.lines.flatMap LineM.bytes := by simp [EntryM.bytes, EntryM.head, List.append_assoc]
        show EntSt _ _ _ _ _ _ _
        rw [e1]; exact h
      obtain ⟨v, hv⟩ := HE.out.wr
      have hdn := wdone_any _ _ _ _ _ _ _ hv
      have HV := Lib.hid hv
      clear hR hv
      generalize hC : firstOf x.codes = C at *
      have HCC := Lib.hid hC
      clear hC
      go_wp2_with fail
      refine hdn.mono ?_
      rintro e w9 ⟨rfl, nn, rfl⟩
      clear hdn
      have HOUT : Hid (EntPost w.heap.size w x.bytes C (.returned (.tuple #[if C = 0 then v else .slice none 0 0, errV C])) (wr.drewN nn)) :=
        ⟨v, rfl, below_drewN HE.out.below _, fun _ => HV.out.own⟩
      generalize (if C = 0 then v else .slice none 0 0) = r at *
      generalize errV C = ev at *
      go_wp2_with fail
      go_ret2
      exact HOUT.out

set_option maxRecDepth 100000 in
set_option maxHeartbeats 2000000 in
theorem entry_many (x : EntryM) (lao : Option Addr) (lc : Nat) (w : World) (hl : 20 < x.lines.length) (hm : x.lines.length ≤ 9223372036854775807) :
    Calls Try.prog 11 #[entryV x lao lc] w (EntPost w.heap.size w x.bytes 4) := by
  have hd : decide ((20 : Int) < (x.lines.length : Int)) = true := decide_eq_true (by omega)
  unfold entryV
  go_enter Try.func11, Try.ntmps11
  go_wp2_with fail
  go_ret2
  exact ⟨.slice none 0 0, rfl, (Below.refl _ _).alloc (Nat.le_refl _) _, fun h => by cases h⟩

theorem entry_any (x : EntryM) (lao : Option Addr) (lc : Nat) (w : World) (hf : x.fair) (hz : LinesAt w lao x.lines) :
    Calls Try.prog 11 #[entryV x lao lc] w (EntPost w.heap.size w x.bytes x.code) := by
  unfold EntryM.code
  by_cases h : 20 < x.lines.length
  · rw [if_pos h]; exact entry_many x lao lc w h hf.2.2.2.1
  · rw [if_neg h]; exact entry_few x lao lc w hf (by omega) hz
end Go.Proofs.Ytldpflijgbcbhaa
