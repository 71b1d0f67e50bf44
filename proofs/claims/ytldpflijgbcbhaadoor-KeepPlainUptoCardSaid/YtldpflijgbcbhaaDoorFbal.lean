/- cmp.Compare at integers and texts, cmp.Or of three, and frame.Compare. -/
import Derived.Test.YtldpflijgbcbhaaDoorFent
import Derived.Test.YtldpflijgbcbhaaDoorInts
import Derived.WalkLawsBesides
import Derived.Laws.Cover1
import Derived.StillTailTactics
namespace Go.Proofs.YtldpflijgbcbhaaDoor
open Go.RowKit

def cmpI (a b : Int) : Int := if a < b then -1 else if b < a then 1 else 0
def lessS (a b : ByteArray) : Bool := Op.bytesLess a.toList b.toList
def sameS (a b : ByteArray) : Bool := a.toList == b.toList
def cmpS (a b : ByteArray) : Int := if lessS a b = true then -1 else if sameS a b = true then 0 else 1

theorem nan_int (a : Int) (w : World) : Calls Tryd.prog 100 #[.int .i64 a] w fun e w' => e = .returned (.bool false) ∧ w = w' := by
  have h : ((a : Int) != a) = false := by simp
  go_enter Tryd.func100, Tryd.ntmps100
  go_wp2_with fail
  go_ret
  exact ⟨rfl, rfl⟩
theorem nan_str (a : ByteArray) (w : World) : Calls Tryd.prog 101 #[.string a] w fun e w' => e = .returned (.bool false) ∧ w = w' := by
  go_enter Tryd.func101, Tryd.ntmps101
  go_wp2_with fail
  go_ret
  exact ⟨rfl, rfl⟩
set_option maxHeartbeats 1000000 in
theorem compare_int (a b : Int) (w : World) : Calls Tryd.prog 87 #[.int .i64 a, .int .i64 b] w fun e w' => e = .returned (.int .i64 (cmpI a b)) ∧ w = w' := by
  have h1 := nan_int a w
  have h2 := nan_int b w
  have HC : ∀ c, Hid (cmpI a b = c) → Hid (cmpI a b = c) := fun _ h => h
  by_cases hl : a < b
  · have hc : Hid (cmpI a b = -1) := by show _ = _; rw [cmpI, if_pos hl]
    generalize cmpI a b = c at hc
    go_enter Tryd.func87, Tryd.ntmps87
    go_wp2_with fail
    refine h1.mono ?_
    rintro e w' ⟨rfl, rfl⟩
    go_wp2_with fail
    refine h2.mono ?_
    rintro e w' ⟨rfl, rfl⟩
    go_wp2_with fail
    go_ret
    exact ⟨ret_int hc.out.symm, rfl⟩
  · by_cases hg : b < a
    · have hc : Hid (cmpI a b = 1) := by show _ = _; rw [cmpI, if_neg hl, if_pos hg]
      generalize cmpI a b = c at hc
      go_enter Tryd.func87, Tryd.ntmps87
      go_wp2_with fail
      refine h1.mono ?_
      rintro e w' ⟨rfl, rfl⟩
      go_wp2_with fail
      refine h2.mono ?_
      rintro e w' ⟨rfl, rfl⟩
      go_wp2_with fail
      go_ret
      exact ⟨ret_int hc.out.symm, rfl⟩
    · have hc : Hid (cmpI a b = 0) := by show _ = _; rw [cmpI, if_neg hl, if_neg hg]
      generalize cmpI a b = c at hc
      go_enter Tryd.func87, Tryd.ntmps87
      go_wp2_with fail
      refine h1.mono ?_
      rintro e w' ⟨rfl, rfl⟩
      go_wp2_with fail
      refine h2.mono ?_
      rintro e w' ⟨rfl, rfl⟩
      go_wp2_with fail
      go_ret
      exact ⟨ret_int hc.out.symm, rfl⟩
set_option maxHeartbeats 1000000 in
theorem compare_str (a b : ByteArray) (w : World) : Calls Tryd.prog 88 #[.string a, .string b] w fun e w' => e = .returned (.int .i64 (cmpS a b)) ∧ w = w' := by
  have h1 := nan_str a w
  have h2 := nan_str b w
  obtain ⟨ls, hls⟩ : ∃ ls, Op.bytesLess a.toList b.toList = ls := ⟨_, rfl⟩
  obtain ⟨ss, hss⟩ : ∃ ss, (a.toList == b.toList) = ss := ⟨_, rfl⟩
  have HC : Hid (cmpS a b = if ls = true then -1 else if ss = true then 0 else 1) := by show _ = _; rw [cmpS, lessS, sameS, hls, hss]
  generalize cmpS a b = c at HC
  cases ls <;> cases ss
  all_goals
    go_enter Tryd.func88, Tryd.ntmps88
    go_wp2_with fail
    refine h1.mono ?_
    rintro e w' ⟨rfl, rfl⟩
    go_wp2_with fail
    refine h2.mono ?_
    rintro e w' ⟨rfl, rfl⟩
    go_wp2_with fail
    go_ret
    exact ⟨ret_int (by rw [HC.out]; rfl), rfl⟩

set_option maxHeartbeats 1000000 in
theorem or3 (a b c : Int) (g cap : Nat) (w : World) (hz : IntsAt w (some ⟨g, 0, none⟩) [a, b, c]) :
    Calls Tryd.prog 86 #[.slice (some ⟨g, 0, none⟩) 3 cap] w fun e w' => e = .returned (.int .i64 (firstOf [a, b, c])) ∧ w = w' := by
  obtain ⟨c0, c1, c2⟩ : w.cell? ⟨g, 0, none⟩ = some (.int .i64 a) ∧ w.cell? ⟨g, 1, none⟩ = some (.int .i64 b) ∧ w.cell? ⟨g, 2, none⟩ = some (.int .i64 c) := by
    rcases hz with h | ⟨b', off, e, hc⟩
    · cases h
    · injection e with e
      injection e with e1 e2 _
      subst e1 e2
      exact ⟨hc 0 (by simp), hc 1 (by simp), hc 2 (by simp)⟩
  clear hz
  have HF : Hid (firstOf [a, b, c] = if a = 0 then (if b = 0 then (if c = 0 then 0 else c) else b) else a) := rfl
  generalize firstOf [a, b, c] = r at HF
  by_cases ha : a = 0
  · by_cases hb : b = 0
    · by_cases hc : c = 0
      · subst ha hb hc
        have hr : Hid (r = 0) := HF.out
        clear HF
        go_enter Tryd.func86, Tryd.ntmps86
        go_wp2_with fail
        refine wp_loop_rounds 4 ?_
        rw [rounds_succ]
        go_wp2_with fail
        rw [rounds_succ]
        go_wp2_with fail
        rw [rounds_succ]
        go_wp2_with fail
        rw [rounds_succ]
        go_wp2_with fail
        go_ret
        exact ⟨ret_int hr.out.symm, rfl⟩
      · have hr : Hid (r = c) := by show _ = _; rw [HF.out, if_pos ha, if_pos hb, if_neg hc]
        subst ha hb
        have hcb : (c != 0) = true := by simp [hc]
        clear HF hc
        go_enter Tryd.func86, Tryd.ntmps86
        go_wp2_with fail
        refine wp_loop_rounds 4 ?_
        rw [rounds_succ]
        go_wp2_with fail
        rw [rounds_succ]
        go_wp2_with fail
        rw [rounds_succ]
        go_wp2_with fail
        go_ret
        exact ⟨ret_int hr.out.symm, rfl⟩
    · have hr : Hid (r = b) := by show _ = _; rw [HF.out, if_pos ha, if_neg hb]
      subst ha
      have hbb : (b != 0) = true := by simp [hb]
      clear HF hb
      go_enter Tryd.func86, Tryd.ntmps86
      go_wp2_with fail
      refine wp_loop_rounds 4 ?_
      rw [rounds_succ]
      go_wp2_with fail
      rw [rounds_succ]
      go_wp2_with fail
      go_ret
      exact ⟨ret_int hr.out.symm, rfl⟩
  · have hr : Hid (r = a) := by show _ = _; rw [HF.out, if_neg ha]
    have hab : (a != 0) = true := by simp [ha]
    clear HF ha
    go_enter Tryd.func86, Tryd.ntmps86
    go_wp2_with fail
    refine wp_loop_rounds 4 ?_
    rw [rounds_succ]
    go_wp2_with fail
    go_ret
    exact ⟨ret_int hr.out.symm, rfl⟩

def balV (x : BalM) : Value := .agg #[.int .i64 x.ent, .string x.acc, .string x.cur, .int .i64 x.amt]
def balCmp (x y : BalM) : Int := firstOf [cmpI x.ent y.ent, cmpS x.acc y.acc, cmpS x.cur y.cur]
set_option maxRecDepth 100000 in
set_option maxHeartbeats 2000000 in
theorem compare_bal (x y : BalM) (w : World) : Calls Tryd.prog 61 #[balV x, balV y] w fun e w' => e = .returned (.int .i64 (balCmp x y)) ∧ Below w.heap.size w w' := by
  obtain ⟨w2, hw2⟩ : ∃ w2, w2 = (w.alloc (.cells #[.int .i64 x.ent, .string x.acc, .string x.cur, .int .i64 x.amt] 106)).alloc (.cells #[.int .i64 y.ent, .string y.acc, .string y.cur, .int .i64 y.amt] 106) := ⟨_, rfl⟩
  have hbl : Below w.heap.size w w2 := by rw [hw2]; exact ((Below.refl _ _).alloc (Nat.le_refl _) _).alloc (by simp) _
  have b1 : w2.heap[w.heap.size]? = some (.cells #[.int .i64 x.ent, .string x.acc, .string x.cur, .int .i64 x.amt] 106 (0, 0)) := by
    rw [hw2, Below.heap_alloc _ _ _ (by simp)]; exact heap_new_at rfl _
  have b2 : w2.heap[w.heap.size + 1]? = some (.cells #[.int .i64 y.ent, .string y.acc, .string y.cur, .int .i64 y.amt] 106 (0, 0)) := by
    rw [hw2]; exact heap_new_at (by simp) _
  have x0 : w2.cell? ⟨w.heap.size, 0, none⟩ = some (.int .i64 x.ent) := cell_of_heap b1 0
  have x1 : w2.cell? ⟨w.heap.size, 1, none⟩ = some (.string x.acc) := cell_of_heap b1 1
  have x2 : w2.cell? ⟨w.heap.size, 2, none⟩ = some (.string x.cur) := cell_of_heap b1 2
  have y0 : w2.cell? ⟨w.heap.size + 1, 0, none⟩ = some (.int .i64 y.ent) := cell_of_heap b2 0
  have y1 : w2.cell? ⟨w.heap.size + 1, 1, none⟩ = some (.string y.acc) := cell_of_heap b2 1
  have y2 : w2.cell? ⟨w.heap.size + 1, 2, none⟩ = some (.string y.cur) := cell_of_heap b2 2
  have HBL := Lib.hid hbl
  have HW2 := Lib.hid hw2
  have hor := fun (wx : World) (g : Nat) (hg : wx.heap[g]? = some (.cells #[.int .i64 (cmpI x.ent y.ent), .int .i64 (cmpS x.acc y.acc), .int .i64 (cmpS x.cur y.cur)] 3 (0, 0))) => or3 (cmpI x.ent y.ent) (cmpS x.acc y.acc) (cmpS x.cur y.cur) g 3 wx (Or.inr ⟨g, 0, rfl, fun i hi => by
    rw [cell_of_heap hg]
    match i, hi with
    | 0, _ | 1, _ | 2, _ => rfl⟩)
  have HOR := Lib.hid hor
  unfold balV
  clear hbl b1 b2 hw2 hor
  go_enter Tryd.func61, Tryd.ntmps61
  go_wp2_with fail
  rw [← HW2.out]
  go_still_tail 15, (by kernel_rfl)
  still_call ((compare_int _ _ _).mono (fun _ _ h => ⟨h.1, h.2.symm⟩))
  repeat still_step
  still_call ((compare_str _ _ _).mono (fun _ _ h => ⟨h.1, h.2.symm⟩))
  repeat still_step
  still_call ((compare_str _ _ _).mono (fun _ _ h => ⟨h.1, h.2.symm⟩))
  refine wpStill_nil ?_
  change wpList _ _ _ _ _ w2.drew
  have HBD : Hid (Below w.heap.size w w2.drew) := HBL.out.drew
  generalize w2.drew = w3 at *
  go_wp2_with fail
  refine (HOR.out _ _ (heap_new_at rfl _)).mono ?_
  rintro e w' ⟨rfl, rfl⟩
  go_wp2_with fail
  go_ret
  exact ⟨rfl, HBD.out.alloc HBD.out.size _⟩
end Go.Proofs.YtldpflijgbcbhaaDoor

/- frame.Balances: the bytes of balances, and their first fault. -/
namespace Go.Proofs.YtldpflijgbcbhaaDoor
open Go.RowKit

def ordC (p : Option BalM) (x : BalM) : Int := if rise balCmp p x = true then 0 else 5
def BalM.codes (p : Option BalM) (x : BalM) : List Int := [numC (itemB x.ent), textC x.acc, textC x.cur, numC (amtB x.amt), ordC p x]
def balCodes : Option BalM → List BalM → List Int
  | _, [] => []
  | p, x :: t => x.codes p ++ balCodes (some x) t
def balsCode (t : List BalM) : Int := if 200 < t.length then 4 else firstOf (balCodes none t)
theorem ordC_zero {p : Option BalM} {x : BalM} : ordC p x = 0 ↔ rise balCmp p x = true := by
  unfold ordC
  by_cases h : rise balCmp p x = true
  · simp [h]
  · simp [h]
theorem bal_codes {p : Option BalM} {x : BalM} : (∀ c ∈ x.codes p, c = 0) ↔ x.ok ∧ rise balCmp p x = true := by
  simp only [BalM.codes, List.mem_cons, List.not_mem_nil, or_false, forall_eq_or_imp, forall_eq, itemB_zero, textC_zero, amtB_zero, ordC_zero, BalM.ok]
  constructor
  · rintro ⟨h1, h2, h3, h4, h5⟩; exact ⟨⟨h1, h2, h3, h4⟩, h5⟩
  · rintro ⟨⟨h1, h2, h3, h4⟩, h5⟩; exact ⟨h1, h2, h3, h4, h5⟩
theorem balCodes_zero : ∀ (t : List BalM) (p : Option BalM), (∀ c ∈ balCodes p t, c = 0) ↔ (∀ x ∈ t, x.ok) ∧ chain (rise balCmp) p t
  | [], p => by simp [balCodes, chain]
  | x :: t, p => by
    have ih := balCodes_zero t (some x)
    have hx := bal_codes (p := p) (x := x)
    simp only [balCodes, List.mem_append, chain, List.mem_cons]
    constructor
    · intro h
      obtain ⟨h1, h2⟩ := hx.1 (fun c hc => h c (Or.inl hc))
      obtain ⟨h3, h4⟩ := ih.1 (fun c hc => h c (Or.inr hc))
      exact ⟨fun y hy => by rcases hy with rfl | hy; exact h1; exact h3 y hy, h2, h4⟩
    · rintro ⟨h1, h2, h4⟩ c hc
      rcases hc with hc | hc
      · exact hx.2 ⟨h1 x (Or.inl rfl), h2⟩ c hc
      · exact ih.2 ⟨fun y hy => h1 y (Or.inr hy), h4⟩ c hc
theorem bals_code (t : List BalM) : balsCode t = 0 ↔ balsOk balCmp t := by
  unfold balsCode
  split
  · rename_i h
    constructor
    · intro h'; cases h'
    · intro h'; have := h'.1; omega
  · rename_i h
    rw [firstOf_zero, balCodes_zero]
    exact ⟨fun h' => ⟨by omega, h'.1, h'.2⟩, fun h' => ⟨h'.2.1, h'.2.2⟩⟩
/-- who stands ahead of the k-th -/
def prevB (t : List BalM) (k : Nat) : Option BalM := if k = 0 then none else t[k - 1]?
theorem balCodes_snoc : ∀ (t : List BalM) (p : Option BalM) (x : BalM), balCodes p (t ++ [x]) = balCodes p t ++ x.codes (match t.getLast? with | some y => some y | none => p)
  | [], p, x => by simp [balCodes]
  | y :: t, p, x => by
    rw [List.cons_append, balCodes, balCodes, balCodes_snoc t (some y) x, List.append_assoc]
    congr 2
    cases h : t.getLast? with
    | none =>
      have ht : t = [] := List.getLast?_eq_none_iff.1 h
      subst ht
      rfl
    | some z =>
      have : (y :: t).getLast? = some z := by rw [List.getLast?_cons, h]; rfl
      rw [this]
theorem balCodes_take {t : List BalM} {k : Nat} {x : BalM} (h : t[k]? = some x) : balCodes none (t.take (k + 1)) = balCodes none (t.take k) ++ x.codes (prevB t k) := by
  obtain ⟨hlt, he⟩ := List.getElem?_eq_some_iff.1 h
  rw [List.take_succ_eq_append_getElem hlt, he, balCodes_snoc]
  congr 2
  unfold prevB
  by_cases hk : k = 0
  · subst hk; rfl
  · rw [if_neg hk, List.getLast?_take, if_neg hk]
    have : t[k - 1]? = some (t[k - 1]'(by omega)) := List.getElem?_eq_getElem (by omega)
    rw [this]
    rfl

def BalM.fair (x : BalM) : Prop := (-9223372036854775808 ≤ x.ent ∧ x.ent ≤ 9223372036854775807) ∧ x.acc.size ≤ 2000000 ∧ x.cur.size ≤ 2000000 ∧ -9223372036854775808 ≤ x.amt ∧ x.amt ≤ 9223372036854775807
theorem balLen (x : BalM) (h : x.fair) : x.bytes.length ≤ 4000040 := by
  obtain ⟨h0, h1, h2, h3, h4⟩ := h
  have d := numB_len h0.1 h0.2
  have a := numB_len (n := (x.acc.size : Int)) (by omega) (by omega)
  have b := numB_len (n := (x.cur.size : Int)) (by omega) (by omega)
  have c := numB_len h3 h4
  simp only [BalM.bytes, textB, List.length_append, size_list]
  omega
theorem balsLen : ∀ (t : List BalM), (∀ x ∈ t, x.fair) → (t.flatMap BalM.bytes).length ≤ t.length * 4000040
  | [], _ => by simp
  | x :: t, h => by
    have h1 := balLen x (h x (by simp))
    have h2 := balsLen t (fun y hy => h y (by simp [hy]))
    rw [List.flatMap_cons, List.length_append, List.length_cons]
    omega
/-- the balances t lie at the slice's address -/
def BalsAt (w : World) (ao : Option Addr) (t : List BalM) : Prop :=
  t = [] ∨ ∃ b off, ao = some ⟨b, off, none⟩ ∧ b < w.heap.size ∧ ∀ (i : Nat) (x : BalM), t[i]? = some x →
    w.cell? ⟨b, off + i * 4, none⟩ = some (.int .i64 x.ent) ∧ w.cell? ⟨b, off + i * 4 + 1, none⟩ = some (.string x.acc) ∧ w.cell? ⟨b, off + i * 4 + 2, none⟩ = some (.string x.cur) ∧ w.cell? ⟨b, off + i * 4 + 3, none⟩ = some (.int .i64 x.amt)
theorem BalsAt.below {B : Nat} {w w' : World} {ao : Option Addr} {t : List BalM} (h : BalsAt w ao t) (hb : Below B w w') (hB : w.heap.size ≤ B) : BalsAt w' ao t := by
  rcases h with h | ⟨b, off, e, hlt, hc⟩
  · exact Or.inl h
  · refine Or.inr ⟨b, off, e, Nat.lt_of_lt_of_le hlt hb.size, fun i y hy => ?_⟩
    obtain ⟨h1, h2, h3, h4⟩ := hc i y hy
    exact ⟨(hb.cell (p := ⟨b, off + i * 4, none⟩) (show b < B by omega)).trans h1, (hb.cell (p := ⟨b, off + i * 4 + 1, none⟩) (show b < B by omega)).trans h2, (hb.cell (p := ⟨b, off + i * 4 + 2, none⟩) (show b < B by omega)).trans h3, (hb.cell (p := ⟨b, off + i * 4 + 3, none⟩) (show b < B by omega)).trans h4⟩

/-- what is so at a round's head: the writer alone -/
structure BalSt (w wi : World) (l : List UInt8) (c : Int) : Prop where
  below : Below w.heap.size w wi
  wr : WriterF w.heap.size (fun _ => False) wi w.heap.size l c
theorem BalSt.size {w wi : World} {l : List UInt8} {c : Int} (h : BalSt w wi l c) : w.heap.size + 1 ≤ wi.heap.size := by
  obtain ⟨v, hv⟩ := h.wr
  exact hv.lt
/-- the same within a round: the balance's own box besides -/
structure LbSt (y : BalM) (q : Nat) (w wi : World) (l : List UInt8) (c : Int) : Prop where
  below : Below w.heap.size w wi
  size : w.heap.size + 1 ≤ q ∧ q < wi.heap.size
  lbox : wi.heap[q]? = some (.cells #[.int .i64 y.ent, .string y.acc, .string y.cur, .int .i64 y.amt] 106 (0, 0))
  wr : WriterF w.heap.size (fun k => k = q) wi w.heap.size l c
theorem LbSt.start {y : BalM} {w wr : World} {l : List UInt8} {c : Int} (h : BalSt w wr l c) : LbSt y wr.heap.size w (wr.alloc (.cells #[.int .i64 y.ent, .string y.acc, .string y.cur, .int .i64 y.amt] 106)) l c := by
  have hb : Below wr.heap.size wr (wr.alloc (.cells #[.int .i64 y.ent, .string y.acc, .string y.cur, .int .i64 y.amt] 106)) := (Below.refl _ _).alloc (Nat.le_refl _) _
  have hs := h.size
  exact ⟨h.below.trans (hb.mono (by omega)), ⟨hs, by simp⟩, heap_new_at rfl _, h.wr.more hb (fun k hk => Or.inr ⟨by omega, by simp; omega⟩)⟩
theorem LbSt.step {y : BalM} {q : Nat} {w wi wj : World} {l l' : List UInt8} {c c' : Int} (h : LbSt y q w wi l c) (hs : Stays w.heap.size (fun k => k = q) wi wj) (hw : WriterF w.heap.size (fun k => k = q) wj w.heap.size l' c') : LbSt y q w wj l' c' :=
  ⟨h.below.trans hs.below, ⟨h.size.1, Nat.lt_of_lt_of_le h.size.2 hs.below.size⟩, by rw [hs.blk _ rfl]; exact h.lbox, hw⟩
theorem LbSt.below' {y : BalM} {q : Nat} {w wi wj : World} {l : List UInt8} {c : Int} (h : LbSt y q w wi l c) (hb : Below wi.heap.size wi wj) : LbSt y q w wj l c :=
  ⟨h.below.trans (hb.mono (by have := h.size; omega)), ⟨h.size.1, Nat.lt_of_lt_of_le h.size.2 hb.size⟩, by rw [hb.block _ h.size.2]; exact h.lbox, h.wr.more hb (fun k hk => Or.inl hk)⟩
theorem LbSt.done {y : BalM} {q : Nat} {w wi : World} {l : List UInt8} {c : Int} (h : LbSt y q w wi l c) : BalSt w wi l c := ⟨h.below, h.wr.more (Below.refl _ _) (fun _ hk => hk.elim)⟩
theorem LbSt.le {y : BalM} {q : Nat} {w wi : World} {l : List UInt8} {c : Int} (h : LbSt y q w wi l c) : w.heap.size ≤ wi.heap.size := by have := h.size; omega
/-- a fault is laid -/
theorem LbSt.setErr {y : BalM} {q : Nat} {w wi : World} {l : List UInt8} {c : Int} (h : LbSt y q w wi l c) (d : Int) : LbSt y q w (wi.setCell ⟨w.heap.size, 1, none⟩ (errV d)) l d := by
  obtain ⟨v, hv⟩ := h.wr
  obtain ⟨k1, k2⟩ := hv.setErr h.le d
  exact h.step k2 ⟨v, k1⟩
theorem BalSt.start (w : World) : BalSt w (w.alloc (.cells #[.slice none 0 0, .nilIface] 113)) [] 0 :=
  ⟨(Below.refl _ _).alloc (Nat.le_refl _) _, .slice none 0 0, heap_new_at rfl _, World.ownsRow_nil _ _ _ _, Nat.le_refl _, fun _ hk => hk.elim⟩
end Go.Proofs.YtldpflijgbcbhaaDoor
