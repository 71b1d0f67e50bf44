/- Blocks that are known whole, beside what was there before ('Fr'). -/
import Derived.Test.YtldpflijgbcbhaaDoorStays
import Derived.Test.YtldpflijgbcbhaaDoorFwr
namespace Go.Proofs.YtldpflijgbcbhaaDoor
open Go.RowKit

/-- what was there before is as it was, and these blocks, new since, are known -/
structure Fr (w : World) (bs : List (Nat × Obj)) (wi : World) : Prop where
  below : Below w.heap.size w wi
  has : ∀ p ∈ bs, w.heap.size ≤ p.1 ∧ wi.heap[p.1]? = some p.2
theorem Fr.nil (w : World) : Fr w [] w := ⟨Below.refl _ _, fun _ h => by cases h⟩
theorem Fr.lt {w wi : World} {bs : List (Nat × Obj)} {p : Nat × Obj} (h : Fr w bs wi) (hp : p ∈ bs) : p.1 < wi.heap.size := lt_of_heap (h.has p hp).2
theorem Fr.later {w wi wj : World} {bs : List (Nat × Obj)} (h : Fr w bs wi) (hb : Below wi.heap.size wi wj) : Fr w bs wj :=
  ⟨h.below.trans (hb.mono h.below.size), fun p hp => ⟨(h.has p hp).1, by rw [hb.block _ (h.lt hp)]; exact (h.has p hp).2⟩⟩
theorem Fr.newAt {w wi : World} {bs : List (Nat × Obj)} (h : Fr w bs wi) {n : Nat} (hn : wi.heap.size = n) (o : Obj) : Fr w ((n, o) :: bs) (wi.alloc o) := by
  have h' := h.later ((Below.refl _ _).alloc (Nat.le_refl _) o)
  refine ⟨h'.below, fun p hp => ?_⟩
  rcases List.mem_cons.1 hp with rfl | hp
  · exact ⟨by have := h.below.size; simp only; omega, heap_new_at hn o⟩
  · exact h'.has p hp
theorem Fr.new {w wi : World} {bs : List (Nat × Obj)} (h : Fr w bs wi) (o : Obj) : Fr w ((wi.heap.size, o) :: bs) (wi.alloc o) := h.newAt rfl o
theorem Fr.only {w wi wj : World} {bs : List (Nat × Obj)} {S : Nat → Prop} (h : Fr w bs wi) (ho : Only S wi wj) (hS : ∀ k, S k → w.heap.size ≤ k) (hb : ∀ p ∈ bs, ¬ S p.1) : Fr w bs wj :=
  ⟨h.below.trans (ho.below h.below.size hS), fun p hp => ⟨(h.has p hp).1, by rw [ho.block _ (h.lt hp) (hb p hp)]; exact (h.has p hp).2⟩⟩
theorem Fr.sub {w wi : World} {bs cs : List (Nat × Obj)} (h : Fr w bs wi) (hs : ∀ p ∈ cs, p ∈ bs) : Fr w cs wi := ⟨h.below, fun p hp => h.has p (hs p hp)⟩
theorem Fr.set {w wi : World} {bs : List (Nat × Obj)} {k : Nat} {cs : Array Value} {t : TypeId} (h : Fr w ((k, .cells cs t (0, 0)) :: bs) wi) (hk : ∀ p ∈ bs, p.1 ≠ k) (i : Nat) (v : Value) :
    Fr w ((k, .cells (cs.setIfInBounds i v) t (0, 0)) :: bs) (wi.setCell ⟨k, i, none⟩ v) := by
  have h0 := h.has _ (List.mem_cons_self ..)
  refine ⟨h.below.setCell h0.1 _, fun p hp => ?_⟩
  rcases List.mem_cons.1 hp with rfl | hp
  · exact ⟨h0.1, heap_setCell_same h0.2 v⟩
  · have h1 := h.has p (List.mem_cons_of_mem _ hp)
    exact ⟨h1.1, by rw [Below.heap_setCell _ _ _ _ (hk p hp)]; exact h1.2⟩
theorem Fr.cell {w wi : World} {bs : List (Nat × Obj)} {k : Nat} {cs : Array Value} {t : TypeId} (h : Fr w bs wi) (hm : (k, .cells cs t (0, 0)) ∈ bs) (i : Nat) : wi.cell? ⟨k, i, none⟩ = cs[i]? := cell_of_heap (h.has _ hm).2 i
theorem Fr.free {w wi : World} {bs : List (Nat × Obj)} {k : Nat} {cs : Array Value} {t : TypeId} (h : Fr w bs wi) (hm : (k, .cells cs t (0, 0)) ∈ bs) (i : Nat) : wi.frozen? ⟨k, i, none⟩ = false := free_of_heap (h.has _ hm).2 i
theorem Fr.old {w wi : World} {bs : List (Nat × Obj)} (h : Fr w bs wi) {b : Nat} (hb : b < w.heap.size) (o : Nat) : wi.cell? ⟨b, o, none⟩ = w.cell? ⟨b, o, none⟩ := h.below.cell (p := ⟨b, o, none⟩) hb

theorem Fr.hd {w wi : World} {a : Nat × Obj} {bs : List (Nat × Obj)} (h : Fr w (a :: bs) wi) : wi.heap[a.1]? = some a.2 := (h.has a (List.mem_cons_self ..)).2
theorem Fr.snd {w wi : World} {a b : Nat × Obj} {bs : List (Nat × Obj)} (h : Fr w (a :: b :: bs) wi) : wi.heap[b.1]? = some b.2 := (h.has b (by simp)).2
theorem Fr.thd {w wi : World} {a b c : Nat × Obj} {bs : List (Nat × Obj)} (h : Fr w (a :: b :: c :: bs) wi) : wi.heap[c.1]? = some c.2 := (h.has c (by simp)).2

/-- where a row lies -/
theorem row_lt {w : World} {base : Nat} {e : TypeId} {sz : Nat} {v : Value} {n : Nat} {xs : List Value} (h : w.ownsRow base e sz v n xs) : ∀ k, v.ownBlock = some k → base ≤ k ∧ k < w.heap.size := by
  intro k hk
  rcases h.2 with ⟨hv, _⟩ | ⟨g, c, cur, hv, hb, hh, _⟩
  · rw [hv] at hk; simp [Value.ownBlock] at hk
  · rw [hv] at hk
    simp only [Value.ownBlock, Option.some.injEq] at hk
    subst hk
    exact ⟨hb, lt_of_heap hh⟩
theorem row_keep {w w' : World} {base : Nat} {e : TypeId} {sz : Nat} {v : Value} {n : Nat} {xs : List Value} (h : w.ownsRow base e sz v n xs) (hk : ∀ g, v.ownBlock = some g → w'.heap[g]? = w.heap[g]?) : w'.ownsRow base e sz v n xs := by
  obtain ⟨h1, h2⟩ := h
  refine ⟨h1, ?_⟩
  rcases h2 with h2 | ⟨g, cap, cur, hv, hg, hh, r⟩
  · exact Or.inl h2
  · exact Or.inr ⟨g, cap, cur, hv, hg, by rw [hk g (by rw [hv]; rfl)]; exact hh, r⟩
end Go.Proofs.YtldpflijgbcbhaaDoor

/- A row that grows among blocks that are known: what is so behind each step. -/
namespace Go.Proofs.YtldpflijgbcbhaaDoor
open Go.RowKit

structure RowSt (w : World) (bs : List (Nat × Obj)) (E : TypeId) (sz : Nat) (lv : Value) (n : Nat) (xs : List Value) (wi : World) : Prop where
  fr : Fr w bs wi
  row : wi.ownsRow w.heap.size E sz lv n xs
  ne : ∀ k, lv.ownBlock = some k → ∀ p ∈ bs, p.1 ≠ k
section
variable {w wi wj : World} {bs : List (Nat × Obj)} {E : TypeId} {sz : Nat} {lv : Value} {n : Nat} {xs : List Value}
theorem RowSt.start (h : Fr w bs wi) : RowSt w bs E sz (.slice none 0 0) 0 [] wi := ⟨h, World.ownsRow_nil _ _ _ _, fun k hk => by simp [Value.ownBlock] at hk⟩
theorem RowSt.later (h : RowSt w bs E sz lv n xs wi) (hb : Below wi.heap.size wi wj) : RowSt w bs E sz lv n xs wj :=
  ⟨h.fr.later hb, row_keep h.row (fun k hk => hb.block k (row_lt h.row k hk).2), h.ne⟩
theorem RowSt.newAt (h : RowSt w bs E sz lv n xs wi) {m : Nat} (hm : wi.heap.size = m) (o : Obj) : RowSt w ((m, o) :: bs) E sz lv n xs (wi.alloc o) := by
  have h' := h.later ((Below.refl _ _).alloc (Nat.le_refl _) o)
  refine ⟨h.fr.newAt hm o, h'.row, fun k hk p hp => ?_⟩
  rcases List.mem_cons.1 hp with rfl | hp
  · have := (row_lt h.row k hk).2; simp only; omega
  · exact h.ne k hk p hp
theorem RowSt.sub {cs : List (Nat × Obj)} (h : RowSt w bs E sz lv n xs wi) (hs : ∀ p ∈ cs, p ∈ bs) : RowSt w cs E sz lv n xs wi := ⟨h.fr.sub hs, h.row, fun k hk p hp => h.ne k hk p (hs p hp)⟩
theorem RowSt.set {k : Nat} {cs : Array Value} {t : TypeId} (h : RowSt w ((k, .cells cs t (0, 0)) :: bs) E sz lv n xs wi) (hk : ∀ p ∈ bs, p.1 ≠ k) (i : Nat) (v : Value) :
    RowSt w ((k, .cells (cs.setIfInBounds i v) t (0, 0)) :: bs) E sz lv n xs (wi.setCell ⟨k, i, none⟩ v) := by
  have ho : Only (fun j => j = k) wi (wi.setCell ⟨k, i, none⟩ v) := (Only.refl (fun j => j = k) wi).setCell (p := ⟨k, i, none⟩) rfl _
  refine ⟨h.fr.set hk i v, row_keep h.row (fun j hj => ho.block j (row_lt h.row j hj).2 (fun e => h.ne j hj _ (List.mem_cons_self ..) e.symm)), fun j hj p hp => ?_⟩
  rcases List.mem_cons.1 hp with rfl | hp
  · exact h.ne j hj (k, .cells cs t (0, 0)) (List.mem_cons_self ..)
  · exact h.ne j hj p (List.mem_cons_of_mem _ hp)
/-- the row has turned to another, in its own block or in a new one -/
theorem RowSt.moved (h : RowSt w bs E sz lv n xs wi) {v9 : Value} {n' : Nat} {xs' : List Value} (hown : wj.ownsRow w.heap.size E sz v9 n' xs') (hm : Moved wi wj lv v9) : RowSt w bs E sz v9 n' xs' wj := by
  refine ⟨h.fr.only hm.only (fun k hk => (row_lt h.row k hk).1) (fun p hp hk => h.ne _ hk p hp rfl), hown, fun k hk p hp => ?_⟩
  rcases hm.blk with e | ⟨g, e, hg⟩
  · rw [e] at hk; exact h.ne k hk p hp
  · rw [e] at hk
    injection hk with hk
    have := h.fr.lt hp
    omega
end
end Go.Proofs.YtldpflijgbcbhaaDoor

/- dayref2.Num, dayref2.Text: the bytes of a number, of a text, behind bytes. -/
namespace Go.Proofs.YtldpflijgbcbhaaDoor
open Go.RowKit

set_option maxRecDepth 100000 in
set_option maxHeartbeats 1000000 in
theorem snum_any (BASE : Nat) (v : Value) (l : List UInt8) (n : Int) (w : World) (h : w.ownsRow BASE 5 1 v l.length (l.map byteV)) (hB : BASE ≤ w.heap.size) (hl : l.length ≤ 1000000000) (h1 : -9223372036854775808 ≤ n) (h2 : n ≤ 9223372036854775807) :
    Calls Tryd.prog 63 #[v, .int .i64 n] w (NumPost BASE w v (l ++ numB n)) := by
  have H := Lib.hid h
  obtain ⟨i0, hi, hz0, hz1, hz2⟩ := info_parts infoU8
  have HI := Lib.hid hi
  have HZ0 := Lib.hid hz0
  have HZ1 := Lib.hid hz1
  have HZ2 := Lib.hid hz2
  clear hi hz0 hz1 hz2 h
  have hz64 := zig_lt h1 h2
  have hN : Hid (numB n = varint (zig n)) := rfl
  have hzn : 0 ≤ n → (zig n : Int) = 2 * n := fun h => by unfold zig; rw [if_pos h]; omega
  have hzm : n < 0 → (zig n : Int) = -2 * n - 1 := fun h => by unfold zig; rw [if_neg (by omega)]; omega
  generalize zig n = X at hz64 hN hzn hzm
  obtain ⟨L, hL⟩ : ∃ L, L = numB n := ⟨_, rfl⟩
  rw [← hL] at hN ⊢
  have HL := Lib.hid hL
  clear hL
  have hstart : (n < 0 ∧ -(n + 1) * 2 + 1 = (X : Int)) ∨ (0 ≤ n ∧ n * 2 = (X : Int)) := by
    rcases Int.lt_or_le n 0 with h | h
    · have := hzm h; exact Or.inl ⟨h, by omega⟩
    · have := hzn h; exact Or.inr ⟨h, by omega⟩
  clear hzn hzm
  rcases hstart with ⟨hneg, he0⟩ | ⟨hneg, he0⟩
  all_goals
    have HE0 := Lib.hid he0
    clear he0
    go_enter Tryd.func63, Tryd.ntmps63
    go_wp2_with fail
    rw [HE0.out]
    clear HE0
    go_loopw [0, 5] (fun b x wr => ∃ (l' : List UInt8) (y : Nat), x = .int .u64 (y : Int) ∧ y < 18446744073709551616 ∧ Hid (l ++ L = l' ++ varint y) ∧ wr.ownsRow BASE 5 1 b l'.length (l'.map byteV) ∧ Moved w wr v b)
      (fun _ x _ => (intOf x).toNat)
    case atStart => exact ⟨l, X, rfl, hz64, by show _ = _; rw [hN.out], H.out, Moved.refl _ _⟩
    case round =>
      obtain ⟨l', y, rfl, hy, he, hown, hmv⟩ := hrel
      have hlen : l'.length ≤ 1000000010 := by
        have h3 := congrArg List.length he.out
        rw [List.length_append, List.length_append] at h3
        have h4 : L.length ≤ 10 := by rw [hN.out]; exact varint_len10 hz64
        omega
      have hBr : BASE ≤ wr.heap.size := Nat.le_trans hB hmv.only.size
      have HOWN := Lib.hid hown
      have HMV := Lib.hid hmv
      have HY := Lib.hid hy
      have HZ := Lib.hid hz64
      clear hown hmv hy hz64 h1 h2
      by_cases hbig : 128 ≤ y
      · have hor := or128 y
        have hcase : 128 ≤ (y : Int) := by omega
        have hB1 : BASE ≤ wr.heap.size + 1 := by omega
        go_wp2_with (first
          | (at_builtin; refine wpList_append_own_at _ rfl (.tmp 19) (.tmp 24) 22 rfl BASE 5 i0 (.int .u8 0) 1 1 Tryd.underlying22 HI.out HZ0.out HZ1.out HZ2.out rfl (by decide) u0 l'.length (l'.map byteV) rfl (HOWN.out.alloc _) ⟨wr.heap.size, 0, none⟩ 1 1 [.int .u8 ((y % 128 + 128 : Nat) : Int)] rfl rfl ?c1 (by intro u hu; simp at hu; subst hu; rfl) (by unfold maxLen; omega) (by omega) (by simpa using hB1) ?_))
        case c1 =>
          intro j u hj
          match j, hj with
          | 0, hj =>
            simp only [List.getElem?_cons_zero, Option.some.injEq] at hj
            subst hj
            rw [addr_add, World.cell?_alloc_at _ _ _ _ rfl]
            simp
        intro v1 w1 hown1 hgrow1 _ hblk1
        have hmv1 := HMV.out.trans (Moved.append hgrow1 hblk1)
        have hown2 := row_snoc (b := UInt8.ofNat (y % 128 + 128)) hown1 (by rw [byteV, ofNat_toNat (by omega)]; first | done | (simp; done))
        have he1 : Hid (l ++ L = (l' ++ [UInt8.ofNat (y % 128 + 128)]) ++ varint (y / 128)) := by
          show _ = _
          rw [he.out, varint_big hbig]; simp
        have hy1 : y / 128 < 18446744073709551616 := by have := HY.out; omega
        have HR : Hid (∃ (l'' : List UInt8) (z : Nat), Value.int .u64 ((y / 128 : Nat) : Int) = .int .u64 (z : Int) ∧ z < 18446744073709551616 ∧ Hid (l ++ L = l'' ++ varint z) ∧ w1.ownsRow BASE 5 1 v1 l''.length (l''.map byteV) ∧ Moved w w1 v v1) := ⟨_, _, rfl, hy1, he1, hown2, hmv1⟩
        clear hown1 hgrow1 hblk1 hmv1 hown2 he1 hy1
        have hw7 : IntKind.u64.wrap ((y : Int) / 128) = ((y / 128 : Nat) : Int) := by
          have := HY.out
          show ((y : Int) / 128) % 18446744073709551616 = _
          omega
        have HW7 := Lib.hid hw7
        clear hw7
        go_wp2_with fail
        rw [HW7.out]
        go_roundw
        case rel => exact HR.out
        case measure => simp [intOf]; omega
      · have hcase : (y : Int) < 128 := by omega
        have hmod : (y : Int) % 256 = (y : Int) := by omega
        have hB1 : BASE ≤ wr.heap.size + 1 := by omega
        go_wp2_with (first
          | (at_builtin; refine wpList_append_own_at _ rfl (.tmp 28) (.tmp 31) 22 rfl BASE 5 i0 (.int .u8 0) 1 1 Tryd.underlying22 HI.out HZ0.out HZ1.out HZ2.out rfl (by decide) u0 l'.length (l'.map byteV) rfl (HOWN.out.alloc _) ⟨wr.heap.size, 0, none⟩ 1 1 [.int .u8 (y : Int)] rfl rfl ?c2 (by intro u hu; simp at hu; subst hu; rfl) (by unfold maxLen; omega) (by omega) (by simpa using hB1) ?_))
        case c2 =>
          intro j u hj
          match j, hj with
          | 0, hj =>
            simp only [List.getElem?_cons_zero, Option.some.injEq] at hj
            subst hj
            rw [addr_add, World.cell?_alloc_at _ _ _ _ rfl]
            first | rfl | (rw [hmod]; rfl)
        intro v1 w1 hown1 hgrow1 _ hblk1
        have hmv1 := HMV.out.trans (Moved.append hgrow1 hblk1)
        have hown2 := row_snoc (b := UInt8.ofNat y) hown1 (by rw [byteV, ofNat_toNat (by omega)])
        have he1 : Hid (l ++ L = l' ++ [UInt8.ofNat y]) := by
          show _ = _
          rw [he.out, varint_small (by omega)]
        have HOUT : Hid (NumPost BASE w v (l ++ L) (.returned v1) w1) := by
          refine ⟨v1, rfl, ?_, hmv1⟩
          rw [he1.out]; exact hown2
        clear hown1 hgrow1 hblk1 hmv1 hown2 he1
        obtain ⟨ao, n1, c1, rfl⟩ : ∃ ao n1 c1, v1 = .slice ao n1 c1 := by
          obtain ⟨v', hv, hrow, _⟩ := HOUT.out
          injection hv with hv
          subst hv
          rcases hrow.2 with ⟨hv, _⟩ | ⟨g, cap, cur, hv, _⟩
          · exact ⟨_, _, _, hv⟩
          · exact ⟨_, _, _, hv⟩
        go_wp2_with fail
        go_ret
        exact HOUT.out
end Go.Proofs.YtldpflijgbcbhaaDoor

/- dayref2.Text: a text's bytes behind bytes. -/
namespace Go.Proofs.YtldpflijgbcbhaaDoor
open Go.RowKit

set_option maxRecDepth 100000 in
set_option maxHeartbeats 2000000 in
theorem stext_any (BASE : Nat) (v : Value) (l : List UInt8) (s : ByteArray) (w : World) (h : w.ownsRow BASE 5 1 v l.length (l.map byteV)) (hB : BASE ≤ w.heap.size) (hl : l.length ≤ 1000000000) (hs : s.size ≤ 1000000000) :
    Calls Tryd.prog 62 #[v, .string s] w (NumPost BASE w v (l ++ textB s)) := by
  have hn := snum_any BASE v l (s.size : Int) w h hB hl (by omega) (by omega)
  have hnl := numB_len (n := (s.size : Int)) (by omega) (by omega)
  obtain ⟨i0, hi, hz0, hz1, hz2⟩ := info_parts infoU8
  have HI := Lib.hid hi
  have HZ0 := Lib.hid hz0
  have HZ1 := Lib.hid hz1
  have HZ2 := Lib.hid hz2
  clear hi hz0 hz1 hz2 h
  go_enter Tryd.func62, Tryd.ntmps62
  go_wp2_with fail
  refine hn.mono ?_
  rintro e w1 ⟨v1, rfl, hown, hmv⟩
  have HOWN := Lib.hid hown
  have HMV := Lib.hid hmv
  have hl1 : (l ++ numB (s.size : Int)).length ≤ 1000000010 := by rw [List.length_append]; omega
  have hB1 : BASE ≤ w1.heap.size := Nat.le_trans hB hmv.only.size
  clear hn hown hmv
  go_wp2_with (refine wpList_append_str_at (o := ⟨some 11, _, _, _, _, _⟩) _ rfl (.tmp 9) (.tmp 10) 22 9 rfl BASE 5 i0 Tryd.underlying22 Tryd.underlying9 HI.out HZ0.out HZ1.out HZ2.out v1 (l ++ numB (s.size : Int)).length ((l ++ numB (s.size : Int)).map byteV) rfl HOWN.out s rfl (by unfold maxLen; omega) (by omega) hB1 ?_)
  intro v2 w2 hown2 hg2 hat2
  have HOUT : Hid (NumPost BASE w v (l ++ textB s) (.returned v2) w2) := by
    refine ⟨v2, rfl, ?_, HMV.out.trans (Moved.append0 hg2 hat2)⟩
    rw [strCells_eq] at hown2
    exact ownsRow_cast hown2 (by simp [textB, size_list]; omega) (by simp [textB])
  clear hown2 hg2 hat2
  obtain ⟨ao, n1, c1, rfl⟩ : ∃ ao n1 c1, v2 = .slice ao n1 c1 := by
    obtain ⟨v', hv, hrow, _⟩ := HOUT.out
    injection hv with hv
    subst hv
    rcases hrow.2 with ⟨hv, _⟩ | ⟨g, cap, cur, hv, _⟩
    · exact ⟨_, _, _, hv⟩
    · exact ⟨_, _, _, hv⟩
  go_wp2_with fail
  go_ret
  exact HOUT.out
end Go.Proofs.YtldpflijgbcbhaaDoor
