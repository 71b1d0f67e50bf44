/- The writer of package frame: what its methods write, and the first fault. -/
import Derived.Test.YtldpflijgbcbhaaStays
import Derived.BigQuiet
import Derived.Deep.QuietTactic
import Derived.WalkSmall
namespace Go.Proofs.Ytldpflijgbcbhaa
open Go.RowKit

theorem ownsRow_form {w : World} {base : Nat} {e : TypeId} {sz : Nat} {v : Value} {n : Nat} {xs : List Value} (h : w.ownsRow base e sz v n xs) : ∃ ao m c, v = .slice ao m c := by
  rcases h.2 with ⟨hv, hn⟩ | ⟨g, cap, cur, hv, _⟩
  · exact ⟨_, _, _, hv⟩
  · exact ⟨_, _, _, hv⟩

theorem ownsRow_cast {w : World} {base : Nat} {e : TypeId} {sz : Nat} {v : Value} {n n' : Nat} {xs xs' : List Value} (h : w.ownsRow base e sz v n xs) (hn : n = n') (hx : xs = xs') : w.ownsRow base e sz v n' xs' := by subst hn hx; exact h
/-- a fault is kept -/
def mergeC (c d : Int) : Int := if c = 0 then d else c

structure WriterIs (B : Nat) (F : Nat → Prop) (w : World) (g : Nat) (v : Value) (l : List UInt8) (c : Int) : Prop where
  self : w.heap[g]? = some (.cells #[v, errV c] 77 (0, 0))
  own : w.ownsRow B 5 1 v l.length (l.map byteV)
  gB : B ≤ g
  far : ∀ k, F k → k < w.heap.size ∧ k ≠ g ∧ v.ownBlock ≠ some k
def WriterF (B : Nat) (F : Nat → Prop) (w : World) (g : Nat) (l : List UInt8) (c : Int) : Prop := ∃ v, WriterIs B F w g v l c

theorem WriterIs.lt {B : Nat} {F : Nat → Prop} {w : World} {g : Nat} {v : Value} {l : List UInt8} {c : Int} (h : WriterIs B F w g v l c) : g < w.heap.size := lt_of_heap h.self
theorem WriterIs.ne {B : Nat} {F : Nat → Prop} {w : World} {g : Nat} {v : Value} {l : List UInt8} {c : Int} (h : WriterIs B F w g v l c) : v.ownBlock ≠ some g := by
  rcases h.own.2 with ⟨hv, _⟩ | ⟨k, cap, cur, hv, _, hh, _⟩
  · rw [hv]; simp [Value.ownBlock]
  · intro e
    rw [hv] at e
    simp only [Value.ownBlock, Option.some.injEq] at e
    subst e
    have := h.self
    rw [hh] at this
    simp at this
theorem WriterIs.ownB {B : Nat} {F : Nat → Prop} {w : World} {g : Nat} {v : Value} {l : List UInt8} {c : Int} (h : WriterIs B F w g v l c) : ∀ k, v.ownBlock = some k → B ≤ k ∧ k < w.heap.size := by
  intro k hk
  rcases h.own.2 with ⟨hv, _⟩ | ⟨k', cap, cur, hv, hb, hh, _⟩
  · rw [hv] at hk; simp [Value.ownBlock] at hk
  · rw [hv] at hk
    simp only [Value.ownBlock, Option.some.injEq] at hk
    subst hk
    exact ⟨hb, lt_of_heap hh⟩

/-- others do something, and make blocks, some of which are others' from now on -/
theorem WriterF.more {B : Nat} {F G : Nat → Prop} {w w' : World} {g : Nat} {l : List UInt8} {c : Int} (h : WriterF B F w g l c) (hb : Below w.heap.size w w') (hG : ∀ k, G k → F k ∨ (w.heap.size ≤ k ∧ k < w'.heap.size)) : WriterF B G w' g l c := by
  obtain ⟨v, h⟩ := h
  refine ⟨v, ?_, ?_, h.gB, fun k hk => ?_⟩
  · rw [hb.block g h.lt]; exact h.self
  · exact ⟨h.own.1, by
      rcases h.own.2 with h2 | ⟨k, cap, cur, hv, hk, hh, r⟩
      · exact Or.inl h2
      · exact Or.inr ⟨k, cap, cur, hv, hk, by rw [hb.block k (lt_of_heap hh)]; exact hh, r⟩⟩
  · rcases hG k hk with hf | ⟨h1, h2⟩
    · obtain ⟨a, b, c⟩ := h.far k hf
      exact ⟨Nat.lt_of_lt_of_le a hb.size, b, c⟩
    · exact ⟨h2, by have := h.lt; omega, fun e => by have := (h.ownB k e).2; omega⟩
/-- others write into F -/
theorem WriterF.stays {B : Nat} {F : Nat → Prop} {w w' : World} {g : Nat} {l : List UInt8} {c : Int} (h : WriterF B F w g l c) (hb : Only F w w') : WriterF B F w' g l c := by
  obtain ⟨v, h⟩ := h
  refine ⟨v, ?_, ?_, h.gB, fun k hk => ?_⟩
  · rw [hb.block g h.lt (fun hf => (h.far g hf).2.1 rfl)]; exact h.self
  · exact ⟨h.own.1, by
      rcases h.own.2 with h2 | ⟨k, cap, cur, hv, hk, hh, r⟩
      · exact Or.inl h2
      · exact Or.inr ⟨k, cap, cur, hv, hk, by rw [hb.block k (lt_of_heap hh) (fun hf => (h.far k hf).2.2 (by rw [hv]; rfl))]; exact hh, r⟩⟩
  · obtain ⟨a, b, c⟩ := h.far k hk
    exact ⟨Nat.lt_of_lt_of_le a hb.size, b, c⟩

/-- the writer's own blocks and new ones have turned -/
theorem WriterIs.only {B : Nat} {F : Nat → Prop} {w w3 : World} {g : Nat} {v : Value} {l : List UInt8} {c : Int} (h : WriterIs B F w g v l c) (hB : B ≤ w.heap.size) (h3 : Only (fun k => k = g ∨ v.ownBlock = some k) w w3) : Stays B F w w3 :=
  Stays.of_only h3 hB (fun k hk => by
    rcases hk with rfl | hk
    · exact ⟨h.gB, fun hf => (h.far _ hf).2.1 rfl⟩
    · exact ⟨(h.ownB k hk).1, fun hf => (h.far k hf).2.2 hk⟩) (fun k hk => (h.far k hk).1)
/-- a fault is laid -/
theorem WriterIs.setErr {B : Nat} {F : Nat → Prop} {w : World} {g : Nat} {v : Value} {l : List UInt8} {c : Int} (h : WriterIs B F w g v l c) (hB : B ≤ w.heap.size) (d : Int) : WriterIs B F (w.setCell ⟨g, 1, none⟩ (errV d)) g v l d ∧ Stays B F w (w.setCell ⟨g, 1, none⟩ (errV d)) := by
  refine ⟨⟨heap_setCell_same h.self _, ?_, h.gB, fun k hk => ?_⟩, h.only hB ((Only.refl _ _).setCell (p := ⟨g, 1, none⟩) (Or.inl rfl) _)⟩
  · exact ⟨h.own.1, by
      rcases h.own.2 with h2 | ⟨k, cap, cur, hv, hk, hh, r⟩
      · exact Or.inl h2
      · exact Or.inr ⟨k, cap, cur, hv, hk, by rw [Below.heap_setCell _ _ _ _ (fun e => h.ne (by rw [hv, e]; rfl))]; exact hh, r⟩⟩
  · obtain ⟨a, b, c⟩ := h.far k hk
    exact ⟨by simpa using a, b, c⟩
theorem writer_end {B : Nat} {F : Nat → Prop} {w w2 : World} {g : Nat} {v v2 : Value} {l l' : List UInt8} {c : Int} (h : WriterIs B F w g v l c) (hB : B ≤ w.heap.size) (hm : Moved w w2 v v2) (hown : w2.ownsRow B 5 1 v2 l'.length (l'.map byteV)) :
    w2.cell? ⟨g, 0, none⟩ = some v ∧ w2.frozen? ⟨g, 0, none⟩ = false ∧ Stays B F w (w2.setCell ⟨g, 0, none⟩ v2) ∧ WriterF B F (w2.setCell ⟨g, 0, none⟩ v2) g l' c := by
  have hself2 : w2.heap[g]? = some (.cells #[v, errV c] 77 (0, 0)) := by
    rw [hm.only.block g h.lt h.ne]; exact h.self
  have honly : Only (fun k => k = g ∨ v.ownBlock = some k) w w2 := hm.only.mono (fun k _ hk => Or.inr hk)
  have hsz : w.heap.size ≤ w2.heap.size := hm.only.size
  have hg2 : v2.ownBlock ≠ some g := by
    rcases hm.blk with e | ⟨k, e, hk⟩
    · rw [e]; exact h.ne
    · rw [e]
      intro e2
      injection e2 with e2
      have := h.lt; omega
  refine ⟨by rw [cell_of_heap hself2]; rfl, free_of_heap hself2 0, h.only hB (honly.setCell (p := ⟨g, 0, none⟩) (Or.inl rfl) v2), v2, ?_, ?_, h.gB, fun k hk => ?_⟩
  · exact heap_setCell_same hself2 v2
  · exact ⟨hown.1, by
      rcases hown.2 with h2 | ⟨k, cap, cur, hv, hk, hh, r⟩
      · exact Or.inl h2
      · exact Or.inr ⟨k, cap, cur, hv, hk, by rw [Below.heap_setCell _ _ _ _ (fun e => hg2 (by rw [hv, e]; rfl))]; exact hh, r⟩⟩
  · obtain ⟨a, b, c⟩ := h.far k hk
    refine ⟨by simp; omega, b, ?_⟩
    rcases hm.blk with e | ⟨j, e, hj⟩
    · rw [e]; exact c
    · rw [e]
      intro e2
      injection e2 with e2
      omega

def WStep (B : Nat) (F : Nat → Prop) (w : World) (g : Nat) (l' : List UInt8) (c' : Int) (e : Ending) (w' : World) : Prop := e = .returned (.tuple #[]) ∧ Stays B F w w' ∧ WriterF B F w' g l' c'

set_option maxHeartbeats 2000000 in
theorem wnum_any (B : Nat) (F : Nat → Prop) (w : World) (g : Nat) (l : List UInt8) (c n : Int) (ok : Bool) (h : WriterF B F w g l c) (hB : B ≤ w.heap.size) (hl : l.length ≤ 1000000000) (h1 : -9223372036854775808 ≤ n) (h2 : n ≤ 9223372036854775807) :
    Calls Try.prog 42 #[.pointer (some ⟨g, 0, none⟩), .int .i64 n, .bool ok] w (WStep B F w g (l ++ numB n) (mergeC c (numC ok))) := by
  obtain ⟨v, h⟩ := h
  have c0 : w.cell? ⟨g, 0, none⟩ = some v := by rw [cell_of_heap h.self]; rfl
  have c1 : w.cell? ⟨g, 1, none⟩ = some (errV c) := by rw [cell_of_heap h.self]; rfl
  have f1 : w.frozen? ⟨g, 1, none⟩ = false := free_of_heap h.self 1
  by_cases hc : c = 0
  · subst hc
    rw [errV_zero] at c1
    cases ok with
    | true =>
      have hnum := num_any B v l n w h.own hB hl h1 h2
      have H := Lib.hid h
      clear h
      go_enter Try.func42, Try.ntmps42
      go_wp2_with fail
      refine hnum.mono ?_
      rintro e w2 ⟨v2, rfl, hown, hm⟩
      obtain ⟨ao2, m2, cap2, rfl⟩ := ownsRow_form hown
      obtain ⟨k0, kf, ks, kw⟩ := writer_end H.out hB hm hown
      have KS := Lib.hid ks
      have KW := Lib.hid kw
      clear ks kw hnum hown hm
      go_wp2_with fail
      go_end0
      exact ⟨rfl, KS.out, KW.out⟩
    | false =>
      obtain ⟨hi1, hs1⟩ := h.setErr hB 1
      have hnum := num_any B v l n _ hi1.own (by simpa using hB) hl h1 h2
      have H := Lib.hid hi1
      have HS := Lib.hid hs1
      clear h hi1 hs1
      go_enter Try.func42, Try.ntmps42
      go_wp2_with fail
      refine hnum.mono ?_
      rintro e w2 ⟨v2, rfl, hown, hm⟩
      obtain ⟨ao2, m2, cap2, rfl⟩ := ownsRow_form hown
      obtain ⟨k0, kf, ks, kw⟩ := writer_end H.out (by simpa using hB) hm hown
      have KS := Lib.hid (HS.out.trans ks)
      have KW := Lib.hid kw
      clear ks kw hnum hown hm
      go_wp2_with fail
      go_end0
      exact ⟨rfl, KS.out, KW.out⟩
  · rw [errV_some hc] at c1
    have hnum := num_any B v l n w h.own hB hl h1 h2
    have H := Lib.hid h
    have hm0 : Hid (mergeC c (numC ok) = c) := by show _ = _; rw [mergeC, if_neg hc]
    clear h hc
    go_enter Try.func42, Try.ntmps42
    go_wp2_with fail
    refine hnum.mono ?_
    rintro e w2 ⟨v2, rfl, hown, hm⟩
    obtain ⟨ao2, m2, cap2, rfl⟩ := ownsRow_form hown
    obtain ⟨k0, kf, ks, kw⟩ := writer_end H.out hB hm hown
    have KS := Lib.hid ks
    have KW := Lib.hid kw
    clear ks kw hnum hown hm
    go_wp2_with fail
    go_end0
    exact ⟨rfl, KS.out, by rw [hm0.out]; exact KW.out⟩

set_option maxHeartbeats 2000000 in
theorem wtext_core (B : Nat) (F : Nat → Prop) (w : World) (g : Nat) (l : List UInt8) (c : Int) (s : ByteArray) (v : Value) (h : WriterIs B F w g v l c) (hB : B ≤ w.heap.size) (hl : l.length ≤ 1000000000) (hs : s.size ≤ 1000000000) (hc : c = 0 → s.size ≤ 24) :
    Calls Try.prog 41 #[.pointer (some ⟨g, 0, none⟩), .string s] w (WStep B F w g (l ++ textB s) c) := by
  have c0 : w.cell? ⟨g, 0, none⟩ = some v := by rw [cell_of_heap h.self]; rfl
  have c1 : w.cell? ⟨g, 1, none⟩ = some (errV c) := by rw [cell_of_heap h.self]; rfl
  have hnum := num_any B v l s.size w h.own hB hl (by omega) (by omega)
  have H := Lib.hid h
  obtain ⟨i0, hi, hz0, hz1, hz2⟩ := info_parts infoU8
  have HI := Lib.hid hi
  have HZ0 := Lib.hid hz0
  have HZ1 := Lib.hid hz1
  have HZ2 := Lib.hid hz2
  have hN := numB_len (n := (s.size : Int)) (by omega) (by omega)
  clear h hi hz0 hz1 hz2
  by_cases h0 : c = 0
  · have hs24 := hc h0
    subst h0
    rw [errV_zero] at c1
    have hd : decide ((24 : Int) < (s.size : Int)) = false := decide_eq_false (by omega)
    clear hc
    go_enter Try.func41, Try.ntmps41
    go_wp2_with fail
    refine hnum.mono ?_
    rintro e w2 ⟨v2, rfl, hown, hm⟩
    have HOWN := Lib.hid hown
    have HM := Lib.hid hm
    have hB2 : B ≤ w2.heap.size := Nat.le_trans hB hm.only.size
    have hlen : (l ++ numB (s.size : Int)).length ≤ 1000000010 := by rw [List.length_append]; omega
    clear hnum hown hm hN
    obtain ⟨L, hL⟩ : ∃ L, L = numB (s.size : Int) := ⟨_, rfl⟩
    rw [← hL] at HOWN hlen
    have HL := Lib.hid hL
    clear hL
    go_wp2_with (refine wpList_append_str_at (o := ⟨some 27, _, _, _, _, _⟩) _ rfl (.tmp 25) (.tmp 26) 23 9 rfl B 5 i0 Try.underlying23 Try.underlying9 HI.out HZ0.out HZ1.out HZ2.out v2 (l ++ L).length ((l ++ L).map byteV) rfl HOWN.out s (by rfl) (by unfold maxLen; omega) (by omega) hB2 ?_)
    intro v3 w3 hown3 hg3 hat3
    have hm3 := HM.out.trans (Moved.append0 hg3 hat3)
    have hown4 : w3.ownsRow B 5 1 v3 (l ++ (L ++ s.data.toList)).length ((l ++ (L ++ s.data.toList)).map byteV) := ownsRow_cast hown3 (by simp only [List.length_append, size_list]; omega) (by simp [strCells_eq])
    obtain ⟨ao2, m2, cap2, rfl⟩ := ownsRow_form hown3
    obtain ⟨k0, kf, ks, kw⟩ := writer_end H.out hB hm3 hown4
    have KS := Lib.hid ks
    have KW := Lib.hid kw
    clear ks kw hown3 hg3 hat3 hm3 hown4
    go_wp2_with fail
    go_end0
    rw [textB, ← HL.out]
    exact ⟨rfl, KS.out, KW.out⟩
  · rw [errV_some h0] at c1
    clear hc h0
    go_enter Try.func41, Try.ntmps41
    go_wp2_with fail
    refine hnum.mono ?_
    rintro e w2 ⟨v2, rfl, hown, hm⟩
    have HOWN := Lib.hid hown
    have HM := Lib.hid hm
    have hB2 : B ≤ w2.heap.size := Nat.le_trans hB hm.only.size
    have hlen : (l ++ numB (s.size : Int)).length ≤ 1000000010 := by rw [List.length_append]; omega
    clear hnum hown hm hN
    obtain ⟨L, hL⟩ : ∃ L, L = numB (s.size : Int) := ⟨_, rfl⟩
    rw [← hL] at HOWN hlen
    have HL := Lib.hid hL
    clear hL
    go_wp2_with (refine wpList_append_str_at (o := ⟨some 27, _, _, _, _, _⟩) _ rfl (.tmp 25) (.tmp 26) 23 9 rfl B 5 i0 Try.underlying23 Try.underlying9 HI.out HZ0.out HZ1.out HZ2.out v2 (l ++ L).length ((l ++ L).map byteV) rfl HOWN.out s (by rfl) (by unfold maxLen; omega) (by omega) hB2 ?_)
    intro v3 w3 hown3 hg3 hat3
    have hm3 := HM.out.trans (Moved.append0 hg3 hat3)
    have hown4 : w3.ownsRow B 5 1 v3 (l ++ (L ++ s.data.toList)).length ((l ++ (L ++ s.data.toList)).map byteV) := ownsRow_cast hown3 (by simp only [List.length_append, size_list]; omega) (by simp [strCells_eq])
    obtain ⟨ao2, m2, cap2, rfl⟩ := ownsRow_form hown3
    obtain ⟨k0, kf, ks, kw⟩ := writer_end H.out hB hm3 hown4
    have KS := Lib.hid ks
    have KW := Lib.hid kw
    clear ks kw hown3 hg3 hat3 hm3 hown4
    go_wp2_with fail
    go_end0
    rw [textB, ← HL.out]
    exact ⟨rfl, KS.out, KW.out⟩

set_option maxHeartbeats 2000000 in
theorem wtext_big (B : Nat) (F : Nat → Prop) (w : World) (g : Nat) (l : List UInt8) (s : ByteArray) (v : Value) (h : WriterIs B F w g v l 0) (hB : B ≤ w.heap.size) (hl : l.length ≤ 1000000000) (hs : s.size ≤ 1000000000) (h24 : 24 < s.size) :
    Calls Try.prog 41 #[.pointer (some ⟨g, 0, none⟩), .string s] w (WStep B F w g (l ++ textB s) 4) := by
  have c0 : w.cell? ⟨g, 0, none⟩ = some v := by rw [cell_of_heap h.self]; rfl
  have c1 : w.cell? ⟨g, 1, none⟩ = some (errV 0) := by rw [cell_of_heap h.self]; rfl
  obtain ⟨hi1, hs1⟩ := h.setErr hB 4
  have f1 : w.frozen? ⟨g, 1, none⟩ = false := free_of_heap h.self 1
  have hnum := num_any B v l s.size _ hi1.own (by simpa using hB) hl (by omega) (by omega)
  have H := Lib.hid hi1
  have HS := Lib.hid hs1
  obtain ⟨i0, hi, hz0, hz1, hz2⟩ := info_parts infoU8
  have HI := Lib.hid hi
  have HZ0 := Lib.hid hz0
  have HZ1 := Lib.hid hz1
  have HZ2 := Lib.hid hz2
  have hN := numB_len (n := (s.size : Int)) (by omega) (by omega)
  clear h hi1 hs1 hi hz0 hz1 hz2
  rw [errV_zero] at c1
  have hd : decide ((24 : Int) < (s.size : Int)) = true := decide_eq_true (by omega)
  clear h24
  go_enter Try.func41, Try.ntmps41
  go_wp2_with fail
  refine hnum.mono ?_
  rintro e w2 ⟨v2, rfl, hown, hm⟩
  have HOWN := Lib.hid hown
  have HM := Lib.hid hm
  have hB2 : B ≤ w2.heap.size := Nat.le_trans hB (by have := hm.only.size; simpa using this)
  have hlen : (l ++ numB (s.size : Int)).length ≤ 1000000010 := by rw [List.length_append]; omega
  clear hnum hown hm hN
  obtain ⟨L, hL⟩ : ∃ L, L = numB (s.size : Int) := ⟨_, rfl⟩
  rw [← hL] at HOWN hlen
  have HL := Lib.hid hL
  clear hL
  go_wp2_with (refine wpList_append_str_at (o := ⟨some 27, _, _, _, _, _⟩) _ rfl (.tmp 25) (.tmp 26) 23 9 rfl B 5 i0 Try.underlying23 Try.underlying9 HI.out HZ0.out HZ1.out HZ2.out v2 (l ++ L).length ((l ++ L).map byteV) rfl HOWN.out s (by rfl) (by unfold maxLen; omega) (by omega) hB2 ?_)
  intro v3 w3 hown3 hg3 hat3
  have hm3 := HM.out.trans (Moved.append0 hg3 hat3)
  have hown4 : w3.ownsRow B 5 1 v3 (l ++ (L ++ s.data.toList)).length ((l ++ (L ++ s.data.toList)).map byteV) := ownsRow_cast hown3 (by simp only [List.length_append, size_list]; omega) (by simp [strCells_eq])
  obtain ⟨ao2, m2, cap2, rfl⟩ := ownsRow_form hown3
  obtain ⟨k0, kf, ks, kw⟩ := writer_end H.out (by simpa using hB) hm3 hown4
  have KS := Lib.hid ks
  have KW := Lib.hid kw
  clear ks kw hown3 hg3 hat3 hm3 hown4
  go_wp2_with fail
  go_end0
  rw [textB, ← HL.out]
  exact ⟨rfl, HS.out.trans KS.out, KW.out⟩

theorem wtext_any (B : Nat) (F : Nat → Prop) (w : World) (g : Nat) (l : List UInt8) (c : Int) (s : ByteArray) (h : WriterF B F w g l c) (hB : B ≤ w.heap.size) (hl : l.length ≤ 1000000000) (hs : s.size ≤ 1000000000) :
    Calls Try.prog 41 #[.pointer (some ⟨g, 0, none⟩), .string s] w (WStep B F w g (l ++ textB s) (mergeC c (textC s))) := by
  obtain ⟨v, h⟩ := h
  by_cases hc : c = 0
  · subst hc
    by_cases h24 : 24 < s.size
    · have e : mergeC 0 (textC s) = 4 := by simp [mergeC, textC, h24]
      rw [e]
      exact wtext_big B F w g l s v h hB hl hs h24
    · have e : mergeC 0 (textC s) = 0 := by simp [mergeC, textC, h24]
      rw [e]
      exact wtext_core B F w g l 0 s v h hB hl hs (fun _ => by omega)
  · have e : mergeC c (textC s) = c := by simp [mergeC, hc]
    rw [e]
    exact wtext_core B F w g l c s v h hB hl hs (fun h => absurd h hc)

def DonePost (w : World) (v : Value) (c : Int) (e : Ending) (w' : World) : Prop := e = .returned (.tuple #[if c = 0 then v else .slice none 0 0, errV c]) ∧ ∃ n, w' = w.drewN n
set_option maxHeartbeats 2000000 in
theorem wdone_any (B : Nat) (F : Nat → Prop) (w : World) (g : Nat) (v : Value) (l : List UInt8) (c : Int) (h : WriterIs B F w g v l c) :
    Calls Try.prog 45 #[.pointer (some ⟨g, 0, none⟩)] w (DonePost w v c) := by
  have c0 : w.cell? ⟨g, 0, none⟩ = some v := by rw [cell_of_heap h.self]; rfl
  have c1 : w.cell? ⟨g, 1, none⟩ = some (errV c) := by rw [cell_of_heap h.self]; rfl
  obtain ⟨ao, m, cap, rfl⟩ := ownsRow_form h.own
  clear h
  by_cases h0 : c = 0
  · subst h0
    rw [errV_zero] at c1
    go_enter Try.func45, Try.ntmps45
    go_wp2_with fail
    go_ret2
    exact ⟨rfl, 0, rfl⟩
  · have HE := Lib.hid (errV_some h0)
    have HC : Hid (Value.tuple #[if c = 0 then Value.slice ao m cap else .slice none 0 0, errV c] = .tuple #[.slice none 0 0, .iface 75 (.int .i64 c)]) := by show _ = _; rw [if_neg h0, errV_some h0]
    rw [errV_some h0] at c1
    clear h0
    go_enter Try.func45, Try.ntmps45
    go_wp2_with fail
    go_quiet (fail)
    go_wp2_with fail
    go_ret2
    exact ⟨congrArg Ending.returned HC.out.symm, _, rfl⟩
end Go.Proofs.Ytldpflijgbcbhaa
