/- LedgerSums walked. -/
import Derived.Test.YtbhndnjlplibmaaDoorPu4
namespace Go.Proofs.YtbhndnjlplibmaaDoor.lg
open Go.RowKit

theorem fits_of_good {pick : EntryM → Bool} {t : List EntryM} (h : badAll t = false) : ∀ x ∈ someB pick t, wrap64 x.amt = x.amt := fun x hx => by
  obtain ⟨e, he, hx⟩ := List.mem_flatMap.1 hx
  obtain ⟨l, hl, rfl⟩ := List.mem_map.1 hx
  have h1 : badL e.lines = false := by
    cases hb : badL e.lines with
    | false => rfl
    | true =>
      have : badAll t = true := List.any_eq_true.2 ⟨e, (List.mem_filter.1 he).1, hb⟩
      rw [h] at this; cases this
  have h2 : mayA l.amt = true := by
    cases hb : mayA l.amt with
    | true => rfl
    | false =>
      have : badL e.lines = true := List.any_eq_true.2 ⟨l, hl, by rw [hb]; rfl⟩
      rw [h1] at this; cases this
  have h3 := mayA_iff.1 h2
  show wrap64 l.amt = l.amt
  rw [wrap64_eq]
  omega
theorem some_code {B : Nat} {w w' : World} {pick : EntryM → Bool} {t : List EntryM} {e : Ending} (h : SomePost B w pick t e w') : Below B w w' ∧ ∃ so sc D, e = .returned (.tuple #[.slice so D.length sc, errV (docC pick t)]) ∧ BalsAt w' so D ∧ D = if docC pick t = 0 then fullB ((someB pick t).foldl putB []) else [] := by
  obtain ⟨hb, h⟩ := h
  refine ⟨hb, ?_⟩
  unfold docC
  rcases h with ⟨h1, he⟩ | ⟨h1, h2, he⟩ | ⟨h1, h2, h3, he⟩ | ⟨h1, h2, h3, ao, cap, L, hL, h4, he⟩
  · rw [if_pos h1]; exact ⟨none, 0, [], he, Or.inl rfl, rfl⟩
  · rw [if_neg (by omega), if_pos h2]; exact ⟨none, 0, [], he, Or.inl rfl, rfl⟩
  · have hr := rel_all (fits_of_good (pick := pick) h2)
    have hlen := rel_len hr (fold_nodup _ [] (by simp))
    rw [if_neg (by omega), if_neg (by rw [h2]; simp), if_pos (by omega)]; exact ⟨none, 0, [], he, Or.inl rfl, rfl⟩
  · have hr := rel_all (fits_of_good (pick := pick) h2)
    have hlen := rel_len hr (fold_nodup _ [] (by simp))
    rw [if_neg (by omega), if_neg (by rw [h2]; simp), if_neg (by omega)]
    refine ⟨ao, cap, L, he, h4, ?_⟩
    rw [if_pos rfl]
    refine rises_ext hL.rises (List.Pairwise.filter _ hr.rises) hL.ne (fun x hx => ?_) (fun p => by rw [hL.sum, full_sum, hr.sum])
    have := (List.mem_filter.1 hx).2
    simpa using this
theorem same_l (t : List BalM) (w : World) (a b : Option Addr) (ca cb : Nat) (ha : BalsAt w a t) (hb : BalsAt w b t) (hm : t.length ≤ 9223372036854775807) :
    Calls Tryd.prog 30 #[.slice a t.length ca, .slice b t.length cb] w fun e w' => e = .returned (.bool true) ∧ Below w.heap.size w w' :=
  (bals_same t w a b ca cb ha hb hm).mono fun _ _ ⟨h, n, e⟩ => ⟨h, by rw [e]; exact ⟨rfl, rfl, rfl, Nat.le_refl _, fun _ _ => rfl⟩⟩
theorem doc_len {pick : EntryM → Bool} {t : List EntryM} {D : List BalM} (h : D = if docC pick t = 0 then fullB ((someB pick t).foldl putB []) else []) : D.length ≤ 200 := by
  rw [h]
  split
  · rename_i h0
    have := fullB_len ((someB pick t).foldl putB [])
    unfold docC at h0
    split at h0
    · cases h0
    · split at h0
      · cases h0
      · split at h0
        · cases h0
        · omega
  · simp

def docL (pick : EntryM → Bool) (t : List EntryM) : List BalM := if docC pick t = 0 then fullB ((someB pick t).foldl putB []) else []
def DocPost (c : Int) (X : List BalM) (B : Nat) (w : World) (e : Ending) (w' : World) : Prop := Below B w w' ∧ ∃ so sc, e = .returned (.tuple #[.slice so X.length sc, .int .i64 c]) ∧ BalsAt w' so X
def SomPost (c : Int) (X : List BalM) (B : Nat) (w : World) (e : Ending) (w' : World) : Prop := Below B w w' ∧ ∃ so sc, e = .returned (.tuple #[.slice so X.length sc, errV c]) ∧ BalsAt w' so X
theorem led_c {B : Nat} {w w' : World} {pick : EntryM → Bool} {t : List EntryM} {e : Ending} (h : LedPost B w pick t e w') : DocPost (docC pick t) (docL pick t) B w e w' := by
  obtain ⟨h1, so, sc, D, h2, h3, rfl⟩ := led_out h
  exact ⟨h1, so, sc, h2, h3⟩
theorem som_c {B : Nat} {w w' : World} {pick : EntryM → Bool} {t : List EntryM} {e : Ending} (h : SomePost B w pick t e w') : SomPost (docC pick t) (docL pick t) B w e w' := by
  obtain ⟨h1, so, sc, D, h2, h3, rfl⟩ := some_code h
  exact ⟨h1, so, sc, h2, h3⟩

set_option maxRecDepth 100000 in
set_option maxHeartbeats 8000000 in
theorem sums_any (m n : Int) (ao : Option Addr) (ca : Nat) (t : List EntryM) (w : World) (hg : Door w) (ha : EntsAt w ao t) (hok : ∀ e ∈ t, entOk e) (hm : t.length ≤ 9223372036854775807) (hlm : ∀ e ∈ t, e.lines.length ≤ 9223372036854775807)
    (hc1 : (someB (pickBal n) t).length ≤ 2000000) (hc2 : (someB (pickTrial m n) t).length ≤ 2000000) :
    Calls Tryd.prog 9 #[.slice ao t.length ca, .int .i64 m, .int .i64 n] w fun e w' => e = .returned (.bool true) ∧ Below w.heap.size w w' := by
  have HG := Lib.hid hg
  have hpos := hg.pos
  have k1 : (docL (pickBal n) t).length ≤ 200 := doc_len (pick := pickBal n) (t := t) rfl
  have k2 : (docL (pickTrial m n) t).length ≤ 200 := doc_len (pick := pickTrial m n) (t := t) rfl
  have l1 : ∀ W, Below w.heap.size w W → Calls Tryd.prog 28 #[.slice ao t.length ca, .int .i64 0, .int .i64 n, .bool false] W (DocPost (docC (pickBal n) t) (docL (pickBal n) t) W.heap.size W) := fun W hW => (led_any false 0 n ao ca t W (ha.below hW) hm hlm hc1).mono fun _ _ h => led_c h
  have l2 : ∀ W, Below w.heap.size w W → Calls Tryd.prog 28 #[.slice ao t.length ca, .int .i64 m, .int .i64 n, .bool true] W (DocPost (docC (pickTrial m n) t) (docL (pickTrial m n) t) W.heap.size W) := fun W hW => (led_any true m n ao ca t W (ha.below hW) hm hlm hc2).mono fun _ _ h => led_c h
  have s1 : ∀ W, Below w.heap.size w W → Calls Tryd.prog 29 #[.slice ao t.length ca, .int .i64 n] W (SomPost (docC (pickBal n) t) (docL (pickBal n) t) W.heap.size W) := fun W hW => (balances_any n ao ca t W (ha.below hW) hok hm hlm).mono fun _ _ h => som_c h
  have s2 : ∀ W, Below w.heap.size w W → Calls Tryd.prog 31 #[.slice ao t.length ca, .int .i64 m, .int .i64 n] W (SomPost (docC (pickTrial m n) t) (docL (pickTrial m n) t) W.heap.size W) := fun W hW => (trial_any m n ao ca t W (ha.below hW) hok hm hlm).mono fun _ _ h => som_c h
  generalize docC (pickBal n) t = c1 at l1 s1
  generalize docL (pickBal n) t = X1 at l1 s1 k1
  generalize docC (pickTrial m n) t = c2 at l2 s2
  generalize docL (pickTrial m n) t = X2 at l2 s2 k2
  have er : ∀ c W, Below w.heap.size w W → Calls Tryd.prog 13 #[errV c, .int .i64 c] W fun e w' => e = .returned (.bool true) ∧ Below W.heap.size W w' := fun c W hW => (error_any c c W (hg.below hW hpos)).mono fun _ _ ⟨h1, h2⟩ => ⟨by rw [h1]; simp, h2⟩
  have L1 := Lib.hid l1
  have L2 := Lib.hid l2
  have S1 := Lib.hid s1
  have S2 := Lib.hid s2
  have ER := Lib.hid er
  clear l1 l2 s1 s2 er hg ha hok hlm hc1 hc2
  have hc := L1.out w (Below.refl _ _)
  go_enter Tryd.func9, Tryd.ntmps9
  go_wp2_with fail
  refine hc.mono ?_
  rintro e w1 ⟨hb1, o1, q1, rfl, hX1⟩
  have HB1 := Lib.hid hb1
  have HX1 := Lib.hid hX1
  clear hc hb1 hX1
  have hc := S1.out w1 HB1.out
  go_wp2_with fail
  refine hc.mono ?_
  rintro e w2 ⟨hb2, o2, q2, rfl, hX2⟩
  have HB2 := Lib.hid (HB1.out.trans (hb2.mono HB1.out.size))
  have HX12 := Lib.hid (HX1.out.below hb2)
  have HX2 := Lib.hid hX2
  clear hc hb2 hX2 HX1 HB1
  have hc := ER.out c1 w2 HB2.out
  go_wp2_with fail
  refine hc.mono ?_
  rintro e w3 ⟨rfl, hb3⟩
  have HB3 := Lib.hid (HB2.out.trans (hb3.mono HB2.out.size))
  have hc2 := same_l X1 w3 o2 o1 q2 q1 (HX2.out.below hb3) (HX12.out.below hb3) (by omega)
  clear hc hb3 HX12 HX2 HB2
  go_wp2_with fail
  refine hc2.mono ?_
  rintro e w4 ⟨rfl, hb4⟩
  have HB4 := Lib.hid (HB3.out.trans (hb4.mono HB3.out.size))
  clear hc2 hb4 HB3
  have hc := L2.out w4 HB4.out
  go_wp2_with fail
  refine hc.mono ?_
  rintro e w5 ⟨hb5, o5, q5, rfl, hX5⟩
  have HB5 := Lib.hid (HB4.out.trans (hb5.mono HB4.out.size))
  have HX5 := Lib.hid hX5
  clear hc hb5 hX5 HB4
  have hc := S2.out w5 HB5.out
  go_wp2_with fail
  refine hc.mono ?_
  rintro e w6 ⟨hb6, o6, q6, rfl, hX6⟩
  have HB6 := Lib.hid (HB5.out.trans (hb6.mono HB5.out.size))
  have HX56 := Lib.hid (HX5.out.below hb6)
  have HX6 := Lib.hid hX6
  clear hc hb6 hX6 HX5 HB5
  have hc := ER.out c2 w6 HB6.out
  go_wp2_with fail
  refine hc.mono ?_
  rintro e w7 ⟨rfl, hb7⟩
  have HB7 := Lib.hid (HB6.out.trans (hb7.mono HB6.out.size))
  have hc2 := same_l X2 w7 o6 o5 q6 q5 (HX6.out.below hb7) (HX56.out.below hb7) (by omega)
  clear hc hb7 HX56 HX6 HB6
  go_wp2_with fail
  refine hc2.mono ?_
  rintro e w8 ⟨rfl, hb8⟩
  have HB8 := Lib.hid (HB7.out.trans (hb8.mono HB7.out.size))
  clear hc2 hb8 HB7
  go_wp2_with fail
  go_ret
  exact ⟨rfl, HB8.out⟩
end Go.Proofs.YtbhndnjlplibmaaDoor.lg
