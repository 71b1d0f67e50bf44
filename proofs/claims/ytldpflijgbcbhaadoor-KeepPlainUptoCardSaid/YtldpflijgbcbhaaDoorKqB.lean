/- KeepPlain walked. -/
import Derived.Test.YtldpflijgbcbhaaDoorKqA
import Derived.Test.YtldpflijgbcbhaaDoorSent
import Derived.Test.YtldpflijgbcbhaaDoorTold
namespace Go.Proofs.YtldpflijgbcbhaaDoor.lg
open Go.RowKit

theorem new_none {nb : Nat} (h : 150 ≤ nb) : ∀ i, blkOf (DiskM.new nb).now 0 150 i = none := by
  intro i
  unfold blkOf
  split
  · rename_i hi
    have e : (DiskM.new nb).now.getD (0 + i) none = some zeros64 := by
      show (List.replicate nb (some zeros64)).getD (0 + i) none = _
      rw [List.getD_eq_getElem?_getD, List.getElem?_replicate, if_pos (by omega)]; rfl
    rw [e]; exact chk_zeros
  · rfl
theorem new_free (n : Nat) : Free (DiskM.new n) ∧ (DiskM.new n).now.length = n ∧ (DiskM.new n).steps = 0 ∧ (DiskM.new n).since.length = 0 := ⟨rfl, by simp [DiskM.new], rfl, rfl⟩
/-- how much the law counts of an entry -/
def szE (x : EntryM) : Nat := (if x.code = 0 then x.bytes.length else 0) + 2
def szL (t : List EntryM) : Nat := (t.map szE).sum
theorem szL_snoc (t : List EntryM) (x : EntryM) : szL (t ++ [x]) = szL t + szE x := by simp [szL]
theorem szL_need {t : List EntryM} (h : ∀ x ∈ t, x.ok ∧ x.bytes.length ≤ 200) : szL t = need t := by
  induction t with
  | nil => rfl
  | cons x t ih =>
    have h1 := ih (fun y hy => h y (by simp [hy]))
    have h2 : szE x = x.bytes.length + 2 := by unfold szE; rw [if_pos ((entry_code x).2 (h x (by simp)).1)]
    simp only [szL, need, List.map_cons, List.sum_cons] at *
    omega
theorem szL_len (t : List EntryM) : 2 * t.length ≤ szL t := by
  induction t with
  | nil => simp [szL]
  | cons x t ih => simp only [szL, List.map_cons, List.sum_cons, List.length_cons] at *; unfold szE at *; omega
theorem szL_append (s t : List EntryM) : szL (s ++ t) = szL s + szL t := by simp [szL]

theorem box_fill {wr W1 : World} {q : Nat} {a b c d : Value} {t : TypeId} (hb : Below wr.heap.size wr W1) (hq : q = wr.heap.size) (hx : W1.heap[q]? = some (.cells #[a, b, c, d] t (0, 0))) (v0 v1 v2 v3 : Value) :
    Below wr.heap.size wr ((((W1.setCell ⟨q, 0, none⟩ v0).setCell ⟨q, 1, none⟩ v1).setCell ⟨q, 2, none⟩ v2).setCell ⟨q, 3, none⟩ v3) ∧ ((((W1.setCell ⟨q, 0, none⟩ v0).setCell ⟨q, 1, none⟩ v1).setCell ⟨q, 2, none⟩ v2).setCell ⟨q, 3, none⟩ v3).heap[q]? = some (.cells #[v0, v1, v2, v3] t (0, 0)) := by
  refine ⟨?_, ?_⟩
  · have h : wr.heap.size ≤ q := by omega
    exact (((hb.setCell (p := ⟨q, 0, none⟩) h v0).setCell (p := ⟨q, 1, none⟩) h v1).setCell (p := ⟨q, 2, none⟩) h v2).setCell (p := ⟨q, 3, none⟩) h v3
  · rw [heap_setCell_same (heap_setCell_same (heap_setCell_same (heap_setCell_same hx v0) v1) v2) v3]; rfl
/-- the law's fault so far -/
theorem code_next {l m : List EntryM} {i : Nat} {y : EntryM} {E E2 : Int} (hy : (l ++ m)[i]? = some y) (h : saveL [] l = if E = 0 then saveL [] (l.drop i) else E) (hE : E2 = if E = 0 ∧ i < l.length then chkE y else E) : saveL [] l = if E2 = 0 then saveL [] (l.drop (i + 1)) else E2 := by
  by_cases h0 : E = 0
  · rw [if_pos h0] at h
    by_cases hi : i < l.length
    · rw [if_pos ⟨h0, hi⟩] at hE
      rw [List.getElem?_append_left hi] at hy
      have := saveL_new (old := []) hy (Nat.zero_le _)
      rw [List.drop_nil, List.drop_nil] at this
      rw [h, this, hE]
    · rw [if_neg (fun h => hi h.2)] at hE
      rw [hE, h0, if_pos rfl, h, List.drop_eq_nil_of_le (show l.length ≤ i by omega), List.drop_eq_nil_of_le (show l.length ≤ i + 1 by omega)]
  · rw [if_neg (fun h => h0 h.1)] at hE
    rw [if_neg h0] at h
    rw [hE, if_neg h0, h]
theorem e_next {c E E1 E2 : Int} {LB i n : Nat} (h1 : E1 = if ¬ c = 0 ∧ E = 0 ∧ i < n then c else E) (h2 : E2 = if 200 < LB ∧ E1 = 0 ∧ i < n then 4 else E1) (h3 : ¬ c = 0 → LB = 0) : E2 = if E = 0 ∧ i < n then (if c = 0 then (if 200 < LB then 4 else 0) else c) else E := by
  by_cases gc : c = 0 <;> by_cases gE : E = 0 <;> by_cases gi : i < n <;> by_cases gl : 200 < LB <;> simp_all <;> omega
theorem saveC_first {l : List EntryM} {R : Nat} (h : saveL [] l = 0 → need l ≤ R) : saveC [] l R = saveL [] l := by
  unfold saveC
  rw [if_neg (by simp)]
  by_cases h0 : saveL [] l = 0
  · rw [if_pos h0, h0, if_neg (by have := h h0; show ¬ R < need l; omega)]
  · rw [if_neg h0]
theorem enc_head_len (t : List EntryM) : (enc (headB :: t.map EntryM.bytes)).length = 12 + need t := by
  rw [enc_cons, List.length_append, enc1_len, enc_need]
  show 10 + 2 + need t = 12 + need t
  omega
theorem saveC_half {l : List EntryM} {h R : Nat} (hh : h = l.length / 2) : saveC l (l.take h) R = if l.length = 0 then 0 else 5 := by
  by_cases h0 : l.length = 0
  · have : l = [] := List.length_eq_zero_iff.1 h0
    subst this
    simp [saveC, saveL, need]
  · rw [if_neg h0]
    unfold saveC
    rw [if_pos (by rw [List.length_take]; omega)]
theorem saveL_same_app : ∀ {l m : List EntryM}, (∀ x ∈ l, x.ok ∧ x.bytes.length ≤ 200) → saveL l (l ++ m) = saveL [] m
  | [], _, _ => rfl
  | x :: l, m, h => by
      show (if chkE x = 0 then (if x.bytes = x.bytes then saveL l (l ++ m) else 5) else chkE x) = _
      rw [if_pos (chkE_zero.2 (h x (by simp))), if_pos rfl]
      exact saveL_same_app (fun y hy => h y (by simp [hy]))
theorem saveC_more {l m : List EntryM} {R : Nat} (hl : ∀ x ∈ l, x.ok ∧ x.bytes.length ≤ 200) (h : saveL [] m = 0 → need m ≤ R) : saveC l (l ++ m) R = saveL [] m := by
  unfold saveC
  rw [if_neg (by simp), saveL_same_app hl, List.drop_left]
  by_cases h0 : saveL [] m = 0
  · rw [if_pos h0, h0, if_neg (by have := h h0; omega)]
  · rw [if_neg h0]
theorem RowE.ents' {w0 wr wr' : World} {B B1 : Nat} {so : Option Addr} {cap n : Nat} {es : List EntryM} (h : RowE w0 wr B B1 (.slice so n cap) es) (hn : n = es.length) (hB : w0.heap.size ≤ B) (hb : Below B wr wr') (hk : ∀ g, B1 ≤ g → g < wr.heap.size → wr'.heap[g]? = wr.heap[g]?) : EntsAt wr' so es := by
  subst hn
  refine RowE.ents (h.later hb (fun g hg => ?_)) hB
  obtain ⟨xs, hr, _⟩ := h.ex
  rcases hr.2 with ⟨hv, _⟩ | ⟨g', c', cur, hv, hb', hh, _⟩
  · rw [hv] at hg; cases hg
  · rw [hv] at hg
    have e : g' = g := Option.some.inj hg
    subst e
    exact hk _ hb' (lt_of_heap hh)
theorem take_succ_sz {t : List EntryM} {i : Nat} {y : EntryM} (h : t[i]? = some y) : szL (t.take (i + 1)) = szL (t.take i) + szE y := by
  obtain ⟨hi, he⟩ := List.getElem?_eq_some_iff.1 h
  rw [List.take_succ_eq_append_getElem hi, he, szL_snoc]

set_option maxRecDepth 100000 in
set_option maxHeartbeats 8000000 in
theorem kplain_any (nb : Int) (lao : Option Addr) (lcap : Nat) (l : List EntryM) (mao : Option Addr) (mcap : Nat) (m : List EntryM) (w : World) (hg : Door w) (hzl : EntsAt w lao l) (hzm : EntsAt w mao m) (hfl : ∀ x ∈ l, x.fair) (hfm : ∀ x ∈ m, x.fair) (hll : l.length ≤ 1048576) (hlm : m.length ≤ 1048576) (hcap : l.length ≤ lcap) :
    Calls Tryd.prog 9 #[.int .i64 nb, .slice lao l.length lcap, .slice mao m.length mcap] w fun e w' => e = .returned (.bool true) ∧ Below w.heap.size w w' := by
  have hpos := hg.pos
  obtain ⟨B, hB⟩ : ∃ B, B = w.heap.size := ⟨_, rfl⟩
  have HG := Lib.hid hg
  have HZL := Lib.hid hzl
  have HZM := Lib.hid hzm
  have HFL := Lib.hid hfl
  have HFM := Lib.hid hfm
  obtain ⟨n, hn⟩ : ∃ n, n = l.length := ⟨_, rfl⟩
  obtain ⟨k, hk⟩ : ∃ k, k = m.length := ⟨_, rfl⟩
  rw [← hn] at hll hcap ⊢
  rw [← hk] at hlm ⊢
  have HN := Lib.hid hn
  have HK := Lib.hid hk
  clear hg hzl hzm hfl hfm hn hk
  by_cases hC : nb < 1 ∨ 200 < nb
  · have hnew := new_range nb w hC
    rw [errV_some (by decide)] at hnew
    have HB0 : Hid (Below w.heap.size w w) := Below.refl _ _
    clear hB hC
    go_enter Tryd.func9, Tryd.ntmps9
    go_wp2_with fail
    refine hnew.mono ?_
    rintro e w1 ⟨rfl, rfl⟩
    clear hnew
    go_wp2_with fail
    go_ret
    exact ⟨rfl, HB0.out⟩
  · obtain ⟨N, rfl⟩ := Int.eq_ofNat_of_zero_le (show 0 ≤ nb by omega)
    have hN1 : 1 ≤ N := by omega
    have hN2 : N ≤ 200 := by omega
    have hnew := newF N w hN1 hN2
    rw [← hB] at hnew ⊢
    obtain ⟨M0, hM0⟩ : ∃ M0, M0 = DiskM.new N := ⟨_, rfl⟩
    rw [← hM0] at hnew
    have hM : Free M0 ∧ M0.now.length = N ∧ M0.steps = 0 ∧ M0.since.length = 0 ∧ (150 ≤ N → ∀ i, blkOf M0.now 0 150 i = none) := by rw [hM0]; exact ⟨(new_free N).1, (new_free N).2.1, rfl, rfl, fun h => new_none h⟩
    have HM := Lib.hid hM
    have HBB := Lib.hid hB
    clear hM0 hM hC
    go_enter Tryd.func9, Tryd.ntmps9
    go_wp2_with fail
    refine hnew.mono ?_
    rintro e w1 ⟨rfl, hb1, hd1⟩
    have hno := kload_no B (fun _ => False) w1 B M0 hd1 (by rw [HM.out.2.1]; by_cases h : N < 150; exact Or.inl h; exact Or.inr ⟨by omega, HM.out.2.2.2.2 (by omega)⟩)
    have HB1 := Lib.hid hb1
    have HD1 := Lib.hid hd1
    rw [errV_some (by decide)] at hno
    clear hnew hb1 hd1 hB
    go_wp2_with fail
    refine hno.mono ?_
    rintro e w2 ⟨rfl, hb2⟩
    have HD2 := Lib.hid (HD1.out.later hb2)
    have HB2 : Hid (Below B w w2) := HB1.out.trans (hb2.mono (by rw [HBB.out]; exact HB1.out.size))
    have HBS2 : Hid (w.heap.size ≤ w2.heap.size) := HB2.out.size
    have he := error_any 9 9 w2 (HG.out.below (by rw [← HBB.out]; exact HB2.out) hpos)
    rw [errV_some (by decide)] at he
    clear hno hb2 HD1 HB1
    go_wp2_with fail
    refine he.mono ?_
    rintro e w3 ⟨rfl, hb3⟩
    have HD3 := Lib.hid (HD2.out.later hb3)
    have HB3 : Hid (Below B w w3) := HB2.out.trans (hb3.mono (by rw [HBB.out]; exact HB2.out.size))
    clear he hb3 HD2 HB2 HBS2
    by_cases h150 : N < 150
    · have hfn := kformat_no B (fun _ => False) w3 B M0 HD3.out (by rw [HM.out.2.1]; exact h150)
      have hd150 : decide ((N : Int) < 150) = true := decide_eq_true (by omega)
      have he4 := error_any 4 4 w3 (HG.out.below (by rw [← HBB.out]; exact HB3.out) hpos)
      rw [errV_some (by decide)] at hfn he4
      go_wp2_with fail
      refine hfn.mono ?_
      rintro e w4 ⟨rfl, rfl⟩
      clear hfn
      go_wp2_with fail
      refine he4.mono ?_
      rintro e w5 ⟨rfl, hb5⟩
      have HF5 : Hid (Below B w w5) := HB3.out.trans (hb5.mono (by rw [HBB.out]; exact HB3.out.size))
      clear he4 hb5 HM
      go_wp2_with fail
      go_ret
      exact ⟨rfl, HF5.out⟩
    · have hfm := kformat_any B (fun _ => False) w3 B M0 HD3.out HM.out.1 (by rw [HM.out.2.1]; omega) (by rw [HM.out.2.2.1]; omega) (by rw [HM.out.2.2.2.1]; omega)
      have hd150 : decide ((N : Int) < 150) = false := decide_eq_false (by omega)
      have hkk : Kept (kfmt M0) ([].map EntryM.bytes) 1 1000 := kept_format HM.out.1 (by rw [HM.out.2.1]; omega) (by rw [HM.out.2.1]; omega) (by rw [HM.out.2.2.1]; omega)
      generalize kfmt M0 = M1 at *
      have HKK := Lib.hid hkk
      clear hkk
      go_wp2_with fail
      refine hfm.mono ?_
      rintro e w4 ⟨rfl, hs4, hd4⟩
      have HB4 : Hid (Below B w w4) := HB3.out.trans hs4.below
      have HD4 := Lib.hid hd4
      have he4 := error_any 0 0 w4 (HG.out.below (by rw [← HBB.out]; exact HB4.out) hpos)
      rw [errV_zero] at he4
      clear hfm hs4 hd4 HD3 HB3 HM
      go_wp2_with fail
      refine he4.mono ?_
      rintro e w5 ⟨rfl, hb5⟩
      have HD5 := Lib.hid (HD4.out.later hb5)
      have HB5 : Hid (Below B w w5) := HB4.out.trans (hb5.mono (by rw [HBB.out]; exact HB4.out.size))
      clear he4 hb5 HD4 HB4
      have HB0 : Hid (Below w5.heap.size w5 w5) := Below.refl _ _
      have HE5 : Hid (∀ wx, Below w5.heap.size w5 wx → Below B w wx) := fun wx hb => HB5.out.trans (hb.mono (by rw [HBB.out]; exact HB5.out.size))
      go_upto_block 0 with (fail)
      go_cut [12, 14] (fun ev sv wx => ∃ (E : Int) (S : Nat), ev = .int .i64 E ∧ sv = .int .i64 (S : Int) ∧ Hid (Below w5.heap.size w5 wx) ∧ Hid (E = saveL [] l) ∧ Hid (S = szL (l ++ m)))
      case first =>
        go_wp2_with fail
        go_loopw [12, 14, 15] (fun ev sv z wr => ∃ (i : Nat) (E : Int) (S : Nat), i ≤ n + k ∧ z = .int .i64 (i : Int) ∧ ev = .int .i64 E ∧ sv = .int .i64 (S : Int) ∧ S ≤ 500000002 * i ∧ Hid (S = szL ((l ++ m).take i)) ∧ Hid (saveL [] l = if E = 0 then saveL [] (l.drop i) else E) ∧ Hid (Below w5.heap.size w5 wr)) (fun _ _ z _ => n + k - (intOf z).toNat)
        case atStart => exact ⟨0, 0, 0, Nat.zero_le _, rfl, rfl, rfl, Nat.zero_le _, rfl, rfl, HB0.out⟩
        case round =>
          clear HB0
          obtain ⟨i, E, S, hi, rfl, rfl, rfl, hS, HS, HSL, HBW⟩ := hrel
          by_cases hik : i < n + k
          · obtain ⟨y, hy⟩ : ∃ y, (l ++ m)[i]? = some y := ⟨(l ++ m)[i]'(by rw [List.length_append, ← HN.out, ← HK.out]; exact hik), List.getElem?_eq_getElem _⟩
            obtain ⟨q, hq⟩ : ∃ q, q = wr.heap.size := ⟨_, rfl⟩
            obtain ⟨W1, hW1⟩ : ∃ W1, W1 = wr.alloc (.cells #[.string ⟨#[]⟩, .int .i64 0, .int .i64 0, .slice none 0 0] 25) := ⟨_, rfl⟩
            have hbx : W1.heap[q]? = some (.cells #[.string ⟨#[]⟩, .int .i64 0, .int .i64 0, .slice none 0 0] 25 (0, 0)) := by rw [hW1]; exact heap_new_at hq.symm _
            have hb1 : Below wr.heap.size wr W1 := by rw [hW1]; exact (Below.refl _ _).alloc (Nat.le_refl _) _
            have HBX := Lib.hid hbx
            have HB1 := Lib.hid hb1
            have HW1 := Lib.hid hW1
            have HQ := Lib.hid hq
            have HY := Lib.hid hy
            clear hbx hb1 hW1 hq hy
            go_upto_if 78 with (fail)
            rw [← HW1.out, ← HQ.out]
            go_cut [] (fun wx => ∃ la lc, Hid (Below wr.heap.size wr wx ∧ wx.heap[q]? = some (.cells #[.string y.ref, .int .i64 y.ent, .int .i64 y.per, .slice la y.lines.length lc] 25 (0, 0)) ∧ LinesAt wx la y.lines))
            case first =>
              have f0 := free_of_heap HBX.out 0
              have f1 := free_of_heap HBX.out 1
              have f2 := free_of_heap HBX.out 2
              have f3 := free_of_heap HBX.out 3
              have x0 : W1.cell? ⟨q, 0, none⟩ = some (.string ⟨#[]⟩) := cell_of_heap HBX.out 0
              have x1 : W1.cell? ⟨q, 1, none⟩ = some (.int .i64 0) := cell_of_heap HBX.out 1
              have x2 : W1.cell? ⟨q, 2, none⟩ = some (.int .i64 0) := cell_of_heap HBX.out 2
              have x3 : W1.cell? ⟨q, 3, none⟩ = some (.slice none 0 0) := cell_of_heap HBX.out 3
              by_cases hin : i < n
              · have hyl : l[i]? = some y := by have := HY.out; rwa [List.getElem?_append_left (by rw [← HN.out]; exact hin)] at this
                obtain ⟨b, off, la, lc, rfl, hbl, c0', c1', c2', c3', hlw⟩ := ents_at HZL.out hyl
                have hbw : Below w.heap.size w W1 := by have h1 := HE5.out wr HBW.out; rw [HBB.out] at h1; exact h1.trans (HB1.out.mono h1.size)
                have c0 : W1.cell? ⟨b, off + i * 4, none⟩ = some (.string y.ref) := (hbw.cell (p := ⟨b, off + i * 4, none⟩) hbl).trans c0'
                have c1 : W1.cell? ⟨b, off + i * 4 + 1, none⟩ = some (.int .i64 y.ent) := (hbw.cell (p := ⟨b, off + i * 4 + 1, none⟩) hbl).trans c1'
                have c2 : W1.cell? ⟨b, off + i * 4 + 2, none⟩ = some (.int .i64 y.per) := (hbw.cell (p := ⟨b, off + i * 4 + 2, none⟩) hbl).trans c2'
                have c3 : W1.cell? ⟨b, off + i * 4 + 3, none⟩ = some (.slice la y.lines.length lc) := (hbw.cell (p := ⟨b, off + i * 4 + 3, none⟩) hbl).trans c3'
                have hbf := box_fill HB1.out HQ.out HBX.out (.string y.ref) (.int .i64 y.ent) (.int .i64 y.per) (.slice la y.lines.length lc)
                have hbw0 : Below w.heap.size w wr := by have h1 := HE5.out wr HBW.out; rwa [HBB.out] at h1
                have hbw2 := hbw0.trans (hbf.1.mono hbw0.size)
                have HFX := Lib.hid (And.intro hbf.1 (And.intro hbf.2 (hlw.below hbw2 (Nat.le_refl _))))
                clear hyl hbl c0' c1' c2' c3' hlw hbw hbf hbw0 hbw2
                go_wp2_with fail
                go_meet
                exact ⟨la, lc, HFX⟩
              · obtain ⟨j, hj⟩ : ∃ j, j = i - n := ⟨_, rfl⟩
                have hyl : m[j]? = some y := by have := HY.out; rwa [List.getElem?_append_right (by rw [← HN.out]; omega), ← HN.out, ← hj] at this
                obtain ⟨b, off, la, lc, rfl, hbl, c0', c1', c2', c3', hlw⟩ := ents_at HZM.out hyl
                have hbw : Below w.heap.size w W1 := by have h1 := HE5.out wr HBW.out; rw [HBB.out] at h1; exact h1.trans (HB1.out.mono h1.size)
                have c0 : W1.cell? ⟨b, off + j * 4, none⟩ = some (.string y.ref) := (hbw.cell (p := ⟨b, off + j * 4, none⟩) hbl).trans c0'
                have c1 : W1.cell? ⟨b, off + j * 4 + 1, none⟩ = some (.int .i64 y.ent) := (hbw.cell (p := ⟨b, off + j * 4 + 1, none⟩) hbl).trans c1'
                have c2 : W1.cell? ⟨b, off + j * 4 + 2, none⟩ = some (.int .i64 y.per) := (hbw.cell (p := ⟨b, off + j * 4 + 2, none⟩) hbl).trans c2'
                have c3 : W1.cell? ⟨b, off + j * 4 + 3, none⟩ = some (.slice la y.lines.length lc) := (hbw.cell (p := ⟨b, off + j * 4 + 3, none⟩) hbl).trans c3'
                have hbf := box_fill HB1.out HQ.out HBX.out (.string y.ref) (.int .i64 y.ent) (.int .i64 y.per) (.slice la y.lines.length lc)
                have hbw0 : Below w.heap.size w wr := by have h1 := HE5.out wr HBW.out; rwa [HBB.out] at h1
                have hbw2 := hbw0.trans (hbf.1.mono hbw0.size)
                have HFX := Lib.hid (And.intro hbf.1 (And.intro hbf.2 (hlw.below hbw2 (Nat.le_refl _))))
                have hji : (i : Int) - (n : Int) = (j : Int) := by omega
                have hjk : j < k := by omega
                clear hyl hbl c0' c1' c2' c3' hlw hbw hbf hbw0 hbw2 hj
                go_wp2_with fail
                go_meet
                exact ⟨la, lc, HFX⟩
            case rest =>
              obtain ⟨la, lc, HX⟩ := hcut
              obtain ⟨W3, hW3⟩ : ∃ W3 : World, W3 = wc := ⟨_, rfl⟩
              subst hW3
              have x0 : W3.cell? ⟨q, 0, none⟩ = some (.string y.ref) := cell_of_heap HX.out.2.1 0
              have x1 : W3.cell? ⟨q, 1, none⟩ = some (.int .i64 y.ent) := cell_of_heap HX.out.2.1 1
              have x2 : W3.cell? ⟨q, 2, none⟩ = some (.int .i64 y.per) := cell_of_heap HX.out.2.1 2
              have x3 : W3.cell? ⟨q, 3, none⟩ = some (.slice la y.lines.length lc) := cell_of_heap HX.out.2.1 3
              have hyf : y.fair := by
                rcases List.mem_append.1 (List.mem_of_getElem? HY.out) with h | h
                · exact HFL.out y h
                · exact HFM.out y h
              have hse := sentry_any y la lc W3 hyf HX.out.2.2
              unfold entryV at hse
              have HYF := Lib.hid hyf
              have HB3 : Hid (Below w5.heap.size w5 W3) := HBW.out.trans (HX.out.1.mono HBW.out.size)
              clear hyf HX HBX HB1 HW1 HBW
              go_wp2_with fail
              refine hse.mono ?_
              rintro e w6 ⟨v, rfl, hb6, hrow⟩
              obtain ⟨c, hc⟩ : ∃ c, c = y.code := ⟨_, rfl⟩
              obtain ⟨bo, LB, bc, hv, hLB⟩ : ∃ bo LB bc, (if y.code = 0 then v else .slice none 0 0) = .slice bo LB bc ∧ LB = (if y.code = 0 then y.bytes.length else 0) := by
                by_cases h0 : y.code = 0
                · obtain ⟨so, sc, hs, _⟩ := row_slice' (hrow h0)
                  exact ⟨so, _, sc, by rw [if_pos h0, hs], by rw [if_pos h0]⟩
                · exact ⟨none, 0, 0, by rw [if_neg h0], by rw [if_neg h0]⟩
              rw [hv, ← hc]
              have hLBb : LB ≤ 500000000 := by
                rw [hLB]; split
                · rename_i h0
                  exact y.bytes_le HYF.out (EntryM.ok_few ((entry_code y).1 h0))
                · omega
              have hchk : chkE y = if c = 0 then (if 200 < LB then 4 else 0) else c := by
                unfold chkE; rw [hLB, hc]; split <;> rfl
              have hsz : szE y = LB + 2 := by unfold szE; rw [hLB]
              have hc0 : ¬ c = 0 → LB = 0 := fun h => by rw [hLB, if_neg (by rw [← hc]; exact h)]
              have HCHK := Lib.hid hchk
              have HSZ := Lib.hid hsz
              have HC0 := Lib.hid hc0
              have HB6 : Hid (Below w5.heap.size w5 w6) := HB3.out.trans (hb6.mono HB3.out.size)
              clear hse hb6 hrow hv hLB hc hchk hsz hc0 x0 x1 x2 x3 HB3
              go_upto_region 21 with (fail)
              go_cut [106] (fun v wx => wx = w6 ∧ v = .bool (decide (¬ c = 0 ∧ E = 0 ∧ i < n)))
              case first =>
                by_cases g1 : c = 0
                · have q1 : (c != 0) = false := by simp [g1]
                  have e : decide (¬ c = 0 ∧ E = 0 ∧ i < n) = false := decide_eq_false (fun h => h.1 g1)
                  have HE := Lib.hid e
                  clear g1 e
                  go_wp2_with fail
                  go_meet
                  exact ⟨rfl, by rw [HE.out]⟩
                · have q1 : (c != 0) = true := by simp [g1]
                  by_cases g2 : E = 0
                  · have q2 : (E == 0) = true := by simp [g2]
                    by_cases g3 : i < n
                    · have e : decide (¬ c = 0 ∧ E = 0 ∧ i < n) = true := decide_eq_true ⟨g1, g2, g3⟩
                      have q3 : decide ((i : Int) < (n : Int)) = true := decide_eq_true (by omega)
                      have HE := Lib.hid e
                      clear g1 g2 e
                      go_wp2_with fail
                      go_meet
                      exact ⟨rfl, by rw [HE.out]⟩
                    · have e : decide (¬ c = 0 ∧ E = 0 ∧ i < n) = false := decide_eq_false (fun h => g3 h.2.2)
                      have q3 : decide ((i : Int) < (n : Int)) = false := decide_eq_false (by omega)
                      have HE := Lib.hid e
                      clear g1 g2 e
                      go_wp2_with fail
                      go_meet
                      exact ⟨rfl, by rw [HE.out]⟩
                  · have q2 : (E == 0) = false := by simp [g2]
                    have e : decide (¬ c = 0 ∧ E = 0 ∧ i < n) = false := decide_eq_false (fun h => g2 h.2.1)
                    have HE := Lib.hid e
                    clear g1 g2 e
                    go_wp2_with fail
                    go_meet
                    exact ⟨rfl, by rw [HE.out]⟩
              case rest =>
                obtain ⟨hwc, hv⟩ := hcut
                rw [hwc, hv]
                clear hwc hv
                obtain ⟨E1, hE1⟩ : ∃ E1 : Int, E1 = if ¬ c = 0 ∧ E = 0 ∧ i < n then c else E := ⟨_, rfl⟩
                go_upto_if 106 with (fail)
                go_cut [12] (fun v wx => wx = w6 ∧ v = .int .i64 E1)
                case first =>
                  by_cases g : ¬ c = 0 ∧ E = 0 ∧ i < n
                  · rw [decide_eq_true g]
                    rw [if_pos g] at hE1
                    have HE := Lib.hid hE1
                    clear g hE1
                    go_wp2_with fail
                    go_meet
                    exact ⟨rfl, by rw [HE.out]⟩
                  · rw [decide_eq_false g]
                    rw [if_neg g] at hE1
                    have HE := Lib.hid hE1
                    clear g hE1
                    go_wp2_with fail
                    go_meet
                    exact ⟨rfl, by rw [HE.out]⟩
                case rest =>
                  obtain ⟨hwc, hv⟩ := hcut
                  rw [hwc, hv]
                  clear hwc hv
                  have HE1 := Lib.hid hE1
                  clear hE1
                  go_upto_region 23 with (fail)
                  go_cut [120] (fun v wx => wx = w6 ∧ v = .bool (decide (200 < LB ∧ E1 = 0 ∧ i < n)))
                  case first =>
                    by_cases g1 : 200 < LB
                    · by_cases g2 : E1 = 0
                      · have q2 : (E1 == 0) = true := by simp [g2]
                        by_cases g3 : i < n
                        · have e : decide (200 < LB ∧ E1 = 0 ∧ i < n) = true := decide_eq_true ⟨g1, g2, g3⟩
                          have q3 : decide ((i : Int) < (n : Int)) = true := decide_eq_true (by omega)
                          have HE := Lib.hid e
                          clear g2 e
                          go_wp2_with fail
                          go_meet
                          exact ⟨rfl, by rw [HE.out]⟩
                        · have e : decide (200 < LB ∧ E1 = 0 ∧ i < n) = false := decide_eq_false (fun h => g3 h.2.2)
                          have q3 : decide ((i : Int) < (n : Int)) = false := decide_eq_false (by omega)
                          have HE := Lib.hid e
                          clear g2 e
                          go_wp2_with fail
                          go_meet
                          exact ⟨rfl, by rw [HE.out]⟩
                      · have q2 : (E1 == 0) = false := by simp [g2]
                        have e : decide (200 < LB ∧ E1 = 0 ∧ i < n) = false := decide_eq_false (fun h => g2 h.2.1)
                        have HE := Lib.hid e
                        clear g2 e
                        go_wp2_with fail
                        go_meet
                        exact ⟨rfl, by rw [HE.out]⟩
                    · have e : decide (200 < LB ∧ E1 = 0 ∧ i < n) = false := decide_eq_false (fun h => g1 h.1)
                      have HE := Lib.hid e
                      clear e
                      go_wp2_with fail
                      go_meet
                      exact ⟨rfl, by rw [HE.out]⟩
                  case rest =>
                    obtain ⟨hwc, hv⟩ := hcut
                    rw [hwc, hv]
                    clear hwc hv
                    obtain ⟨E2, hE2⟩ : ∃ E2 : Int, E2 = if 200 < LB ∧ E1 = 0 ∧ i < n then 4 else E1 := ⟨_, rfl⟩
                    go_upto_if 120 with (fail)
                    go_cut [12] (fun v wx => wx = w6 ∧ v = .int .i64 E2)
                    case first =>
                      by_cases g : 200 < LB ∧ E1 = 0 ∧ i < n
                      · rw [decide_eq_true g]
                        rw [if_pos g] at hE2
                        have HE := Lib.hid hE2
                        clear g hE2
                        go_wp2_with fail
                        go_meet
                        exact ⟨rfl, by rw [HE.out]⟩
                      · rw [decide_eq_false g]
                        rw [if_neg g] at hE2
                        have HE := Lib.hid hE2
                        clear g hE2
                        go_wp2_with fail
                        go_meet
                        exact ⟨rfl, by rw [HE.out]⟩
                    case rest =>
                      obtain ⟨hwc, hv⟩ := hcut
                      rw [hwc, hv]
                      clear hwc hv
                      have HSL2 : Hid (saveL [] l = if E2 = 0 then saveL [] (l.drop (i + 1)) else E2) := by
                        refine code_next HY.out HSL.out ?_
                        rw [← HN.out, HCHK.out]
                        exact e_next HE1.out hE2 HC0.out
                      have HS2 : Hid (S + (LB + 2) = szL ((l ++ m).take (i + 1))) := by
                        show _ = _
                        rw [take_succ_sz HY.out, ← HS.out, HSZ.out]
                      clear hE2 HE1 HCHK HC0 HSZ HSL HS
                      go_wp2_with fail
                      go_roundw
                      case rel => exact ⟨i + 1, E2, S + (LB + 2), by omega, by go_num, rfl, by rw [show ((S + (LB + 2) : Nat) : Int) = (S : Int) + (LB : Int) + 2 by omega], by omega, HS2, HSL2, HB6⟩
                      case measure => simp [intOf]; omega
          · obtain rfl : i = n + k := by omega
            have HEND : Hid (E = saveL [] l ∧ S = szL (l ++ m)) := by
              have h1 := HSL.out
              rw [List.drop_eq_nil_of_le (show l.length ≤ n + k by rw [← HN.out]; omega)] at h1
              have h2 := HS.out
              rw [List.take_of_length_le (by rw [List.length_append, ← HN.out, ← HK.out]; exact Nat.le_refl _)] at h2
              refine ⟨?_, h2⟩
              rw [h1]
              split
              · assumption
              · rfl
            clear HS HSL
            go_wp2_with fail
            go_meet
            exact ⟨E, S, rfl, rfl, HBW, HEND.out.1, HEND.out.2⟩
      case rest =>
        obtain ⟨E, S, rfl, rfl, HBW, HE, HS⟩ := hcut
        obtain ⟨w6, hw6⟩ : ∃ w6 : World, w6 = wc := ⟨_, rfl⟩
        subst hw6
        have HB6 := Lib.hid (HE5.out w6 HBW.out)
        have HD6 := Lib.hid (HD5.out.later HBW.out)
        clear HB0 HD5 HB5 HE5 HBW
        by_cases h6 : 6000 < S
        · have hd6 : decide ((6000 : Int) < (S : Int)) = true := decide_eq_true (by omega)
          clear HE HS
          go_wp2_with fail
          go_ret
          exact ⟨rfl, HB6.out⟩
        · have hd6 : decide ((6000 : Int) < (S : Int)) = false := decide_eq_false (by omega)
          have hsz : szL l + szL m ≤ 6000 := by have := HS.out; rw [szL_append] at this; omega
          have hl3 : n ≤ 3000 := by have := szL_len l; rw [HN.out]; omega
          have hm3 : k ≤ 3000 := by have := szL_len m; rw [HK.out]; omega
          have hsc : saveC [] l (60 * (150 - 2) - (enc (headB :: ([] : List EntryM).map EntryM.bytes)).length) = E := by
            rw [HE.out]
            refine saveC_first (fun h0 => ?_)
            have h1 := szL_need (saveL_zero h0).1
            rw [enc_head_len]
            show need l ≤ 60 * (150 - 2) - (12 + 0)
            omega
          have hsv := ksave_any B (fun _ => False) w6 B M1 [] l lao lcap 1 1000 _ HD6.out HKK.out (fun x hx => by cases hx) (by simp) (by omega) (by omega) (fun w' hs => HZL.out.below (HB6.out.trans hs.below) (by rw [HBB.out]; exact Nat.le_refl _)) HFL.out (by rw [← HN.out]; omega) rfl
          rw [hsc, ← HN.out] at hsv
          have HSZ := Lib.hid hsz
          have HEL := Lib.hid HE.out
          clear hsc hsz HE HS
          by_cases hE0 : E = 0
          · subst hE0
            have hlok := (saveL_zero HEL.out.symm).1
            have HLOK := Lib.hid hlok
            clear hlok
            go_wp2_with fail
            refine hsv.mono ?_
            rintro e w7 ⟨rfl, hs7, hp7⟩
            rw [if_pos rfl] at hp7
            obtain ⟨M2, hd7, hk7⟩ := hp7
            rw [errV_zero]
            have HB7 : Hid (Below B w w7) := HB6.out.trans hs7.below
            have her := error_any 0 0 w7 (HG.out.below (by rw [← HBB.out]; exact HB7.out) hpos)
            rw [errV_zero] at her
            have HD7 := Lib.hid hd7
            have HK7 : Hid (Kept M2 (l.map EntryM.bytes) 2 20000) := hk7.mono (by omega) (by rw [← HN.out]; omega)
            clear hsv hs7 hd7 hk7 HD6 HB6 HKK
            go_wp2_with fail
            refine her.mono ?_
            rintro e w8 ⟨rfl, hb8⟩
            have hd8 := HD7.out.later hb8
            have hld := kload_any B (fun _ => False) w8 B M2 l 2 20000 hd8 HK7.out HLOK.out (by rw [← HN.out]; omega)
            rw [← HN.out] at hld
            have HB8 : Hid (Below B w w8) := HB7.out.trans (hb8.mono (by rw [HBB.out]; exact HB7.out.size))
            clear her hb8 HD7 HB7 hd8
            go_wp2_with fail
            refine hld.mono ?_
            rintro e w9 ⟨xao, xcap, n0, rfl, hn0, hb9, hd9, hx9⟩
            have HB9 : Hid (Below B w w9) := HB8.out.trans (hb9.mono (by rw [HBB.out]; exact HB8.out.size))
            have hlen : ∀ x ∈ l, x.lines.length ≤ 9223372036854775807 := fun x hx => by have := EntryM.ok_few (HLOK.out x hx).1; omega
            have hen := entries_same l w9 xao lao xcap lcap hx9.at (HZL.out.below HB9.out (by rw [HBB.out]; exact Nat.le_refl _)) hlen (by rw [← HN.out]; omega)
            rw [← HN.out] at hen
            have HD9 := Lib.hid hd9
            have HLEN := Lib.hid hlen
            clear hld hn0 hb9 hd9 hx9 hlen HB8
            go_wp2_with fail
            refine hen.mono ?_
            rintro e w10 ⟨rfl, hb10⟩
            have HD10 := Lib.hid (HD9.out.later hb10)
            have HB10 : Hid (Below B w w10) := HB9.out.trans (hb10.mono (by rw [HBB.out]; exact HB9.out.size))
            clear hen hb10 HD9 HB9
            go_upto_region 36 with (fail)
            obtain ⟨h, hh⟩ : ∃ h, h = n / 2 := ⟨_, rfl⟩
            have hq1 : (n : Int).tdiv 2 = (h : Int) := by rw [hh]; rw [Int.tdiv_eq_ediv_of_nonneg (by omega)]; omega
            have hw : wrap64 (h : Int) = (h : Int) := IntWalk.wrap64_in _ ⟨by omega, by omega⟩
            have hhc : (h : Int) ≤ (lcap : Int) := by omega
            have hh0 : (0 : Int) ≤ (h : Int) := by omega
            have hhl : (l.take h).length = h := by rw [List.length_take, ← HN.out]; omega
            have hsv5 := ksave_any B _ w10 B M2 l (l.take h) lao lcap 2 20000 _ HD10.out HK7.out HLOK.out (by rw [← HN.out]; omega) (by omega) (by omega) (fun w' hs => EntsAt.take' (HZL.out.below (HB10.out.trans hs.below) (by rw [HBB.out]; exact Nat.le_refl _)) h) (fun x hx => HFL.out x (List.mem_of_mem_take hx)) (by rw [hhl]; omega) rfl
            rw [saveC_half (by rw [hh, HN.out]), hhl, ← HN.out] at hsv5
            have HH := Lib.hid hh
            clear hh hhl
            go_wp2_with fail
            refine hsv5.mono ?_
            rintro e w11 ⟨rfl, hs11, hp11⟩
            obtain ⟨V5, hV5⟩ : ∃ V5, V5 = errV (if n = 0 then 0 else 5) := ⟨_, rfl⟩
            rw [← hV5]
            have hkd : ∃ M3, DiskF B (fun x => False ∨ (n0 ≤ x ∧ x < w9.heap.size)) w11 B M3 ∧ Kept M3 (l.map EntryM.bytes) 3 60000 := by
              by_cases h0 : n = 0
              · rw [if_pos (if_pos h0)] at hp11
                obtain ⟨M3, hd3, hk3⟩ := hp11
                have hl0 : l = [] := List.length_eq_zero_iff.1 (by rw [← HN.out]; exact h0)
                refine ⟨M3, hd3, ?_⟩
                rw [hl0] at hk3 ⊢
                exact Kept.mono (by simpa using hk3) (by omega) (by simp)
              · rw [if_neg (by rw [if_neg h0]; decide)] at hp11
                exact ⟨M2, hp11, HK7.out.mono (by omega) (by omega)⟩
            obtain ⟨M3, hd11, hk11⟩ := hkd
            have HD11 := Lib.hid hd11
            have HK11 := Lib.hid hk11
            have HB11 : Hid (Below B w w11) := HB10.out.trans hs11.below
            have HB00 : Hid (Below w11.heap.size w11 w11) := Below.refl _ _
            have her5 := error_any 5 5 w11 (HG.out.below (by rw [← HBB.out]; exact HB11.out) hpos)
            have HV5 := Lib.hid hV5
            clear hsv5 hs11 hp11 hd11 hk11 hV5 hq1 hw HD10 HB10 HK7
            go_upto_region 37 with (fail)
            go_cut [24] (fun v wx => v = .bool true ∧ Hid (Below w11.heap.size w11 wx))
            case first =>
              by_cases hn2 : n < 2
              · have hd2 : decide ((n : Int) < 2) = true := decide_eq_true (by omega)
                go_wp2_with fail
                go_meet
                exact ⟨rfl, HB00⟩
              · have hd2 : decide ((n : Int) < 2) = false := decide_eq_false (by omega)
                have hv : V5 = errV 5 := by rw [HV5.out, if_neg (by omega)]
                rw [← hv] at her5
                have HV := Lib.hid hv
                clear hv
                go_wp2_with fail
                refine her5.mono ?_
                rintro e w12 ⟨rfl, hb12⟩
                have HB12 := Lib.hid hb12
                clear her5 hb12
                go_wp2_with fail
                go_meet
                exact ⟨rfl, HB12⟩
            case rest =>
              obtain ⟨rfl, HB12⟩ := hcut
              obtain ⟨w12, hw12⟩ : ∃ w12 : World, w12 = wc := ⟨_, rfl⟩
              subst hw12
              have hB12 : Below B w w12 := HB11.out.trans (HB12.out.mono (by rw [HBB.out]; exact HB11.out.size))
              have hwB : w.heap.size ≤ B := by rw [HBB.out]; exact Nat.le_refl _
              have hB1 : B ≤ w12.heap.size := Nat.le_trans (by rw [HBB.out]; exact Nat.le_refl _) hB12.size
              have hr0 : RowE w w12 B w12.heap.size (.slice none 0 0) [] := RowE.start hB12
              obtain ⟨so1, c1, w13, hr1, hr1e, hb13⟩ := hr0.app hwB hB1 (Nat.le_refl _) HZL.out lcap (by simp; rw [← HN.out]; omega)
              simp only [List.length_nil, Nat.zero_add, List.nil_append] at hr1 hr1e
              obtain ⟨so2, c2, w14, hr2, hr2e, hb14⟩ := hr1e.app hwB hB1 hb13.size HZM.out mcap (by rw [← HN.out, ← HK.out]; omega)
              rw [← HN.out] at hr1 hr2 hr2e
              rw [← HK.out] at hr2 hr2e
              have HR14 := Lib.hid hr2e
              have HB1214 : Hid (Below w12.heap.size w12 w14) := hb13.trans hb14
              have HD12 := Lib.hid (HD11.out.later HB12.out)
              have HBW12 := Lib.hid hB12
              clear hr0 hr1e hr2e hb13 hb14 hB12 HD11 HB11 HB12 HB00 HV5 her5
              go_upto_region 40 with (at_builtin; refine Lib.wpList_append_run _ rfl _ _ _ _ rfl _ _ rfl rfl _ _ hr1 ?_)
              clear hr1
              go_upto_region 41 with (at_builtin; refine Lib.wpList_append_run _ rfl _ _ _ _ rfl _ _ rfl rfl _ _ hr2 ?_)
              clear hr2
              have HB00 : Hid (Below w14.heap.size w14 w14) := Below.refl _ _
              have hB14 : Below B w w14 := HR14.out.below
              have HBW14 := Lib.hid hB14
              clear hB14
              go_upto_block 2 with (fail)
              go_cut [12] (fun ev wx => ∃ E2 : Int, ev = .int .i64 E2 ∧ Hid (E2 = saveL [] m) ∧ Hid (Below w14.heap.size w14 wx))
              case first =>
                go_wp2_with fail
                go_loopw [12, 26] (fun ev z wr => ∃ (i : Nat) (E2 : Int), i ≤ k ∧ z = .int .i64 (i : Int) ∧ ev = .int .i64 E2 ∧ Hid (saveL [] m = if E2 = 0 then saveL [] (m.drop i) else E2) ∧ Hid (Below w14.heap.size w14 wr)) (fun _ z _ => k - (intOf z).toNat)
                case atStart => exact ⟨0, 0, Nat.zero_le _, rfl, rfl, rfl, HB00.out⟩
                case round =>
                  clear HB00
                  obtain ⟨i, E2, hi, rfl, rfl, HSL, HBX⟩ := hrel
                  by_cases hik : i < k
                  · have hdk : decide ((i : Int) < (k : Int)) = true := decide_eq_true (by omega)
                    by_cases hE : E2 = 0
                    · subst hE
                      obtain ⟨y, hy⟩ : ∃ y, m[i]? = some y := ⟨m[i]'(by rw [← HK.out]; exact hik), List.getElem?_eq_getElem _⟩
                      have hbw : Below w.heap.size w wr := by
                        have h1 := HBW14.out
                        rw [HBB.out] at h1
                        exact h1.trans (HBX.out.mono h1.size)
                      obtain ⟨b, off, la, lc, rfl, hbl, c0, c1, c2, c3, hlw⟩ := ents_at (HZM.out.below hbw (Nat.le_refl _)) hy
                      have hyf := HFM.out y (List.mem_of_getElem? hy)
                      have hse := sentry_any y la lc wr hyf hlw
                      unfold entryV at hse
                      have HYF := Lib.hid hyf
                      have hst : saveL [] (m.drop i) = if chkE y = 0 then saveL [] (m.drop (i + 1)) else chkE y := by
                        have := saveL_new (old := []) hy (Nat.zero_le _)
                        rwa [List.drop_nil, List.drop_nil] at this
                      have HST := Lib.hid hst
                      clear hbw hbl hlw hyf hst
                      go_wp2_with fail
                      refine hse.mono ?_
                      rintro e w6 ⟨v, rfl, hb6, hrow⟩
                      obtain ⟨c, hc⟩ : ∃ c, c = y.code := ⟨_, rfl⟩
                      obtain ⟨bo, LB, bc, hv, hLB⟩ : ∃ bo LB bc, (if y.code = 0 then v else .slice none 0 0) = .slice bo LB bc ∧ LB = (if y.code = 0 then y.bytes.length else 0) := by
                        by_cases h0 : y.code = 0
                        · obtain ⟨so, sc, hs, _⟩ := row_slice' (hrow h0)
                          exact ⟨so, _, sc, by rw [if_pos h0, hs], by rw [if_pos h0]⟩
                        · exact ⟨none, 0, 0, by rw [if_neg h0], by rw [if_neg h0]⟩
                      rw [hv, ← hc]
                      have hchk : chkE y = if c = 0 then (if 200 < LB then 4 else 0) else c := by
                        unfold chkE; rw [hLB, hc]; split <;> rfl
                      have HB6 : Hid (Below w14.heap.size w14 w6) := HBX.out.trans (hb6.mono HBX.out.size)
                      have HSN : Hid (∀ E3, E3 = chkE y → saveL [] m = if E3 = 0 then saveL [] (m.drop (i + 1)) else E3) := fun E3 h => by
                        rw [HSL.out]
                        simp only [↓reduceIte]
                        rw [HST.out, h]
                      have HCHK := Lib.hid hchk
                      clear hse hb6 hrow hv hLB hc hchk c0 c1 c2 c3 HSL HBX
                      by_cases gc : c = 0
                      · have q1 : (c == 0) = true := by simp [gc]
                        by_cases gl : 200 < LB
                        · have HN4 := Lib.hid (HSN.out 4 (by rw [HCHK.out, if_pos gc, if_pos gl]))
                          clear gc HCHK HSN
                          go_wp2_with fail
                          go_roundw
                          case rel => exact ⟨i + 1, 4, by omega, by go_num, rfl, HN4, HB6⟩
                          case measure => simp [intOf]; omega
                        · have HN0 := Lib.hid (HSN.out c (by rw [HCHK.out, if_pos gc, if_neg gl, gc]))
                          clear gc HCHK HSN
                          go_wp2_with fail
                          go_roundw
                          case rel => exact ⟨i + 1, c, by omega, by go_num, rfl, HN0, HB6⟩
                          case measure => simp [intOf]; omega
                      · have q1 : (c == 0) = false := by simp [gc]
                        have HN0 := Lib.hid (HSN.out c (by rw [HCHK.out, if_neg gc]))
                        clear gc HCHK HSN
                        go_wp2_with fail
                        go_roundw
                        case rel => exact ⟨i + 1, c, by omega, by go_num, rfl, HN0, HB6⟩
                        case measure => simp [intOf]; omega
                    · have q2 : (E2 == 0) = false := by simp [hE]
                      have HEND : Hid (E2 = saveL [] m) := by
                        have h1 := HSL.out
                        rw [if_neg hE] at h1
                        exact h1.symm
                      clear hE HSL
                      go_wp2_with fail
                      go_meet
                      exact ⟨E2, rfl, HEND, HBX⟩
                  · obtain rfl : i = k := by omega
                    have HEND : Hid (E2 = saveL [] m) := by
                      have h1 := HSL.out
                      rw [List.drop_eq_nil_of_le (show m.length ≤ i by rw [← HK.out]; exact Nat.le_refl _)] at h1
                      show _ = _
                      rw [h1]
                      split
                      · assumption
                      · rfl
                    clear HSL
                    go_wp2_with fail
                    go_meet
                    exact ⟨E2, rfl, HEND, HBX⟩
              case rest =>
                obtain ⟨E2, rfl, HE2, HBX⟩ := hcut
                obtain ⟨w15, hw15⟩ : ∃ w15 : World, w15 = wc := ⟨_, rfl⟩
                subst hw15
                have hlm' : n + k = (l ++ m).length := by rw [List.length_append, HN.out, HK.out]
                have hd15 := (HD12.out.more HB1214.out (fun x => (False ∨ (n0 ≤ x ∧ x < w9.heap.size)) ∨ (w12.heap.size ≤ x ∧ x < w14.heap.size)) (fun x hx => hx)).later HBX.out
                have hwB : w.heap.size ≤ B := by rw [HBB.out]; exact Nat.le_refl _
                have hB14 : B ≤ w14.heap.size := Nat.le_trans (by rw [HBB.out]; exact Nat.le_refl _) HBW14.out.size
                have hE : ∀ w', Stays B (fun x => (False ∨ (n0 ≤ x ∧ x < w9.heap.size)) ∨ (w12.heap.size ≤ x ∧ x < w14.heap.size)) w15 w' → EntsAt w' so2 (l ++ m) := fun w' hs =>
                  RowE.ents' HR14.out hlm' hwB ((HBX.out.mono hB14).trans hs.below) (fun g h1 h2 => (hs.blk g (Or.inr ⟨h1, h2⟩)).trans (HBX.out.block g h2))
                have hfa : ∀ x ∈ l ++ m, x.fair := fun x hx => by
                  rcases List.mem_append.1 hx with h | h
                  · exact HFL.out x h
                  · exact HFM.out x h
                have hsc : saveC l (l ++ m) (60 * (150 - 2) - (enc (headB :: l.map EntryM.bytes)).length) = E2 := by
                  rw [HE2.out]
                  refine saveC_more HLOK.out (fun h0 => ?_)
                  have h1 := szL_need (saveL_zero h0).1
                  have h2 := szL_need HLOK.out
                  have h3 := HSZ.out
                  rw [enc_head_len]
                  omega
                have hsv := ksave_any B _ w15 B M3 l (l ++ m) so2 c2 3 60000 _ hd15 HK11.out HLOK.out (by rw [← HN.out]; omega) (by omega) (by omega) hE hfa (by rw [← hlm']; omega) rfl
                rw [hsc, ← hlm'] at hsv
                have HB15 : Hid (Below B w w15) := HBW14.out.trans (HBX.out.mono hB14)
                have HEA := Lib.hid hE
                have HLM := Lib.hid hlm'
                clear hd15 hE hfa hsc hlm' HBX HD12
                by_cases hE0 : E2 = 0
                · subst hE0
                  have hokA : ∀ x ∈ l ++ m, x.ok ∧ x.bytes.length ≤ 200 := fun x hx => by
                    rcases List.mem_append.1 hx with h | h
                    · exact HLOK.out x h
                    · exact (saveL_zero HE2.out.symm).1 x h
                  have HOKA := Lib.hid hokA
                  clear hokA
                  go_wp2_with fail
                  refine hsv.mono ?_
                  rintro e w16 ⟨rfl, hs16, hp16⟩
                  rw [if_pos rfl] at hp16
                  obtain ⟨M5, hd16, hk16⟩ := hp16
                  rw [errV_zero]
                  have HB16 : Hid (Below B w w16) := HB15.out.trans hs16.below
                  have her := error_any 0 0 w16 (HG.out.below (by rw [← HBB.out]; exact HB16.out) hpos)
                  rw [errV_zero] at her
                  have HEA16 := Lib.hid (HEA.out w16 hs16)
                  have HD16 := Lib.hid hd16
                  have HK16 := Lib.hid hk16
                  clear hsv hs16 hd16 hk16 HB15 HEA
                  go_wp2_with fail
                  refine her.mono ?_
                  rintro e w17 ⟨rfl, hb17⟩
                  have hld := kload_any B _ w17 B M5 (l ++ m) _ _ (HD16.out.later hb17) HK16.out HOKA.out (by have h1 := szL_len l; have h2 := szL_len m; have h3 := HSZ.out; rw [← HLM.out]; rw [← HN.out] at h1; rw [← HK.out] at h2; omega)
                  rw [← HLM.out] at hld
                  have HB17 : Hid (Below B w w17) := HB16.out.trans (hb17.mono (by rw [HBB.out]; exact HB16.out.size))
                  have HEA17 := Lib.hid (HEA16.out.below hb17 (Nat.le_refl _))
                  clear her hb17 HD16 HB16 HEA16
                  go_wp2_with fail
                  refine hld.mono ?_
                  rintro e w18 ⟨xao2, xcap2, n1, rfl, hn1, hb18, hd18, hx18⟩
                  have hlen : ∀ x ∈ l ++ m, x.lines.length ≤ 9223372036854775807 := fun x hx => by have := EntryM.ok_few (HOKA.out x hx).1; omega
                  have hen := entries_same (l ++ m) w18 xao2 so2 xcap2 c2 hx18.at (HEA17.out.below hb18 (Nat.le_refl _)) hlen (by rw [← HLM.out]; omega)
                  rw [← HLM.out] at hen
                  have HB18 : Hid (Below B w w18) := HB17.out.trans (hb18.mono (by rw [HBB.out]; exact HB17.out.size))
                  clear hld hn1 hb18 hd18 hx18 hlen HB17 HEA17
                  go_wp2_with fail
                  refine hen.mono ?_
                  rintro e w19 ⟨rfl, hb19⟩
                  have HF19 : Hid (Below B w w19) := HB18.out.trans (hb19.mono (by rw [HBB.out]; exact HB18.out.size))
                  clear hen hb19
                  go_wp2_with fail
                  go_ret
                  exact ⟨rfl, HF19.out⟩
                · have hEb : (E2 != 0) = true := by simp [hE0]
                  go_wp2_with fail
                  refine hsv.mono ?_
                  rintro e w16 ⟨rfl, hs16, hp16⟩
                  rw [if_neg hE0] at hp16
                  rw [errV_some hE0]
                  have HB16 : Hid (Below B w w16) := HB15.out.trans hs16.below
                  have her := error_any E2 E2 w16 (HG.out.below (by rw [← HBB.out]; exact HB16.out) hpos)
                  rw [errV_some hE0, show (E2 == E2) = true by simp] at her
                  have HD16 := Lib.hid hp16
                  clear hsv hs16 hp16 HB15 HEA hE0 HE2
                  go_wp2_with fail
                  refine her.mono ?_
                  rintro e w17 ⟨rfl, hb17⟩
                  have hld := kload_any B _ w17 B M3 l 3 60000 (HD16.out.later hb17) HK11.out HLOK.out (by rw [← HN.out]; omega)
                  rw [← HN.out] at hld
                  have HB17 : Hid (Below B w w17) := HB16.out.trans (hb17.mono (by rw [HBB.out]; exact HB16.out.size))
                  clear her hb17 HD16 HB16
                  go_wp2_with fail
                  refine hld.mono ?_
                  rintro e w18 ⟨xao2, xcap2, n1, rfl, hn1, hb18, hd18, hx18⟩
                  have hlen : ∀ x ∈ l, x.lines.length ≤ 9223372036854775807 := fun x hx => by have := EntryM.ok_few (HLOK.out x hx).1; omega
                  have HB18 : Hid (Below B w w18) := HB17.out.trans (hb18.mono (by rw [HBB.out]; exact HB17.out.size))
                  have hen := entries_same l w18 xao2 lao xcap2 lcap hx18.at (HZL.out.below HB18.out (by rw [HBB.out]; exact Nat.le_refl _)) hlen (by rw [← HN.out]; omega)
                  rw [← HN.out] at hen
                  clear hld hn1 hb18 hd18 hx18 hlen HB17
                  go_wp2_with fail
                  refine hen.mono ?_
                  rintro e w19 ⟨rfl, hb19⟩
                  have HF19 : Hid (Below B w w19) := HB18.out.trans (hb19.mono (by rw [HBB.out]; exact HB18.out.size))
                  clear hen hb19
                  go_wp2_with fail
                  go_ret
                  exact ⟨rfl, HF19.out⟩
          · have hEb : (E != 0) = true := by simp [hE0]
            have HE0 := Lib.hid hE0
            go_wp2_with fail
            refine hsv.mono ?_
            rintro e w7 ⟨rfl, hs7, hp7⟩
            rw [if_neg hE0] at hp7
            rw [errV_some hE0]
            have HB7 : Hid (Below B w w7) := HB6.out.trans hs7.below
            have her := error_any E E w7 (HG.out.below (by rw [← HBB.out]; exact HB7.out) hpos)
            rw [errV_some hE0, show (E == E) = true by simp] at her
            have HD7 := Lib.hid hp7
            clear hsv hs7 hp7 hE0 HD6 HB6
            go_wp2_with fail
            refine her.mono ?_
            rintro e w8 ⟨rfl, hb8⟩
            have hld := kload_any B (fun _ => False) w8 B M1 [] 1 1000 (HD7.out.later hb8) HKK.out (fun x hx => by cases hx) (by simp)
            rw [show ([] : List EntryM).length = 0 from rfl] at hld
            have HB8 : Hid (Below B w w8) := HB7.out.trans (hb8.mono (by rw [HBB.out]; exact HB7.out.size))
            clear her hb8 HD7 HB7
            go_wp2_with fail
            refine hld.mono ?_
            rintro e w9 ⟨xao, xcap, n0, rfl, _, hb9, _, _⟩
            have HF9 : Hid (Below B w w9) := HB8.out.trans (hb9.mono (by rw [HBB.out]; exact HB8.out.size))
            clear hld hb9
            go_wp2_with fail
            go_ret
            exact ⟨rfl, HF9.out⟩
end Go.Proofs.YtldpflijgbcbhaaDoor.lg
