/- (*log.Log).All walked: the records, in rows of their own. -/
import Derived.Test.YtldpflijgbcbhaaLgM2
namespace Go.Proofs.Ytldpflijgbcbhaa.lg
open Go.RowKit

/-- rows of bytes, new since w -/
structure RecRows (w wr : World) (v : Value) (k : Nat) (rs : List Value) (L : List (List UInt8)) : Prop where
  below : Below w.heap.size w wr
  row : wr.ownsRow w.heap.size 23 1 v k rs
  each : ∀ (i : Nat) (b : List UInt8), i < k → L[i]? = some b → ∃ x, rs[i]? = some x ∧ RecAt wr (fun g => w.heap.size ≤ g ∧ g < wr.heap.size) x b
theorem RecRows.start (w : World) (L : List (List UInt8)) : RecRows w w (.slice none 0 0) 0 [] L := ⟨Below.refl _ _, World.ownsRow_nil _ _ _ _, fun i b hi => absurd hi (by omega)⟩
theorem RecRows.later {w wr wr' : World} {v : Value} {k : Nat} {rs : List Value} {L : List (List UInt8)} (h : RecRows w wr v k rs L) (hb : Below wr.heap.size wr wr') : RecRows w wr' v k rs L :=
  ⟨h.below.trans (hb.mono h.below.size), ownsRow_later h.row (fun g hg => by obtain ⟨c, hc⟩ := row_block h.row hg; exact hb.block g (lt_of_heap hc)), fun i b hi hL => by
    obtain ⟨x, hx, hr⟩ := h.each i b hi hL
    exact ⟨x, hx, hr.later (fun g hg => hb.block g hg.2) (fun g hg => ⟨hg.1, Nat.lt_of_lt_of_le hg.2 hb.size⟩)⟩⟩
/-- one more -/
theorem RecRows.more {w wr w5 : World} {v x : Value} {k : Nat} {rs : List Value} {L : List (List UInt8)} {b : List UInt8} (h : RecRows w wr v k rs L) (hL : L[k]? = some b) (hb5 : Below wr.heap.size wr w5) (hx : RecAt w5 (fun g => wr.heap.size ≤ g ∧ g < w5.heap.size) x b) (hk : k ≤ 100000) :
    ∃ v6 w6, (Builtin.append_ #[56, 56] 56 #[v, .slice (some ⟨w5.heap.size, 0, none⟩) 1 1]).run Try.prog (w5.alloc (.cells #[x] 23)) = .ok v6 w6 ∧ RecRows w w6 v6 (k + 1) (rs ++ [x]) L := by
  obtain ⟨V, hV⟩ : ∃ V, V = w5.alloc (.cells #[x] 23) := ⟨_, rfl⟩
  have hbV : Below w5.heap.size w5 V := by rw [hV]; exact (Below.refl _ _).alloc (Nat.le_refl _) _
  have hnew : V.heap[w5.heap.size]? = some (.cells #[x] 23 (0, 0)) := by rw [hV]; exact heap_new_at rfl _
  have hx1 : x.oneCell' = true := by
    rcases hx.1.2 with ⟨hv, _⟩ | ⟨g, cap, cur, hv, _⟩ <;> rw [hv] <;> rfl
  have hws := h.below.size
  have h5s := hb5.size
  have hVs := hbV.size
  have h5 := h.later hb5
  have hV5 := h5.later hbV
  have hxV : RecAt V (fun g => w.heap.size ≤ g ∧ g < V.heap.size) x b := hx.later (fun g hg => hbV.block g hg.2) (fun g hg => ⟨by omega, by omega⟩)
  obtain ⟨v6, w6, hr, hown, hgrow, hblk⟩ := run_append_rec hV5.row (cell_of_heap hnew 0) hx1 (by omega) (by omega) 56
  have hos : Only (fun g => v.ownBlock = some g) V w6 := Only.of_grown hgrow
  have hs6 := hos.size
  have hne : ∀ (y : Value) (c : List UInt8) (Q : Nat → Prop), RecAt V Q y c → ∀ g, y.ownBlock = some g → w6.heap[g]? = V.heap[g]? := fun y c Q hy g hg => by
    obtain ⟨cc, hc⟩ := row_block hy.1 hg
    refine hos.block g (lt_of_heap hc) (fun e => ?_)
    obtain ⟨c2, hc2⟩ := row_block hV5.row e
    exact type_ne hc2 hc (by decide) rfl
  have hrl : rs.length = k := by have := hV5.row.1; omega
  rw [hV] at hr
  refine ⟨v6, w6, hr, hV5.below.trans (hos.below (by omega) (fun g hg => ?_)), hown, fun i c hi hc => ?_⟩
  · rcases hV5.row.2 with ⟨e, _⟩ | ⟨g', cap, cur, e, hg', _⟩
    · rw [e] at hg; cases hg
    · rw [e] at hg
      have : g' = g := Option.some.inj hg
      omega
  · rcases Nat.lt_or_ge i k with hik | hik
    · obtain ⟨y, hy, hry⟩ := hV5.each i c hik hc
      exact ⟨y, by rw [List.getElem?_append_left (by omega)]; exact hy, ownsRow_later hry.1 (hne y c _ hry), fun g hg => ⟨(hry.2 g hg).1, by have := (hry.2 g hg).2; omega⟩⟩
    · obtain rfl : i = k := by omega
      rw [hL] at hc
      obtain rfl := Option.some.inj hc
      exact ⟨x, by rw [List.getElem?_append_right (by omega), hrl, Nat.sub_self]; rfl, ownsRow_later hxV.1 (hne x b _ hxV), fun g hg => ⟨(hxV.2 g hg).1, by have := (hxV.2 g hg).2; omega⟩⟩
set_option maxRecDepth 100000 in
set_option maxHeartbeats 2000000 in
theorem all_any (w : World) (T : Nat → Prop) (p d fr mn : Nat) (L : LogS) (h : LogAt w T p d fr mn L) (hl : L.recs.length ≤ 100000) (hb : ∀ b ∈ L.recs, 1 ≤ b.length ∧ b.length ≤ 200) :
    Calls Try.prog 24 #[.pointer (some ⟨p, 0, none⟩)] w fun e w' => ∃ v rs, e = .returned v ∧ RecRows w w' v L.recs.length rs L.recs := by
  obtain ⟨rv, sv, rs0, hl0⟩ := h
  obtain ⟨ao, cap, hrv⟩ := row_slice hl0.recs
  have c3 : w.cell? ⟨p, 3, none⟩ = some (.slice ao L.recs.length cap) := by rw [← hrv]; exact hl0.self.c3
  obtain ⟨n, hn⟩ : ∃ n, n = L.recs.length := ⟨_, rfl⟩
  have HROW : Hid (∀ i b, L.recs[i]? = some b → ∃ g x, ao = some ⟨g, 0, none⟩ ∧ g < w.heap.size ∧ w.cell? ⟨g, i, none⟩ = some x ∧ BytesW w x b ∧ ∃ xo xc, x = .slice xo b.length xc) := by
    intro i b hi
    have hil := (List.getElem?_eq_some_iff.1 hi).1
    obtain ⟨g, cap', hv, _, hlt, _⟩ := ownsRow_some hl0.recs (by omega)
    have hv2 := hv
    rw [hrv] at hv2
    injection hv2 with e1 _ _
    obtain ⟨x, hx, hrx⟩ := hl0.rblk i b hi
    have hr := hl0.recs
    rw [hv] at hr
    obtain ⟨xo, xc, hxe⟩ := row_slice hrx.1
    exact ⟨g, x, e1, hlt, by rw [hr.cellAt i (by omega)]; exact hx, bytes_of_row hrx.1 rfl, xo, xc, hxe⟩
  rw [← hn] at c3 hl
  have HN := Lib.hid hn
  have HB := Lib.hid hb
  clear hl0 hrv hn hb
  go_enter Try.func24, Try.ntmps24
  go_wp2_with fail
  go_loopw [3, 11] (fun v z wr => ∃ (k : Nat) (rs : List Value), k ≤ n ∧ z = .int .i64 (k : Int) ∧ Hid (RecRows w wr v k rs L.recs)) (fun _ z _ => n - (intOf z).toNat)
  case atStart => exact ⟨0, [], by omega, rfl, RecRows.start _ _⟩
  case round =>
    obtain ⟨k, rs, hk, rfl, HR⟩ := hrel
    by_cases hlt : k < n
    · obtain ⟨b, hbk⟩ : ∃ b, L.recs[k]? = some b := ⟨L.recs[k]'(by rw [← HN.out]; exact hlt), by simp [show k < L.recs.length by rw [← HN.out]; exact hlt]⟩
      obtain ⟨g, x, rfl, hg, hcx, hbx, xo, xc, rfl⟩ := HROW.out k b hbk
      have hb2 := HB.out b (List.mem_of_getElem? hbk)
      have cx : wr.cell? ⟨g, k, none⟩ = some (.slice xo b.length xc) := (HR.out.below.cell (p := ⟨g, k, none⟩) hg).trans hcx
      have hcl := clone_bytes (.slice xo b.length xc) b wr (BytesW.keep' hbx (fun g' _ hg' => HR.out.below.block g' hg') HR.out.below.size) hb2.1 (by omega)
      obtain ⟨bl, hble⟩ : ∃ bl, bl = b.length := ⟨_, rfl⟩
      rw [← hble] at hcl cx
      have HBL := Lib.hid hble
      have HBK := Lib.hid hbk
      have hd : decide ((k : Int) < (n : Int)) = true := decide_eq_true (by omega)
      clear hble hbk hcx hbx hb2
      go_wp2_with fail
      refine hcl.mono ?_
      rintro e w5 ⟨hb5, y, rfl, hy⟩
      obtain ⟨yo, yc, hye⟩ := row_slice hy.1
      subst hye
      obtain ⟨v6, w6, hr6, hR6⟩ := HR.out.more HBK.out hb5 hy (by omega)
      have HR6 := Lib.hid hR6
      rw [← HBL.out] at hr6
      rw [← HBL.out]
      clear hcl hb5 hy hR6
      go_wp2_with (at_builtin; refine Lib.wpList_append_run _ rfl _ _ _ _ rfl _ _ rfl rfl _ _ hr6 ?_)
      go_roundw
      case rel => exact ⟨k + 1, _, by omega, by go_num, HR6⟩
      case measure => simp [intOf]; omega
    · obtain rfl : k = n := by omega
      have hd : decide ((k : Int) < (k : Int)) = false := decide_eq_false (by omega)
      go_wp2_with fail
      go_ret
      exact ⟨_, rs, rfl, HN.out ▸ HR.out⟩
end Go.Proofs.Ytldpflijgbcbhaa.lg

/- (*log.Log).Append: what is refused. -/
namespace Go.Proofs.Ytldpflijgbcbhaa.lg
open Go.RowKit

set_option maxRecDepth 100000 in
set_option maxHeartbeats 2000000 in
theorem append_no (vo : Option Addr) (m vc : Nat) (w : World) (p d fr mn : Nat) (L : LogS) (hs : SizeL w p mn L.stream.length L.recs.length) (hc : CellsL w p d fr mn L) (hbr : L.broken = false) (hmn : mn ≤ 200) (hlen : L.stream.length ≤ 12000) (hm : m ≤ 100000) (hC : appC L mn m ≠ 0) :
    Calls Try.prog 21 #[.pointer (some ⟨p, 0, none⟩), .slice vo m vc] w fun e w' => e = .returned (.tuple #[.int .i64 0, errV (appC L mn m)]) ∧ Below w.heap.size w w' := by
  have c9 := hc.c9
  rw [hbr] at c9
  have hrm := room_any w p mn L.stream.length L.recs.length hs hmn hlen
  obtain ⟨R, hR⟩ : ∃ R, R = 60 * (mn - 2) - L.stream.length := ⟨_, rfl⟩
  rw [← hR] at hrm
  have HC : Hid (appC L mn m = if m = 0 then 3 else if 200 < m ∨ R < m + 2 then 4 else 0) := by
    show _ = _
    unfold appC
    rw [hbr, if_neg (by simp), hR]
  have HC0 := Lib.hid hC
  clear hs hc hR hC
  by_cases h0 : m = 0
  · subst h0
    have hc3 : appC L mn 0 = 3 := by rw [HC.out, if_pos rfl]
    rw [hc3, errV_some (by decide)]
    clear hc3 HC HC0 hrm
    go_enter Try.func21, Try.ntmps21
    go_wp2_with fail
    exact bodyPost_ret (v := .tuple #[.int .i64 0, .iface 75 (.int .i64 3)]) (by simp [results, Try.results21, go_sem]) rfl ⟨rfl, Below.refl _ _⟩
  · have h4 : 200 < m ∨ R < m + 2 := by
      have := HC0.out
      rw [HC.out, if_neg h0] at this
      by_cases hx : 200 < m ∨ R < m + 2
      · exact hx
      · rw [if_neg hx] at this; exact absurd rfl this
    have hc4 : appC L mn m = 4 := by rw [HC.out, if_neg h0, if_pos h4]
    rw [hc4, errV_some (by decide)]
    have hm0 : ((m : Int) == 0) = false := by simp; omega
    clear hc4 HC HC0
    by_cases h2 : 200 < m
    · clear h4 hrm
      go_enter Try.func21, Try.ntmps21
      go_wp2_with fail
      exact bodyPost_ret (v := .tuple #[.int .i64 0, .iface 75 (.int .i64 4)]) (by simp [results, Try.results21, go_sem]) rfl ⟨rfl, Below.refl _ _⟩
    · have hrr : R < m + 2 := by omega
      clear h4
      go_enter Try.func21, Try.ntmps21
      go_wp2_with fail
      refine hrm.mono ?_
      rintro e w2 ⟨rfl, hb2⟩
      have HB2 := Lib.hid hb2
      clear hrm hb2
      go_wp2_with fail
      exact bodyPost_ret (v := .tuple #[.int .i64 0, .iface 75 (.int .i64 4)]) (by simp [results, Try.results21, go_sem]) rfl ⟨rfl, HB2.out⟩
end Go.Proofs.Ytldpflijgbcbhaa.lg
