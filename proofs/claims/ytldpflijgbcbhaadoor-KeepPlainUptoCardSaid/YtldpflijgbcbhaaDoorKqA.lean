/- KeepPlain: what is refused; entries copied into a row. -/
import Derived.Test.YtldpflijgbcbhaaDoorKpE
namespace Go.Proofs.YtldpflijgbcbhaaDoor.lg
open Go.RowKit

set_option maxRecDepth 100000 in
set_option maxHeartbeats 2000000 in
theorem kopen_no (B : Nat) (F : Nat → Prop) (w : World) (d : Nat) (M : DiskM) (h : DiskF B F w d M) (hno : M.now.length < 150 ∨ (150 ≤ M.now.length ∧ ∀ i, blkOf M.now 0 150 i = none)) :
    Calls Tryd.prog 77 #[.pointer (some ⟨d, 0, none⟩)] w (fun e w' => e = .returned (.tuple #[.pointer none, .slice none 0 0, errV 9]) ∧ Below w.heap.size w w') := by
  have h2 := (diskF_len h).1
  have hbl := blocksF B F w d M h
  rw [errV_some (by decide)]
  rcases hno with hno | ⟨h1, hb⟩
  · obtain ⟨nb, hnb⟩ : ∃ nb, nb = M.now.length := ⟨_, rfl⟩
    rw [← hnb] at hbl h2 hno
    clear h hnb
    have HB : Hid (Below w.heap.size w w) := Below.refl _ _
    go_enter Tryd.func77, Tryd.ntmps77
    go_wp2_with fail
    refine hbl.mono ?_
    rintro e w1 ⟨rfl, rfl⟩
    clear hbl
    go_wp2_with fail
    exact bodyPost_ret (v := .tuple #[.pointer none, .slice none 0 0, .iface 102 (.int .i64 9)]) (by simp [results, Tryd.results77, go_sem]) rfl ⟨rfl, HB.out⟩
  · have ho := open_any B F 0 150 w d M h (by omega) (by omega) (by omega) (fun i c _ hc => by rw [hb i] at hc; cases hc)
    rw [open_empty hb] at ho
    obtain ⟨nb, hnb⟩ : ∃ nb, nb = M.now.length := ⟨_, rfl⟩
    rw [← hnb] at hbl h1 h2
    have HD := Lib.hid h
    clear h hb hnb
    go_enter Tryd.func77, Tryd.ntmps77
    go_wp2_with fail
    refine hbl.mono ?_
    rintro e w1 ⟨rfl, rfl⟩
    clear hbl
    go_wp2_with fail
    refine ho.mono ?_
    rintro e w2 ⟨rfl, hop⟩
    obtain ⟨p, hp⟩ : ∃ p, p = w.heap.size := ⟨_, rfl⟩
    rw [← hp] at hop ⊢
    obtain ⟨hs2, hy2⟩ := Sys.of_disk HD.out hop
    have HB2 := Lib.hid hop.below
    have HP := Lib.hid hp
    have hall : Hid (Calls Tryd.prog 39 #[.pointer (some ⟨p, 0, none⟩)] w2 fun e w' => ∃ v rs, e = .returned v ∧ RecRows w2 w' v 0 rs []) := by
      obtain ⟨S, T, hs⟩ := hy2
      exact all_any w2 T p d 0 150 emptyS hs.log (Nat.zero_le _) (fun b hb => by cases hb)
    clear ho hop hs2 hy2 hp HD
    go_wp2_with fail
    refine hall.out.mono ?_
    rintro e w3 ⟨v, rsv, rfl, hrr⟩
    obtain ⟨go, gc, hv, _⟩ := row_slice' hrr.row
    subst hv
    have HB3 : Hid (Below w.heap.size w w3.drew) := (HB2.out.trans (hrr.below.mono HB2.out.size)).drew
    clear hall hrr HB2
    go_wp2_with fail
    go_big_region
    go_wp2_with fail
    exact bodyPost_ret (v := .tuple #[.pointer none, .slice none 0 0, .iface 102 (.int .i64 9)]) (by simp [results, Tryd.results77, go_sem]) rfl ⟨rfl, HB3.out⟩
set_option maxRecDepth 100000 in
theorem kload_no (B : Nat) (F : Nat → Prop) (w : World) (d : Nat) (M : DiskM) (h : DiskF B F w d M) (hno : M.now.length < 150 ∨ (150 ≤ M.now.length ∧ ∀ i, blkOf M.now 0 150 i = none)) :
    Calls Tryd.prog 42 #[.pointer (some ⟨d, 0, none⟩)] w (fun e w' => e = .returned (.tuple #[.slice none 0 0, errV 9]) ∧ Below w.heap.size w w') := by
  have hop := kopen_no B F w d M h hno
  rw [errV_some (by decide)] at hop ⊢
  clear h hno
  go_enter Tryd.func42, Tryd.ntmps42
  go_wp2_with fail
  refine hop.mono ?_
  rintro e w4 ⟨rfl, hb⟩
  have HB := Lib.hid hb
  clear hop hb
  go_wp2_with fail
  exact bodyPost_ret (v := .tuple #[.slice none 0 0, .iface 102 (.int .i64 9)]) (by simp [results, Tryd.results42, go_sem]) rfl ⟨rfl, HB.out⟩
set_option maxRecDepth 100000 in
theorem kformat_no (B : Nat) (F : Nat → Prop) (w : World) (d : Nat) (M : DiskM) (h : DiskF B F w d M) (hno : M.now.length < 150) :
    Calls Tryd.prog 43 #[.pointer (some ⟨d, 0, none⟩)] w (fun e w' => e = .returned (errV 4) ∧ w = w') := by
  have hbl := blocksF B F w d M h
  have h2 := (diskF_len h).1
  obtain ⟨nb, hnb⟩ : ∃ nb, nb = M.now.length := ⟨_, rfl⟩
  rw [← hnb] at hbl h2 hno
  rw [errV_some (by decide)]
  clear h hnb
  go_enter Tryd.func43, Tryd.ntmps43
  go_wp2_with fail
  refine hbl.mono ?_
  rintro e w1 ⟨rfl, rfl⟩
  clear hbl
  go_wp2_with fail
  go_ret
  exact ⟨rfl, rfl⟩
/-- the cells of entries, their lines as they lay in w0 -/
structure RowP (w0 : World) (xs : List Value) (es : List EntryM) : Prop where
  len : xs.length = es.length * 4
  each : ∀ i x, es[i]? = some x → ∃ lao lc, xs[i * 4]? = some (.string x.ref) ∧ xs[i * 4 + 1]? = some (.int .i64 x.ent) ∧ xs[i * 4 + 2]? = some (.int .i64 x.per) ∧ xs[i * 4 + 3]? = some (.slice lao x.lines.length lc) ∧ LinesAt w0 lao x.lines
theorem RowP.nil (w0 : World) : RowP w0 [] [] := ⟨rfl, fun i x h => by simp at h⟩
theorem RowP.append {w0 : World} {xs ys : List Value} {es fs : List EntryM} (h : RowP w0 xs es) (k : RowP w0 ys fs) : RowP w0 (xs ++ ys) (es ++ fs) := by
  refine ⟨by rw [List.length_append, List.length_append, h.len, k.len, Nat.add_mul], fun i x hi => ?_⟩
  by_cases hl : i < es.length
  · rw [List.getElem?_append_left hl] at hi
    obtain ⟨lao, lc, h0, h1, h2, h3, h4⟩ := h.each i x hi
    have hlen := h.len
    exact ⟨lao, lc, by rw [List.getElem?_append_left (by omega)]; exact h0, by rw [List.getElem?_append_left (by omega)]; exact h1, by rw [List.getElem?_append_left (by omega)]; exact h2, by rw [List.getElem?_append_left (by omega)]; exact h3, h4⟩
  · rw [List.getElem?_append_right (by omega)] at hi
    obtain ⟨lao, lc, h0, h1, h2, h3, h4⟩ := k.each _ x hi
    have hlen := h.len
    refine ⟨lao, lc, ?_, ?_, ?_, ?_, h4⟩
    · rw [List.getElem?_append_right (by omega), hlen, show i * 4 - es.length * 4 = (i - es.length) * 4 by omega]; exact h0
    · rw [List.getElem?_append_right (by omega), hlen, show i * 4 + 1 - es.length * 4 = (i - es.length) * 4 + 1 by omega]; exact h1
    · rw [List.getElem?_append_right (by omega), hlen, show i * 4 + 2 - es.length * 4 = (i - es.length) * 4 + 2 by omega]; exact h2
    · rw [List.getElem?_append_right (by omega), hlen, show i * 4 + 3 - es.length * 4 = (i - es.length) * 4 + 3 by omega]; exact h3
/-- what lies at entries -/
theorem EntsAt.cells {w0 : World} {ao : Option Addr} {es : List EntryM} (h : EntsAt w0 ao es) : ∃ ys, RowP w0 ys es ∧ (∀ u ∈ ys, u.oneCell' = true) ∧ (0 < es.length → ∃ b off, ao = some ⟨b, off, none⟩ ∧ b < w0.heap.size ∧ ∀ j u, ys[j]? = some u → w0.cell? ⟨b, off + j, none⟩ = some u) := by
  rcases h with rfl | ⟨b, off, rfl, hlt, hc⟩
  · exact ⟨[], RowP.nil _, fun u hu => (by cases hu), fun h => by simp at h⟩
  · obtain ⟨ys, hysd⟩ : ∃ ys : List Value, ys = (List.range (es.length * 4)).map fun j => (w0.cell? ⟨b, off + j, none⟩).getD .nilIface := ⟨_, rfl⟩
    have hlen : ys.length = es.length * 4 := by rw [hysd]; simp
    have hys : ∀ j u, j < es.length * 4 → w0.cell? ⟨b, off + j, none⟩ = some u → ys[j]? = some u := fun j u hj hu => by
      rw [hysd, List.getElem?_map, List.getElem?_range hj]
      simp [hu]
    have hcell : ∀ j, j < es.length * 4 → ∃ u, w0.cell? ⟨b, off + j, none⟩ = some u ∧ u.oneCell' = true := fun j hj => by
      have hi : j / 4 < es.length := by omega
      obtain ⟨lao, lc, h0, h1, h2, h3, _⟩ := hc (j / 4) _ (List.getElem?_eq_getElem hi)
      have hr : j % 4 = 0 ∨ j % 4 = 1 ∨ j % 4 = 2 ∨ j % 4 = 3 := by omega
      rcases hr with hr | hr | hr | hr
      · exact ⟨_, by rw [show off + j = off + j / 4 * 4 by omega]; exact h0, rfl⟩
      · exact ⟨_, by rw [show off + j = off + j / 4 * 4 + 1 by omega]; exact h1, rfl⟩
      · exact ⟨_, by rw [show off + j = off + j / 4 * 4 + 2 by omega]; exact h2, rfl⟩
      · exact ⟨_, by rw [show off + j = off + j / 4 * 4 + 3 by omega]; exact h3, rfl⟩
    have hback : ∀ j u, ys[j]? = some u → w0.cell? ⟨b, off + j, none⟩ = some u ∧ u.oneCell' = true := fun j u hu => by
      have hj : j < es.length * 4 := by rw [← hlen]; exact (List.getElem?_eq_some_iff.1 hu).1
      obtain ⟨u', h1, h2⟩ := hcell j hj
      have := hys j u' hj h1
      rw [hu] at this
      injection this with this
      subst this
      exact ⟨h1, h2⟩
    refine ⟨ys, ⟨hlen, fun i x hi => ?_⟩, fun u hu => ?_, fun _ => ⟨b, off, rfl, hlt, fun j u hu => (hback j u hu).1⟩⟩
    · obtain ⟨lao, lc, h0, h1, h2, h3, h4⟩ := hc i x hi
      have hil := (List.getElem?_eq_some_iff.1 hi).1
      exact ⟨lao, lc, hys _ _ (by omega) h0, hys _ _ (by omega) (by rw [← Nat.add_assoc]; exact h1), hys _ _ (by omega) (by rw [← Nat.add_assoc]; exact h2), hys _ _ (by omega) (by rw [← Nat.add_assoc]; exact h3), h4⟩
    · obtain ⟨j, hj⟩ := List.getElem?_of_mem hu
      exact (hback j u hj).2
/-- a row of entries of the law's own -/
structure RowE (w0 wr : World) (B B1 : Nat) (v : Value) (es : List EntryM) : Prop where
  below : Below B w0 wr
  ex : ∃ xs, wr.ownsRow B1 25 4 v es.length xs ∧ RowP w0 xs es
theorem RowE.start {w0 wr : World} {B B1 : Nat} (h : Below B w0 wr) : RowE w0 wr B B1 (.slice none 0 0) [] := ⟨h, [], World.ownsRow_nil _ _ _ _, RowP.nil _⟩
/-- entries of w0 appended -/
theorem RowE.app {w0 wr : World} {B B1 : Nat} {v : Value} {es fs : List EntryM} (h : RowE w0 wr B B1 v es) (hB : w0.heap.size ≤ B) (hB1 : B ≤ B1) (hB2 : B1 ≤ wr.heap.size) {ao : Option Addr} (hf : EntsAt w0 ao fs) (sc : Nat) (hn : es.length + fs.length ≤ 2000000) :
    ∃ so cap w6, (Builtin.append_ #[80, 80] 80 #[v, .slice ao fs.length sc]).run Tryd.prog wr = .ok (.slice so (es.length + fs.length) cap) w6 ∧ RowE w0 w6 B B1 (.slice so (es.length + fs.length) cap) (es ++ fs) ∧ Below B1 wr w6 := by
  obtain ⟨xs, hrow, hp⟩ := h.ex
  obtain ⟨ys, hy, hone, hsrc⟩ := EntsAt.cells hf
  obtain ⟨i0, hi0, hz0, hz1, hz2⟩ := info_parts infoEnt
  have hbase : ∀ g, v.ownBlock = some g → B1 ≤ g := fun g hg => by
    rcases hrow.2 with ⟨hv, _⟩ | ⟨g', c', cur, hv, hb, _⟩
    · rw [hv] at hg; cases hg
    · rw [hv] at hg
      have : g' = g := Option.some.inj hg
      omega
  have hfin : ∀ v6 w6, w6.ownsRow B1 25 4 v6 (es.length + fs.length) (xs ++ ys) → wr.grownBy w6 v.ownBlock → ∃ so cap, v6 = .slice so (es.length + fs.length) cap ∧ RowE w0 w6 B B1 v6 (es ++ fs) ∧ Below B1 wr w6 := fun v6 w6 hown hgrow => by
    have ho : Only (fun g => v.ownBlock = some g) wr w6 := Only.of_grown hgrow
    obtain ⟨so, cap, hv, _⟩ := row_slice' hown
    exact ⟨so, cap, hv, ⟨h.below.trans (ho.below (Nat.le_trans hB1 hB2) (fun g hg => Nat.le_trans hB1 (hbase g hg))), xs ++ ys, by rw [List.length_append]; exact hown, hp.append hy⟩, ho.below hB2 hbase⟩
  have some_case : ∀ ad : Addr, (∀ j u, ys[j]? = some u → wr.cell? (ad.add j) = some u) → ∃ so cap w6, (Builtin.append_ #[80, 80] 80 #[v, .slice (some ad) fs.length sc]).run Tryd.prog wr = .ok (.slice so (es.length + fs.length) cap) w6 ∧ RowE w0 w6 B B1 (.slice so (es.length + fs.length) cap) (es ++ fs) ∧ Below B1 wr w6 := fun ad hc => by
    obtain ⟨v', w', hr, h2, h3, _, h5⟩ := run_append_own_at (P := Tryd.prog) wr B1 80 80 25 i0 (.agg #[.string ⟨#[]⟩, .int .i64 0, .int .i64 0, .slice none 0 0]) 4 56 Tryd.underlying80 hi0 hz0 hz1 hz2 rfl (by decide) v es.length xs hrow ad fs.length sc ys hy.len hc hone (by unfold maxLen; omega) (by omega) hB2
    obtain ⟨so, cap, hv, hR, hO⟩ := hfin v' w' h2 h3
    subst hv
    exact ⟨so, cap, w', hr, hR, hO⟩
  by_cases h0 : 0 < fs.length
  · obtain ⟨b, off, rfl, hlt, hcl⟩ := hsrc h0
    exact some_case ⟨b, off, none⟩ (fun j u hj => by rw [addr_add]; exact (h.below.cell (p := ⟨b, off + j, none⟩) (by show b < B; omega)).trans (hcl j u hj))
  · have hfs : fs = [] := List.length_eq_zero_iff.1 (by omega)
    subst hfs
    have hys : ys = [] := List.length_eq_zero_iff.1 (by have := hy.len; simpa using this)
    subst hys
    cases ao with
    | some ad => exact some_case ad (fun j u h => by simp at h)
    | none =>
      obtain ⟨so, cap, hv, hR, hO⟩ := hfin v wr (by simpa using hrow) ⟨rfl, rfl, rfl, Nat.le_refl _, fun _ _ _ => rfl⟩
      rw [List.append_nil] at hR
      refine ⟨so, cap, wr, ?_, ?_, hO⟩
      · rw [← hv]
        rcases hrow.2 with ⟨rfl, hn0⟩ | ⟨g, cap', cur, rfl, hg, hh, hcap, _⟩
        · simp [Builtin.append_, run_underlying Tryd.underlying80, sizeOf, typeInfo, hi0, Builtin.lenOf, Builtin.firstCells]
        · have := run_append_room_src (P := Tryd.prog) (w := wr) 80 80 80 25 i0 Tryd.underlying80 hi0 g 0 es.length cap' _ 0 [] (Src.ofNil wr Tryd.underlying80 sc) (by omega) (fun j hj => by cases hj) (fun j hj => by cases hj)
          simpa [World.setCells] using this
      · rw [← hv, List.append_nil]; exact hR
theorem RowE.later {w0 wr wr' : World} {B B1 : Nat} {v : Value} {es : List EntryM} (h : RowE w0 wr B B1 v es) (hb : Below B wr wr') (hk : ∀ g, v.ownBlock = some g → wr'.heap[g]? = wr.heap[g]?) : RowE w0 wr' B B1 v es := by
  obtain ⟨xs, hr, hp⟩ := h.ex
  exact ⟨h.below.trans hb, xs, ownsRow_later hr hk, hp⟩
theorem RowE.ents {w0 wr : World} {B B1 : Nat} {so : Option Addr} {cap : Nat} {es : List EntryM} (h : RowE w0 wr B B1 (.slice so es.length cap) es) (hB : w0.heap.size ≤ B) : EntsAt wr so es := by
  obtain ⟨xs, hr, hp⟩ := h.ex
  rcases Nat.eq_zero_or_pos es.length with h0 | h0
  · exact Or.inl (List.length_eq_zero_iff.1 h0)
  · obtain ⟨g, cap', hv, hg, hlt, _⟩ := ownsRow_some hr h0
    injection hv with e1 _ _
    subst e1
    refine Or.inr ⟨g, 0, rfl, hlt, fun i x hi => ?_⟩
    have hil := (List.getElem?_eq_some_iff.1 hi).1
    obtain ⟨lao, lc, q0, q1, q2, q3, q4⟩ := hp.each i x hi
    rw [Nat.zero_add]
    exact ⟨lao, lc, (row_cells4 hr (by omega)).trans q0, (row_cells4 hr (by omega)).trans q1, (row_cells4 hr (by omega)).trans q2, (row_cells4 hr (by omega)).trans q3, q4.below h.below hB⟩
end Go.Proofs.YtldpflijgbcbhaaDoor.lg
