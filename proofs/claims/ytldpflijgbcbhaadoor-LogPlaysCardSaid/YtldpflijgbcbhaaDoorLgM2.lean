/- Opening a log, in memory: the records, and the end. -/
import Derived.Test.YtldpflijgbcbhaaDoorLgL
namespace Go.Proofs.YtldpflijgbcbhaaDoor.lg
open Go.RowKit

theorem row_take {BASE n cap g a sz : Nat} {ty : TypeId} {w : World} {xs : List Value} (h : w.ownsRow BASE ty 1 (.slice (some ⟨g, 0, none⟩) n cap) n xs) (ha : a ≤ n) : w.ownsRow BASE ty 1 (.slice (some ⟨g, 0, none⟩) a cap) a (xs.take a) := by
  obtain ⟨h1, h2⟩ := h
  rcases h2 with ⟨h2, _⟩ | ⟨g', cap', cur, h2, h3, h4, h5, h6, h7, h8⟩
  · injection h2 with h2 _ _; cases h2
  · injection h2 with e1 _ e3
    injection e1 with e1
    injection e1 with e1 _ _
    subst e1; subst e3
    refine ⟨by rw [List.length_take]; omega, Or.inr ⟨g, cap, cur, rfl, h3, h4, by omega, h6, h7, ?_⟩⟩
    rw [← h8, List.take_take]
    congr 1; omega
/-- the stream is cut -/
theorem OpAt.cut {w wr : World} {p d fr mn : Nat} {L : LogS} (h : OpAt w wr p d fr mn L) {g cap a : Nat} (hs : wr.cell? ⟨p, 4, none⟩ = some (.slice (some ⟨g, 0, none⟩) L.stream.length cap)) (ha : a ≤ L.stream.length) : OpAt w (wr.setCell ⟨p, 4, none⟩ (.slice (some ⟨g, 0, none⟩) a cap)) p d fr mn { L with stream := L.stream.take a } := by
  obtain ⟨rv, sv, rs, h⟩ := h
  have hsv : sv = .slice (some ⟨g, 0, none⟩) L.stream.length cap := by have := h.log.self.c4; rw [hs] at this; injection this with this; exact this.symm
  have hr := h.log.stream
  rw [hsv] at hr
  have h2 := row_take (sz := 1) hr ha
  refine h.strm (sv2 := .slice (some ⟨g, 0, none⟩) a cap) (s' := L.stream.take a) ⟨Only.refl _ _, Or.inl (by rw [hsv]; rfl)⟩ ?_
  rw [← List.map_take] at h2
  exact ownsRow_cast h2 (by rw [List.length_take]; omega) rfl
/-- what it was, written again -/
theorem OpAt.nil4 {w wr : World} {p d fr mn : Nat} {L : LogS} (h : OpAt w wr p d fr mn L) (hs : wr.cell? ⟨p, 4, none⟩ = some (.slice none 0 0)) (h0 : L.stream = []) : OpAt w (wr.setCell ⟨p, 4, none⟩ (.slice none 0 0)) p d fr mn { L with stream := [] } := by
  obtain ⟨rv, sv, rs, h⟩ := h
  have hsv : sv = .slice none 0 0 := by have := h.log.self.c4; rw [hs] at this; injection this with this; exact this.symm
  exact h.strm (sv2 := .slice none 0 0) (s' := []) ⟨Only.refl _ _, Or.inl (by rw [hsv])⟩ (World.ownsRow_nil _ _ _ _)
theorem OpAt.stream {w wr : World} {p d fr mn : Nat} {L : LogS} (h : OpAt w wr p d fr mn L) : (L.stream = [] ∧ wr.cell? ⟨p, 4, none⟩ = some (.slice none 0 0)) ∨ ∃ g cap, wr.cell? ⟨p, 4, none⟩ = some (.slice (some ⟨g, 0, none⟩) L.stream.length cap) ∧ BytesW wr (.slice (some ⟨g, 0, none⟩) L.stream.length cap) L.stream ∧ g < wr.heap.size ∧ L.stream.length ≤ cap ∧ ∀ j, j < L.stream.length → wr.cell? ⟨g, j, none⟩ = some (.int .u8 (bAt L.stream j : Nat)) := by
  obtain ⟨rv, sv, rs, h⟩ := h
  have hl := h.log
  have hr := hl.stream
  rcases hr.2 with ⟨e, e0⟩ | ⟨g, cap, cur, e, _, hh, hc, _⟩
  · refine Or.inl ⟨List.length_eq_zero_iff.1 e0, ?_⟩
    have := hl.self.c4
    rw [e] at this; exact this
  · refine Or.inr ⟨g, cap, ?_, ?_, lt_of_heap hh, hc, fun j hj => ?_⟩
    · have := hl.self.c4
      rw [e] at this; exact this
    · rw [e] at hr; exact bytes_of_row hr rfl
    · rw [e] at hr
      rw [hr.cellAt j (by omega), List.getElem?_map, List.getElem?_eq_getElem hj]
      simp [byteV, bAt, List.getD_eq_getElem?_getD, List.getElem?_eq_getElem hj]
/-- a record more -/
theorem op_recs {w wr : World} {p d fr mn : Nat} {L : LogS} (h : OpAt w wr p d fr mn L) {rv x : Value} {b : List UInt8} (hrv : wr.cell? ⟨p, 3, none⟩ = some rv) {w5 : World} (hb5 : Below wr.heap.size wr w5) (hx : RecAt w5 (fun k => wr.heap.size ≤ k ∧ k < w5.heap.size) x b) (hlen : L.recs.length ≤ 100000) :
    ∃ ao6 cap6 w6, (Builtin.append_ #[66, 66] 66 #[rv, .slice (some ⟨w5.heap.size, 0, none⟩) 1 1]).run Tryd.prog (w5.alloc (.cells #[x] 22)) = .ok (.slice ao6 (L.recs.length + 1) cap6) w6 ∧
      w5.cell? ⟨p, 3, none⟩ = some rv ∧ w6.cell? ⟨p, 3, none⟩ = some rv ∧ w6.frozen? ⟨p, 3, none⟩ = false ∧ p < w5.heap.size ∧
      OpAt w (w6.setCell ⟨p, 3, none⟩ (.slice ao6 (L.recs.length + 1) cap6)) p d fr mn { L with recs := L.recs ++ [b] } := by
  have hw := h.below.size
  obtain ⟨rv', sv, rs, h⟩ := h
  have hl := h.log
  have hrr : rv' = rv := by have := hl.self.c3; rw [hrv] at this; injection this with this; exact this.symm
  subst hrr
  have h5 := h.later hb5
  have hl5 := h5.log
  obtain ⟨V, hV⟩ : ∃ V, V = w5.alloc (.cells #[x] 22) := ⟨_, rfl⟩
  have hbV : Below w5.heap.size w5 V := by rw [hV]; exact (Below.refl _ _).alloc (Nat.le_refl _) _
  have hnew : V.heap[w5.heap.size]? = some (.cells #[x] 22 (0, 0)) := by rw [hV]; exact heap_new_at rfl _
  have hsz : V.heap.size = w5.heap.size + 1 := by rw [hV]; exact Array.size_push _
  have hx1 : x.oneCell' = true := by
    rcases hx.1.2 with ⟨hv, _⟩ | ⟨g, cap, cur, hv, _⟩ <;> rw [hv] <;> rfl
  have hownV : V.ownsRow 0 22 1 rv' L.recs.length rs := ownsRow_later hl5.recs (fun g hg => hbV.block g (hl5.dom g (hl5.rsb g hg).1))
  obtain ⟨v6, w6, hr, hown, hgrow, hblk⟩ := run_append_rec hownV (cell_of_heap hnew 0) hx1 (by omega) (Nat.zero_le _) 66
  have hm : Moved w5 w6 rv' v6 := by rw [hV] at hgrow hsz hblk; exact Moved.append hgrow (by rw [hsz] at hblk; exact hblk)
  have hx5 : RecAt w5 (fun k => Fresh w w5 k ∧ k ≠ p ∧ rv'.ownBlock ≠ some k ∧ sv.ownBlock ≠ some k) x b := ⟨hx.1, fun g hg => by
    have hg2 := hx.2 g hg
    refine ⟨⟨by omega, hg2.2⟩, ?_, fun e => ?_, fun e => ?_⟩
    · have := hl.dom p hl.sd; omega
    · have := hl.dom g (hl.rsb g e).1; omega
    · have := hl.dom g (hl.ssb g e).1; omega⟩
  obtain ⟨g1, g2, g3, g4⟩ := hl5.recs_end hx5 hm hown
  have hst := h5.rec1 hx5 hm hown
  rw [hV] at hr
  obtain ⟨ao6, cap6, hv6, hc6⟩ := row_slice' hown
  subst hv6
  exact ⟨ao6, cap6, w6, hr, hl5.self.c3, g1, g2, hl5.dom p hl5.sd, hst⟩
/-- what is opened -/
theorem openS_is {blk : Nat → Option Chk} {mn : Nat} {o : OpS} (he : o.stream = (openGo blk (mn + 2) 0 op0).stream ∧ o.epoch = (openGo blk (mn + 2) 0 op0).epoch ∧ o.bare = (openGo blk (mn + 2) 0 op0).bare ∧ o.safe = (openGo blk (mn + 2) 0 op0).safe) {rs : List (List UInt8)} {a : Nat} (hp : parse o.stream.length o.stream = rs) (ht : o.stream.take a = enc rs) (ha : a ≤ o.stream.length) {b : Bool} (hb : b = bareOf o a) :
    openS blk mn = ⟨rs, o.stream.take a, epAll blk mn o.epoch + 1, o.safe, false, b, false⟩ := by
  obtain ⟨h1, h2, h3, h4⟩ := he
  have hal : (enc rs).length = a := by rw [← ht, List.length_take]; omega
  unfold openS
  rw [← h1, ← h2, ← h4, hp, hal, ht, hb]
  unfold bareOf
  rw [← h1, ← h3]
end Go.Proofs.YtldpflijgbcbhaaDoor.lg
