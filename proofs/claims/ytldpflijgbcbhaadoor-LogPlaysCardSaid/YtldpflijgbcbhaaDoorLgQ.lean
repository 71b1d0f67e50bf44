/- Appending to a log, in memory: the stream and the records grow. -/
import Derived.Test.YtldpflijgbcbhaaDoorLgY
namespace Go.Proofs.YtldpflijgbcbhaaDoor.lg
open Go.RowKit

theorem row_slice' {BASE n sz : Nat} {ty : TypeId} {w : World} {v : Value} {xs : List Value} (h : w.ownsRow BASE ty sz v n xs) : ∃ ao cap, v = .slice ao n cap ∧ n ≤ cap := by
  rcases h.2 with ⟨rfl, h0⟩ | ⟨g, cap, cur, rfl, _, _, hc, _⟩
  · exact ⟨none, 0, by rw [h0], by omega⟩
  · exact ⟨some ⟨g, 0, none⟩, cap, rfl, hc⟩
theorem row_two {w : World} {g : Nat} {a b : Value} (h : w.heap[g]? = some (.cells #[a, b] 5 (0, 0))) : w.ownsRow g 5 1 (.slice (some ⟨g, 0, none⟩) 2 2) 2 [a, b] :=
  ⟨rfl, Or.inr ⟨g, 2, _, rfl, Nat.le_refl _, h, Nat.le_refl _, by decide, rfl, rfl⟩⟩
section
variable {B : Nat} {F : Nat → Prop} {w w' : World} {d p fr mn : Nat} {M : DiskM} {L : LogS}
/-- the log's own block is written at will: the disk stays -/
theorem Sys.wreck (h : Sys B F w d M p fr mn L) (ho : Only (fun k => k = p) w w') : Stays B F w w' ∧ DiskF B F w' d M := by
  obtain ⟨S, T, h⟩ := h
  obtain ⟨rv, sv, rs, hl⟩ := h.log
  have hT := hl.sd
  exact ⟨⟨ho.below h.size (fun x hx => by rw [hx]; exact (h.t_ p hT).1), fun x hx => ho.block x (h.f_ x hx) (fun e => (h.t_ p hT).2 (e ▸ hx))⟩, S, h.disk.apart ho (fun x hx e => (h.s_ x hx).2.2 (e ▸ hT)), fun x hx => ⟨(h.s_ x hx).1, (h.s_ x hx).2.1⟩, Nat.le_trans h.size ho.size, fun x hx => Nat.lt_of_lt_of_le (h.f_ x hx) ho.size⟩
/-- the stream grows by a record -/
theorem app_stream (h : Sys B F w d M p fr mn L) {v : Value} {b : List UInt8} (hb : BytesW w v b) (hvb : ∀ g, v.ownBlock = some g → F g ∨ g < B) (h2 : b.length ≤ 200) (hlen : L.stream.length ≤ 12000) :
    ∃ ao cap v1 w3 ao2 cap2 w4, w.cell? ⟨p, 4, none⟩ = some (.slice ao L.stream.length cap) ∧
      (Builtin.append_ #[22, 22] 22 #[.slice ao L.stream.length cap, .slice (some ⟨w.heap.size, 0, none⟩) 2 2]).run Tryd.prog (w.alloc (.cells #[.int .u8 ((b.length : Int) / 256), .int .u8 (b.length : Int)] 5)) = .ok v1 w3 ∧
      (Builtin.append_ #[22, 22] 22 #[v1, v]).run Tryd.prog w3 = .ok (.slice ao2 (L.stream ++ enc1 b).length cap2) w4 ∧ (L.stream ++ enc1 b).length ≤ cap2 ∧
      w4.cell? ⟨p, 4, none⟩ = some (.slice ao L.stream.length cap) ∧ w4.frozen? ⟨p, 4, none⟩ = false ∧
      Stays B F w (w4.setCell ⟨p, 4, none⟩ (.slice ao2 (L.stream ++ enc1 b).length cap2)) ∧ Sys B F (w4.setCell ⟨p, 4, none⟩ (.slice ao2 (L.stream ++ enc1 b).length cap2)) d M p fr mn { L with stream := L.stream ++ enc1 b } := by
  obtain ⟨S, T, h⟩ := h
  obtain ⟨rv, sv, rs, hl⟩ := h.log
  obtain ⟨ao, cap, hsv⟩ := row_slice hl.stream
  obtain ⟨V, hV⟩ : ∃ V, V = w.alloc (.cells #[.int .u8 ((b.length : Int) / 256), .int .u8 (b.length : Int)] 5) := ⟨_, rfl⟩
  have hbV : Below w.heap.size w V := by rw [hV]; exact (Below.refl _ _).alloc (Nat.le_refl _) _
  have hnew : V.heap[w.heap.size]? = some (.cells #[.int .u8 ((b.length : Int) / 256), .int .u8 (b.length : Int)] 5 (0, 0)) := by rw [hV]; exact heap_new_at rfl _
  have hsz : V.heap.size = w.heap.size + 1 := by rw [hV]; exact Array.size_push _
  have h2l : BytesW V (.slice (some ⟨w.heap.size, 0, none⟩) 2 2) [UInt8.ofNat (b.length / 256), UInt8.ofNat b.length] := by
    have h3 := row_two hnew
    have e : ([.int .u8 ((b.length : Int) / 256), .int .u8 (b.length : Int)] : List Value) = [UInt8.ofNat (b.length / 256), UInt8.ofNat b.length].map byteV := by
      simp only [List.map_cons, List.map_nil, byteV, UInt8.toNat_ofNat']
      have e1 : ((b.length / 256 % 2 ^ 8 : Nat) : Int) = (b.length : Int) / 256 := by omega
      have e2 : ((b.length % 2 ^ 8 : Nat) : Int) = (b.length : Int) := by omega
      rw [e1, e2]
    rw [e] at h3
    exact bytes_of_row h3 rfl
  have hownV : V.ownsRow 0 5 1 sv L.stream.length (L.stream.map byteV) := ownsRow_later hl.stream (fun g hg => hbV.block g (hl.dom g (hl.ssb g hg).1))
  obtain ⟨v1, w3, hr1, hown1, hgrow1, hblk1⟩ := run_append_bytes hownV h2l (by simp; omega) (Nat.zero_le _) 22
  have hm1 : Moved w w3 sv v1 := by rw [hV] at hgrow1 hsz hblk1; exact Moved.append hgrow1 (by rw [hsz] at hblk1; exact hblk1)
  have hb3 : BytesW w3 v b := by
    rcases Nat.eq_zero_or_pos b.length with hb0 | hb0
    · obtain ⟨sp, c, rfl, _⟩ := hb
      exact ⟨sp, c, rfl, fun h1 => by omega⟩
    · obtain ⟨sp, c, rfl, hc⟩ := hb
      obtain ⟨g, o, rfl, hlt, hcc⟩ := hc hb0
      refine ⟨_, c, rfl, fun _ => ⟨g, o, rfl, Nat.lt_of_lt_of_le hlt hm1.only.size, fun j u hj => (World.cell?_of_block (hm1.only.block g hlt (fun e => ?_))).trans (hcc j u hj)⟩⟩
      have ht := (h.t_ g (hl.ssb g e).1)
      rcases hvb g rfl with hf | hf
      · exact ht.2 hf
      · omega
  obtain ⟨v2, w4, hr2, hown2, hgrow2, hblk2⟩ := run_append_bytes hown1 hb3 (by simp; omega) (Nat.zero_le _) 22
  have hm : Moved w w4 sv v2 := hm1.trans (Moved.append0 hgrow2 hblk2)
  have hown : w4.ownsRow 0 5 1 v2 (L.stream ++ enc1 b).length ((L.stream ++ enc1 b).map byteV) := ownsRow_cast hown2 (by rw [List.length_append, enc1_len]; simp only [List.length_cons, List.length_nil]; omega) (by rw [@List.map_append, List.append_assoc]; rfl)
  obtain ⟨g1, g2, _, g4, g5⟩ := hl.stream_end hm hown
  obtain ⟨k1, k2⟩ := h.own_step g4 ⟨_, _, _, g5⟩
  rw [hsv] at hr1 g1
  rw [hV] at hr1
  obtain ⟨ao2, cap2, hv2, hc2⟩ := row_slice' hown
  subst hv2
  exact ⟨ao, cap, v1, w3, ao2, cap2, w4, by rw [← hsv]; exact hl.self.c4, hr1, hr2, hc2, g1, g2, k1, S, _, k2⟩
/-- a record more -/
theorem app_recs (h : Sys B F w d M p fr mn L) {rv x : Value} {b : List UInt8} (hrv : w.cell? ⟨p, 3, none⟩ = some rv) {w5 : World} (hb5 : Below w.heap.size w w5) (hx : RecAt w5 (fun k => w.heap.size ≤ k ∧ k < w5.heap.size) x b) (hlen : L.recs.length ≤ 100000) :
    ∃ ao6 cap6 w6, (Builtin.append_ #[66, 66] 66 #[rv, .slice (some ⟨w5.heap.size, 0, none⟩) 1 1]).run Tryd.prog (w5.alloc (.cells #[x] 22)) = .ok (.slice ao6 (L.recs.length + 1) cap6) w6 ∧ L.recs.length + 1 ≤ cap6 ∧
      w5.cell? ⟨p, 3, none⟩ = some rv ∧ w6.cell? ⟨p, 3, none⟩ = some rv ∧ w6.frozen? ⟨p, 3, none⟩ = false ∧
      Stays B F w (w6.setCell ⟨p, 3, none⟩ (.slice ao6 (L.recs.length + 1) cap6)) ∧ Sys B F (w6.setCell ⟨p, 3, none⟩ (.slice ao6 (L.recs.length + 1) cap6)) d M p fr mn { L with recs := L.recs ++ [b] } := by
  obtain ⟨S, T, h⟩ := h
  obtain ⟨rv', sv, rs, hl⟩ := h.log
  have hrr : rv' = rv := by have := hl.self.c3; rw [hrv] at this; injection this with this; exact this.symm
  subst hrr
  have hl5 := hl.grow hb5
  have hF : ∀ x, F x → x < w.heap.size := h.f_
  have h5 : SysIs B F S (Grow T w w5) w5 d M p fr mn L := by
    have ho : Only T w w5 := Only.of_below hb5
    exact (h.own_step ho ⟨_, _, _, hl5⟩).2
  have hst5 : Stays B F w w5 := Stays.of_below hb5 h.size hF
  obtain ⟨V, hV⟩ : ∃ V, V = w5.alloc (.cells #[x] 22) := ⟨_, rfl⟩
  have hbV : Below w5.heap.size w5 V := by rw [hV]; exact (Below.refl _ _).alloc (Nat.le_refl _) _
  have hnew : V.heap[w5.heap.size]? = some (.cells #[x] 22 (0, 0)) := by rw [hV]; exact heap_new_at rfl _
  have hsz : V.heap.size = w5.heap.size + 1 := by rw [hV]; exact Array.size_push _
  have hx1 : x.oneCell' = true := by
    rcases hx.1.2 with ⟨hv, _⟩ | ⟨g, cap, cur, hv, _⟩ <;> rw [hv] <;> rfl
  have hownV : V.ownsRow 0 22 1 rv' L.recs.length rs := ownsRow_later hl5.recs (fun g hg => hbV.block g (hl5.dom g (hl5.rsb g hg).1))
  obtain ⟨v6, w6, hr, hown, hgrow, hblk⟩ := run_append_rec hownV (cell_of_heap hnew 0) hx1 (by omega) (Nat.zero_le _) 66
  have hm : Moved w5 w6 rv' v6 := by rw [hV] at hgrow hsz hblk; exact Moved.append hgrow (by rw [hsz] at hblk; exact hblk)
  have hx5 : RecAt w5 (fun k => Grow T w w5 k ∧ k ≠ p ∧ rv'.ownBlock ≠ some k ∧ sv.ownBlock ≠ some k) x b := ⟨hx.1, fun g hg => by
    have hg2 := hx.2 g hg
    refine ⟨Or.inr hg2, ?_, fun e => ?_, fun e => ?_⟩
    · have := hl.dom p hl.sd; omega
    · have := hl.dom g (hl.rsb g e).1; omega
    · have := hl.dom g (hl.ssb g e).1; omega⟩
  obtain ⟨g1, g2, g3, g4⟩ := hl5.recs_end hx5 hm hown
  obtain ⟨k1, k2⟩ := h5.own_step g3 ⟨_, _, _, g4⟩
  rw [hV] at hr
  obtain ⟨ao6, cap6, hv6, hc6⟩ := row_slice' hown
  subst hv6
  exact ⟨ao6, cap6, w6, hr, hc6, hl5.self.c3, g1, g2, hst5.trans k1, S, _, k2⟩
end
end Go.Proofs.YtldpflijgbcbhaaDoor.lg
