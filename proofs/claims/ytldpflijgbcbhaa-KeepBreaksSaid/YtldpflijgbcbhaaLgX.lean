/- Appending to a log, in memory: the stream and the records grow. -/
import Derived.Test.YtldpflijgbcbhaaLgY
import Derived.Deep.RegionHeld3
import Derived.Deep.RegionLaw
namespace Go.Proofs.Ytldpflijgbcbhaa.lg
open Go.RowKit

theorem row_slice' {BASE n sz : Nat} {ty : TypeId} {w : World} {v : Value} {xs : List Value} (h : w.ownsRow BASE ty sz v n xs) : ∃ ao cap, v = .slice ao n cap ∧ n ≤ cap := by
  rcases h.2 with ⟨rfl, h0⟩ | ⟨g, cap, cur, rfl, _, _, hc, _⟩
  · exact ⟨none, 0, by rw [h0], by omega⟩
  · exact ⟨some ⟨g, 0, none⟩, cap, rfl, hc⟩
theorem row_two {w : World} {g : Nat} {a b : Value} (h : w.heap[g]? = some (.cells #[a, b] 5 (0, 0))) : w.ownsRow g 5 1 (.slice (some ⟨g, 0, none⟩) 2 2) 2 [a, b] :=
  ⟨rfl, Or.inr ⟨g, 2, _, rfl, Nat.le_refl _, h, Nat.le_refl _, by decide, rfl, rfl⟩⟩
section
variable {B : Nat} {F : Nat → Prop} {w w' : World} {d p fr mn : Nat} {M : DiskM} {L : LogS}
/-- the log's own block is written at will: the disk stays -/
theorem Sys.wreck (h : Sys B F w d M p fr mn L) (ho : Only (fun k => k = p) w w') : Stays B F w w' ∧ DiskF B F w' d M := by
  obtain ⟨S, T, h⟩ := h
  obtain ⟨rv, sv, rs, hl⟩ := h.log
  have hT := hl.sd
  exact ⟨⟨ho.below h.size (fun x hx => by rw [hx]; exact (h.t_ p hT).1), fun x hx => ho.block x (h.f_ x hx) (fun e => (h.t_ p hT).2 (e ▸ hx))⟩, S, h.disk.apart ho (fun x hx e => (h.s_ x hx).2.2 (e ▸ hT)), fun x hx => ⟨(h.s_ x hx).1, (h.s_ x hx).2.1⟩, Nat.le_trans h.size ho.size, fun x hx => Nat.lt_of_lt_of_le (h.f_ x hx) ho.size⟩
/-- the stream grows by a record -/
theorem app_stream (h : Sys B F w d M p fr mn L) {v : Value} {b : List UInt8} (hb : BytesW w v b) (hvb : ∀ g, v.ownBlock = some g → F g ∨ g < B) (h2 : b.length ≤ 200) (hlen : L.stream.length ≤ 12000) :
    ∃ ao cap v1 w3 ao2 cap2 w4, w.cell? ⟨p, 4, none⟩ = some (.slice ao L.stream.length cap) ∧
      (Builtin.append_ #[23, 23] 23 #[.slice ao L.stream.length cap, .slice (some ⟨w.heap.size, 0, none⟩) 2 2]).run Try.prog (w.alloc (.cells #[.int .u8 ((b.length : Int) / 256), .int .u8 (b.length : Int)] 5)) = .ok v1 w3 ∧
      (Builtin.append_ #[23, 23] 23 #[v1, v]).run Try.prog w3 = .ok (.slice ao2 (L.stream ++ enc1 b).length cap2) w4 ∧ (L.stream ++ enc1 b).length ≤ cap2 ∧
      w4.cell? ⟨p, 4, none⟩ = some (.slice ao L.stream.length cap) ∧ w4.frozen? ⟨p, 4, none⟩ = false ∧
      Stays B F w (w4.setCell ⟨p, 4, none⟩ (.slice ao2 (L.stream ++ enc1 b).length cap2)) ∧ Sys B F (w4.setCell ⟨p, 4, none⟩ (.slice ao2 (L.stream ++ enc1 b).length cap2)) d M p fr mn { L with stream := L.stream ++ enc1 b } := by
  obtain ⟨S, T, h⟩ := h
  obtain ⟨rv, sv, rs, hl⟩ := h.log
  obtain ⟨ao, cap, hsv⟩ := row_slice hl.stream
  obtain ⟨V, hV⟩ : ∃ V, V = w.alloc (.cells #[.int .u8 ((b.length : Int) / 256), .int .u8 (b.length : Int)] 5) := ⟨_, rfl⟩
  have hbV : Below w.heap.size w V := by rw [hV]; exact (Below.refl _ _).alloc (Nat.le_refl _) _
  have hnew : V.heap[w.heap.size]? = some (.cells #[.int .u8 ((b.length : Int) / 256), .int .u8 (b.length : Int)] 5 (0, 0)) := by rw [hV]; exact heap_new_at rfl _
  have hsz : V.heap.size = w.heap.size + 1 := by rw [hV]; exact Array.size_push _
  have h2l : BytesW V (.slice (some ⟨w.heap.size, 0, none⟩) 2 2) [UInt8.ofNat (b.length / 256), UInt8.ofNat b.length] := by
    have h3 := row_two hnew
    have e : ([.int .u8 ((b.length : Int) / 256), .int .u8 (b.length : Int)] : List Value) = [UInt8.ofNat (b.length / 256), UInt8.ofNat b.length].map byteV := by
      simp only [List.map_cons, List.map_nil, byteV, UInt8.toNat_ofNat']
      have e1 : ((b.length / 256 % 2 ^ 8 : Nat) : Int) = (b.length : Int) / 256 := by omega
      have e2 : ((b.length % 2 ^ 8 : Nat) : Int) = (b.length : Int) := by omega
      rw [e1, e2]
    rw [e] at h3
    exact bytes_of_row h3 rfl
  have hownV : V.ownsRow 0 5 1 sv L.stream.length (L.stream.map byteV) := ownsRow_later hl.stream (fun g hg => hbV.block g (hl.dom g (hl.ssb g hg).1))
  obtain ⟨v1, w3, hr1, hown1, hgrow1, hblk1⟩ := run_append_bytes hownV h2l (by simp; omega) (Nat.zero_le _) 23
  have hm1 : Moved w w3 sv v1 := by rw [hV] at hgrow1 hsz hblk1; exact Moved.append hgrow1 (by rw [hsz] at hblk1; exact hblk1)
  have hb3 : BytesW w3 v b := by
    rcases Nat.eq_zero_or_pos b.length with hb0 | hb0
    · obtain ⟨sp, c, rfl, _⟩ := hb
      exact ⟨sp, c, rfl, fun h1 => by omega⟩
    · obtain ⟨sp, c, rfl, hc⟩ := hb
      obtain ⟨g, o, rfl, hlt, hcc⟩ := hc hb0
      refine ⟨_, c, rfl, fun _ => ⟨g, o, rfl, Nat.lt_of_lt_of_le hlt hm1.only.size, fun j u hj => (World.cell?_of_block (hm1.only.block g hlt (fun e => ?_))).trans (hcc j u hj)⟩⟩
      have ht := (h.t_ g (hl.ssb g e).1)
      rcases hvb g rfl with hf | hf
      · exact ht.2 hf
      · omega
  obtain ⟨v2, w4, hr2, hown2, hgrow2, hblk2⟩ := run_append_bytes hown1 hb3 (by simp; omega) (Nat.zero_le _) 23
  have hm : Moved w w4 sv v2 := hm1.trans (Moved.append0 hgrow2 hblk2)
  have hown : w4.ownsRow 0 5 1 v2 (L.stream ++ enc1 b).length ((L.stream ++ enc1 b).map byteV) := ownsRow_cast hown2 (by rw [List.length_append, enc1_len]; simp only [List.length_cons, List.length_nil]; omega) (by rw [@List.map_append, List.append_assoc]; rfl)
  obtain ⟨g1, g2, _, g4, g5⟩ := hl.stream_end hm hown
  obtain ⟨k1, k2⟩ := h.own_step g4 ⟨_, _, _, g5⟩
  rw [hsv] at hr1 g1
  rw [hV] at hr1
  obtain ⟨ao2, cap2, hv2, hc2⟩ := row_slice' hown
  subst hv2
  exact ⟨ao, cap, v1, w3, ao2, cap2, w4, by rw [← hsv]; exact hl.self.c4, hr1, hr2, hc2, g1, g2, k1, S, _, k2⟩
/-- a record more -/
theorem app_recs (h : Sys B F w d M p fr mn L) {rv x : Value} {b : List UInt8} (hrv : w.cell? ⟨p, 3, none⟩ = some rv) {w5 : World} (hb5 : Below w.heap.size w w5) (hx : RecAt w5 (fun k => w.heap.size ≤ k ∧ k < w5.heap.size) x b) (hlen : L.recs.length ≤ 100000) :
    ∃ ao6 cap6 w6, (Builtin.append_ #[56, 56] 56 #[rv, .slice (some ⟨w5.heap.size, 0, none⟩) 1 1]).run Try.prog (w5.alloc (.cells #[x] 23)) = .ok (.slice ao6 (L.recs.length + 1) cap6) w6 ∧ L.recs.length + 1 ≤ cap6 ∧
      w5.cell? ⟨p, 3, none⟩ = some rv ∧ w6.cell? ⟨p, 3, none⟩ = some rv ∧ w6.frozen? ⟨p, 3, none⟩ = false ∧
      Stays B F w (w6.setCell ⟨p, 3, none⟩ (.slice ao6 (L.recs.length + 1) cap6)) ∧ Sys B F (w6.setCell ⟨p, 3, none⟩ (.slice ao6 (L.recs.length + 1) cap6)) d M p fr mn { L with recs := L.recs ++ [b] } := by
  obtain ⟨S, T, h⟩ := h
  obtain ⟨rv', sv, rs, hl⟩ := h.log
  have hrr : rv' = rv := by have := hl.self.c3; rw [hrv] at this; injection this with this; exact this.symm
  subst hrr
  have hl5 := hl.grow hb5
  have hF : ∀ x, F x → x < w.heap.size := h.f_
  have h5 : SysIs B F S (Grow T w w5) w5 d M p fr mn L := by
    have ho : Only T w w5 := Only.of_below hb5
    exact (h.own_step ho ⟨_, _, _, hl5⟩).2
  have hst5 : Stays B F w w5 := Stays.of_below hb5 h.size hF
  obtain ⟨V, hV⟩ : ∃ V, V = w5.alloc (.cells #[x] 23) := ⟨_, rfl⟩
  have hbV : Below w5.heap.size w5 V := by rw [hV]; exact (Below.refl _ _).alloc (Nat.le_refl _) _
  have hnew : V.heap[w5.heap.size]? = some (.cells #[x] 23 (0, 0)) := by rw [hV]; exact heap_new_at rfl _
  have hsz : V.heap.size = w5.heap.size + 1 := by rw [hV]; exact Array.size_push _
  have hx1 : x.oneCell' = true := by
    rcases hx.1.2 with ⟨hv, _⟩ | ⟨g, cap, cur, hv, _⟩ <;> rw [hv] <;> rfl
  have hownV : V.ownsRow 0 23 1 rv' L.recs.length rs := ownsRow_later hl5.recs (fun g hg => hbV.block g (hl5.dom g (hl5.rsb g hg).1))
  obtain ⟨v6, w6, hr, hown, hgrow, hblk⟩ := run_append_rec hownV (cell_of_heap hnew 0) hx1 (by omega) (Nat.zero_le _) 56
  have hm : Moved w5 w6 rv' v6 := by rw [hV] at hgrow hsz hblk; exact Moved.append hgrow (by rw [hsz] at hblk; exact hblk)
  have hx5 : RecAt w5 (fun k => Grow T w w5 k ∧ k ≠ p ∧ rv'.ownBlock ≠ some k ∧ sv.ownBlock ≠ some k) x b := ⟨hx.1, fun g hg => by
    have hg2 := hx.2 g hg
    refine ⟨Or.inr hg2, ?_, fun e => ?_, fun e => ?_⟩
    · have := hl.dom p hl.sd; omega
    · have := hl.dom g (hl.rsb g e).1; omega
    · have := hl.dom g (hl.ssb g e).1; omega⟩
  obtain ⟨g1, g2, g3, g4⟩ := hl5.recs_end hx5 hm hown
  obtain ⟨k1, k2⟩ := h5.own_step g3 ⟨_, _, _, g4⟩
  rw [hV] at hr
  obtain ⟨ao6, cap6, hv6, hc6⟩ := row_slice' hown
  subst hv6
  exact ⟨ao6, cap6, w6, hr, hc6, hl5.self.c3, g1, g2, hst5.trans k1, S, _, k2⟩
end
end Go.Proofs.Ytldpflijgbcbhaa.lg

/- (*log.Log).Append walked, where all goes well. -/
namespace Go.Proofs.Ytldpflijgbcbhaa.lg
open Go.RowKit

theorem putsR_start (M : DiskM) (fr : Nat) (L : LogS) (k n : Nat) : putsR M fr L k n = putsR M fr L k (n + k - k) := by rw [Nat.add_sub_cancel]
theorem putsR_step {M : DiskM} {fr : Nat} {L : LogS} {k e : Nat} (h : k < e) (hc : putC M fr L k = 0) : putsR M fr L k (e - k) = putsR (putM M fr L k) fr L (k + 1) (e - (k + 1)) := by
  rw [show e - k = (e - (k + 1)) + 1 by omega, putsR, if_pos hc]
theorem putsR_bad {M : DiskM} {fr : Nat} {L : LogS} {k e : Nat} (h : k < e) (hc : putC M fr L k ≠ 0) : (putsR M fr L k (e - k)).2 ≠ 0 := by
  rw [show e - k = (e - (k + 1)) + 1 by omega, putsR, if_neg hc]; exact hc
theorem chunks_end {s x : List UInt8} (k : Nat) (hk : s.length / 60 ≤ k) : (k < s.length / 60 + chunks s x ↔ 60 * k < (s ++ x).length) := by
  unfold chunks
  have := @List.length_append _ s x
  omega

set_option maxRecDepth 100000 in
set_option maxHeartbeats 4000000 in
theorem append_ok (B : Nat) (F : Nat → Prop) (v : Value) (b : List UInt8) (w : World) (p d fr mn : Nat) (M : DiskM) (L : LogS) (h : Sys B F w d M p fr mn L) (hv : BytesW w v b) (hvb : ∀ g, v.ownBlock = some g → F g ∨ g < B)
    (hbr : L.broken = false) (hba : L.bare = false) (h1 : 1 ≤ b.length) (h2 : b.length ≤ 200) (hroom : L.stream.length + b.length + 2 ≤ 60 * (mn - 2)) (hmn : mn ≤ 200) (hsf : L.safe < 2) (hE : L.epoch ≤ 65535) (hfr : fr ≤ 1000) (hrl : L.recs.length ≤ 100000) (hst : M.steps ≤ 100000000) (hsi : M.since.length ≤ 100000000)
    (hok : (putsR M fr (L.add b) (L.stream.length / 60) (chunks L.stream (enc1 b))).2 = 0) :
    Calls Try.prog 21 #[.pointer (some ⟨p, 0, none⟩), v] w (StepL B F w d (.tuple #[.int .i64 L.recs.length, .nilIface]) (putsR M fr (L.add b) (L.stream.length / 60) (chunks L.stream (enc1 b))).1 p fr mn (L.add b)) := by
  obtain ⟨m, hm⟩ : ∃ m, m = b.length := ⟨_, rfl⟩
  obtain ⟨vo, vc, hvv⟩ : ∃ vo vc, v = .slice vo m vc := by obtain ⟨sp, c, e, _⟩ := hv; exact ⟨sp, c, by rw [hm]; exact e⟩
  have hlen : L.stream.length ≤ 12000 := by omega
  have hsize := h.size'
  have hrm := room_any w p mn L.stream.length L.recs.length hsize hmn hlen
  obtain ⟨R, hR⟩ : ∃ R, R = 60 * (mn - 2) - L.stream.length := ⟨_, rfl⟩
  rw [← hR] at hrm
  have hRm : m + 2 ≤ R := by omega
  have c9 := h.cells.c9
  rw [hbr] at c9
  have hF : ∀ x, F x → x < w.heap.size := by obtain ⟨S, T, hs⟩ := h; exact hs.f_
  have hBw : B ≤ w.heap.size := h.lt.2.2.2
  -- behind the call of Room
  have hnext : ∀ w2, Below w.heap.size w w2 → Hid (Sys B F w2 d M p fr mn L ∧ Stays B F w w2 ∧ BytesW w2 v b) := fun w2 hb2 => ⟨h.later hb2, Stays.of_below hb2 hBw hF, BytesW.keep hv (fun g hg => hb2.block g (by rcases hvb g hg with h3 | h3; exact hF g h3; omega)) hb2.size⟩
  have HNEXT := Lib.hid hnext
  obtain ⟨n, hn⟩ : ∃ n, n = L.stream.length := ⟨_, rfl⟩
  rw [← hn] at hlen
  rw [← hm] at h1 h2
  have HV := Lib.hid hvv
  have HN := Lib.hid hn
  have HM := Lib.hid hm
  have HVB := Lib.hid hvb
  have HOK := Lib.hid hok
  have HE0 := Lib.hid (show L.epoch ≤ 65535 from hE)
  have HSF := Lib.hid hsf
  have HROOM := Lib.hid hroom
  rw [hvv]
  clear hnext h hv hvb hok hn hm hR hsize hF hvv hsf hE hroom hbr
  go_enter Try.func21, Try.ntmps21
  go_wp2_with fail
  refine hrm.mono ?_
  rintro e w2 ⟨rfl, hb2⟩
  have hN2 := HNEXT.out w2 hb2
  have HSYS2 := Lib.hid hN2.out.1
  have HST2 := Lib.hid hN2.out.2.1
  have HV2 := Lib.hid hN2.out.2.2
  clear hrm hb2 hN2 HNEXT c9
  obtain ⟨ao, cap, v1, w3, ao2, cap2, w4, p4, hr1, hr2, hcap2, q4, f4, hs5, hy5⟩ := app_stream HSYS2.out HV2.out HVB.out (by rw [← HM.out]; exact h2) (by rw [← HN.out]; exact hlen)
  have c8 := HSYS2.out.cells.c8
  rw [hba] at c8
  obtain ⟨n2, hn2⟩ : ∃ n2, n2 = (L.stream ++ enc1 b).length := ⟨_, rfl⟩
  rw [← hn2] at hr2 hcap2 hs5 hy5
  rw [← HN.out] at p4 q4 hr1
  rw [← HM.out] at hr1
  rw [HV.out] at hr2
  have HN2 := Lib.hid hn2
  have hn2b : n2 = n + m + 2 := by rw [hn2, List.length_append, enc1_len, HN.out, HM.out]; omega
  have HN2B := Lib.hid hn2b
  obtain ⟨W5, hW5⟩ : ∃ W5, W5 = w4.setCell ⟨p, 4, none⟩ (.slice ao2 n2 cap2) := ⟨_, rfl⟩
  rw [← hW5] at hs5 hy5
  have HW5 := Lib.hid hW5
  have HS5 := Lib.hid (HST2.out.trans hs5)
  have HY5 := Lib.hid hy5
  obtain ⟨ao3, cap3, s3x⟩ := hy5.size'.c3
  have s3 : W5.cell? ⟨p, 3, none⟩ = some (.slice ao3 L.recs.length cap3) := s3x
  clear s3x
  have hy5d : Sys B F W5.drew d M p fr mn { L with stream := L.stream ++ enc1 b } := hy5.later (Below.refl _ _).drew
  have hv5 : BytesW W5.drew v b := by
    have hs5' := hs5
    exact BytesW.keep HV2.out (fun g hg => by
      rcases HVB.out g hg with h3 | h3
      · exact hs5'.blk g h3
      · exact hs5'.below.block g h3) hs5'.below.size
  have hcl := clone_bytes v b W5.drew hv5 (by rw [← HM.out]; exact h1) (by rw [← HM.out]; omega)
  rw [HV.out] at hcl
  have HYD := Lib.hid hy5d
  clear hn2 hn2b hW5 hs5 hy5 hy5d hv5
  have hpW5 : p < W5.drew.heap.size := HYD.out.lt.2.2.1
  have hrm : L.recs.length ≤ 100000 := hrl
  obtain ⟨rl, hrle⟩ : ∃ rl, rl = L.recs.length := ⟨_, rfl⟩
  rw [← hrle] at s3 hrm
  have HREC : Hid (∀ w6 x, Below W5.drew.heap.size W5.drew w6 → RecAt w6 (fun k => W5.drew.heap.size ≤ k ∧ k < w6.heap.size) x b → ∃ ao6 cap6 w7,
      (Builtin.append_ #[56, 56] 56 #[.slice ao3 rl cap3, .slice (some ⟨w6.heap.size, 0, none⟩) 1 1]).run Try.prog (w6.alloc (.cells #[x] 23)) = .ok (.slice ao6 (rl + 1) cap6) w7 ∧ rl + 1 ≤ cap6 ∧
      w6.cell? ⟨p, 3, none⟩ = some (.slice ao3 rl cap3) ∧ w7.cell? ⟨p, 3, none⟩ = some (.slice ao3 rl cap3) ∧ w7.frozen? ⟨p, 3, none⟩ = false ∧
      Hid (Stays B F w (w7.setCell ⟨p, 3, none⟩ (.slice ao6 (rl + 1) cap6)) ∧ Sys B F (w7.setCell ⟨p, 3, none⟩ (.slice ao6 (rl + 1) cap6)) d M p fr mn { L with stream := L.stream ++ enc1 b, recs := L.recs ++ [b] })) := by
    intro w6 x hb6 hx
    have hd : Stays B F W5 W5.drew := ⟨(Below.refl _ _).drew, fun _ _ => rfl⟩
    obtain ⟨ao6, cap6, w7, hr7, hcap7, hk6, hk7, hf7, hs7, hy7⟩ := app_recs HYD.out (show W5.drew.cell? ⟨p, 3, none⟩ = _ from s3) hb6 hx (show L.recs.length ≤ 100000 by omega)
    rw [show ({ L with stream := L.stream ++ enc1 b } : LogS).recs.length = rl from hrle.symm] at hr7 hcap7 hs7 hy7
    exact ⟨ao6, cap6, w7, hr7, hcap7, hk6, hk7, hf7, (HS5.out.trans hd).trans hs7, hy7⟩
  have HRL := Lib.hid hrle
  clear hrle hrl
  obtain ⟨L2, hL2⟩ : ∃ L2, L2 = L.add b := ⟨_, rfl⟩
  obtain ⟨K0, hK0⟩ : ∃ K0, K0 = L.stream.length / 60 := ⟨_, rfl⟩
  obtain ⟨N, hNN⟩ : ∃ N, N = chunks L.stream (enc1 b) := ⟨_, rfl⟩
  obtain ⟨PR, hPR⟩ : ∃ PR, PR = putsR M fr (L.add b) (L.stream.length / 60) (chunks L.stream (enc1 b)) := ⟨_, rfl⟩
  have HOKP : Hid (PR.2 = 0) := by show PR.2 = 0; rw [hPR]; exact HOK.out
  have HPR0 := Lib.hid hPR
  have HPR : Hid (PR = putsR M fr L2 K0 (K0 + N - K0)) := by show PR = _; rw [hPR, hL2, hK0, hNN, Nat.add_sub_cancel_left]
  have HL2 := Lib.hid hL2
  have HK0 := Lib.hid hK0
  have HCE : Hid (∀ k, K0 ≤ k → (k < K0 + N ↔ 60 * k < n2)) := fun k hk => by rw [HN2.out, hK0, hNN]; exact chunks_end k (by rw [← hK0]; exact hk)
  have HNB : Hid (N ≤ 100000) := by show N ≤ _; rw [hNN]; unfold chunks; have := HN2.out; have := HN2B.out; omega
  have HLS : Hid (L2.stream.length = n2) := by show L2.stream.length = n2; rw [hL2, HN2.out]; rfl
  have HLR : Hid (L2.recs.length = rl + 1) := by show L2.recs.length = rl + 1; rw [hL2, HRL.out]; show (L.recs ++ [b]).length = _; simp
  have HSF2 : Hid (L2.safe < 2) := by show L2.safe < 2; rw [hL2]; exact HSF.out
  have HE2 : Hid (L2.epoch ≤ 65535) := by show L2.epoch ≤ _; rw [hL2]; exact HE0.out
  have hn2m : n2 ≤ 12000 := by have := HN2B.out; have := HROOM.out; have := HN.out; have := HM.out; omega
  clear hL2 hK0 hNN hPR
  go_wp2_with (first
    | (at_builtin; refine Lib.wpList_append_run _ rfl _ _ _ _ rfl _ _ rfl rfl _ _ hr1 ?_)
    | (at_builtin; refine Lib.wpList_append_run _ rfl _ _ _ _ rfl _ _ rfl rfl _ _ hr2 ?_))
  rw [← HW5.out]
  clear hr1 hr2 p4 q4 f4 c8
  go_region_law
    (first
      | (go_simp; go_at_call 55; refine hcl.mono ?_; rintro e w6 ⟨hb6, x, rfl, hrec⟩; obtain ⟨xo, xc, hxe⟩ := row_slice hrec.1; subst hxe; have hp6 : p < w6.heap.size := Nat.lt_of_lt_of_le hpW5 hb6.size; obtain ⟨ao6, cap6, w7, hr7, hcap7, hk6, hk7, hf7, HY7⟩ := HREC.out _ _ hb6 hrec)
      | (refine step_append_run (by rfl) _ _ _ _ (by rfl) _ _ (by rfl) (by rfl) _ _ hr7 ?_))
  all_goals
    obtain ⟨W8, hW8⟩ : ∃ W8, W8 = w7.setCell ⟨p, 3, none⟩ (.slice ao6 (rl + 1) cap6) := ⟨_, rfl⟩
    have HY8 : Hid (Stays B F w W8 ∧ Sys B F W8 d M p fr mn { L with stream := L.stream ++ enc1 b, recs := L.recs ++ [b] }) := by show _ ∧ _; rw [hW8]; exact HY7.out
    rw [← hW8]
    have f7 := HY8.out.2.cells.fz 7
    have c7 := HY8.out.2.cells.c7
    have HY9 : Hid (Stays B F w (W8.setCell ⟨p, 7, none⟩ (.bool true)) ∧ Sys B F (W8.setCell ⟨p, 7, none⟩ (.bool true)) d M p fr mn (L.add b)) := by
      obtain ⟨g1, g2⟩ := HY8.out.2.set7 true
      exact ⟨HY8.out.1.trans g1, g2⟩
    obtain ⟨W9, hW9⟩ : ∃ W9, W9 = W8.setCell ⟨p, 7, none⟩ (.bool true) := ⟨_, rfl⟩
    rw [← hW9] at HY9
    have HW9 := Lib.hid hW9
    clear hW8 hW9 HY7 hf7 hk7 hk6 hr7 hcap7 hcl HREC hp6
    go_wp2_with fail
    rw [← HW9.out]
    clear f7 c7 HY8
    go_loopw [9] (fun z wr => ∃ (k : Nat) (M' : DiskM), z = .int .i64 (k : Int) ∧ K0 ≤ k ∧ k ≤ K0 + N ∧ Hid (PR = putsR M' fr L2 k (K0 + N - k)) ∧ Hid (Near M M' (k - K0)) ∧ Hid (Stays B F w wr) ∧ Hid (Sys B F wr d M' p fr mn L2)) (fun z _ => K0 + N - (intOf z).toNat)
    case atStart => exact ⟨K0, M, by rw [HK0.out, HN.out]; simp, Nat.le_refl _, Nat.le_add_right _ _, HPR.out, by show Near _ _ _; rw [Nat.sub_self]; exact Near.refl M, HY9.out.1, by show Sys _ _ _ _ _ _ _ _ _; rw [HL2.out]; exact HY9.out.2⟩
    case round =>
      obtain ⟨k, M', rfl, hk1, hk2, hE, hNr, hS, hY⟩ := hrel
      have hst' : M'.steps ≤ 1000000000 := by have := hNr.out.2.1; have := HNB.out; omega
      have hsi' : M'.since.length ≤ 1000000000 := by have := hNr.out.2.2; have := HNB.out; omega
      obtain ⟨ao4, cap4, c4⟩ := hY.out.size'.c4
      obtain ⟨ao8, cap8, c3⟩ := hY.out.size'.c3
      rw [HLS.out] at c4
      rw [HLR.out] at c3
      have hce := HCE.out k hk1
      have hkb : k ≤ 300000 := by have := HNB.out; have := HK0.out; have := HN.out; omega
      by_cases hlt : k < K0 + N
      · have hlt2 : 60 * k < n2 := hce.1 hlt
        have hcall := put_any B F k wr p d fr mn M' L2 hY.out (by rw [HLS.out]; exact hlt2) (by rw [HLS.out]; omega) HSF2.out HE2.out hfr hst' hsi'
        by_cases hC : putC M' fr L2 k = 0
        · have HGO : Hid (PR = putsR (putM M' fr L2 k) fr L2 (k + 1) (K0 + N - (k + 1))) := hE.out.trans (putsR_step hlt hC)
          have HNN : Hid (Near M (putM M' fr L2 k) (k + 1 - K0)) := by
            show Near _ _ _
            rw [show k + 1 - K0 = k - K0 + 1 by omega]
            exact hNr.out.wr _ _
          rw [hC, errV_zero] at hcall
          generalize putM M' fr L2 k = M3 at *
          clear hC hE hNr hst' hsi' hce
          go_wp2_with fail
          refine hcall.mono ?_
          rintro e w9 ⟨rfl, hs9, hy9⟩
          have HS9 := Lib.hid (hS.out.trans hs9)
          have HY10 := Lib.hid hy9
          clear hcall hs9 hy9 hS hY c3 c4
          go_wp2_with fail
          go_roundw
          case rel => exact ⟨k + 1, M3, by go_num, by omega, by omega, HGO, HNN, HS9, HY10⟩
          case measure => simp [intOf]; omega
        · exact absurd (by rw [← hE.out]; exact HOKP.out) (putsR_bad hlt hC)
      · have hlt2 : ¬ 60 * k < n2 := fun h => hlt (hce.2 h)
        have hke : k = K0 + N := by omega
        have HPE : Hid ((putsR M fr (L.add b) (L.stream.length / 60) (chunks L.stream (enc1 b))).1 = M') := by show _ = M'; rw [← HPR0.out, hE.out, hke, Nat.sub_self]; rfl
        have HYL : Hid (Sys B F wr d M' p fr mn (L.add b)) := by show Sys _ _ _ _ _ _ _ _ _; rw [← HL2.out]; exact hY.out
        have hd : decide ((k : Int) * 60 < (n2 : Int)) = false := decide_eq_false (by omega)
        clear hce hE hke
        go_wp2_with fail
        all_goals first
          | (exfalso; omega)
          | exact bodyPost_ret (v := .tuple #[.int .i64 (rl : Int), .nilIface]) (by simp [results, Try.results21, go_sem]) rfl ⟨by rw [HRL.out], hS.out, by rw [HPE.out]; exact HYL.out⟩
end Go.Proofs.Ytldpflijgbcbhaa.lg
