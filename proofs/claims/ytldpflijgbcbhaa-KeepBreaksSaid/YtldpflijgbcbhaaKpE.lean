/- keep.Save walked, on a disk that doesn't stop. -/
import Derived.Test.YtldpflijgbcbhaaKpD
namespace Go.Proofs.Ytldpflijgbcbhaa.lg
open Go.RowKit

theorem enc_take {ms : List (List UInt8)} {j : Nat} {b : List UInt8} (h : ms[j]? = some b) : (enc (ms.take j)).length + b.length + 2 ≤ (enc ms).length := by
  obtain ⟨hj, he⟩ := List.getElem?_eq_some_iff.1 h
  have e : enc ms = enc (ms.take j) ++ (enc1 b ++ enc (ms.drop (j + 1))) := by
    conv => lhs; rw [← List.take_append_drop j ms, drop_cons h]
    rw [enc_append, enc_cons]
  rw [e]; simp only [List.length_append, enc1_len]; omega
/-- while records are appended: the state -/
structure PutI (B : Nat) (G : Nat → Prop) (w10 wr : World) (d p : Nat) (M' : DiskM) (L' : LogS) (ep s j : Nat) (r0 ms : List (List UInt8)) : Prop where
  stays : Stays B G w10 wr
  sys : Sys B G wr d M' p 0 150 L'
  run : KRun M' L' ep (s + 5 * j)
  recs : L'.recs = r0 ++ ms.take j
theorem PutI.room {B : Nat} {G : Nat → Prop} {w10 wr : World} {d p : Nat} {M' : DiskM} {L' : LogS} {ep s j : Nat} {r0 ms : List (List UInt8)} (h : PutI B G w10 wr d p M' L' ep s j r0 ms) {b : List UInt8} (hb : ms[j]? = some b) (hr : (enc r0).length + (enc ms).length ≤ 60 * (150 - 2)) : L'.stream.length + b.length + 2 ≤ 60 * (150 - 2) := by
  have h1 := enc_take hb
  rw [h.run.ok.recs, h.recs, enc_append, List.length_append]
  omega
theorem PutI.step {B : Nat} {G : Nat → Prop} {w10 wr w11 : World} {d p : Nat} {M' : DiskM} {L' : LogS} {ep s j : Nat} {r0 ms : List (List UInt8)} (h : PutI B G w10 wr d p M' L' ep s j r0 ms) {b : List UInt8} (hb : ms[j]? = some b) (hk : KRun (putsAdd M' 0 L' b) (L'.add b) ep (s + 5 * j + 5)) (hs : Stays B G wr w11) (hy : Sys B G w11 d (putsAdd M' 0 L' b) p 0 150 (L'.add b)) : PutI B G w10 w11 d p (putsAdd M' 0 L' b) (L'.add b) ep s (j + 1) r0 ms := by
  obtain ⟨hj, he⟩ := List.getElem?_eq_some_iff.1 hb
  refine ⟨h.stays.trans hs, hy, ?_, ?_⟩
  · rw [show s + 5 * (j + 1) = s + 5 * j + 5 by omega]; exact hk
  · show L'.recs ++ [b] = _
    rw [h.recs, List.take_succ_eq_append_getElem hj, he, List.append_assoc]
/-- what Save leaves -/
def SavePost (B : Nat) (F : Nat → Prop) (w : World) (d : Nat) (M : DiskM) (l : List EntryM) (ep s : Nat) (C : Int) (e : Ending) (w' : World) : Prop :=
  e = .returned (errV C) ∧ Stays B F w w' ∧ (if C = 0 then ∃ M', DiskF B F w' d M' ∧ Kept M' (l.map EntryM.bytes) (ep + 1) (s + 5 * l.length + 1) else DiskF B F w' d M)
theorem ents_at {w : World} {ao : Option Addr} {t : List EntryM} {i : Nat} {x : EntryM} (h : EntsAt w ao t) (hx : t[i]? = some x) : ∃ b off lao lc, ao = some ⟨b, off, none⟩ ∧ b < w.heap.size ∧ w.cell? ⟨b, off + i * 4, none⟩ = some (.string x.ref) ∧ w.cell? ⟨b, off + i * 4 + 1, none⟩ = some (.int .i64 x.ent) ∧ w.cell? ⟨b, off + i * 4 + 2, none⟩ = some (.int .i64 x.per) ∧ w.cell? ⟨b, off + i * 4 + 3, none⟩ = some (.slice lao x.lines.length lc) ∧ LinesAt w lao x.lines := by
  rcases h with rfl | ⟨b, off, rfl, hb, hc⟩
  · simp at hx
  · obtain ⟨lao, lc, h1, h2, h3, h4, h5⟩ := hc i x hx
    exact ⟨b, off, lao, lc, rfl, hb, h1, h2, h3, h4, h5⟩
set_option maxRecDepth 100000 in
set_option maxHeartbeats 8000000 in
theorem ksave_any (B : Nat) (F : Nat → Prop) (w : World) (d : Nat) (M : DiskM) (old l : List EntryM) (lao : Option Addr) (lcap ep s R : Nat) (h : DiskF B F w d M) (hk : Kept M (old.map EntryM.bytes) ep s) (hold : ∀ x ∈ old, x.ok ∧ x.bytes.length ≤ 200) (hom : old.length ≤ 5000) (hep : ep ≤ 60000) (hs : s ≤ 10000000)
    (hE : ∀ w', Stays B F w w' → EntsAt w' lao l) (hf : ∀ x ∈ l, x.fair) (hlm : l.length ≤ 90000) (hR : R = 60 * (150 - 2) - (enc (headB :: old.map EntryM.bytes)).length) :
    Calls Try.prog 29 #[.pointer (some ⟨d, 0, none⟩), .slice lao l.length lcap] w (SavePost B F w d M l ep s (saveC old l R)) := by
  obtain ⟨hkr, hrec, hstr, hT⟩ := hk.opened
  obtain ⟨L, hL⟩ : ∃ L, L = openS (blkOf M.now 0 150) 150 := ⟨_, rfl⟩
  rw [← hL] at hkr hrec hstr
  have hB : B ≤ w.heap.size := by obtain ⟨S, g1, g2, g3, g4⟩ := h; exact g3
  have hF : ∀ x, F x → x < w.heap.size := by obtain ⟨S, g1, g2, g3, g4⟩ := h; exact g4
  have hop := kopen_any B F w d M old L h hkr.len.1 hT hL hrec hold (by omega)
  obtain ⟨n, hn⟩ : ∃ n, n = l.length := ⟨_, rfl⟩
  obtain ⟨m, hm⟩ : ∃ m, m = old.length := ⟨_, rfl⟩
  obtain ⟨C, hC⟩ : ∃ C, C = saveC old l R := ⟨_, rfl⟩
  have hCv : C = if n < m then 5 else if saveL old l = 0 then (if R < need (l.drop m) then 4 else 0) else saveL old l := by rw [hC, hn, hm]; rfl
  rw [← hC]
  rw [← hm] at hop hom
  rw [← hn] at hlm ⊢
  have HC := Lib.hid hCv
  have HN := Lib.hid hn
  have HM := Lib.hid hm
  have HKR := Lib.hid hkr
  have HREC := Lib.hid hrec
  have HSTR := Lib.hid hstr
  have HOLD := Lib.hid hold
  have HE := Lib.hid hE
  have HF := Lib.hid hf
  have HR := Lib.hid hR
  have HBF : Hid (B ≤ w.heap.size ∧ ∀ x, F x → x < w.heap.size) := ⟨hB, hF⟩
  have HD := Lib.hid h
  clear hkr hrec hstr hT hL h hk hold hE hf hR hC hCv hn hm hB hF
  go_enter Try.func29, Try.ntmps29
  go_wp2_with fail
  refine hop.mono ?_
  rintro e w4 ⟨p, oao, ocap, n0, rfl, hn0, hb4, hy4, he4⟩
  have HB4 := Lib.hid hb4
  have HY4 := Lib.hid hy4
  have HE4 := Lib.hid he4
  have HN0 := Lib.hid hn0
  have HS4 : Hid (∀ w', Below w4.heap.size w4 w' → Stays B F w w') := fun w' hb => Stays.of_below (HB4.out.trans (hb.mono HB4.out.size)) HBF.out.1 HBF.out.2
  have HDD : Hid (∀ w', Below w4.heap.size w4 w' → DiskF B F w' d M) := fun w' hb => HD.out.later (HB4.out.trans (hb.mono HB4.out.size))
  clear hop hb4 hy4 he4 hn0
  by_cases hlt : n < m
  · have HF5 : Hid (SavePost B F w d M l ep s C (.returned (errV 5)) w4) := by
      show SavePost _ _ _ _ _ _ _ _ _ _ _
      rw [HC.out, if_pos hlt]
      exact ⟨rfl, HS4.out w4 (Below.refl _ _), by rw [if_neg (by decide)]; exact HDD.out w4 (Below.refl _ _)⟩
    rw [errV_some (by decide)] at HF5
    clear HC
    go_wp2_with fail
    go_ret
    exact HF5.out
  · have HM0 := Lib.hid (MoreI.start w4)
    have HC1 : Hid (C = if saveL old l = 0 then (if R < need (l.drop m) then 4 else 0) else saveL old l) := by show _ = _; rw [HC.out, if_neg hlt]
    clear HC
    go_upto_block 0 with (fail)
    go_cut [8, 9] (fun v nd wx => ∃ (rs : List Value) (N : Nat), nd = .int .i64 (N : Int) ∧ N ≤ 202 * n ∧ Hid (N = need (l.drop m)) ∧ Hid (MoreI w4 wx v rs ((l.drop m).map EntryM.bytes)) ∧ Hid (saveL old l = 0))
    case first =>
      go_wp2_with fail
      go_loopw [8, 9, 37] (fun v nd z wr => ∃ (i N : Nat) (rs : List Value), i ≤ n ∧ z = .int .i64 (i : Int) ∧ nd = .int .i64 (N : Int) ∧ N ≤ 202 * i ∧ Hid (N = need (midE l m i)) ∧ Hid (MoreI w4 wr v rs ((midE l m i).map EntryM.bytes)) ∧ Hid (saveL old l = saveL (old.drop i) (l.drop i))) (fun _ _ z _ => n - (intOf z).toNat)
      case atStart => exact ⟨0, 0, [], Nat.zero_le _, rfl, rfl, Nat.zero_le _, by rw [midE_le (Nat.zero_le _)]; rfl, by rw [midE_le (Nat.zero_le _)]; exact HM0.out, rfl⟩
      case round =>
        clear HM0
        obtain ⟨i, N, rs, hi, rfl, rfl, hNb, hN, hMI, hSL⟩ := hrel
        by_cases hin : i < n
        · obtain ⟨x, hx⟩ : ∃ x, l[i]? = some x := ⟨l[i]'(by rw [← HN.out]; exact hin), List.getElem?_eq_getElem _⟩
          have hea := HE.out wr (HS4.out wr hMI.out.below)
          obtain ⟨b, off, yao, yc, rfl, hbl, c0, c1, c2, c3, hyl⟩ := ents_at hea hx
          have hxf := HF.out x (List.mem_of_getElem? hx)
          obtain ⟨W7, hW7⟩ : ∃ W7, W7 = wr.alloc (.cells #[.string x.ref, .int .i64 x.ent, .int .i64 x.per, .slice yao x.lines.length yc] 30) := ⟨_, rfl⟩
          have hb7 : Below wr.heap.size wr W7 := by rw [hW7]; exact (Below.refl _ _).alloc (Nat.le_refl _) _
          have hbox : W7.heap[wr.heap.size]? = some (.cells #[.string x.ref, .int .i64 x.ent, .int .i64 x.per, .slice yao x.lines.length yc] 30 (0, 0)) := by rw [hW7]; exact heap_new_at rfl _
          have x0 : W7.cell? ⟨wr.heap.size, 0, none⟩ = some (.string x.ref) := cell_of_heap hbox 0
          have x1 : W7.cell? ⟨wr.heap.size, 1, none⟩ = some (.int .i64 x.ent) := cell_of_heap hbox 1
          have x2 : W7.cell? ⟨wr.heap.size, 2, none⟩ = some (.int .i64 x.per) := cell_of_heap hbox 2
          have x3 : W7.cell? ⟨wr.heap.size, 3, none⟩ = some (.slice yao x.lines.length yc) := cell_of_heap hbox 3
          have hent := entry_any x yao yc W7 hxf (hyl.below hb7 (Nat.le_refl _))
          unfold entryV at hent
          have HMI7 := Lib.hid (hMI.out.later hb7)
          have HBR := Lib.hid hMI.out.below
          have HX := Lib.hid hx
          have HW7 := Lib.hid hW7
          obtain ⟨q7, hq7⟩ : ∃ q7, q7 = wr.heap.size := ⟨_, rfl⟩
          rw [← hq7] at x0 x1 x2 x3
          have HQ7 := Lib.hid hq7
          clear hea hbl hyl hxf hW7 hb7 hbox hx hMI hq7
          go_upto_region 11 with (fail)
          rw [← HW7.out, ← HQ7.out]
          clear c0 c1 c2 c3
          go_wp2_with fail
          refine hent.mono ?_
          rintro e w8 ⟨v8, rfl, hb8, hrow8⟩
          have HMI8 := Lib.hid (HMI7.out.later hb8)
          have HB8 := Lib.hid hb8
          clear hent x0 x1 x2 x3 HMI7 hb8
          by_cases hc : x.code = 0
          · have hrow8 := hrow8 hc
            rw [if_pos hc, hc, errV_zero]
            obtain ⟨lb, hlb⟩ : ∃ lb, lb = x.bytes.length := ⟨_, rfl⟩
            have hlb1 : 1 ≤ lb := by rw [hlb]; exact entry_len x
            have hxok := (entry_code x).1 hc
            obtain ⟨gv, cv, hv8, hgv1, hgv2, _⟩ := ownsRow_some hrow8 (by rw [← hlb]; exact hlb1)
            subst hv8
            have HRX : Hid (RecAt w8 (fun k => w4.heap.size ≤ k ∧ k < w8.heap.size) (.slice (some ⟨gv, 0, none⟩) lb cv) x.bytes) := by
              rw [hlb]
              refine ⟨ownsRow_base hrow8 0, fun k hk => ?_⟩
              have e : gv = k := Option.some.inj hk
              have h1 := HMI8.out.below.size
              have h2 := HB8.out.size
              have h3 : w4.heap.size ≤ W7.heap.size := by
                have e7 : W7.heap.size = wr.heap.size + 1 := by rw [HW7.out]; simp
                have := HQ7.out
                have h5 := HBR.out.size
                omega
              exact ⟨by omega, by omega⟩
            rw [← hlb]
            have HLB := Lib.hid hlb
            have HOKX := Lib.hid hxok
            clear hlb hxok hrow8 hgv1 hgv2
            by_cases h200 : 200 < lb
            · have HF9 : Hid (SavePost B F w d M l ep s C (.returned (errV 4)) w8) := by
                show SavePost _ _ _ _ _ _ _ _ _ _ _
                have hce : chkE x = 4 := by unfold chkE; rw [if_pos hc, if_pos (by rw [← HLB.out]; exact h200)]
                have hsl : saveL old l = 4 := by
                  rw [hSL.out]
                  by_cases him : i < m
                  · obtain ⟨o, ho⟩ : ∃ o, old[i]? = some o := ⟨old[i]'(by rw [← HM.out]; exact him), List.getElem?_eq_getElem _⟩
                    rw [saveL_old HX.out ho, hce, if_neg (by decide)]
                  · rw [saveL_new HX.out (by rw [← HM.out]; omega), hce, if_neg (by decide)]
                rw [HC1.out, hsl, if_neg (by decide)]
                exact ⟨rfl, HS4.out w8 HMI8.out.below, by rw [if_neg (by decide)]; exact HDD.out w8 HMI8.out.below⟩
              rw [errV_some (by decide)] at HF9
              clear HC1 hc
              go_wp2_with fail
              go_ret
              exact HF9.out
            · have hce : chkE x = 0 := chkE_zero.2 ⟨HOKX.out, by rw [← HLB.out]; omega⟩
              have HCE := Lib.hid hce
              clear hc hce
              by_cases him : i < m
              · obtain ⟨o, ho⟩ : ∃ o, old[i]? = some o := ⟨old[i]'(by rw [← HM.out]; exact him), List.getElem?_eq_getElem _⟩
                have hok := HOLD.out o (List.mem_of_getElem? ho)
                obtain ⟨b2, o2, zao, zc, rfl, hb2, k0, k1, k2, k3, hzl⟩ := ents_at (HE4.out w8 (fun k hk => HMI8.out.below.block k hk.2) HMI8.out.below.size) ho
                have hent := entry_any o zao zc w8 (fair_of_ok hok.1) hzl
                rw [(entry_code o).2 hok.1] at hent
                unfold entryV at hent
                have HO := Lib.hid ho
                have hlo1 := entry_len o
                obtain ⟨lo, hlo⟩ : ∃ lo, lo = o.bytes.length := ⟨_, rfl⟩
                rw [← hlo] at hlo1
                have HLO := Lib.hid hlo
                clear hok hb2 hzl ho hlo
                go_wp2_with fail
                refine hent.mono ?_
                rintro e w9 ⟨v9, rfl, hb9, hrow9⟩
                have hrow9 := hrow9 rfl
                rw [if_pos rfl, errV_zero]
                obtain ⟨g9, c9, hv9, _⟩ := ownsRow_some hrow9 (by rw [← HLO.out]; exact hlo1)
                subst hv9
                rw [← HLO.out]
                have hcv1 := conv_at (bytes_of_row hrow9 rfl)
                rw [← HLO.out] at hcv1
                have hcv2 : (convert 23 9 (.slice (some ⟨gv, 0, none⟩) lb cv)).run Try.prog w9 = .ok (.string ⟨x.bytes.toArray⟩) w9 :=
                  conv_at (BytesW.keep' (bytes_of_row (HRX.out.1) rfl) (fun g' _ hg' => hb9.block g' hg') hb9.size)
                obtain ⟨S1, hS1⟩ : ∃ S1, S1 = (⟨o.bytes.toArray⟩ : ByteArray) := ⟨_, rfl⟩
                obtain ⟨S2, hS2⟩ : ∃ S2, S2 = (⟨x.bytes.toArray⟩ : ByteArray) := ⟨_, rfl⟩
                rw [← hS1] at hcv1
                rw [← hS2] at hcv2
                have HMI9 := Lib.hid (HMI8.out.later hb9)
                by_cases heq : o.bytes = x.bytes
                · have hSS : S1 = S2 := by rw [hS1, hS2, heq]
                  have HSL1 : Hid (saveL old l = saveL (old.drop (i + 1)) (l.drop (i + 1))) := by
                    show _ = _
                    rw [hSL.out, saveL_old HX.out HO.out, if_pos HCE.out, if_pos heq]
                  have HMI10 : Hid (MoreI w4 w9 u8 rs ((midE l m (i + 1)).map EntryM.bytes)) := by
                    have h0 := HMI9.out
                    rw [midE_le (show i ≤ m by omega)] at h0
                    rw [midE_le (show i + 1 ≤ m by omega)]
                    exact h0
                  have HN1 : Hid (N = need (midE l m (i + 1))) := by
                    show _ = _
                    rw [hN.out, midE_le (show i ≤ m by omega), midE_le (show i + 1 ≤ m by omega)]
                  clear hent hb9 hrow9 hS1 hS2 heq HC1 HMI8 HMI9 hSL hN k0 k1 k2 k3
                  subst hSS
                  go_wp2_with fail
                  go_roundw
                  case rel => exact ⟨i + 1, N, rs, by omega, by go_num, rfl, by omega, HN1, HMI10, HSL1⟩
                  case measure => simp [intOf]; omega
                · have hSS : (S1.toList == S2.toList) = false := by
                    rw [hS1, hS2, ByteArray.toList_eq, ByteArray.toList_eq]
                    exact beq_eq_false_iff_ne.2 heq
                  have HF9 : Hid (SavePost B F w d M l ep s C (.returned (errV 5)) w9) := by
                    show SavePost _ _ _ _ _ _ _ _ _ _ _
                    have hsl : saveL old l = 5 := by rw [hSL.out, saveL_old HX.out HO.out, if_pos HCE.out, if_neg heq]
                    rw [HC1.out, hsl, if_neg (by decide)]
                    exact ⟨rfl, HS4.out w9 HMI9.out.below, by rw [if_neg (by decide)]; exact HDD.out w9 HMI9.out.below⟩
                  rw [errV_some (by decide)] at HF9
                  clear hent hb9 hrow9 hS1 hS2 heq HC1 HMI8 HMI9 hSL hN k0 k1 k2 k3
                  go_wp2_with fail
                  go_ret
                  exact HF9.out
              · obtain ⟨K, hK⟩ : ∃ K, K = i - m := ⟨_, rfl⟩
                have hml : ((midE l m i).map EntryM.bytes).length = K := by rw [List.length_map, midE_len (by rw [← HN.out]; exact hi), hK]
                obtain ⟨ao9, cap9, w9, hr, hmi9⟩ := HMI8.out.more HRX.out (by omega)
                rw [hml] at hr hmi9
                have HMI9 : Hid (MoreI w4 w9 (.slice ao9 (K + 1) cap9) (rs ++ [.slice (some ⟨gv, 0, none⟩) lb cv]) ((midE l m (i + 1)).map EntryM.bytes)) := by
                  rw [midE_succ HX.out (by omega), List.map_append]
                  exact hmi9
                have HSL1 : Hid (saveL old l = saveL (old.drop (i + 1)) (l.drop (i + 1))) := by
                  show _ = _
                  rw [hSL.out, saveL_new HX.out (by rw [← HM.out]; omega), if_pos HCE.out]
                have HN1 : Hid (N + (lb + 2) = need (midE l m (i + 1))) := by
                  show _ = _
                  rw [midE_succ HX.out (by omega), need_snoc, ← hN.out, ← HLB.out]
                clear hmi9 hml hK HMI8 HC1 hSL hN
                go_wp2_with (at_builtin; refine Lib.wpList_append_run _ rfl _ _ _ _ rfl _ _ rfl rfl _ _ hr ?_)
                clear hr
                go_wp2_with fail
                go_roundw
                case rel => exact ⟨i + 1, N + (lb + 2), _, by omega, by go_num, by rw [show (N : Int) + ((lb : Int) + 2) = ((N + (lb + 2) : Nat) : Int) by omega], by omega, HN1, HMI9, HSL1⟩
                case measure => simp [intOf]; omega
          · have HF9 : Hid (SavePost B F w d M l ep s C (.returned (errV x.code)) w8) := by
              show SavePost _ _ _ _ _ _ _ _ _ _ _
              have hce : chkE x = x.code := by unfold chkE; rw [if_neg hc]
              have hsl : saveL old l = x.code := by
                rw [hSL.out]
                by_cases him : i < m
                · obtain ⟨o, ho⟩ : ∃ o, old[i]? = some o := ⟨old[i]'(by rw [← HM.out]; exact him), List.getElem?_eq_getElem _⟩
                  rw [saveL_old HX.out ho, hce, if_neg hc]
                · rw [saveL_new HX.out (by rw [← HM.out]; omega), hce, if_neg hc]
              rw [HC1.out, hsl, if_neg hc]
              exact ⟨rfl, HS4.out w8 HMI8.out.below, by rw [if_neg hc]; exact HDD.out w8 HMI8.out.below⟩
            rw [if_neg hc]
            rw [errV_some hc] at HF9 ⊢
            clear HC1 hrow8 hc
            go_wp2_with fail
            go_ret
            exact HF9.out
        · obtain rfl : i = n := by omega
          have HEND : Hid (∃ (rs : List Value) (N' : Nat), Value.int .i64 (N : Int) = .int .i64 (N' : Int) ∧ N' ≤ 202 * i ∧ Hid (N' = need (l.drop m)) ∧ Hid (MoreI w4 wr u8 rs ((l.drop m).map EntryM.bytes)) ∧ Hid (saveL old l = 0)) := by
            have e := midE_all (l := l) (m := m) (i := i) (by rw [← HN.out]; omega)
            refine ⟨rs, N, rfl, hNb, by rw [← e]; exact hN, by rw [← e]; exact hMI, hSL.out.trans (saveL_end (by rw [← HN.out]; omega))⟩
          clear hMI hN hSL
          go_wp2_with fail
          go_meet
          exact HEND.out
    case rest =>
      obtain ⟨rs, N, rfl, hNb, hN, hMI, hSL⟩ := hcut
      obtain ⟨wx, hwx⟩ : ∃ wx : World, wx = wc := ⟨_, rfl⟩
      subst hwx
      obtain ⟨K, hK⟩ : ∃ K, K = n - m := ⟨_, rfl⟩
      have hml : ((l.drop m).map EntryM.bytes).length = K := by rw [List.length_map, List.length_drop, ← HN.out, hK]
      have hC2 : C = if R < N then 4 else 0 := by rw [HC1.out, if_pos hSL.out, hN.out]
      have HC2 := Lib.hid hC2
      obtain ⟨mo, mc, hmo, hmc⟩ := row_slice' hMI.out.all.row
      rw [hml] at hmo hmc
      subst hmo
      have hy5 := HY4.out.more hMI.out.below (fun x => F x ∨ (w4.heap.size ≤ x ∧ x < wx.heap.size)) (fun x hx => hx.imp Or.inl id)
      have hstl : L.stream.length = (enc (headB :: old.map EntryM.bytes)).length := by rw [HSTR.out]
      have hkok := HKR.out.ok.room
      have hrm := room_any wx p 150 L.stream.length L.recs.length hy5.size' (by omega) (by omega)
      rw [hstl, ← HR.out] at hrm
      have HY5 := Lib.hid hy5
      have HML := Lib.hid hml
      have HSX := Lib.hid (HS4.out wx hMI.out.below)
      have HDX := Lib.hid (HDD.out wx hMI.out.below)
      have HSL := Lib.hid hSL.out
      have HNN := Lib.hid hN.out
      have HMX := Lib.hid hMI.out
      have hRb : R ≤ 8880 := by have := HR.out; omega
      have hKb : K ≤ 90000 := by omega
      have hKn : K ≤ n := by omega
      clear hC2 hy5 hml hK hstl hkok hN hMI hSL HC1 HB4 HS4 HDD HE4
      go_wp2_with fail
      refine hrm.mono ?_
      rintro e w10 ⟨rfl, hb10⟩
      by_cases hRN : R < N
      · have HF9 : Hid (SavePost B F w d M l ep s C (.returned (errV 4)) w10) := by
          show SavePost _ _ _ _ _ _ _ _ _ _ _
          rw [HC2.out, if_pos hRN]
          exact ⟨rfl, HSX.out.trans (Stays.of_below hb10 (Nat.le_trans HBF.out.1 HSX.out.below.size) (fun x hx => Nat.lt_of_lt_of_le (HBF.out.2 x hx) HSX.out.below.size)), by rw [if_neg (by decide)]; exact HDX.out.later hb10⟩
        rw [errV_some (by decide)] at HF9
        clear hrm hb10 HC2
        go_wp2_with fail
        go_ret
        exact HF9.out
      · obtain ⟨ms, hms⟩ : ∃ ms, ms = (l.drop m).map EntryM.bytes := ⟨_, rfl⟩
        obtain ⟨r0, hr0⟩ : ∃ r0, r0 = headB :: old.map EntryM.bytes := ⟨_, rfl⟩
        have HMX := HMX
        rw [← hms] at HMX HML
        have hroom : (enc r0).length + (enc ms).length ≤ 60 * (150 - 2) := by
          have h1 := HR.out
          have h2 := HNN.out
          have h3 := HKR.out.ok.room
          rw [HSTR.out] at h3
          rw [hms, enc_need, ← h2, hr0]
          omega
        have hb200 : ∀ b ∈ ms, 1 ≤ b.length ∧ b.length ≤ 200 := by
          intro b hb
          rw [hms] at hb
          obtain ⟨x, hx, rfl⟩ := List.mem_map.1 hb
          exact ⟨entry_len x, ((saveL_zero HSL.out).1 x (List.mem_of_mem_drop hx)).2⟩
        have hend : r0 ++ ms.take K = headB :: l.map EntryM.bytes := by
          have h1 := (saveL_zero HSL.out).2 (by rw [← HM.out, ← HN.out]; omega)
          rw [← HM.out] at h1
          rw [List.take_of_length_le (by rw [HML.out]; exact Nat.le_refl _), hr0, h1, hms]
          rfl
        have HC0 : Hid (C = 0) := by show _ = _; rw [HC2.out, if_neg hRN]
        have HP0 : Hid (PutI B (fun x => F x ∨ (w4.heap.size ≤ x ∧ x < wx.heap.size)) w10 w10 d p M L (ep + 1) s 0 r0 ms) := ⟨Stays.refl _ _ _, HY5.out.later hb10, by simpa using HKR.out, by rw [hr0, HREC.out]; simp⟩
        have HAL : Hid (∀ wr, Stays B (fun x => F x ∨ (w4.heap.size ≤ x ∧ x < wx.heap.size)) w10 wr → AllIs (fun x => w4.heap.size ≤ x ∧ x < wx.heap.size) wr (.slice mo K mc) rs ms) := fun wr hs =>
          (HMX.out.all.later (fun g hg => hb10.block g hg.2) (fun _ h => h)).later (fun g hg => hs.blk g (Or.inr hg)) (fun _ h => h)
        have HS10 : Hid (Stays B F w w10) := HSX.out.trans (Stays.of_below hb10 (Nat.le_trans HBF.out.1 HSX.out.below.size) (fun x hx => Nat.lt_of_lt_of_le (HBF.out.2 x hx) HSX.out.below.size))
        have HROOM := Lib.hid hroom
        have HB200 := Lib.hid hb200
        have HENDR := Lib.hid hend
        have HR0 := Lib.hid hr0
        have hr0l : r0.length ≤ 5001 := by rw [hr0]; simp; have := HM.out; omega
        clear hrm hb10 HC2 hroom hb200 hend hms hr0 HMX
        go_wp2_with fail
        go_loopw [93] (fun z wr => ∃ (j : Nat) (M' : DiskM) (L' : LogS), j ≤ K ∧ z = .int .i64 (j : Int) ∧ Hid (PutI B (fun x => F x ∨ (w4.heap.size ≤ x ∧ x < wx.heap.size)) w10 wr d p M' L' (ep + 1) s j r0 ms)) (fun z _ => K - (intOf z).toNat)
        case atStart => exact ⟨0, M, L, Nat.zero_le _, rfl, HP0.out⟩
        case round =>
          clear HP0
          obtain ⟨j, M', L', hj, rfl, hP⟩ := hrel
          by_cases hjK : j < K
          · have hal := HAL.out wr hP.out.stays
            obtain ⟨b, hb⟩ : ∃ b, ms[j]? = some b := ⟨ms[j]'(by rw [HML.out]; exact hjK), List.getElem?_eq_getElem _⟩
            obtain ⟨x, hx, hxr⟩ := hal.each j b hb
            have hrow := hal.row
            rw [HML.out] at hrow
            obtain ⟨gm, mc', hmv, _⟩ := ownsRow_some hrow (by omega)
            injection hmv with e1 _ e3
            subst e1
            subst e3
            obtain ⟨xo, xc, hxe, _⟩ := row_slice' hxr.1
            subst hxe
            have cj : wr.cell? ⟨gm, j, none⟩ = some (.slice xo b.length xc) := (row_cell hrow hjK).trans hx
            have hbb := HB200.out b (List.mem_of_getElem? hb)
            have hrm := hP.out.room hb HROOM.out
            obtain ⟨hpr, hkr⟩ := hP.out.run.add (by omega) hbb.1 hbb.2 hrm
            have hrl : L'.recs.length ≤ 100000 := by rw [hP.out.recs]; simp; omega
            have hst := hP.out.run.steps
            have hsi := hP.out.run.since
            have hpe := hP.out.run.ep
            have hap := append_ok B (fun x => F x ∨ (w4.heap.size ≤ x ∧ x < wx.heap.size)) (.slice xo b.length xc) b wr p d 0 150 M' L' hP.out.sys (bytes_of_row hxr.1 rfl) (fun g hg => Or.inl (Or.inr (hxr.2 g hg))) hP.out.run.ok.broken hP.out.run.ok.bare hbb.1 hbb.2 hrm (by omega) hP.out.run.ok.safe (by omega) (by omega) hrl (by omega) (by omega) (by rw [hpr])
            rw [hpr] at hap
            obtain ⟨lb, hlb⟩ : ∃ lb, lb = b.length := ⟨_, rfl⟩
            rw [← hlb] at cj hap
            obtain ⟨rl, hrle⟩ : ∃ rl, rl = L'.recs.length := ⟨_, rfl⟩
            rw [← hrle] at hap
            have HKN := Lib.hid hkr
            have HBJ := Lib.hid hb
            clear hal hb hx hxr hrow hbb hrm hpr hkr hrl hst hsi hpe hlb hrle
            go_wp2_with fail
            refine hap.mono ?_
            rintro e w11 ⟨rfl, hs11, hy11⟩
            have HPN := Lib.hid (hP.out.step HBJ.out HKN.out hs11 hy11)
            clear hap hs11 hy11 hP cj
            go_wp2_with fail
            go_roundw
            case rel => exact ⟨j + 1, _, _, by omega, by go_num, HPN⟩
            case measure => simp [intOf]; omega
          · obtain rfl : j = K := by omega
            have hrr := hP.out.run.ok.room
            have hst := hP.out.run.steps
            have hsy := sync_any B _ wr p d 0 150 M' L' hP.out.sys hP.out.run.ok.broken (by omega) hP.out.run.ok.safe (by omega)
            have hfr := hP.out.run.free
            rw [hfr.fcode, hfr.fl, errV_zero] at hsy
            clear hrr hst hfr
            go_wp2_with fail
            refine hsy.mono ?_
            rintro e w12 ⟨rfl, hs12, hy12, _⟩
            have HF9 : Hid (SavePost B F w d M l ep s C (.returned .nilIface) w12) := by
              show SavePost _ _ _ _ _ _ _ _ _ _ _
              have hy := (hy12 rfl).less (G := F) (fun x hx => Or.inl hx)
              have h3 := hP.out.run.sync
              have h4 := h3.steps
              have h5 := h3.since
              refine ⟨by rw [HC0.out, errV_zero], (HS10.out.trans (hP.out.stays.mono (fun x hx => Or.inl hx))).trans (hs12.mono (fun x hx => Or.inl hx)), ?_⟩
              rw [if_pos HC0.out]
              refine ⟨M'.flush, hy.diskF, L'.sync, ⟨h3.free, h3.len, h3.ok, h3.ep, by have := HN.out; omega, by have := HN.out; omega⟩, rfl, ?_⟩
              show L'.recs = _
              rw [hP.out.recs, HENDR.out]
            clear hsy hs12 hy12 hP
            go_wp2_with fail
            go_ret
            exact HF9.out
end Go.Proofs.Ytldpflijgbcbhaa.lg

/- keep.Load; daysame.Entries at what is the same; two disks in one world. -/
namespace Go.Proofs.Ytldpflijgbcbhaa.lg
open Go.RowKit

set_option maxRecDepth 100000 in
set_option maxHeartbeats 1000000 in
theorem kload_any (B : Nat) (F : Nat → Prop) (w : World) (d : Nat) (M : DiskM) (es : List EntryM) (ep s : Nat) (h : DiskF B F w d M) (hk : Kept M (es.map EntryM.bytes) ep s) (hes : ∀ x ∈ es, x.ok ∧ x.bytes.length ≤ 200) (hm : es.length ≤ 5000) :
    Calls Try.prog 30 #[.pointer (some ⟨d, 0, none⟩)] w (fun e w' => ∃ ao cap n0, e = .returned (.tuple #[.slice ao es.length cap, .nilIface]) ∧ w.heap.size ≤ n0 ∧ Below w.heap.size w w' ∧ DiskF B (fun x => F x ∨ (n0 ≤ x ∧ x < w'.heap.size)) w' d M ∧ EntsQ w' (fun x => n0 ≤ x ∧ x < w'.heap.size) ao es) := by
  obtain ⟨hkr, hrec, _, hT⟩ := hk.opened
  have hop := kopen_any B F w d M es _ h hkr.len.1 hT rfl hrec hes hm
  obtain ⟨n, hn⟩ : ∃ n, n = es.length := ⟨_, rfl⟩
  rw [← hn] at hop ⊢
  clear h hk hes hkr hrec hT hn hm
  go_enter Try.func30, Try.ntmps30
  go_wp2_with fail
  refine hop.mono ?_
  rintro e w4 ⟨p, ao, cap, n0, rfl, hn0, hb4, hy4, he4⟩
  have HF : Hid (w.heap.size ≤ n0 ∧ Below w.heap.size w w4 ∧ DiskF B (fun x => F x ∨ (n0 ≤ x ∧ x < w4.heap.size)) w4 d M ∧ EntsQ w4 (fun x => n0 ≤ x ∧ x < w4.heap.size) ao es) := ⟨hn0, hb4, hy4.diskF, he4⟩
  clear hop hn0 hb4 hy4 he4
  go_wp2_with fail
  exact bodyPost_ret (v := .tuple #[.slice ao n cap, .nilIface]) (by simp [results, Try.results30, go_sem]) rfl ⟨ao, cap, n0, rfl, HF.out⟩
theorem EntsAt.take' {w : World} {ao : Option Addr} {t : List EntryM} (h : EntsAt w ao t) (k : Nat) : EntsAt w ao (t.take k) := by
  rcases h with h | ⟨b, off, e, hlt, hc⟩
  · exact Or.inl (by rw [h]; simp)
  · refine Or.inr ⟨b, off, e, hlt, fun i x hi => hc i x ?_⟩
    by_cases hik : i < k
    · rwa [List.getElem?_take_of_lt hik] at hi
    · rw [List.getElem?_take, if_neg hik] at hi; cases hi
set_option maxRecDepth 100000 in
set_option maxHeartbeats 2000000 in
theorem entries_same (es : List EntryM) (w : World) (a b : Option Addr) (ca cb : Nat) (ha : EntsAt w a es) (hb : EntsAt w b es) (hm : ∀ x ∈ es, x.lines.length ≤ 9223372036854775807) (hl : es.length ≤ 100000) :
    Calls Try.prog 31 #[.slice a es.length ca, .slice b es.length cb] w fun e w' => e = .returned (.bool true) ∧ Below w.heap.size w w' := by
  obtain ⟨n, hn⟩ : ∃ n, n = es.length := ⟨_, rfl⟩
  rw [← hn] at hl ⊢
  have HN := Lib.hid hn
  have HA := Lib.hid ha
  have HB := Lib.hid hb
  have HM := Lib.hid hm
  have hnn : ((n : Int) != (n : Int)) = false := by simp
  have HB0 : Hid (Below w.heap.size w w) := Below.refl _ _
  clear ha hb hm hn
  go_enter Try.func31, Try.ntmps31
  go_wp2_with fail
  go_loopw [5] (fun z wr => ∃ k : Nat, k ≤ n ∧ z = .int .i64 (k : Int) ∧ Hid (Below w.heap.size w wr)) (fun z _ => n - (intOf z).toNat)
  case atStart => exact ⟨0, Nat.zero_le _, rfl, HB0⟩
  case round =>
    clear HB0
    obtain ⟨k, hk, rfl, HBW⟩ := hrel
    by_cases hkn : k < n
    · obtain ⟨x, hx⟩ : ∃ x, es[k]? = some x := ⟨es[k]'(by rw [← HN.out]; exact hkn), List.getElem?_eq_getElem _⟩
      have hbd : Below w.heap.size w wr.drew := HBW.out.drew
      obtain ⟨b1, o1, la, lc, rfl, hb1, x0, x1, x2, x3, xl⟩ := ents_at (HA.out.below hbd (Nat.le_refl _)) hx
      obtain ⟨b2, o2, lb, ld, rfl, hb2, y0, y1, y2, y3, yl⟩ := ents_at (HB.out.below hbd (Nat.le_refl _)) hx
      have hsame := entry_same x wr.drew la lb lc ld xl yl (HM.out x (List.mem_of_getElem? hx))
      unfold entryV at hsame
      have HBD := Lib.hid hbd
      clear hb1 hb2 xl yl hx HBW hbd
      go_wp2_with fail
      go_region_law
        (first
          | (go_simp; go_at_call 14; refine hsame.mono ?_; rintro e w8 ⟨rfl, hb8⟩))
      all_goals
        have HB8 : Hid (Below w.heap.size w w8) := HBD.out.trans (hb8.mono HBD.out.size)
        clear hsame hb8 x0 x1 x2 x3 y0 y1 y2 y3
        go_wp2_with fail
        go_roundw
        case rel => exact ⟨k + 1, by omega, by go_num, HB8⟩
        case measure => simp [intOf]; omega
    · obtain rfl : k = n := by omega
      go_wp2_with fail
      go_ret
      exact ⟨rfl, HBW.out⟩
/-- two disks in one world, from block B on, beside others' blocks F -/
def Duo (B : Nat) (F : Nat → Prop) (w : World) (a : Nat) (Ma : DiskM) (b : Nat) (Mb : DiskM) : Prop := ∃ Sa Sb, DiskAt w Sa a Ma ∧ DiskAt w Sb b Mb ∧ (∀ x, Sa x → B ≤ x ∧ ¬ F x ∧ ¬ Sb x) ∧ (∀ x, Sb x → B ≤ x ∧ ¬ F x) ∧ B ≤ w.heap.size ∧ ∀ x, F x → x < w.heap.size
theorem Duo.swap {B : Nat} {F : Nat → Prop} {w : World} {a b : Nat} {Ma Mb : DiskM} (h : Duo B F w a Ma b Mb) : Duo B F w b Mb a Ma := by
  obtain ⟨Sa, Sb, h1, h2, h3, h4, h5, h6⟩ := h
  exact ⟨Sb, Sa, h2, h1, fun x hx => ⟨(h4 x hx).1, (h4 x hx).2, fun ha => (h3 x ha).2.2 hx⟩, fun x hx => ⟨(h3 x hx).1, (h3 x hx).2.1⟩, h5, h6⟩
theorem DiskAt.keep {w w' : World} {S : Nat → Prop} {d : Nat} {M : DiskM} (h : DiskAt w S d M) (hk : ∀ k, S k → w'.heap[k]? = w.heap[k]?) (hs : w.heap.size ≤ w'.heap.size) : DiskAt w' S d M := by
  obtain ⟨bn, cn, bs, cs, sv, ns, ss, xs, h⟩ := h
  exact ⟨bn, cn, bs, cs, sv, ns, ss, xs, h.later hk hs⟩
/-- a step of the first; new blocks N may be others' -/
theorem Duo.one {B : Nat} {F : Nat → Prop} {w : World} {a b : Nat} {Ma Mb : DiskM} (h : Duo B F w a Ma b Mb) : ∃ G, (∀ x, F x → G x) ∧ DiskF B G w a Ma ∧ (∀ w' Ma', Stays B G w w' → DiskF B G w' a Ma' → Duo B F w' a Ma' b Mb) ∧
    ∀ w' Ma' (N : Nat → Prop), Stays B G w w' → (∀ x, N x → w.heap.size ≤ x ∧ x < w'.heap.size) → DiskF B (fun x => G x ∨ N x) w' a Ma' → Duo B (fun x => F x ∨ N x) w' a Ma' b Mb := by
  obtain ⟨Sa, Sb, h1, h2, h3, h4, h5, h6⟩ := h
  have hdb := diskAt_dom h2
  refine ⟨fun x => F x ∨ Sb x, fun x hx => Or.inl hx, ⟨Sa, h1, fun x hx => ⟨(h3 x hx).1, fun hg => hg.elim (h3 x hx).2.1 (h3 x hx).2.2⟩, h5, fun x hx => hx.elim (h6 x) (hdb x)⟩, ?_, ?_⟩
  · rintro w' Ma' hs ⟨Sa', g1, g2, g3, g4⟩
    exact ⟨Sa', Sb, g1, DiskAt.keep h2 (fun k hk => hs.blk k (Or.inr hk)) hs.below.size, fun x hx => ⟨(g2 x hx).1, fun hf => (g2 x hx).2 (Or.inl hf), fun hb => (g2 x hx).2 (Or.inr hb)⟩, h4, g3, fun x hx => g4 x (Or.inl hx)⟩
  · rintro w' Ma' N hs hN ⟨Sa', g1, g2, g3, g4⟩
    exact ⟨Sa', Sb, g1, DiskAt.keep h2 (fun k hk => hs.blk k (Or.inr hk)) hs.below.size, fun x hx => ⟨(g2 x hx).1, fun hf => (g2 x hx).2 (hf.elim (fun h => Or.inl (Or.inl h)) Or.inr), fun hb => (g2 x hx).2 (Or.inl (Or.inr hb))⟩, fun x hx => ⟨(h4 x hx).1, fun hf => hf.elim (h4 x hx).2 (fun hn => by have := (hN x hn).1; have := hdb x hx; omega)⟩, g3, fun x hx => g4 x (hx.elim (fun h => Or.inl (Or.inl h)) Or.inr)⟩
/-- a second disk is made -/
theorem Duo.new {B : Nat} {w1 w2 : World} {a : Nat} {Ma Mb : DiskM} (h : DiskF B (fun _ => False) w1 a Ma) (hb : Below w1.heap.size w1 w2) (h2 : DiskF w1.heap.size (fun _ => False) w2 w1.heap.size Mb) : Duo B (fun _ => False) w2 a Ma w1.heap.size Mb := by
  obtain ⟨Sa, g1, g2, g3, g4⟩ := h
  obtain ⟨Sb, k1, k2, k3, k4⟩ := h2
  have hda := diskAt_dom g1
  exact ⟨Sa, Sb, g1.later hb, k1, fun x hx => ⟨(g2 x hx).1, fun h => h, fun hb' => by have := (k2 x hb').1; have := hda x hx; omega⟩, fun x hx => ⟨by have := (k2 x hx).1; omega, fun h => h⟩, Nat.le_trans g3 hb.size, fun x hx => hx.elim⟩
end Go.Proofs.Ytldpflijgbcbhaa.lg
