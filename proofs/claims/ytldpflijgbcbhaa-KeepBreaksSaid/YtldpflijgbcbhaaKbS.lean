/- keep.Save on any disk, where what is saved begins with what is kept, and all of it is right. -/
import Derived.Test.YtldpflijgbcbhaaKpE
import Derived.Test.YtldpflijgbcbhaaKbA
namespace Go.Proofs.Ytldpflijgbcbhaa.lg
open Go.RowKit

theorem bareR_near (M : DiskM) (L : LogS) : (bareR M 0 L).1.now.length = M.now.length ∧ (bareR M 0 L).1.steps ≤ M.steps + 2 ∧ (bareR M 0 L).1.since.length ≤ M.since.length + 2 := by
  obtain ⟨g1, g2, g3⟩ := putM_len M 0 L (L.stream.length / 60)
  unfold bareR
  split
  · split
    · show (DiskM.fl _).now.length = _ ∧ (DiskM.fl _).steps ≤ _ ∧ (DiskM.fl _).since.length ≤ _
      unfold DiskM.fl
      split
      · exact ⟨g1, by omega, by omega⟩
      · exact ⟨g1, by show (putM M 0 L (L.stream.length / 60)).steps + 1 ≤ _; omega, Nat.zero_le _⟩
    · exact ⟨g1, by show (putM M 0 L (L.stream.length / 60)).steps ≤ _; omega, by show (putM M 0 L (L.stream.length / 60)).since.length ≤ _; omega⟩
  · exact ⟨rfl, by show M.steps ≤ _; omega, by show M.since.length ≤ _; omega⟩
theorem appR_near (M : DiskM) (L : LogS) (b : List UInt8) (hb : b.length ≤ 200) : (appR M 0 L b).1.now.length = M.now.length ∧ (appR M 0 L b).1.steps ≤ M.steps + 8 ∧ (appR M 0 L b).1.since.length ≤ M.since.length + 8 := by
  obtain ⟨g1, g2, g3⟩ := bareR_near M L
  unfold appR
  split
  · obtain ⟨k1, k2, k3⟩ := putsR_len 0 (L.bared.add b) (chunks L.stream (enc1 b)) (L.stream.length / 60) (bareR M 0 L).1
    have := chunks_le5 (s := L.stream) (x := enc1 b) (by rw [enc1_len]; omega)
    exact ⟨k1.trans g1, by omega, by omega⟩
  · exact ⟨g1, by omega, by omega⟩
/-- while records are appended, on any disk -/
structure PutS (B : Nat) (G : Nat → Prop) (w10 wr : World) (d p : Nat) (M' : DiskM) (L' : LogS) (s j : Nat) (ms : List (List UInt8)) (R : DiskM × Int) : Prop where
  stays : Stays B G w10 wr
  sys : Sys B G wr d M' p 0 150 L'
  go : saveR (ms.drop j) M' L' = R
  steps : M'.steps ≤ s + 8 * j
  since : M'.since.length ≤ s + 8 * j
  str : L'.stream.length + (enc (ms.drop j)).length ≤ 8880
  saf : L'.safe < 2
  ep : L'.epoch ≤ 65000
  brk : L'.broken = false
  recl : L'.recs.length ≤ 5001 + j
  bare : L'.bare = true → L'.stream.length % 60 ≠ 0
section
variable {B : Nat} {G : Nat → Prop} {w10 wr w11 : World} {d p : Nat} {M' : DiskM} {L' : LogS} {s j : Nat} {ms : List (List UInt8)} {R : DiskM × Int} {b : List UInt8}
theorem PutS.room (h : PutS B G w10 wr d p M' L' s j ms R) (hb : ms[j]? = some b) : L'.stream.length + b.length + 2 ≤ 60 * (150 - 2) := by
  have := h.str
  rw [drop_cons hb, enc_cons, List.length_append, enc1_len] at this
  omega
theorem PutS.step (h : PutS B G w10 wr d p M' L' s j ms R) (hb : ms[j]? = some b) (h2 : b.length ≤ 200) (hc : (appR M' 0 L' b).2 = 0) (hs : Stays B G wr w11) (hy : Sys B G w11 d (appR M' 0 L' b).1 p 0 150 (L'.bared.add b)) : PutS B G w10 w11 d p (appR M' 0 L' b).1 (L'.bared.add b) s (j + 1) ms R := by
  obtain ⟨g1, g2, g3⟩ := appR_near M' L' b h2
  obtain ⟨q1, q2, q3, q4, q5, q6⟩ := bared_eq L'
  have h3 := h.steps
  have h4 := h.since
  refine ⟨h.stays.trans hs, hy, ?_, by omega, by omega, ?_, q6 h.saf, by show L'.bared.epoch ≤ _; rw [q3]; exact h.ep, by show L'.bared.broken = _; rw [q5]; exact h.brk, ?_, fun hx => ?_⟩
  · have h5 := h.go
    rw [drop_cons hb, saveR, if_pos hc] at h5
    exact h5
  · have h5 := h.str
    rw [drop_cons hb, enc_cons, List.length_append, enc1_len] at h5
    show (L'.bared.stream ++ enc1 b).length + _ ≤ _
    rw [q1, List.length_append, enc1_len]; omega
  · show (L'.bared.recs ++ [b]).length ≤ _
    rw [q2]; have := h.recl; simp; omega
  · have : L'.bared.bare = true := hx
    rw [q4] at this; cases this
theorem PutS.fell (h : PutS B G w10 wr d p M' L' s j ms R) (hb : ms[j]? = some b) (hc : (appR M' 0 L' b).2 ≠ 0) : R = appR M' 0 L' b := by
  have h5 := h.go
  rw [drop_cons hb, saveR, if_neg hc] at h5
  exact h5.symm
end
def SaveS (B : Nat) (F : Nat → Prop) (w : World) (d : Nat) (R : DiskM × Int) (e : Ending) (w' : World) : Prop := e = .returned (errV R.2) ∧ Stays B F w w' ∧ DiskF B F w' d R.1
set_option maxRecDepth 100000 in
set_option maxHeartbeats 8000000 in
theorem ksave_stop (B : Nat) (F : Nat → Prop) (w : World) (d : Nat) (M : DiskM) (L : LogS) (old l : List EntryM) (lao : Option Addr) (lcap s : Nat) (h : DiskF B F w d M) (hlen : 150 ≤ M.now.length) (hT : ∀ i c, i < 2 → blkOf M.now 0 150 i = some c → c.used < 60) (hL : L = openS (blkOf M.now 0 150) 150) (hrec : L.recs = headB :: old.map EntryM.bytes) (hstr : L.stream = enc (headB :: old.map EntryM.bytes))
    (hep : L.epoch ≤ 65000) (hsf : L.safe < 2) (hbr : L.broken = false) (hbb : L.bare = true → L.stream.length % 60 ≠ 0) (hold : ∀ (i : Nat) (o : EntryM), old[i]? = some o → l[i]? = some o) (hom : old.length ≤ l.length) (hes : ∀ x ∈ l, x.ok ∧ x.bytes.length ≤ 200) (hlm : l.length ≤ 5000) (hroom : (enc (headB :: l.map EntryM.bytes)).length ≤ 8880) (hst : M.steps ≤ s) (hsi : M.since.length ≤ s) (hs : s ≤ 1000000)
    (hE : ∀ w', Stays B F w w' → EntsAt w' lao l) :
    Calls Try.prog 29 #[.pointer (some ⟨d, 0, none⟩), .slice lao l.length lcap] w (SaveS B F w d (saveR ((l.drop old.length).map EntryM.bytes) M L)) := by
  have hB : B ≤ w.heap.size := by obtain ⟨S, g1, g2, g3, g4⟩ := h; exact g3
  have hF : ∀ x, F x → x < w.heap.size := by obtain ⟨S, g1, g2, g3, g4⟩ := h; exact g4
  have hoes : ∀ x ∈ old, x.ok ∧ x.bytes.length ≤ 200 := fun x hx => by
    obtain ⟨i, hi⟩ := List.getElem?_of_mem hx
    exact hes x (List.mem_of_getElem? (hold i x hi))
  have hop := kopen_any B F w d M old L h hlen hT hL hrec hoes (by omega)
  obtain ⟨n, hn⟩ : ∃ n, n = l.length := ⟨_, rfl⟩
  obtain ⟨m, hm⟩ : ∃ m, m = old.length := ⟨_, rfl⟩
  obtain ⟨R, hR⟩ : ∃ R, R = saveR ((l.drop old.length).map EntryM.bytes) M L := ⟨_, rfl⟩
  rw [← hR]
  rw [← hm] at hop hom hR
  rw [← hn] at hlm hom ⊢
  have hneed : (enc (headB :: old.map EntryM.bytes)).length + need (l.drop m) ≤ 8880 := by
    have e : headB :: l.map EntryM.bytes = (headB :: old.map EntryM.bytes) ++ (l.drop m).map EntryM.bytes := by
      have : l.map EntryM.bytes = old.map EntryM.bytes ++ (l.drop m).map EntryM.bytes := by
        conv => lhs; rw [← List.take_append_drop m l]
        rw [List.map_append]
        congr 1
        congr 1
        apply List.ext_getElem?
        intro i
        by_cases hi : i < m
        · rw [List.getElem?_take_of_lt hi]
          obtain ⟨o, ho⟩ : ∃ o, old[i]? = some o := ⟨old[i]'(by rw [← hm]; exact hi), List.getElem?_eq_getElem _⟩
          rw [ho, hold i o ho]
        · rw [List.getElem?_take, if_neg hi, List.getElem?_eq_none (by omega)]
      rw [this]; rfl
    rw [e, enc_append, List.length_append, enc_need] at hroom
    exact hroom
  have HR := Lib.hid hR
  have HN := Lib.hid hn
  have HM := Lib.hid hm
  have HREC := Lib.hid hrec
  have HSTR := Lib.hid hstr
  have HOLD := Lib.hid hold
  have HE := Lib.hid hE
  have HES := Lib.hid hes
  have HNEED := Lib.hid hneed
  have HFIT : Hid (L.epoch ≤ 65000 ∧ L.safe < 2 ∧ L.broken = false ∧ (L.bare = true → L.stream.length % 60 ≠ 0) ∧ M.steps ≤ s ∧ M.since.length ≤ s) := ⟨hep, hsf, hbr, hbb, hst, hsi⟩
  have HBF : Hid (B ≤ w.heap.size ∧ ∀ x, F x → x < w.heap.size) := ⟨hB, hF⟩
  have HD := Lib.hid h
  clear hrec hstr hT hL h hold hE hes hoes hR hn hm hB hF hneed hroom hep hsf hbr hbb hst hsi hlen
  go_enter Try.func29, Try.ntmps29
  go_wp2_with fail
  refine hop.mono ?_
  rintro e w4 ⟨p, oao, ocap, n0, rfl, hn0, hb4, hy4, he4⟩
  have HB4 := Lib.hid hb4
  have HY4 := Lib.hid hy4
  have HE4 := Lib.hid he4
  have HS4 : Hid (∀ w', Below w4.heap.size w4 w' → Stays B F w w') := fun w' hb => Stays.of_below (HB4.out.trans (hb.mono HB4.out.size)) HBF.out.1 HBF.out.2
  clear hop hb4 hy4 he4 hn0
  have hlt : ¬ n < m := by omega
  have HM0 := Lib.hid (MoreI.start w4)
  go_upto_block 0 with (fail)
  go_cut [8, 9] (fun v nd wx => ∃ (rs : List Value) (N : Nat), nd = .int .i64 (N : Int) ∧ N ≤ 202 * n ∧ Hid (N = need (l.drop m)) ∧ Hid (MoreI w4 wx v rs ((l.drop m).map EntryM.bytes)))
  case first =>
    go_wp2_with fail
    go_loopw [8, 9, 37] (fun v nd z wr => ∃ (i N : Nat) (rs : List Value), i ≤ n ∧ z = .int .i64 (i : Int) ∧ nd = .int .i64 (N : Int) ∧ N ≤ 202 * i ∧ Hid (N = need (midE l m i)) ∧ Hid (MoreI w4 wr v rs ((midE l m i).map EntryM.bytes))) (fun _ _ z _ => n - (intOf z).toNat)
    case atStart => exact ⟨0, 0, [], Nat.zero_le _, rfl, rfl, Nat.zero_le _, by rw [midE_le (Nat.zero_le _)]; rfl, by rw [midE_le (Nat.zero_le _)]; exact HM0.out⟩
    case round =>
      clear HM0
      obtain ⟨i, N, rs, hi, rfl, rfl, hNb, hN, hMI⟩ := hrel
      by_cases hin : i < n
      · obtain ⟨x, hx⟩ : ∃ x, l[i]? = some x := ⟨l[i]'(by rw [← HN.out]; exact hin), List.getElem?_eq_getElem _⟩
        have hea := HE.out wr (HS4.out wr hMI.out.below)
        obtain ⟨b, off, yao, yc, rfl, hbl, c0, c1, c2, c3, hyl⟩ := ents_at hea hx
        have hxes := HES.out x (List.mem_of_getElem? hx)
        obtain ⟨W7, hW7⟩ : ∃ W7, W7 = wr.alloc (.cells #[.string x.ref, .int .i64 x.ent, .int .i64 x.per, .slice yao x.lines.length yc] 30) := ⟨_, rfl⟩
        have hb7 : Below wr.heap.size wr W7 := by rw [hW7]; exact (Below.refl _ _).alloc (Nat.le_refl _) _
        have hbox : W7.heap[wr.heap.size]? = some (.cells #[.string x.ref, .int .i64 x.ent, .int .i64 x.per, .slice yao x.lines.length yc] 30 (0, 0)) := by rw [hW7]; exact heap_new_at rfl _
        have x0 : W7.cell? ⟨wr.heap.size, 0, none⟩ = some (.string x.ref) := cell_of_heap hbox 0
        have x1 : W7.cell? ⟨wr.heap.size, 1, none⟩ = some (.int .i64 x.ent) := cell_of_heap hbox 1
        have x2 : W7.cell? ⟨wr.heap.size, 2, none⟩ = some (.int .i64 x.per) := cell_of_heap hbox 2
        have x3 : W7.cell? ⟨wr.heap.size, 3, none⟩ = some (.slice yao x.lines.length yc) := cell_of_heap hbox 3
        have hent := entry_any x yao yc W7 (fair_of_ok hxes.1) (hyl.below hb7 (Nat.le_refl _))
        rw [(entry_code x).2 hxes.1] at hent
        unfold entryV at hent
        have HMI7 := Lib.hid (hMI.out.later hb7)
        have HBR := Lib.hid hMI.out.below
        have HX := Lib.hid hx
        have HXES := Lib.hid hxes
        have HW7 := Lib.hid hW7
        obtain ⟨q7, hq7⟩ : ∃ q7, q7 = wr.heap.size := ⟨_, rfl⟩
        rw [← hq7] at x0 x1 x2 x3
        have HQ7 := Lib.hid hq7
        clear hea hbl hyl hxes hW7 hb7 hbox hx hMI hq7
        go_upto_region 11 with (fail)
        rw [← HW7.out, ← HQ7.out]
        clear c0 c1 c2 c3
        go_wp2_with fail
        refine hent.mono ?_
        rintro e w8 ⟨v8, rfl, hb8, hrow8⟩
        have HMI8 := Lib.hid (HMI7.out.later hb8)
        have HB8 := Lib.hid hb8
        clear hent x0 x1 x2 x3 HMI7 hb8
        have hrow8 := hrow8 rfl
        rw [if_pos rfl, errV_zero]
        obtain ⟨lb, hlb⟩ : ∃ lb, lb = x.bytes.length := ⟨_, rfl⟩
        have hlb1 : 1 ≤ lb := by rw [hlb]; exact entry_len x
        have hlb2 : lb ≤ 200 := by rw [hlb]; exact HXES.out.2
        obtain ⟨gv, cv, hv8, hgv1, hgv2, _⟩ := ownsRow_some hrow8 (by rw [← hlb]; exact hlb1)
        subst hv8
        have HRX : Hid (RecAt w8 (fun k => w4.heap.size ≤ k ∧ k < w8.heap.size) (.slice (some ⟨gv, 0, none⟩) lb cv) x.bytes) := by
          rw [hlb]
          refine ⟨ownsRow_base hrow8 0, fun k hk => ?_⟩
          have e : gv = k := Option.some.inj hk
          have h1 := HMI8.out.below.size
          have h2 := HB8.out.size
          have h3 : w4.heap.size ≤ W7.heap.size := by
            have e7 : W7.heap.size = wr.heap.size + 1 := by rw [HW7.out]; simp
            have := HQ7.out
            have h5 := HBR.out.size
            omega
          exact ⟨by omega, by omega⟩
        rw [← hlb]
        have HLB := Lib.hid hlb
        clear hlb hrow8 hgv1 hgv2
        by_cases him : i < m
        · obtain ⟨o, ho⟩ : ∃ o, old[i]? = some o := ⟨old[i]'(by rw [← HM.out]; exact him), List.getElem?_eq_getElem _⟩
          have hox : o = x := by have h1 := HOLD.out i o ho; rw [HX.out] at h1; exact (Option.some.inj h1).symm
          subst hox
          obtain ⟨b2, o2, zao, zc, rfl, hb2, k0, k1, k2, k3, hzl⟩ := ents_at (HE4.out w8 (fun k hk => HMI8.out.below.block k hk.2) HMI8.out.below.size) ho
          have hent := entry_any o zao zc w8 (fair_of_ok HXES.out.1) hzl
          rw [(entry_code o).2 HXES.out.1] at hent
          unfold entryV at hent
          clear hb2 hzl ho
          go_wp2_with fail
          refine hent.mono ?_
          rintro e w9 ⟨v9, rfl, hb9, hrow9⟩
          have hrow9 := hrow9 rfl
          rw [if_pos rfl, errV_zero]
          obtain ⟨g9, c9, hv9, _⟩ := ownsRow_some hrow9 (by rw [← HLB.out]; exact hlb1)
          subst hv9
          rw [← HLB.out]
          have hcv1 := conv_at (bytes_of_row hrow9 rfl)
          rw [← HLB.out] at hcv1
          have hcv2 : (convert 23 9 (.slice (some ⟨gv, 0, none⟩) lb cv)).run Try.prog w9 = .ok (.string ⟨o.bytes.toArray⟩) w9 :=
            conv_at (BytesW.keep' (bytes_of_row (HRX.out.1) rfl) (fun g' _ hg' => hb9.block g' hg') hb9.size)
          obtain ⟨S1, hS1⟩ : ∃ S1, S1 = (⟨o.bytes.toArray⟩ : ByteArray) := ⟨_, rfl⟩
          rw [← hS1] at hcv1 hcv2
          have HMI9 := Lib.hid (HMI8.out.later hb9)
          have HMI10 : Hid (MoreI w4 w9 u8 rs ((midE l m (i + 1)).map EntryM.bytes)) := by
            have h0 := HMI9.out
            rw [midE_le (show i ≤ m by omega)] at h0
            rw [midE_le (show i + 1 ≤ m by omega)]
            exact h0
          have HN1 : Hid (N = need (midE l m (i + 1))) := by
            show _ = _
            rw [hN.out, midE_le (show i ≤ m by omega), midE_le (show i + 1 ≤ m by omega)]
          clear hent hb9 hrow9 hS1 HMI8 HMI9 hN k0 k1 k2 k3
          go_wp2_with fail
          go_roundw
          case rel => exact ⟨i + 1, N, rs, by omega, by go_num, rfl, by omega, HN1, HMI10⟩
          case measure => simp [intOf]; omega
        · obtain ⟨K, hK⟩ : ∃ K, K = i - m := ⟨_, rfl⟩
          have hml : ((midE l m i).map EntryM.bytes).length = K := by rw [List.length_map, midE_len (by rw [← HN.out]; exact hi), hK]
          obtain ⟨ao9, cap9, w9, hr, hmi9⟩ := HMI8.out.more HRX.out (by omega)
          rw [hml] at hr hmi9
          have HMI9 : Hid (MoreI w4 w9 (.slice ao9 (K + 1) cap9) (rs ++ [.slice (some ⟨gv, 0, none⟩) lb cv]) ((midE l m (i + 1)).map EntryM.bytes)) := by
            rw [midE_succ HX.out (by omega), List.map_append]
            exact hmi9
          have HN1 : Hid (N + (lb + 2) = need (midE l m (i + 1))) := by
            show _ = _
            rw [midE_succ HX.out (by omega), need_snoc, ← hN.out, ← HLB.out]
          clear hmi9 hml hK HMI8 hN
          go_wp2_with (at_builtin; refine Lib.wpList_append_run _ rfl _ _ _ _ rfl _ _ rfl rfl _ _ hr ?_)
          clear hr
          go_wp2_with fail
          go_roundw
          case rel => exact ⟨i + 1, N + (lb + 2), _, by omega, by go_num, by rw [show (N : Int) + ((lb : Int) + 2) = ((N + (lb + 2) : Nat) : Int) by omega], by omega, HN1, HMI9⟩
          case measure => simp [intOf]; omega
      · obtain rfl : i = n := by omega
        have HEND : Hid (∃ (rs : List Value) (N' : Nat), Value.int .i64 (N : Int) = .int .i64 (N' : Int) ∧ N' ≤ 202 * i ∧ Hid (N' = need (l.drop m)) ∧ Hid (MoreI w4 wr u8 rs ((l.drop m).map EntryM.bytes))) := by
          have e := midE_all (l := l) (m := m) (i := i) (by rw [← HN.out]; omega)
          exact ⟨rs, N, rfl, hNb, by rw [← e]; exact hN, by rw [← e]; exact hMI⟩
        clear hMI hN
        go_wp2_with fail
        go_meet
        exact HEND.out
  case rest =>
    obtain ⟨rs, N, rfl, hNb, hN, hMI⟩ := hcut
    obtain ⟨wx, hwx⟩ : ∃ wx : World, wx = wc := ⟨_, rfl⟩
    subst hwx
    obtain ⟨K, hK⟩ : ∃ K, K = n - m := ⟨_, rfl⟩
    have hml : ((l.drop m).map EntryM.bytes).length = K := by rw [List.length_map, List.length_drop, ← HN.out, hK]
    obtain ⟨mo, mc, hmo, hmc⟩ := row_slice' hMI.out.all.row
    rw [hml] at hmo hmc
    subst hmo
    have hy5 := HY4.out.more hMI.out.below (fun x => F x ∨ (w4.heap.size ≤ x ∧ x < wx.heap.size)) (fun x hx => hx.imp Or.inl id)
    have hstl : L.stream.length = (enc (headB :: old.map EntryM.bytes)).length := by rw [HSTR.out]
    have hnd := HNEED.out
    rw [← hN.out, ← hstl] at hnd
    have hrm := room_any wx p 150 L.stream.length L.recs.length hy5.size' (by omega) (by omega)
    obtain ⟨RM, hRM⟩ : ∃ RM, RM = 60 * (150 - 2) - L.stream.length := ⟨_, rfl⟩
    rw [← hRM] at hrm
    have hRN : ¬ RM < N := by omega
    have HY5 := Lib.hid hy5
    have HML := Lib.hid hml
    have HSX := Lib.hid (HS4.out wx hMI.out.below)
    have HMX := Lib.hid hMI.out
    have HND := Lib.hid hnd
    have hRb : RM ≤ 8880 := by omega
    have hKb : K ≤ 5000 := by omega
    have hKn : K ≤ n := by omega
    have HNN := Lib.hid hN.out
    clear hy5 hml hK hstl hN hMI HB4 HS4 HE4 hRM hnd
    go_wp2_with fail
    refine hrm.mono ?_
    rintro e w10 ⟨rfl, hb10⟩
    obtain ⟨ms, hms⟩ : ∃ ms, ms = (l.drop m).map EntryM.bytes := ⟨_, rfl⟩
    have HMX := HMX
    rw [← hms] at HMX HML
    have hb200 : ∀ b ∈ ms, 1 ≤ b.length ∧ b.length ≤ 200 := by
      intro b hb
      rw [hms] at hb
      obtain ⟨x, hx, rfl⟩ := List.mem_map.1 hb
      exact ⟨entry_len x, (HES.out x (List.mem_of_mem_drop hx)).2⟩
    have HP0 : Hid (PutS B (fun x => F x ∨ (w4.heap.size ≤ x ∧ x < wx.heap.size)) w10 w10 d p M L s 0 ms R) := by
      obtain ⟨f1, f2, f3, f4, f5, f6⟩ := HFIT.out
      refine ⟨Stays.refl _ _ _, HY5.out.later hb10, by rw [List.drop_zero, hms]; exact HR.out.symm, by omega, by omega, ?_, f2, f1, f3, ?_, f4⟩
      · rw [List.drop_zero, hms, enc_need, ← HNN.out]; exact HND.out
      · rw [HREC.out]; simp; have := HM.out; omega
    have HAL : Hid (∀ wr, Stays B (fun x => F x ∨ (w4.heap.size ≤ x ∧ x < wx.heap.size)) w10 wr → AllIs (fun x => w4.heap.size ≤ x ∧ x < wx.heap.size) wr (.slice mo K mc) rs ms) := fun wr hs =>
      (HMX.out.all.later (fun g hg => hb10.block g hg.2) (fun _ h => h)).later (fun g hg => hs.blk g (Or.inr hg)) (fun _ h => h)
    have HS10 : Hid (Stays B F w w10) := HSX.out.trans (Stays.of_below hb10 (Nat.le_trans HBF.out.1 HSX.out.below.size) (fun x hx => Nat.lt_of_lt_of_le (HBF.out.2 x hx) HSX.out.below.size))
    have HB200 := Lib.hid hb200
    clear hrm hb10 hb200 hms HMX
    go_wp2_with fail
    go_loopw [93] (fun z wr => ∃ (j : Nat) (M' : DiskM) (L' : LogS), j ≤ K ∧ z = .int .i64 (j : Int) ∧ Hid (PutS B (fun x => F x ∨ (w4.heap.size ≤ x ∧ x < wx.heap.size)) w10 wr d p M' L' s j ms R)) (fun z _ => K - (intOf z).toNat)
    case atStart => exact ⟨0, M, L, Nat.zero_le _, rfl, HP0.out⟩
    case round =>
      clear HP0
      obtain ⟨j, M', L', hj, rfl, hP⟩ := hrel
      have hst := hP.out.steps
      have hsi := hP.out.since
      by_cases hjK : j < K
      · have hal := HAL.out wr hP.out.stays
        obtain ⟨b, hb⟩ : ∃ b, ms[j]? = some b := ⟨ms[j]'(by rw [HML.out]; exact hjK), List.getElem?_eq_getElem _⟩
        obtain ⟨x, hx, hxr⟩ := hal.each j b hb
        have hrow := hal.row
        rw [HML.out] at hrow
        obtain ⟨gm, mc', hmv, _⟩ := ownsRow_some hrow (by omega)
        injection hmv with e1 _ e3
        subst e1
        subst e3
        obtain ⟨xo, xc, hxe, _⟩ := row_slice' hxr.1
        subst hxe
        have cj : wr.cell? ⟨gm, j, none⟩ = some (.slice xo b.length xc) := (row_cell hrow hjK).trans hx
        have hbb := HB200.out b (List.mem_of_getElem? hb)
        have hrm := hP.out.room hb
        have hap := append_any B (fun x => F x ∨ (w4.heap.size ≤ x ∧ x < wx.heap.size)) (.slice xo b.length xc) b wr p d 0 150 M' L' hP.out.sys (bytes_of_row hxr.1 rfl) (fun g hg => Or.inl (Or.inr (hxr.2 g hg))) hP.out.brk hbb.1 hbb.2 hrm (by omega) hP.out.saf (by have := hP.out.ep; omega) (by omega) (by have := hP.out.recl; omega) (by omega) (by omega) hP.out.bare
        obtain ⟨lb, hlb⟩ : ∃ lb, lb = b.length := ⟨_, rfl⟩
        rw [← hlb] at cj hap
        obtain ⟨rl, hrle⟩ : ∃ rl, rl = L'.recs.length := ⟨_, rfl⟩
        rw [← hrle] at hap
        have HBJ := Lib.hid hb
        have HBB := Lib.hid hbb
        clear hal hb hx hxr hrow hbb hrm hst hsi hlb hrle
        by_cases hC : (appR M' 0 L' b).2 = 0
        · have HC := Lib.hid hC
          unfold AppPost at hap
          rw [if_pos hC, hC, errV_zero] at hap
          clear hC
          go_wp2_with fail
          refine hap.mono ?_
          rintro e w11 ⟨rfl, hs11, hy11, _⟩
          have HPN := Lib.hid (hP.out.step HBJ.out HBB.out.2 HC.out hs11 (hy11 trivial))
          clear hap hs11 hy11 hP cj
          go_wp2_with fail
          go_roundw
          case rel => exact ⟨j + 1, _, _, by omega, by go_num, HPN⟩
          case measure => simp [intOf]; omega
        · have HRE := Lib.hid (hP.out.fell HBJ.out hC)
          have HC := Lib.hid hC
          unfold AppPost at hap
          rw [if_neg hC, errV_some hC] at hap
          generalize hAR : appR M' 0 L' b = AR at *
          clear hC
          go_wp2_with fail
          refine hap.mono ?_
          rintro e w11 ⟨rfl, hs11, _, hd11⟩
          have HF9 : Hid (SaveS B F w d R (.returned (.iface 75 (.int .i64 AR.2))) w11) := by
            obtain ⟨S, g1, g2, g3, g4⟩ := hd11
            refine ⟨by rw [HRE.out, errV_some HC.out], (HS10.out.trans (hP.out.stays.mono (fun x hx => Or.inl hx))).trans (hs11.mono (fun x hx => Or.inl hx)), ?_⟩
            rw [HRE.out]
            exact ⟨S, g1, fun k hk => ⟨(g2 k hk).1, fun hf => (g2 k hk).2 (Or.inl hf)⟩, g3, fun k hk => g4 k (Or.inl hk)⟩
          clear hap hs11 hd11 hP cj
          go_wp2_with fail
          go_ret
          exact HF9.out
      · obtain rfl : j = K := by omega
        have hsr := hP.out.str
        have hsy := sync_any B _ wr p d 0 150 M' L' hP.out.sys hP.out.brk (by omega) hP.out.saf (by omega)
        have HGO : Hid (R = (M'.fl, M'.fcode)) := by
          have h5 := hP.out.go
          rw [List.drop_of_length_le (by rw [HML.out]; exact Nat.le_refl _)] at h5
          exact h5.symm
        clear hst hsi hsr
        by_cases hC : M'.fcode = 0
        · rw [hC, errV_zero] at hsy
          have HC := Lib.hid hC
          clear hC
          go_wp2_with fail
          refine hsy.mono ?_
          rintro e w12 ⟨rfl, hs12, _, hd12⟩
          have HF9 : Hid (SaveS B F w d R (.returned .nilIface) w12) := by
            obtain ⟨S, g1, g2, g3, g4⟩ := hd12
            refine ⟨by rw [HGO.out, HC.out, errV_zero], (HS10.out.trans (hP.out.stays.mono (fun x hx => Or.inl hx))).trans (hs12.mono (fun x hx => Or.inl hx)), ?_⟩
            rw [HGO.out]
            exact ⟨S, g1, fun k hk => ⟨(g2 k hk).1, fun hf => (g2 k hk).2 (Or.inl hf)⟩, g3, fun k hk => g4 k (Or.inl hk)⟩
          clear hsy hs12 hd12 hP
          go_wp2_with fail
          go_ret
          exact HF9.out
        · have HC := Lib.hid hC
          rw [errV_some hC] at hsy
          generalize hFC : M'.fcode = FC at *
          clear hC
          go_wp2_with fail
          refine hsy.mono ?_
          rintro e w12 ⟨rfl, hs12, _, hd12⟩
          have HF9 : Hid (SaveS B F w d R (.returned (.iface 75 (.int .i64 FC))) w12) := by
            obtain ⟨S, g1, g2, g3, g4⟩ := hd12
            refine ⟨by rw [HGO.out, errV_some HC.out], (HS10.out.trans (hP.out.stays.mono (fun x hx => Or.inl hx))).trans (hs12.mono (fun x hx => Or.inl hx)), ?_⟩
            rw [HGO.out]
            exact ⟨S, g1, fun k hk => ⟨(g2 k hk).1, fun hf => (g2 k hk).2 (Or.inl hf)⟩, g3, fun k hk => g4 k (Or.inl hk)⟩
          clear hsy hs12 hd12 hP
          go_wp2_with fail
          go_ret
          exact HF9.out
end Go.Proofs.Ytldpflijgbcbhaa.lg
