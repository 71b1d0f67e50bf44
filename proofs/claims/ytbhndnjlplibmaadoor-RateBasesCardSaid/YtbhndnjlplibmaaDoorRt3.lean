/- rate.Check where all is right; rate.Find at rates that are. -/
import Derived.Test.YtbhndnjlplibmaaDoorRt2
namespace Go.Proofs.YtbhndnjlplibmaaDoor.rt
open Go.RowKit Go.MapKept Go.Proofs.YtbhndnjlplibmaaDoor.lg

/-- all is right -/
structure Right (rs : List RateM) : Prop where
  cur : ∀ r ∈ rs, curB r.fr = true ∧ curB r.to = true ∧ r.fr.size = 3 ∧ r.to.size = 3 ∧ sameS r.fr r.to = false
  num : ∀ r ∈ rs, (1 ≤ r.per ∧ r.per ≤ 120) ∧ (1 ≤ r.num ∧ r.num ≤ 1000000000) ∧ (1 ≤ r.den ∧ r.den ≤ 1000000000)
  apart : (rs.map keyR).Nodup
  few : rs.length ≤ 100
theorem key_ok {r : RateM} (h1 : r.fr.size = 3) (h2 : r.to.size = 3) (h3 : 1 ≤ r.per ∧ r.per ≤ 120) : keyOk (keyR r) := by
  unfold keyOk keyR maxLen
  exact ⟨minS_size (by omega) (by omega), maxS_size (by omega) (by omega), by simp only; omega⟩
theorem key_new {rs : List RateM} (h : (rs.map keyR).Nodup) {k : Nat} {x : RateM} (hx : rs[k]? = some x) : keyR x ∉ (rs.take k).map keyR ∧ (rs.take k).map keyR ++ [keyR x] = (rs.take (k + 1)).map keyR := by
  obtain ⟨hk, rfl⟩ := List.getElem?_eq_some_iff.1 hx
  have e : rs.take (k + 1) = rs.take k ++ [rs[k]] := by rw [List.take_succ_eq_append_getElem hk]
  refine ⟨fun hm => ?_, by rw [e, List.map_append]; rfl⟩
  have h2 : ((rs.take (k + 1)).map keyR).Nodup := List.Sublist.nodup ((List.take_sublist (k + 1) rs).map keyR) h
  rw [e, List.map_append, List.nodup_append] at h2
  exact h2.2.2 _ hm _ (by simp) rfl
theorem cur_in (s : ByteArray) (h : curB s = true) (w : World) : Calls Tryd.prog 64 #[.string s] w fun e w' => e = .returned (.bool true) ∧ Below w.heap.size w w' := by
  have := cur_any s w
  rw [h] at this
  exact this
set_option maxRecDepth 100000 in
set_option maxHeartbeats 8000000 in
theorem check_right (b cap : Nat) (rs : List RateM) (w : World) (hl : RatesAt w b rs) (hr : Right rs) :
    Calls Tryd.prog 63 #[.slice (some ⟨b, 0, none⟩) rs.length cap] w fun e w' => e = .returned .nilIface ∧ Below w.heap.size w w' := by
  have hn := hr.few
  have hd : decide ((100 : Int) < (rs.length : Int)) = false := decide_eq_false (by omega)
  obtain ⟨bm, hbm⟩ : ∃ bm, bm = w.heap.size := ⟨_, rfl⟩
  have hmm := @run_makeMap Tryd.prog 135 w
  rw [← hbm] at hmm
  obtain ⟨W1, hW1⟩ : ∃ W1, W1 = w.alloc (.map #[] 0) := ⟨_, rfl⟩
  rw [← hW1] at hmm
  have HM1 : Hid (SetK W1 bm []) := by show SetK _ _ _; rw [hW1, hbm]; exact set_made w
  have HB1 : Hid (Below w.heap.size w W1) := by show Below _ _ _; rw [hW1]; exact (Below.refl _ _).alloc (Nat.le_refl _) _
  have HBM : Hid (w.heap.size ≤ bm) := by show _ ≤ _; omega
  have HL := Lib.hid hl
  have HRT := Lib.hid hr
  clear hl hr hW1 hbm
  go_enter Tryd.func63, Tryd.ntmps63
  go_wp2_with fail
  go_loopw [14] (fun i wr => ∃ k : Nat, k ≤ rs.length ∧ i = .int .i64 (k : Int) ∧ Hid (SetK wr bm ((rs.take k).map keyR)) ∧ Hid (Below w.heap.size w wr)) (fun i _ => rs.length - (intOf i).toNat)
  case atStart => exact ⟨0, Nat.zero_le _, rfl, HM1, HB1⟩
  case round =>
    clear HM1 HB1
    obtain ⟨k, hk, rfl, HM, HBW⟩ := hrel
    have hi0 : (0 : Int) ≤ (k : Int) := by omega
    by_cases hlt : k < rs.length
    · obtain ⟨x, hx⟩ := el_ex hlt
      obtain ⟨hb, hcc⟩ := HL.out
      obtain ⟨y0, y1, y2, y3, y4⟩ := hcc k x hx
      have x0 := (HBW.out.cell (p := ⟨b, _, none⟩) hb).trans y0
      have x1 := (HBW.out.cell (p := ⟨b, _, none⟩) hb).trans y1
      have x2 := (HBW.out.cell (p := ⟨b, _, none⟩) hb).trans y2
      have x3 := (HBW.out.cell (p := ⟨b, _, none⟩) hb).trans y3
      have x4 := (HBW.out.cell (p := ⟨b, _, none⟩) hb).trans y4
      have hi1 : (k : Int) < (rs.length : Int) := by omega
      have hxm : x ∈ rs := List.mem_of_getElem? hx
      obtain ⟨c1, c2, c3, c4, c5⟩ := HRT.out.cur x hxm
      obtain ⟨⟨n1, n2⟩, ⟨n3, n4⟩, n5, n6⟩ := HRT.out.num x hxm
      obtain ⟨kn, ke⟩ := key_new HRT.out.apart hx
      have hko := key_ok c3 c4 ⟨n1, n2⟩
      have t1 : (x.fr.toList == x.to.toList) = false := c5
      obtain ⟨V, hV⟩ : ∃ V, V = wr.alloc (.cells #[.string x.fr, .string x.to, .int .i64 x.per, .int .i64 x.num, .int .i64 x.den] 67) := ⟨_, rfl⟩
      obtain ⟨g, hg⟩ : ∃ g, g = wr.heap.size := ⟨_, rfl⟩
      have hbV : Below wr.heap.size wr V := by rw [hV]; exact (Below.refl _ _).alloc (Nat.le_refl _) _
      have HBX : Hid (V.heap[g]? = some (.cells #[.string x.fr, .string x.to, .int .i64 x.per, .int .i64 x.num, .int .i64 x.den] 67 (0, 0))) := by show _ = _; rw [hV, hg]; exact heap_new_at rfl _
      have HBV : Hid (Below w.heap.size w V) := HBW.out.trans (hbV.mono HBW.out.size)
      have HMV : Hid (SetK V bm ((rs.take k).map keyR)) := HM.out.later (hbV.block _ HM.out.lt)
      have z0 : V.cell? ⟨g, 0, none⟩ = some (.string x.fr) := cell_of_heap HBX.out 0
      have z1 : V.cell? ⟨g, 1, none⟩ = some (.string x.to) := cell_of_heap HBX.out 1
      have z2 : V.cell? ⟨g, 2, none⟩ = some (.int .i64 x.per) := cell_of_heap HBX.out 2
      have HC1 := Lib.hid c1
      have HC2 := Lib.hid c2
      have HKN := Lib.hid kn
      have HKE := Lib.hid ke
      have HKO := Lib.hid hko
      have HV := Lib.hid hV
      have HG := Lib.hid hg
      have HGN : Hid (w.heap.size ≤ g) := by show _ ≤ _; rw [hg]; exact HBW.out.size
      have hof := of_any x.fr x.to x.per V
      have hmin : ∀ (p : KeyM), p = keyR x → minS x.fr x.to = p.a ∧ maxS x.fr x.to = p.b ∧ x.per = p.per := fun p hp => by subst hp; exact ⟨rfl, rfl, rfl⟩
      obtain ⟨p, hp⟩ : ∃ p, p = keyR x := ⟨_, rfl⟩
      obtain ⟨m1, m2, m3⟩ := hmin p hp
      have HP := Lib.hid hp
      rw [m1, m2] at hof
      have HM3 := Lib.hid m3
      clear hcc y0 y1 y2 y3 y4 hx hV hg hbV HM HBW hxm c1 c2 c3 c4 c5 kn ke hko hmin hp m1 m2 m3
      go_wp2_with fail
      rw [← HV.out, ← HG.out]
      clear HV HG x0 x1 x2 x3 x4
      go_wp2_with fail
      refine hof.mono ?_
      rintro e w1 ⟨rfl, hb1⟩
      clear hof
      obtain ⟨V2, hV2⟩ : ∃ V2, V2 = w1.alloc (.cells #[.string p.a, .string p.b, .int .i64 x.per] 137) := ⟨_, rfl⟩
      obtain ⟨g2, hg2⟩ : ∃ g2, g2 = w1.heap.size := ⟨_, rfl⟩
      have hbV2 : Below w1.heap.size w1 V2 := by rw [hV2]; exact (Below.refl _ _).alloc (Nat.le_refl _) _
      have hbV3 : Below V.heap.size V V2 := hb1.trans (hbV2.mono hb1.size)
      have HBX2 : Hid (V2.heap[g]? = some (.cells #[.string x.fr, .string x.to, .int .i64 x.per, .int .i64 x.num, .int .i64 x.den] 67 (0, 0))) := (hbV3.block _ (lt_of_heap HBX.out)).trans HBX.out
      have HBK2 : Hid (V2.heap[g2]? = some (.cells #[.string p.a, .string p.b, .int .i64 x.per] 137 (0, 0))) := by show _ = _; rw [hV2, hg2]; exact heap_new_at rfl _
      have HB2 : Hid (Below w.heap.size w V2) := HBV.out.trans (hbV3.mono HBV.out.size)
      have HM2 : Hid (SetK V2 bm ((rs.take k).map keyR)) := HMV.out.later (hbV3.block _ HMV.out.lt)
      have z5 : V2.cell? ⟨g, 0, none⟩ = some (.string x.fr) := cell_of_heap HBX2.out 0
      have HV2 := Lib.hid hV2
      have HG2 := Lib.hid hg2
      rw [hV2] at z5
      clear hV2 hg2 hbV2 hbV3 hb1 HBX HBV HMV z0 z1 z2
      have hc1 := cur_in x.fr HC1.out V2
      go_wp2_with fail
      rw [← HV2.out, ← HG2.out]
      clear HV2 HG2 z5
      refine hc1.mono ?_
      rintro e w3 ⟨rfl, hb3⟩
      clear hc1
      have HBX3 : Hid (w3.heap[g]? = some (.cells #[.string x.fr, .string x.to, .int .i64 x.per, .int .i64 x.num, .int .i64 x.den] 67 (0, 0))) := (hb3.block _ (lt_of_heap HBX2.out)).trans HBX2.out
      have HBK3 : Hid (w3.heap[g2]? = some (.cells #[.string p.a, .string p.b, .int .i64 x.per] 137 (0, 0))) := (hb3.block _ (lt_of_heap HBK2.out)).trans HBK2.out
      have HB3 : Hid (Below w.heap.size w w3) := HB2.out.trans (hb3.mono HB2.out.size)
      have HM3' : Hid (SetK w3 bm ((rs.take k).map keyR)) := HM2.out.later (hb3.block _ HM2.out.lt)
      clear HBX2 HBK2 HB2 HM2 hb3
      have z1 : w3.cell? ⟨g, 1, none⟩ = some (.string x.to) := cell_of_heap HBX3.out 1
      have hc1 := cur_in x.to HC2.out w3
      go_wp2_with fail
      refine hc1.mono ?_
      rintro e w4 ⟨rfl, hb4⟩
      clear hc1 z1
      have HBX4 : Hid (w4.heap[g]? = some (.cells #[.string x.fr, .string x.to, .int .i64 x.per, .int .i64 x.num, .int .i64 x.den] 67 (0, 0))) := (hb4.block _ (lt_of_heap HBX3.out)).trans HBX3.out
      have HBK4 : Hid (w4.heap[g2]? = some (.cells #[.string p.a, .string p.b, .int .i64 x.per] 137 (0, 0))) := (hb4.block _ (lt_of_heap HBK3.out)).trans HBK3.out
      have HB4 : Hid (Below w.heap.size w w4) := HB3.out.trans (hb4.mono HB3.out.size)
      have HM4 : Hid (SetK w4 bm ((rs.take k).map keyR)) := HM3'.out.later (hb4.block _ HM3'.out.lt)
      clear HBX3 HBK3 HB3 HM3' hb4
      have z0 : w4.cell? ⟨g, 0, none⟩ = some (.string x.fr) := cell_of_heap HBX4.out 0
      have z1 : w4.cell? ⟨g, 1, none⟩ = some (.string x.to) := cell_of_heap HBX4.out 1
      have z2 : w4.cell? ⟨g, 2, none⟩ = some (.int .i64 x.per) := cell_of_heap HBX4.out 2
      have z3 : w4.cell? ⟨g, 3, none⟩ = some (.int .i64 x.num) := cell_of_heap HBX4.out 3
      have z4 : w4.cell? ⟨g, 4, none⟩ = some (.int .i64 x.den) := cell_of_heap HBX4.out 4
      have k0 : w4.cell? ⟨g2, 0, none⟩ = some (.string p.a) := cell_of_heap HBK4.out 0
      have k1 : w4.cell? ⟨g2, 1, none⟩ = some (.string p.b) := cell_of_heap HBK4.out 1
      have k2 : w4.cell? ⟨g2, 2, none⟩ = some (.int .i64 x.per) := cell_of_heap HBK4.out 2
      have hper := period_in x.per w4 n1 n2
      have hpn := part_in x.num w4 n3 n4
      have hpd := part_in x.den w4 n5 n6
      have hse := seen_not HM4.out HKO.out HKN.out
      obtain ⟨V5, hup, hset5, honly5, hsz5⟩ := set_more HM4.out HKO.out HKN.out
      rw [← HP.out, ← HM3.out] at hse hup
      have HB5 : Hid (Below w.heap.size w V5) := HB4.out.trans (honly5.below HB4.out.size (fun j hj => by rw [hj]; exact HBM.out))
      have HM5 : Hid (SetK V5 bm ((rs.take (k + 1)).map keyR)) := by show SetK _ _ _; rw [← HKE.out]; exact hset5
      clear HM4 HB4 hset5 honly5 hsz5 HKN HKE HKO HP HM3 HBX4 HBK4 HC1 HC2
      go_wp2_with (first | (go_at_call 51; refine hper.mono ?_; rintro e w' ⟨rfl, rfl⟩) | (go_at_call 83; refine hpn.mono ?_; rintro e w' ⟨rfl, rfl⟩) | (go_at_call 83; refine hpd.mono ?_; rintro e w' ⟨rfl, rfl⟩))
      go_roundw
      case rel => exact ⟨k + 1, by omega, by go_num, HM5, HB5⟩
      case measure => simp [intOf]; omega
    · obtain rfl : k = rs.length := by omega
      clear HM
      go_wp2_with fail
      go_ret
      exact ⟨rfl, HBW.out⟩
end Go.Proofs.YtbhndnjlplibmaaDoor.rt
