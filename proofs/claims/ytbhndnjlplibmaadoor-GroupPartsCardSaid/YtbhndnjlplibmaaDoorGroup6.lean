/- group.Parts at any holdings that lie somewhere: the walk. -/
import Derived.Test.YtbhndnjlplibmaaDoorGroup5
namespace Go.Proofs.YtbhndnjlplibmaaDoor
open Go.RowKit

theorem IntsAt.setCell {wr : World} {g off : Nat} {zs : List Int} (h : IntsAt wr (some ⟨g, off, none⟩) zs) {a : Addr} (hne : g ≠ a.block) (v : Value) : IntsAt (wr.setCell a v) (some ⟨g, off, none⟩) zs := by
  rcases h with h | ⟨b, o, e, hc⟩
  · exact Or.inl h
  · injection e with e
    injection e with e1 e2 _
    subst e1 e2
    refine Or.inr ⟨g, off, rfl, fun i hi => ?_⟩
    rw [World.cell?_setCell_other wr _ _ _ (by intro he; subst he; exact hne rfl)]
    exact hc i hi
theorem IntsAt.at {wr : World} {g : Nat} {zs : List Int} (h : IntsAt wr (some ⟨g, 0, none⟩) zs) {k : Nat} (hk : k < zs.length) : wr.cell? ⟨g, k, none⟩ = some (.int .i64 (zs.getD k 0)) := by
  rcases h with h | ⟨b, o, e, hc⟩
  · subst h; simp at hk
  · injection e with e
    injection e with e1 e2 _
    subst e1 e2
    have := hc k hk
    simpa using this

theorem mk12 (w : World) : (Instr.makeSlice 28 (.int .i64 12) (.int .i64 12)).run Tryd.prog w = .ok (.slice (some ⟨w.heap.size, 0, none⟩) 12 12) (w.alloc (.cells #[.int .i64 0, .int .i64 0, .int .i64 0, .int .i64 0, .int .i64 0, .int .i64 0, .int .i64 0, .int .i64 0, .int .i64 0, .int .i64 0, .int .i64 0, .int .i64 0] 3)) := by kernel_rfl

theorem ErrPost_congr {c : Int} {B : Nat} {w : World} {v : Value} (h : errV c = v) : ErrPost B w c = fun e w' => e = .returned v ∧ Below B w w' := by
  funext e w'; simp [ErrPost, h]

/-- what Parts answers -/
def PartsPost (B : Nat) (w : World) (hs : List Hold) (top : Int) (e : Ending) (w' : World) : Prop :=
  (if checkF hs ≠ 0 then e = .returned (.tuple #[.slice none 0 0, errV (checkF hs)])
   else if entB top = false then e = .returned (.tuple #[.slice none 0 0, errV 1])
   else ∃ g outs, ord hs 13 [] = some outs ∧ e = .returned (.tuple #[.slice (some ⟨g, 0, none⟩) 12 12, .nilIface]) ∧ B ≤ g ∧ g < w'.heap.size ∧ FnAt 12 w' g (partsF hs top outs)) ∧ Below B w w'

set_option maxRecDepth 100000 in
set_option maxHeartbeats 400000 in
theorem parts_any (ao : Option Addr) (cap : Nat) (hs : List Hold) (top : Int) (w : World) (hh : HoldsAt w.heap.size w ao hs) (hcap : hs.length ≤ cap) (hm : cap ≤ 9223372036854775807) :
    Calls Tryd.prog 17 #[.slice ao hs.length cap, .int .i64 top] w (PartsPost w.heap.size w hs top) := by
  obtain ⟨c, hcc⟩ : ∃ c, checkF hs = c := ⟨_, rfl⟩
  have hck := check_r c ao cap hs w hh hcap hm hcc
  have HH := Lib.hid hh
  clear hh
  by_cases h0 : c = 0
  · subst h0
    by_cases ht : entB top = true
    · obtain ⟨g1, g2, g3, outs, hord⟩ := checkF_zero hcc
      have HG2 := Lib.hid g2
      have HG3 := Lib.hid g3
      have HCC := Lib.hid hcc
      have HT := Lib.hid ht
      clear g2 g3 hcc
      obtain ⟨B, hB⟩ : ∃ B, B = w.heap.size := ⟨_, rfl⟩
      have hin := Lib.hid (ord_in hord (fun e he => by cases he))
      have h12 := ord_len hord
      have hlo : HoldsAt w.heap.size w ao hs := HH.out
      have HORD := Lib.hid hord
      clear hord
      go_enter Tryd.func17, Tryd.ntmps17
      go_wp2_with fail
      refine hck.mono ?_
      rintro e w1 ⟨rfl, hb1⟩
      have herr : errV 0 = .nilIface := rfl
      rw [herr]
      clear hck herr
      have hmk := mk12
      go_wp2_with (go_at_call 44; refine (entity_any _ _).mono ?_; rintro e w' ⟨rfl, rfl⟩)
      have hbel1 : Below B w w1 := by rw [hB]; exact hb1
      have hBB : B ≤ w1.heap.size := by rw [hB]; exact hb1.size
      have hst := fn_start12 w1 3
      obtain ⟨Bo, hBo⟩ : ∃ Bo, Bo = w1.heap.size := ⟨_, rfl⟩
      have hbel2 := hbel1.alloc hBB (.cells #[.int .i64 0, .int .i64 0, .int .i64 0, .int .i64 0, .int .i64 0, .int .i64 0, .int .i64 0, .int .i64 0, .int .i64 0, .int .i64 0, .int .i64 0, .int .i64 0] 3)
      have hsz2 : (w1.alloc (.cells #[.int .i64 0, .int .i64 0, .int .i64 0, .int .i64 0, .int .i64 0, .int .i64 0, .int .i64 0, .int .i64 0, .int .i64 0, .int .i64 0, .int .i64 0, .int .i64 0] 3)).heap.size = Bo + 1 := by simp [hBo]
      have hlo2 := HoldsAt.later (B := B) (B' := (w1.alloc (.cells #[.int .i64 0, .int .i64 0, .int .i64 0, .int .i64 0, .int .i64 0, .int .i64 0, .int .i64 0, .int .i64 0, .int .i64 0, .int .i64 0, .int .i64 0, .int .i64 0] 3)).heap.size) (by rw [hB]; exact hlo) hbel2 (by rw [hsz2]; omega)
      have hor := order_r (some outs) ao cap hs _ hlo2 (by omega) HORD.out
      rw [hsz2] at hor
      have hst2 := hst
      rw [← hBo] at hst2 ⊢
      have hbo2 : B ≤ Bo := by omega
      have HB := Lib.hid hB
      have HBo := Lib.hid hBo
      clear hB hBo hst hsz2 hlo2 hbel1 hBB hmk hb1 hlo
      refine hor.mono ?_
      rintro e w2 ⟨⟨v, rfl, hown⟩, hb2⟩
      obtain ⟨g, capg, hv, hg, hgs, hcg⟩ := ownsRow_some hown (by omega)
      obtain ⟨ao3, cap3, hv3, hints, hbs, hm3⟩ := ownsRow_ints hown
      rw [hv] at hv3
      injection hv3 with hv3 _ hv4
      subst hv3 hv4
      rw [hv]
      have hsz : (w1.alloc (.cells #[.int .i64 0, .int .i64 0, .int .i64 0, .int .i64 0, .int .i64 0, .int .i64 0, .int .i64 0, .int .i64 0, .int .i64 0, .int .i64 0, .int .i64 0, .int .i64 0] 3)).heap.size = Bo + 1 := by rw [World.size_alloc, HBo.out]
      have hfn := hst2.later (by rw [hsz]; exact hb2)
      have hbel := hbel2.trans (hb2.mono (by omega))
      have hgne : g ≠ Bo := by omega
      clear hst2 hbel2 hor hb2 hown hv hsz
      have hp0 : Hid (inRange (fun _ => (0 : Int))) := fun _ => ⟨Int.le_refl (0 : Int), (by decide : (0 : Int) ≤ 1000)⟩
      go_wp2_with fail
      go_loopw [26] (fun i wr => ∃ k : Nat, k ≤ outs.length ∧ i = .int .i64 k ∧ Below B w wr ∧ FnAt 12 wr Bo (partsF hs top (outs.take k)) ∧ Hid (inRange (partsF hs top (outs.take k))) ∧ IntsAt wr (some ⟨g, 0, none⟩) outs ∧ g < wr.heap.size) (fun i _ => outs.length - (intOf i).toNat)
      case atStart => exact ⟨0, Nat.zero_le _, rfl, hbel, hfn, hp0, hints, hgs⟩
      case round =>
        clear hbel hfn hp0 hints hgs hbs
        obtain ⟨k, hk, rfl, hbel, hfn, hrange, hints, hgs⟩ := hrel
        by_cases hlt : k < outs.length
        · have hcg2 := hints.at hlt
          obtain ⟨e, hge⟩ := getElem?_ex hlt
          have hgd : outs.getD k 0 = e := by simp [List.getD, hge]
          rw [hgd] at hcg2
          obtain ⟨he1, he2⟩ := hin.out e (List.mem_of_getElem? hge)
          have hstep := Lib.hid (partsF_step hs top outs k e hge)
          have he0 : 0 ≤ e - 1 := by omega
          obtain ⟨n, hn⟩ := Int.eq_ofNat_of_zero_le he0
          obtain rfl : e = (n : Int) + 1 := by omega
          clear hn he0
          clear hge hgd
          have hn11 : n ≤ 11 := by omega
          have hbn : B ≤ Bo := hbo2
          have hBolt : Bo < wr.heap.size := hfn.lt (by decide)
          obtain ⟨f, hf⟩ : ∃ f, f = partsF hs top (outs.take k) := ⟨_, rfl⟩
          rw [← hf] at hfn hrange hstep
          clear hf
          by_cases hq : (n : Int) + 1 = top
          · have hqb : ((n : Int) + 1 == top) = true := beq_iff_eq.2 hq
            have hset : FnAt 12 (wr.setCell ⟨Bo, n, none⟩ (.int .i64 1000)) Bo (partsF hs top (outs.take (k + 1))) := by
              refine hfn.set (fun j _ => ?_)
              rw [hstep.out]
              simp only [partsStep, if_pos hq, show ((n : Int) + 1 - 1).toNat = n by omega]
            have hrn : Hid (inRange (partsF hs top (outs.take (k + 1)))) := by
              show inRange _
              rw [hstep.out]
              exact partsStep_range hrange.out (fun h hh => (HG2.out h hh).2.2.1) (HG3.out _)
            obtain ⟨o1, o2⟩ := hfn n (by omega)
            have hbel3 := hbel.setCell (p := ⟨Bo, n, none⟩) hbn (.int .i64 1000)
            have hints3 := hints.setCell (a := ⟨Bo, n, none⟩) hgne (.int .i64 1000)
            clear hfn hints hbel hrange hstep hq
            go_wp2_with fail
            go_roundw
            case rel => exact ⟨k + 1, by omega, by go_num, hbel3, hset, hrn, hints3, by rw [World.size_setCell]; exact hgs⟩
            case measure => simp [intOf]; omega
          · have hqb : ((n : Int) + 1 == top) = false := beq_eq_false_iff_ne.2 hq
            have hsumle := psum_bounds hrange.out ((n : Int) + 1) hs (fun h hh => (HG2.out h hh).2.2.1)
            have hh3 := HG3.out ((n : Int) + 1)
            have hbr : Hid (Below B w wr) := hbel
            have hsz0 : B ≤ wr.heap.size := by rw [HB.out]; exact hbel.size
            go_wp2_with fail
            obtain ⟨wo, hwo⟩ : ∃ wo, wo = wr := ⟨_, rfl⟩
            subst hwo
            go_loopw [10, 39] (fun s i wr => ∃ m : Nat, m ≤ hs.length ∧ i = .int .i64 m ∧ s = .int .i64 (psum (hs.take m) f ((n : Int) + 1)) ∧ Below wo.heap.size wo wr) (fun _ i _ => hs.length - (intOf i).toNat)
            case atStart => exact ⟨0, Nat.zero_le _, rfl, rfl, Below.refl _ _⟩
            case round =>
              obtain ⟨m, hm, rfl, rfl, hbo⟩ := hrel
              by_cases hlm : m < hs.length
              · obtain ⟨x, hx⟩ := getElem?_ex hlm
                obtain ⟨b, off, rfl, hb, hcc⟩ := HH.out.resolve_left (fun e => by rw [e] at hlm; simp at hlm)
                have HC := Lib.hid hcc
                clear hcc
                obtain ⟨c0, c1, c2⟩ := HC.out m x hx
                have hbB : b < B := by rw [HB.out]; exact hb
                have hbelr := hbr.out.trans (hbo.mono hsz0)
                replace c0 := (hbelr.cell (p := ⟨b, _, none⟩) hbB).trans c0
                replace c1 := (hbelr.cell (p := ⟨b, _, none⟩) hbB).trans c1
                replace c2 := (hbelr.cell (p := ⟨b, _, none⟩) hbB).trans c2
                have hd2 := Lib.hid (psum_step hs f ((n : Int) + 1) m x hx)
                obtain ⟨q1, q2, q3, q4⟩ := HG2.out x (List.mem_of_getElem? hx)
                obtain ⟨q5, q6⟩ := entB_true q1
                have hpb := psum_bounds hrange.out ((n : Int) + 1) (hs.take m) (fun h hh => (HG2.out h (List.mem_of_mem_take hh)).2.2.1)
                have hhl := hadSum_take_le hs (fun h hh => (HG2.out h hh).2.2.1) ((n : Int) + 1) m
                clear hx q1 q2
                obtain ⟨xe, xo, xp⟩ := x
                dsimp only at c0 c1 c2 q3 q4 q5 q6 hd2
                have he0 : 0 ≤ xe - 1 := by omega
                obtain ⟨n2, hn2⟩ := Int.eq_ofNat_of_zero_le he0
                obtain rfl : xe = (n2 : Int) + 1 := by omega
                clear hn2 he0
                have hn2' : n2 ≤ 11 := by omega
                obtain ⟨o1, o2⟩ := (hfn.later hbo) n2 (by omega)
                have hBolt2 : Bo < wr.heap.size := by have := hbo.size; omega
                have hBone : ¬ Bo = wr.heap.size := by omega
                obtain ⟨f1, f2⟩ := hrange.out n2
                have hd3 : Hid (psum (hs.take (m + 1)) f ((n : Int) + 1) = psum (hs.take m) f ((n : Int) + 1) + if xo = (n : Int) + 1 then f n2 * xp else 0) := by
                  have := hd2.out
                  rw [show ((n2 : Int) + 1 - 1).toNat = n2 by omega] at this
                  exact this
                generalize psum (hs.take m) f ((n : Int) + 1) = s0 at *
                generalize f n2 = a0 at *
                have hpr1 : 0 ≤ a0 * xp := Int.mul_nonneg f1 (by omega)
                have hpr2 : a0 * xp ≤ 1000 * 1000 := Int.mul_le_mul f2 q4 (by omega) (by omega)
                have hbo2' := (hbo.alloc hbo.size (.cells #[.int .i64 ((n2 : Int) + 1), .int .i64 xo, .int .i64 xp] 99))
                by_cases hxo : xo = (n : Int) + 1
                · have hxb : (xo == (n : Int) + 1) = true := beq_iff_eq.2 hxo
                  have hnx : Hid (psum (hs.take (m + 1)) f ((n : Int) + 1) = s0 + a0 * xp) := by have := hd3.out; rw [if_pos hxo] at this; exact this
                  clear hd2 hd3 hxo hbelr hfn hbel
                  go_wp2_with fail
                  go_region
                  go_wp2_with fail
                  go_roundw
                  case rel => exact ⟨m + 1, by omega, by go_num, by rw [hnx.out], hbo2'.drew⟩
                  case measure => simp [intOf]; omega
                · have hxb : (xo == (n : Int) + 1) = false := beq_eq_false_iff_ne.2 hxo
                  have hnx : Hid (psum (hs.take (m + 1)) f ((n : Int) + 1) = s0) := by have := hd3.out; rw [if_neg hxo] at this; show _ = _; omega
                  clear hd2 hd3 hxo hbelr hfn hbel
                  go_wp2_with fail
                  go_roundw
                  case rel => exact ⟨m + 1, by omega, by go_num, by rw [hnx.out], hbo2'⟩
                  case measure => simp [intOf]; omega
              · have hme : hs.take m = hs := List.take_of_length_le (by omega)
                rw [hme]
                have hset : FnAt 12 (wr.setCell ⟨Bo, n, none⟩ (.int .i64 (psum hs f ((n : Int) + 1) / 1000))) Bo (partsF hs top (outs.take (k + 1))) := by
                  refine (hfn.later hbo).set (fun j _ => ?_)
                  rw [hstep.out]
                  simp only [partsStep, if_neg hq, show ((n : Int) + 1 - 1).toNat = n by omega]
                have hrn : Hid (inRange (partsF hs top (outs.take (k + 1)))) := by
                  show inRange _
                  rw [hstep.out]
                  exact partsStep_range hrange.out (fun h hh => (HG2.out h hh).2.2.1) (HG3.out _)
                obtain ⟨o1, o2⟩ := (hfn.later hbo) n (by omega)
                have hbel3 := (hbr.out.trans (hbo.mono hsz0)).setCell (p := ⟨Bo, n, none⟩) hbn (.int .i64 (psum hs f ((n : Int) + 1) / 1000))
                have hints3 := (hints.later (B := wo.heap.size) (fun b off e => by injection e with e; injection e with e1 _ _; omega) hbo).setCell (a := ⟨Bo, n, none⟩) hgne (.int .i64 (psum hs f ((n : Int) + 1) / 1000))
                have hgs3 := Nat.lt_of_lt_of_le hgs hbo.size
                generalize psum hs f ((n : Int) + 1) = s0 at *
                clear hfn hints hbel hrange hstep hq hme hbr hbo
                go_wp2_with fail
                go_roundw
                case rel => exact ⟨k + 1, by omega, by go_num, hbel3, hset, hrn, hints3, by rw [World.size_setCell]; exact hgs3⟩
                case measure => simp [intOf]; omega
        · have hke : outs.take k = outs := List.take_of_length_le (by omega)
          rw [hke] at hfn
          have hbg : B ≤ Bo := hbo2
          have hBolt : Bo < wr.heap.size := hfn.lt (by decide)
          clear hints hke hrange
          go_wp2_with fail
          go_ret2
          refine ⟨?_, by rw [← HB.out]; exact hbel⟩
          rw [if_neg (by rw [HCC.out]; simp), if_neg (by rw [HT.out]; simp)]
          exact ⟨Bo, outs, HORD.out, rfl, by rw [← HB.out]; exact hbg, hBolt, hfn⟩
    · have htf : entB top = false := by simpa using ht
      have HCC := Lib.hid hcc
      have HT := Lib.hid htf
      clear hcc ht
      go_enter Tryd.func17, Tryd.ntmps17
      go_wp2_with fail
      refine hck.mono ?_
      rintro e w1 ⟨rfl, hb1⟩
      have herr : errV 0 = .nilIface := rfl
      rw [herr]
      clear hck herr
      go_wp2_with (go_at_call 44; refine (entity_any _ _).mono ?_; rintro e w' ⟨rfl, rfl⟩)
      go_ret2
      refine ⟨?_, hb1⟩
      rw [if_neg (by rw [HCC.out]; simp), if_pos HT.out]
      rfl
  · have herr : errV c = .iface 96 (.int .i64 c) := by rw [errV, if_neg h0]
    rw [ErrPost_congr herr] at hck
    have H0 := Lib.hid h0
    have HCC := Lib.hid hcc
    clear hcc h0
    go_enter Tryd.func17, Tryd.ntmps17
    go_wp2_with fail
    refine hck.mono ?_
    rintro e w1 ⟨rfl, hb1⟩
    have HE := Lib.hid herr
    clear hck herr
    go_wp2_with fail
    go_ret2
    refine ⟨?_, hb1⟩
    rw [if_pos (by rw [HCC.out]; exact H0.out), HCC.out, HE.out]
    rfl
end Go.Proofs.YtbhndnjlplibmaaDoor
