/- slices.Concat of two slices of balances; slices.ContainsFunc by ledger.Merge's closure. -/
import Derived.Test.YtbhndnjlplibmaaMp3
import Derived.Test.YtbhndnjlplibmaaGrw
import Derived.Test.YtbhndnjlplibmaaMpA
import Derived.Deep.AppendSrc
import Derived.Lib.AppendZeros
namespace Go.Proofs.Ytbhndnjlplibmaa.lg
open Go.RowKit Go.Shelf

theorem grow_any (n : Nat) (hn : n ≤ 1000) (w : World) : Calls Try.prog 60 #[.slice none 0 0, .int .i64 (n : Int)] w fun e w' => ∃ v, e = .returned v ∧ w'.ownsRow w.heap.size 43 4 v 0 [] ∧ Below w.heap.size w w' := by
  obtain ⟨i0, hi0, hz0, hz1, hz2⟩ := info_parts infoBal
  rcases Nat.eq_zero_or_pos n with h0 | h0
  · subst h0
    refine (Any8.slices_Grow_room growBal_lays none 0 0 0 w (by omega) (by omega) (by omega) (by omega)).mono fun e w' h => ?_
    obtain ⟨he, rfl⟩ := h
    exact ⟨_, he, World.ownsRow_nil _ _ _ _, Below.refl _ _⟩
  · refine (Any8.slices_Grow_grow growBal_lays i0 _ hi0 hz0 (by rw [hz1]; decide) none 0 0 n [] w (by omega) (by omega) (by rw [hz2]; omega) (by omega) (by simp) (fun _ => rfl) (fun a h => by cases h)).mono fun e w' h => ?_
    obtain ⟨he, rfl⟩ := h
    have hge := grownCap_ge w (0 + n) 0 43
    have hle := grownCap_le_maxLen w (0 + n) 0 43 (by unfold maxLen; omega)
    refine ⟨_, he, ⟨rfl, Or.inr ⟨w.heap.size, grownCap w (0 + n) 0 43, _, rfl, Nat.le_refl _, heap_new_at rfl _, Nat.zero_le _, hle, ?_, by simp⟩⟩, (Below.refl _ _).drew.alloc (Nat.le_refl _) _⟩
    simp [Builtin.zeroCells, Value.cells]
    rw [Nat.zero_add] at hge
    show n * 4 + (grownCap w n 0 43 - n) * 4 = grownCap w n 0 43 * 4
    omega

set_option maxRecDepth 100000 in
set_option maxHeartbeats 4000000 in
theorem concat_two (g : Nat) (ao : Option Addr) (ca : Nat) (a : List BalM) (bo : Option Addr) (cb : Nat) (b : List BalM) (w : World) (h0 : w.cell? ⟨g, 0, none⟩ = some (.slice ao a.length ca)) (h1 : w.cell? ⟨g, 1, none⟩ = some (.slice bo b.length cb))
    (ha : BalsAt w ao a) (hb : BalsAt w bo b) (hla : a.length ≤ 200) (hlb : b.length ≤ 200) :
    Calls Try.prog 27 #[.slice (some ⟨g, 0, none⟩) 2 2] w fun e w' => Below w.heap.size w w' ∧ ∃ ro rc, e = .returned (.slice ro (a ++ b).length rc) ∧ BalsAt w' ro (a ++ b) := by
  have HA := Lib.hid ha
  have HB := Lib.hid hb
  have hg : g < w.heap.size := by
    rcases Nat.lt_or_ge g w.heap.size with h | h
    · exact h
    · simp [World.cell?, Array.getElem?_eq_none h] at h0
  have hgr := grow_any (a.length + b.length) (by omega) w
  have H0 := Lib.hid h0
  have H1 := Lib.hid h1
  have e1 : (((a.length + b.length : Nat)) : Int) = (a.length : Int) + (b.length : Int) := by omega
  rw [e1] at hgr
  clear ha hb e1
  go_enter Try.func27, Try.ntmps27
  go_wp2_with fail
  refine wp_loop_rounds 3 ?_
  rw [rounds_succ]
  go_wp2_with fail
  rw [rounds_succ]
  go_wp2_with fail
  rw [rounds_succ]
  go_wp2_with fail
  refine hgr.mono ?_
  rintro e w1 ⟨v, rfl, hown, hbel⟩
  have k0 := (hbel.cell (p := ⟨g, 0, none⟩) hg).trans H0.out
  have k1 := (hbel.cell (p := ⟨g, 1, none⟩) hg).trans H1.out
  have HBL := Lib.hid hbel
  have hrun1 := fun sc => run_append_bals (sc := sc) hown (HA.out.below hbel) (by omega) hbel.size
  obtain ⟨v1, w2, hr1, hown1, hgrow1, hblk1⟩ := hrun1 ca 39
  have hon1 : Only (fun k => v.ownBlock = some k) w1 w2 := Only.of_grown hgrow1
  have HB2 : Hid (Below w.heap.size w w2) := hbel.trans (hon1.below hbel.size (fun k hk => (row_lt hown k hk).1))
  rw [List.nil_append] at hown1
  obtain ⟨v2, w3, hr2, hown2, hgrow2, hblk2⟩ := run_append_bals (sc := cb) hown1 (HB.out.below HB2.out) (by omega) HB2.out.size 39
  have HB3 : Hid (Below w.heap.size w w3) := HB2.out.trans ((Only.of_grown hgrow2).below HB2.out.size (fun k hk => (row_lt hown1 k hk).1))
  have hown3 : w3.ownsRow w.heap.size 43 4 v2 (a ++ b).length ((a ++ b).flatMap encB) := ownsRow_cast hown2 (by simp) (by rw [List.flatMap_append])
  obtain ⟨ro, rc, rfl, hro⟩ := bals_of_row hown3 rfl
  have k2 := (HB2.out.cell (p := ⟨g, 1, none⟩) hg).trans H1.out
  have HRO := Lib.hid hro
  clear hgr hown hbel hown1 hgrow1 hblk1 hon1 hown2 hgrow2 hblk2 hown3 hro hrun1 h0 h1
  go_wp2_with fail
  refine wp_loop_rounds 3 ?_
  rw [rounds_succ]
  go_wp2_with (at_builtin; refine Lib.wpList_append_run _ rfl _ _ _ _ rfl _ _ rfl rfl _ _ hr1 ?_)
  rw [rounds_succ]
  go_wp2_with (at_builtin; refine Lib.wpList_append_run _ rfl _ _ _ _ rfl _ _ rfl rfl _ _ hr2 ?_)
  rw [rounds_succ]
  go_wp2_with fail
  go_ret
  exact ⟨HB3.out, ro, rc, by rw [List.length_append]; rfl, HRO.out⟩

theorem merge1_any (x : BalM) (w : World) : Calls Try.prog 30 #[balV x] w fun e w' => e = .returned (.bool (!mayB x.amt)) ∧ Below w.heap.size w w' := by
  have hmy := fun w' => may_any x.amt w'
  unfold balV
  cases hb : mayB x.amt with
  | true =>
    rw [hb] at hmy
    go_enter Try.func30, Try.ntmps30
    go_wp2_with (go_at_call 31; refine (hmy _).mono ?_; rintro e w' ⟨rfl, rfl⟩)
    go_ret
    exact ⟨rfl, (Below.refl _ _).alloc (Nat.le_refl _) _⟩
  | false =>
    rw [hb] at hmy
    go_enter Try.func30, Try.ntmps30
    go_wp2_with (go_at_call 31; refine (hmy _).mono ?_; rintro e w' ⟨rfl, rfl⟩)
    go_ret
    exact ⟨rfl, (Below.refl _ _).alloc (Nat.le_refl _) _⟩
def firstBad : List BalM → Nat → Int
  | [], _ => -1
  | z :: r, k => if mayB z.amt = false then (k : Int) else firstBad r (k + 1)
theorem firstBad_nonneg : ∀ (zs : List BalM) (k : Nat), 0 ≤ firstBad zs k ↔ zs.any (fun x => !mayB x.amt) = true
  | [], k => by simp [firstBad]
  | z :: r, k => by
    unfold firstBad
    split
    · rename_i h; simp [h]
    · rename_i h
      have h' : mayB z.amt = true := by cases hb : mayB z.amt with | true => rfl | false => exact absurd hb h
      rw [firstBad_nonneg r (k + 1)]; simp [h']
theorem firstBad_drop {zs : List BalM} {k : Nat} {z : BalM} (h : zs[k]? = some z) : firstBad (zs.drop k) k = if mayB z.amt = false then (k : Int) else firstBad (zs.drop (k + 1)) (k + 1) := by
  obtain ⟨hk, rfl⟩ := List.getElem?_eq_some_iff.1 h
  rw [List.drop_eq_getElem_cons hk, firstBad]
set_option maxRecDepth 100000 in
set_option maxHeartbeats 2000000 in
theorem index_bad (ao : Option Addr) (cap : Nat) (t : List BalM) (w : World) (hh : BalsAt w ao t) (hm : t.length ≤ 9223372036854775807) :
    Calls Try.prog 62 #[.slice ao t.length cap, .func (.func 30) #[] #[]] w fun e w' => e = .returned (.int .i64 (firstBad t 0)) ∧ Below w.heap.size w w' := by
  have HH := Lib.hid hh
  obtain ⟨r, hr⟩ : ∃ r, firstBad t 0 = r := ⟨_, rfl⟩
  rw [hr]
  have HR0 := Lib.hid hr
  clear hh hr
  go_enter Try.func62, Try.ntmps62
  go_wp2_with fail
  go_loopw [8] (fun i wr => ∃ k : Nat, k ≤ t.length ∧ i = .int .i64 (k : Int) ∧ Hid (firstBad (t.drop k) k = r) ∧ Hid (Below w.heap.size w wr)) (fun i _ => t.length - (intOf i).toNat)
  case atStart => exact ⟨0, Nat.zero_le _, rfl, HR0, Below.refl _ _⟩
  case round =>
    clear HR0
    obtain ⟨k, hk, rfl, HR, HBW⟩ := hrel
    by_cases hlt : k < t.length
    · obtain ⟨x, hx⟩ := getElem?_ex hlt
      obtain ⟨b, off, rfl, hb, hcc⟩ := HH.out.resolve_left (fun e => by rw [e] at hlt; simp at hlt)
      obtain ⟨y0, y1, y2, y3⟩ := hcc k x hx
      have x0 := (HBW.out.cell (p := ⟨b, _, none⟩) hb).trans y0
      have x1 := (HBW.out.cell (p := ⟨b, _, none⟩) hb).trans y1
      have x2 := (HBW.out.cell (p := ⟨b, _, none⟩) hb).trans y2
      have x3 := (HBW.out.cell (p := ⟨b, _, none⟩) hb).trans y3
      have hdr := firstBad_drop hx
      rw [HR.out] at hdr
      have hcall := merge1_any x wr
      have hi1 : (k : Int) < (t.length : Int) := by omega
      have hi0 : (0 : Int) ≤ (k : Int) := by omega
      unfold balV at hcall
      cases hmb : mayB x.amt with
      | false =>
        have HZ : Hid ((k : Int) = r) := by rw [if_pos hmb] at hdr; exact hdr.symm
        rw [hmb] at hcall
        clear hcc y0 y1 y2 y3 hx hdr HR hmb
        go_wp2_with fail
        refine hcall.mono ?_
        rintro e w1 ⟨rfl, hb1⟩
        have HB1 := Lib.hid (HBW.out.trans (hb1.mono HBW.out.size))
        clear hcall hb1
        go_wp2_with fail
        go_ret
        exact ⟨ret_int HZ.out, HB1.out⟩
      | true =>
        have HZ : Hid (firstBad (t.drop (k + 1)) (k + 1) = r) := by rw [if_neg (by rw [hmb]; simp)] at hdr; exact hdr.symm
        rw [hmb] at hcall
        clear hcc y0 y1 y2 y3 hx hdr HR hmb
        go_wp2_with fail
        refine hcall.mono ?_
        rintro e w1 ⟨rfl, hb1⟩
        have HB1 := Lib.hid (HBW.out.trans (hb1.mono HBW.out.size))
        clear hcall hb1
        go_wp2_with fail
        go_roundw
        case rel => exact ⟨k + 1, by omega, by go_num, HZ, HB1⟩
        case measure => simp [intOf]; omega
    · obtain rfl : k = t.length := by omega
      have hz := HR.out
      rw [List.drop_of_length_le (Nat.le_refl _)] at hz
      have HZ : Hid ((-1 : Int) = r) := hz
      clear hz HR
      go_wp2_with fail
      go_ret
      exact ⟨ret_int HZ.out, HBW.out⟩
theorem contains_bad (ao : Option Addr) (cap : Nat) (t : List BalM) (w : World) (hh : BalsAt w ao t) (hm : t.length ≤ 9223372036854775807) :
    Calls Try.prog 29 #[.slice ao t.length cap, .func (.func 30) #[] #[]] w fun e w' => e = .returned (.bool (t.any fun x => !mayB x.amt)) ∧ Below w.heap.size w w' := by
  have hb : Hid (decide (0 ≤ firstBad t 0) = t.any fun x => !mayB x.amt) := by
    show _ = _
    rw [Bool.eq_iff_iff, decide_eq_true_iff, firstBad_nonneg]
  have hi := index_bad ao cap t w hh hm
  clear hh
  generalize (t.any fun x => !mayB x.amt) = R at hb ⊢
  generalize firstBad t 0 = x at hb hi
  go_enter Try.func29, Try.ntmps29
  go_wp2_with fail
  refine hi.mono ?_
  rintro e w' ⟨rfl, hbel⟩
  clear hi
  go_wp2_with fail
  go_ret
  exact ⟨ret_bool hb.out, hbel⟩
end Go.Proofs.Ytbhndnjlplibmaa.lg
