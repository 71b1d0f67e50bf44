/- match.Exact's closure pick, at any items. -/
import Derived.Test.YtbhndnjlplibmaaDoorExL
import Derived.Test.YtbhndnjlplibmaaDoorIt3
import Derived.Test.YtbhndnjlplibmaaDoorBg20
import Derived.Deep.AppendLies
import Derived.Deep.DeepMust
import Derived.OwnWalk
namespace Go.Proofs.YtbhndnjlplibmaaDoor.mt
open Go.RowKit

theorem infoInt : (Tryd.prog.info? 3).map (fun i => (i.zero, i.size, i.bytes)) = some (some (.int .i64 0), 1, 8) := by kernel_rfl
def natV (x : List Nat) : List Value := x.map fun n : Nat => .int .i64 (n : Int)
theorem natV_len (x : List Nat) : (natV x).length = x.length := by simp [natV]
/-- the places x lie at a -/
def IdxAt (w : World) (a : Addr) (x : List Nat) : Prop := ∀ j u, (natV x)[j]? = some u → w.cell? (a.add j) = some u
theorem add_block (a : Addr) (n : Nat) : (a.add n).block = a.block := by unfold Addr.add; split <;> rfl
theorem IdxAt.later {w w' : World} {a : Addr} {x : List Nat} (h : IdxAt w a x) (hb : Below w.heap.size w w') : IdxAt w' a x := fun j u hj => by
  have h0 := h j u hj
  refine (hb.cell (p := a.add j) ?_).trans h0
  rcases Nat.lt_or_ge (a.add j).block w.heap.size with h1 | h1
  · exact h1
  · simp [World.cell?, Array.getElem?_eq_none h1] at h0
theorem idx_of_row {w : World} {base : Nat} {e : TypeId} {v : Value} {n : Nat} {x : List Nat} (h : w.ownsRow base e 1 v n (natV x)) (hn : n = x.length) (h0 : 0 < n) : ∃ g cap, v = .slice (some ⟨g, 0, none⟩) x.length cap ∧ IdxAt w ⟨g, 0, none⟩ x := by
  subst hn
  obtain ⟨h1, h2⟩ := h
  rcases h2 with ⟨_, hn⟩ | ⟨g, cap, cur, rfl, hg, hh, hc, hm, hsz, htk⟩
  · omega
  · refine ⟨g, cap, rfl, fun j u hj => ?_⟩
    have hj2 : j < x.length := by
      have := (List.getElem?_eq_some_iff.1 hj).1
      rwa [natV_len] at this
    rw [addr_add, Nat.zero_add]
    rw [← htk, List.getElem?_take, if_pos (by omega)] at hj
    simp only [Array.getElem?_toList] at hj
    simp only [World.cell?, hh]
    simpa using hj

/-- what pick hands back -/
def PickPost (B : Nat) (w : World) (r : Option (List Nat)) (e : Ending) (w' : World) : Prop :=
  Below B w w' ∧ ((r = none ∧ e = .returned (.slice none 0 0)) ∨ ∃ x g cap, r = some x ∧ e = .returned (.slice (some ⟨g, 0, none⟩) x.length cap) ∧ IdxAt w' ⟨g, 0, none⟩ x)
theorem smallV_two (V : Int) : ∃ v e, big.smallV V = .tuple #[.int .i64 v, e] ∧ ((fit64 V = true ∧ v = V ∧ e = .nilIface) ∨ (fit64 V = false ∧ v = 0 ∧ e = .iface 96 (.int .i64 10))) := by
  by_cases h : big.fits V = true
  · exact ⟨V, .nilIface, if_pos h, Or.inl ⟨h, rfl, rfl⟩⟩
  · exact ⟨0, _, if_neg h, Or.inr ⟨bool_not h, rfl, rfl⟩⟩
theorem pickGo_out {t : List Int} {f : Nat → Int → Option (List Nat)} {m n i : Nat} {want : Int} (h : t.length < i + m) : pickGo t f m want n i = none := by
  cases n with
  | zero => rfl
  | succ n => unfold pickGo; rw [if_neg (by omega)]
theorem pickGo_in {t : List Int} {f : Nat → Int → Option (List Nat)} {m i : Nat} {want : Int} (h : i + m ≤ t.length) (hm : 0 < m) : pickGo t f m want (t.length - i) i =
    if fit64 (want - t.getD i 0) = true then (match f (i + 1) (want - t.getD i 0) with | some x => some (i :: x) | none => pickGo t f m want (t.length - (i + 1)) (i + 1)) else pickGo t f m want (t.length - (i + 1)) (i + 1) := by
  obtain ⟨n, hn⟩ : ∃ n, t.length - i = n + 1 := ⟨t.length - i - 1, by omega⟩
  rw [hn, pickGo, if_pos h, show t.length - (i + 1) = n by omega]
  rfl
def pickFn (s g : Nat) : Value := .func (.func 56) #[] #[.pointer (some ⟨s, 0, none⟩), .pointer (some ⟨g, 0, none⟩)]
theorem cell_block {w : World} {a : Addr} {v : Value} (h : w.cell? a = some v) : a.block < w.heap.size := by
  rcases Nat.lt_or_ge a.block w.heap.size with h1 | h1
  · exact h1
  · simp [World.cell?, Array.getElem?_eq_none h1] at h

@[go_sem] theorem ints_neq_nil (w : World) : (binOp .neq 28 (.slice none 0 0) (.slice none 0 0)).run Tryd.prog w = .ok (.bool false) w := run_neq_slice_nil_any w 28 3 none 0 0 0 0 Tryd.underlying28
@[go_sem] theorem ints_neq_some (w : World) (a : Addr) (n c : Nat) : (binOp .neq 28 (.slice (some a) n c) (.slice none 0 0)).run Tryd.prog w = .ok (.bool true) w := run_neq_slice_nil_any w 28 3 (some a) n c 0 0 Tryd.underlying28

set_option maxRecDepth 100000 in
set_option maxHeartbeats 4000000 in
theorem pick_any (ao : Option Addr) (cap : Nat) (its : List ItemM) (s g : Nat) (hlen : its.length ≤ 16) (hamt : ∀ (i : Nat) (x : ItemM), its[i]? = some x → amtB x.amt = true) : ∀ (m i : Nat) (M I want : Int) (w : World) (r : Option (List Nat)) (_ : I = (i : Int)) (_ : M = (m : Int)) (_ : m ≤ 17) (_ : i ≤ 17)
    (_ : -9223372036854775808 ≤ want ∧ want ≤ 9223372036854775807) (_ : w.cell? ⟨s, 0, none⟩ = some (.slice ao its.length cap)) (_ : w.cell? ⟨g, 0, none⟩ = some (pickFn s g)) (_ : ItemsAt w.heap.size w ao its) (_ : pickM (amts its) m i want = r),
    Calls Tryd.prog 56 #[.int .i64 I, .int .i64 M, .int .i64 want, .pointer (some ⟨s, 0, none⟩), .pointer (some ⟨g, 0, none⟩)] w (PickPost w.heap.size w r) := by
  intro m
  induction m with
  | zero =>
    intro i M I want w r hI hM _ hi hwant hs hg hh hr
    subst hI
    have hM0 : M = 0 := by omega
    subst hM0
    have HR := Lib.hid hr
    clear hr hM hh
    by_cases h0 : want = 0
    · subst h0
      go_enter Tryd.func56, Tryd.ntmps56
      go_wp2_with fail
      go_ret
      exact ⟨(Below.refl _ _).alloc (Nat.le_refl _) _, Or.inr ⟨[], _, _, HR.out.symm, rfl, fun j u h => by simp [natV] at h⟩⟩
    · have hd : (want == 0) = false := by simpa using h0
      go_enter Tryd.func56, Tryd.ntmps56
      go_wp2_with fail
      go_ret
      exact ⟨Below.refl _ _, Or.inl ⟨by rw [← HR.out]; unfold pickM; rw [if_neg h0], rfl⟩⟩
  | succ m ih =>
    intro i M I want w r hI hM hm hi hwant hs hg hh hr
    subst hI
    subst hM
    have hr' : Hid (pickGo (amts its) (pickM (amts its) m) (m + 1) want ((amts its).length - i) i = r) := hr
    have HH := Lib.hid hh
    have HS := Lib.hid hs
    have HG := Lib.hid hg
    have IH := Lib.hid ih
    have HA := Lib.hid hamt
    obtain ⟨hw1, hw2⟩ := hwant
    have hm0 : (((m + 1 : Nat) : Int) == 0) = false := by simp; omega
    have hmc : ((m + 1 : Nat) : Int) = (m : Int) + 1 := by omega
    have hsb : s < w.heap.size := cell_block hs
    have hgb : g < w.heap.size := cell_block hg
    rw [hmc] at hm0 ⊢
    clear hr ih hs hg hh hmc hamt
    have HSB := Lib.hid hsb
    have HGB := Lib.hid hgb
    clear hsb hgb
    go_enter Tryd.func56, Tryd.ntmps56
    go_wp2_with fail
    go_loopw [9] (fun i9 wr => ∃ j : Nat, j ≤ 17 ∧ i9 = .int .i64 (j : Int) ∧ Hid (pickGo (amts its) (pickM (amts its) m) (m + 1) want ((amts its).length - j) j = r) ∧ Hid (Below w.heap.size w wr)) (fun i9 _ => (17 - (intOf i9).toNat))
    case atStart => exact ⟨i, hi, rfl, hr', Below.refl _ _⟩
    case round =>
      obtain ⟨j, hj, rfl, HR, HB⟩ := hrel
      have c1 := (HB.out.cell (p := ⟨s, 0, none⟩) HSB.out).trans HS.out
      have c2 : wr.cell? ⟨g, 0, none⟩ = some (.func (.func 56) #[] #[.pointer (some ⟨s, 0, none⟩), .pointer (some ⟨g, 0, none⟩)]) := (HB.out.cell (p := ⟨g, 0, none⟩) HGB.out).trans HG.out
      by_cases hin : j + (m + 1) ≤ its.length
      · obtain ⟨x, hx⟩ := getElem?_ex (show j < its.length by omega)
        obtain ⟨b, off, rfl, hb, hcc⟩ := HH.out.resolve_left (fun e => by rw [e] at hin; simp at hin)
        obtain ⟨_, _, x2'⟩ := hcc j x hx
        have x2 := (HB.out.cell (p := ⟨b, off + j * 3 + 2, none⟩) hb).trans x2'
        have hxa := amtB_iff.1 (HA.out j x hx)
        have hg1 := amts_get its j x hx
        have hR2 := HR.out
        rw [pickGo_in (by rw [amts_len]; exact hin) (by omega), hg1] at hR2
        have HR2 := Lib.hid hR2
        have hle : decide ((j : Int) + ((m : Int) + 1) ≤ (its.length : Int)) = true := decide_eq_true (by omega)
        have hi1 : (j : Int) < (its.length : Int) := by omega
        have hi0 : (0 : Int) ≤ (j : Int) := by omega
        obtain ⟨xr, xp, xa⟩ := x
        dsimp only at x2 hxa
        obtain ⟨hx1, hx2⟩ := hxa
        have hadd := fun w' => big.madd_any want (-xa) w' ⟨hw1, hw2⟩ (by omega)
        obtain ⟨v, er, hv, hcase⟩ := smallV_two (want + -xa)
        rw [hv] at hadd
        have hwx : want + -xa = want - xa := by omega
        rw [hwx] at hcase
        clear hcc x2' hx hg1 hR2 HR hv hwx
        go_wp2_with fail
        refine (hadd _).mono ?_
        rintro e w1 ⟨rfl, hb1⟩
        have HB1 := Lib.hid (HB.out.trans (hb1.mono HB.out.size))
        have c3 := (HB1.out.cell (p := ⟨s, 0, none⟩) HSB.out).trans HS.out
        have c4 : w1.cell? ⟨g, 0, none⟩ = some (.func (.func 56) #[] #[.pointer (some ⟨s, 0, none⟩), .pointer (some ⟨g, 0, none⟩)]) := (HB1.out.cell (p := ⟨g, 0, none⟩) HGB.out).trans HG.out
        clear hadd hb1 c1 c2 HB x2
        rcases hcase with ⟨hf, rfl, rfl⟩ | ⟨hf, rfl, rfl⟩
        · have hf2 := fit64_iff.1 hf
          have hR3 := HR2.out
          rw [if_pos hf] at hR3
          have HR3 := Lib.hid hR3
          have hcall := fun J M' hJ hM' => IH.out (j + 1) M' J (want - xa) w1 _ hJ hM' (by omega) (by omega) hf2 c3 c4 (HH.out.later HB1.out HB1.out.size) rfl
          clear hR3 HR2 hf hf2
          go_wp2_with fail
          refine (hcall _ _ ?_ ?_).mono ?_
          · omega
          · omega
          intro e w2 hp
          obtain ⟨hb2, hcase2⟩ := hp
          have HB2 := Lib.hid (HB1.out.trans (hb2.mono HB1.out.size))
          clear hcall hb2 c3 c4 HB1
          rcases hcase2 with ⟨hn, rfl⟩ | ⟨y, a, cp, hn, rfl, hy⟩
          · have HR4 : Hid (pickGo (amts its) (pickM (amts its) m) (m + 1) want ((amts its).length - (j + 1)) (j + 1) = r) := by
              have h4 := HR3.out
              rw [hn] at h4
              exact h4
            clear HR3 hn
            go_wp2_with fail
            go_roundw
            case rel => exact ⟨j + 1, by omega, by go_num, HR4, HB2⟩
            case measure => simp [intOf]; omega
          · have HR4 : Hid (r = some (j :: y)) := by
              have h4 := HR3.out
              rw [hn] at h4
              exact h4.symm
            have hyl : y.length ≤ 17 := by
              have := (pickM_way hn).len
              omega
            have HY := Lib.hid hy
            obtain ⟨i0, hi0', hz0, hz1, hz2⟩ := info_parts infoInt
            have HI0 := Lib.hid hi0'
            have HZ0 := Lib.hid hz0
            have HZ1 := Lib.hid hz1
            have HZ2 := Lib.hid hz2
            clear HR3 hn hy hi0' hz0 hz1 hz2
            have hown0 : (w2.alloc (.cells #[.int .i64 (j : Int)] 3)).ownsRow w.heap.size 3 1 (.slice (some ⟨w2.heap.size, 0, none⟩) 1 1) 1 (natV [j]) := by
              refine ⟨rfl, Or.inr ⟨w2.heap.size, 1, #[.int .i64 (j : Int)], rfl, HB2.out.size, heap_new_at rfl _, by decide, by decide, rfl, rfl⟩⟩
            go_wp2_with (at_builtin; go_must (refine wpList_append_own_at (o := ⟨some 52, _, _, _, _, _⟩) _ rfl (.tmp 50) (.tmp 51) 28 rfl w.heap.size 3 i0 (.int .i64 0) 1 8 Tryd.underlying28 HI0.out HZ0.out HZ1.out HZ2.out rfl (by decide) _ 1 (natV [j]) rfl hown0 ⟨a, 0, none⟩ y.length cp (natV y) rfl (by rw [natV_len, Nat.mul_one]) (HY.out.later ((Below.refl _ _).alloc (Nat.le_refl _) _)) (by intro u hu; simp only [natV, List.mem_map] at hu; obtain ⟨n, _, rfl⟩ := hu; rfl) (by unfold maxLen; omega) (by omega) (by have := HB2.out.size; simp; omega) ?_); intro v1 w3 hown1 hgrow1 _ hblk1)
            obtain ⟨a3, cp3, rfl, hidx⟩ := idx_of_row (x := j :: y) hown1 (by simp; omega) (by omega)
            have hgr : (w2.alloc (.cells #[.int .i64 (j : Int)] 3)).grownBy w3 (some w2.heap.size) := hgrow1
            have HB3 : Below w.heap.size w w3 := HB2.out.trans ((((Only.refl (fun k => some w2.heap.size = some k) w2).alloc _).trans (Only.of_grown hgr) (fun _ _ h => h)).below HB2.out.size (fun k hk => by injection hk with hk; have := HB2.out.size; omega))
            clear hown1 hgrow1 hblk1 hgr
            go_ret
            exact ⟨HB3, Or.inr ⟨j :: y, a3, cp3, HR4.out, rfl, hidx⟩⟩
        · have HR4 : Hid (pickGo (amts its) (pickM (amts its) m) (m + 1) want ((amts its).length - (j + 1)) (j + 1) = r) := by
            have h4 := HR2.out
            rw [if_neg (by rw [hf]; simp)] at h4
            exact h4
          clear HR2 hf c3 c4
          go_wp2_with fail
          go_roundw
          case rel => exact ⟨j + 1, by omega, by go_num, HR4, HB1⟩
          case measure => simp [intOf]; omega
      · have hle : decide ((j : Int) + ((m : Int) + 1) ≤ (its.length : Int)) = false := decide_eq_false (by omega)
        have HR4 : Hid (r = none) := by
          have h4 := HR.out
          rw [pickGo_out (by rw [amts_len]; omega)] at h4
          exact h4.symm
        clear HR
        go_wp2_with fail
        go_ret
        exact ⟨HB.out, Or.inl ⟨HR4.out, rfl⟩⟩
end Go.Proofs.YtbhndnjlplibmaaDoor.mt
