/- match.Exact at any items. -/
import Derived.Test.YtbhndnjlplibmaaDoorEx1
import Derived.Laws.EntriesVeiled
namespace Go.Proofs.YtbhndnjlplibmaaDoor.mt
open Go.RowKit

/-- what is wrong; what is found -/
def exC (its : List ItemM) (want : Int) : Int := if itemsF its ≠ 0 then itemsF its else if 16 < its.length then 4 else if exactM (amts its) want = none then 6 else 0
def exX (its : List ItemM) (want : Int) : List Nat := if itemsF its ≠ 0 then [] else if 16 < its.length then [] else (exactM (amts its) want).getD []
def SlX (w : World) (v : Value) (x : List Nat) : Prop := (v = .slice none 0 0 ∧ x = []) ∨ ∃ g cap, v = .slice (some ⟨g, 0, none⟩) x.length cap ∧ IdxAt w ⟨g, 0, none⟩ x
def ExPost (B : Nat) (w : World) (c : Int) (x : List Nat) (e : Ending) (w' : World) : Prop := Below B w w' ∧ ∃ v, e = .returned (.tuple #[v, errV c]) ∧ SlX w' v x

theorem exGo_step {t : List Int} {want : Int} {m : Nat} (h : m ≤ t.length) : exGo t want (t.length + 1 - m) m = match pickM t m 0 want with | some x => some x | none => exGo t want (t.length + 1 - (m + 1)) (m + 1) := by
  obtain ⟨n, hn⟩ : ∃ n, t.length + 1 - m = n + 1 := ⟨t.length - m, by omega⟩
  rw [hn, exGo, show t.length + 1 - (m + 1) = n by omega]
  rfl

set_option maxRecDepth 100000 in
set_option maxHeartbeats 4000000 in
theorem exact_any (ao : Option Addr) (cap : Nat) (its : List ItemM) (want : Int) (w : World) (hh : ItemsAt w.heap.size w ao its) (hm : its.length ≤ 9223372036854775807) (hwant : -9223372036854775808 ≤ want ∧ want ≤ 9223372036854775807) :
    Calls Tryd.prog 26 #[.slice ao its.length cap, .int .i64 want] w (ExPost w.heap.size w (exC its want) (exX its want)) := by
  obtain ⟨c, hc⟩ : ∃ c, itemsF its = c := ⟨_, rfl⟩
  obtain ⟨C, hC⟩ : ∃ C, exC its want = C := ⟨_, rfl⟩
  obtain ⟨X, hX⟩ : ∃ X, exX its want = X := ⟨_, rfl⟩
  rw [hC, hX]
  have HC := Lib.hid hC
  have HX := Lib.hid hX
  have Hc := Lib.hid hc
  have hh1 : ItemsAt (w.alloc (.cells #[.slice ao its.length cap] 35)).heap.size (w.alloc (.cells #[.slice ao its.length cap] 35)) ao its := hh.later ((Below.refl _ _).alloc (Nat.le_refl _) _) (by simp)
  have hchk := check_r c ao cap its _ hh1 hm (Lib.hid hc)
  have HH := Lib.hid hh
  clear hc hC hX hh hh1
  have hmf : ∀ (fn : Fn) (first cap : Array Value) (w : World), (Instr.makeFunc fn first cap).run Tryd.prog w = .ok (.func fn first cap) w := fun _ _ _ _ => rfl
  go_enter Tryd.func26, Tryd.ntmps26
  go_wp2_with fail
  refine hchk.mono ?_
  intro e w1 hp
  obtain ⟨rfl, hb1⟩ := hp
  have hs1 : w1.cell? ⟨w.heap.size, 0, none⟩ = some (.slice ao its.length cap) := (hb1.cell (p := ⟨w.heap.size, 0, none⟩) (by simp)).trans (by simp)
  have HB1 : Hid (Below w.heap.size w w1) := ((Below.refl _ _).alloc (Nat.le_refl _) _).trans (hb1.mono (by simp))
  have hsz1 : w.heap.size < w1.heap.size := by have := hb1.size; simp at this; omega
  clear hchk hb1
  by_cases h0 : c = 0
  · subst h0
    rw [errV_zero]
    by_cases h16 : 16 < its.length
    · have hd : decide ((16 : Int) < (its.length : Int)) = true := decide_eq_true (by omega)
      go_wp2_with fail
      go_ret2
      refine ⟨HB1.out, .slice none 0 0, ?_, Or.inl ⟨rfl, ?_⟩⟩
      · rw [← HC.out]; unfold exC; rw [if_neg (by rw [Hc.out]; simp), if_pos h16]; rfl
      · rw [← HX.out]; unfold exX; rw [if_neg (by rw [Hc.out]; simp), if_pos h16]
    · have hd : decide ((16 : Int) < (its.length : Int)) = false := decide_eq_false (by omega)
      have hlen : its.length ≤ 16 := by omega
      have hgf := (itemsF_zero Hc.out).2
      have HAM : Hid (∀ (i : Nat) (x : ItemM), its[i]? = some x → amtB x.amt = true) := fun i x hx => (hgf i x hx).2.2.2.1
      have Hc' : Hid (¬ itemsF its ≠ 0) := by have := Hc.out; intro h; exact h this
      obtain ⟨wl, hwl⟩ : ∃ wl, wl = w1.alloc (.cells #[.func (.func 56) #[] #[.pointer (some ⟨w.heap.size, 0, none⟩), .pointer (some ⟨w1.heap.size, 0, none⟩)]] 107) := ⟨_, rfl⟩
      have HBL : Hid (Below w.heap.size w wl) := by show Below _ _ _; rw [hwl]; exact HB1.out.alloc HB1.out.size _
      have HS : Hid (wl.cell? ⟨w.heap.size, 0, none⟩ = some (.slice ao its.length cap)) := by
        show _ = _
        rw [hwl]
        exact (((Below.refl _ _).alloc (Nat.le_refl _) _).cell (p := ⟨w.heap.size, 0, none⟩) hsz1).trans hs1
      have HG : Hid (wl.cell? ⟨w1.heap.size, 0, none⟩ = some (pickFn w.heap.size w1.heap.size)) := by
        show _ = _
        rw [hwl, World.cell?_alloc_at _ _ _ _ rfl]
        rfl
      have HSZ : Hid (w.heap.size < wl.heap.size ∧ w1.heap.size < wl.heap.size) := by
        show _ ∧ _
        rw [hwl]; simp; omega
      have HWL := Lib.hid hwl
      clear hgf hwl
      go_wp2_with fail
      rw [← HWL.out]
      clear hs1
      go_loopw [23] (fun n wr => ∃ m : Nat, m ≤ its.length + 1 ∧ n = .int .i64 (m : Int) ∧ Hid (exGo (amts its) want (its.length + 1 - m) m = exactM (amts its) want) ∧ Hid (Below wl.heap.size wl wr)) (fun n _ => (17 - (intOf n).toNat))
      case atStart => exact ⟨0, Nat.zero_le _, rfl, by show _ = _; unfold exactM; rw [amts_len]; rfl, Below.refl _ _⟩
      case round =>
        obtain ⟨m, hm1, rfl, HR, HB⟩ := hrel
        by_cases hlt : m ≤ its.length
        · have hd2 : decide ((m : Int) < (its.length : Int) + 1) = true := decide_eq_true (by omega)
          have hsw := (HB.out.cell (p := ⟨w.heap.size, 0, none⟩) HSZ.out.1).trans HS.out
          have hgw := (HB.out.cell (p := ⟨w1.heap.size, 0, none⟩) HSZ.out.2).trans HG.out
          have hgw2 : wr.cell? ⟨w1.heap.size, 0, none⟩ = some (.func (.func 56) #[] #[.pointer (some ⟨w.heap.size, 0, none⟩), .pointer (some ⟨w1.heap.size, 0, none⟩)]) := hgw
          have hcall := pick_any ao cap its w.heap.size w1.heap.size hlen HAM.out m 0 m 0 want wr _ rfl rfl (by omega) (by omega) hwant hsw hgw (HH.out.later (HBL.out.trans (HB.out.mono HBL.out.size)) (Nat.le_trans HBL.out.size HB.out.size)) rfl
          have HR2 := HR.out
          rw [← amts_len its, exGo_step (by rw [amts_len]; exact hlt)] at HR2
          have HR3 := Lib.hid HR2
          clear HR2 HR hsw hgw
          go_wp2_with fail
          refine hcall.mono ?_
          intro e w2 hp
          obtain ⟨hb2, hcase⟩ := hp
          have HB2 := Lib.hid (HB.out.trans (hb2.mono HB.out.size))
          clear hcall hb2 hgw2 HB
          rcases hcase with ⟨hn, rfl⟩ | ⟨y, g, cp, hn, rfl, hy⟩
          · have HR4 : Hid (exGo (amts its) want (its.length + 1 - (m + 1)) (m + 1) = exactM (amts its) want) := by
              have h4 := HR3.out
              rw [hn, amts_len] at h4
              exact h4
            clear HR3 hn
            go_wp2_with fail
            go_roundw
            case rel => exact ⟨m + 1, by omega, by go_num, HR4, HB2⟩
            case measure => simp [intOf]; omega
          · have h4 := HR3.out
            rw [hn] at h4
            have h4' : exactM (amts its) want = some y := h4.symm
            have HE : Hid (C = 0 ∧ X = y) := by
              refine ⟨?_, ?_⟩
              · rw [← HC.out]; unfold exC; rw [if_neg Hc'.out, if_neg h16, if_neg (by rw [h4']; simp)]
              · rw [← HX.out]; unfold exX; rw [if_neg Hc'.out, if_neg h16, h4']; rfl
            have HY := Lib.hid hy
            clear HR3 hn h4 h4' hy
            go_wp2_with fail
            go_ret2
            refine ⟨HBL.out.trans (HB2.out.mono HBL.out.size), .slice (some ⟨g, 0, none⟩) y.length cp, ?_, Or.inr ⟨g, cp, ?_, ?_⟩⟩
            · rw [HE.out.1]; rfl
            · rw [HE.out.2]
            · rw [HE.out.2]; exact HY.out
        · have hd2 : decide ((m : Int) < (its.length : Int) + 1) = false := decide_eq_false (by omega)
          obtain rfl : m = its.length + 1 := by omega
          have h4 := HR.out
          rw [Nat.sub_self] at h4
          have h4' : exactM (amts its) want = none := h4.symm
          have HE : Hid (C = 6 ∧ X = []) := by
            refine ⟨?_, ?_⟩
            · rw [← HC.out]; unfold exC; rw [if_neg Hc'.out, if_neg h16, if_pos h4']
            · rw [← HX.out]; unfold exX; rw [if_neg Hc'.out, if_neg h16, h4']; rfl
          clear h4 h4' HR
          go_wp2_with fail
          go_ret2
          refine ⟨HBL.out.trans (HB.out.mono HBL.out.size), .slice none 0 0, ?_, Or.inl ⟨rfl, HE.out.2⟩⟩
          rw [HE.out.1]; rfl
  · have he := errV_some h0
    rw [he]
    go_wp2_with fail
    go_ret2
    refine ⟨HB1.out, .slice none 0 0, ?_, Or.inl ⟨rfl, ?_⟩⟩
    · rw [← HC.out]; unfold exC; rw [if_pos (by rw [Hc.out]; exact h0), Hc.out, he]; rfl
    · rw [← HX.out]; unfold exX; rw [if_pos (by rw [Hc.out]; exact h0)]
end Go.Proofs.YtbhndnjlplibmaaDoor.mt
