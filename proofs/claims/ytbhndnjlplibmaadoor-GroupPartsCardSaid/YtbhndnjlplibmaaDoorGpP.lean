/- dayref3.part, dayref3.Parts: how much the top has of each. -/
import Derived.Test.YtbhndnjlplibmaaDoorGpH
namespace Go.Proofs.YtbhndnjlplibmaaDoor.gp
open Go.RowKit

set_option maxRecDepth 100000 in
theorem holdings_any (ao : Option Addr) (cap : Nat) (hs : List Hold) (w : World) (hh : HoldsAt w.heap.size w ao hs) (hm : hs.length ≤ 9223372036854775807) :
    Calls Tryd.prog 15 #[.slice ao hs.length cap] w (HPost w.heap.size w (checkF hs)) := by
  by_cases hl : 20 < hs.length
  · have hc : checkF hs = 4 := by rw [checkF, if_pos hl]
    rw [hc]
    have hd : decide ((20 : Int) < (hs.length : Int)) = true := decide_eq_true (by omega)
    clear hc
    go_enter Tryd.func15, Tryd.ntmps15
    go_wp2_with fail
    go_ret
    exact ⟨rfl, Below.refl _ _⟩
  · exact holdings_few _ ao cap hs w hh hl rfl
theorem parts_range {hs : List Hold} {top : Int} (hp : ∀ h ∈ hs, 1 ≤ h.p) (hsum : ∀ o, hadSum hs o ≤ 1000) : ∀ (l : List Int) (f : Nat → Int), inRange f → inRange (l.foldl (partsStep hs top) f)
  | [], _, h => h
  | e :: l, f, h => by rw [List.foldl_cons]; exact parts_range hp hsum l _ (partsStep_range h hp (hsum e))
theorem partsF_range {hs : List Hold} {top : Int} {outs : List Int} (hp : ∀ h ∈ hs, 1 ≤ h.p) (hsum : ∀ o, hadSum hs o ≤ 1000) : inRange (partsF hs top outs) :=
  parts_range hp hsum outs _ (fun _ => by show (0 : Int) ≤ 0 ∧ (0 : Int) ≤ 1000; omega)
theorem psum_take {f : Nat → Int} (hf : inRange f) {hs : List Hold} (hp : ∀ h ∈ hs, 1 ≤ h.p) (hsum : ∀ o, hadSum hs o ≤ 1000) (e : Int) (k : Nat) : 0 ≤ psum (hs.take k) f e ∧ psum (hs.take k) f e ≤ 1000000 := by
  have h1 := psum_bounds hf e (hs.take k) (fun h hm => hp h (List.mem_of_mem_take hm))
  have h2 := hadSum_take_le hs hp e k
  have h3 := hsum e
  omega

set_option maxRecDepth 100000 in
set_option maxHeartbeats 4000000 in
theorem part_any (ao : Option Addr) (cap : Nat) (hs : List Hold) (top : Int) (outs : List Int) (hlen : hs.length ≤ 20) (hp : ∀ h ∈ hs, (1 ≤ h.e ∧ h.e ≤ 12) ∧ 1 ≤ h.p ∧ h.p ≤ 1000) (ho : ord hs 13 [] = some outs) (hsum : ∀ o, hadSum hs o ≤ 1000) :
    ∀ (N i : Nat) (e : Int), i < N → outs[i]? = some e → ∀ w, HoldsAt w.heap.size w ao hs →
      Calls Tryd.prog 49 #[.slice ao hs.length cap, .int .i64 top, .int .i64 e] w fun e' w' => e' = .returned (.int .i64 (partsF hs top outs (e - 1).toNat)) ∧ w = w'
  | 0, i, e, hi, _, _, _ => absurd hi (by omega)
  | N + 1, i, e, hi, hie, w, hh => by
    have ih := part_any ao cap hs top outs hlen hp ho hsum N
    have htop := ord_top ho (TopO.nil hs)
    have hin := ord_in ho (fun e he => by cases he)
    have hfix := partsF_fix (top := top) htop hin hie
    have hr := partsF_range (hs := hs) (top := top) (outs := outs) (fun h hm => (hp h hm).2.1) hsum
    have hpre := (htop i e hie).2
    obtain ⟨f, hf⟩ : ∃ f, f = partsF hs top outs := ⟨_, rfl⟩
    rw [← hf] at hfix hr ih ⊢
    generalize (e - 1).toNat = J at hfix ⊢
    have HR := Lib.hid hr
    have HP := Lib.hid hp
    have HS := Lib.hid hsum
    have HIH := Lib.hid ih
    have HPRE := Lib.hid hpre
    have HH := Lib.hid hh
    have HF := Lib.hid hf
    have HFIX := Lib.hid hfix
    clear hr hp hsum ih hpre hh hf hfix ho hie htop hin
    by_cases het : e = top
    · have hq : (e == top) = true := beq_iff_eq.2 het
      have HV : Hid (f J = 1000) := by have h := HFIX.out; rw [if_pos het] at h; exact h
      clear het
      go_enter Tryd.func49, Tryd.ntmps49
      go_wp2_with fail
      go_ret
      exact ⟨ret_int HV.out.symm, rfl⟩
    · have hq : (e == top) = false := beq_eq_false_iff_ne.2 het
      have HV : Hid (f J = psum hs f e / 1000) := by have h := HFIX.out; rw [if_neg het] at h; exact h
      clear het
      go_enter Tryd.func49, Tryd.ntmps49
      go_wp2_with fail
      go_loop [7, 8] (fun s j => ∃ m : Nat, m ≤ hs.length ∧ j = .int .i64 (m : Int) ∧ s = .int .i64 (psum (hs.take m) f e)) (fun _ j => hs.length - (intOf j).toNat)
      case atStart => exact ⟨0, Nat.zero_le _, rfl, rfl⟩
      case round =>
        obtain ⟨m, hm, rfl, rfl⟩ := hrel
        obtain ⟨s1, s2⟩ := psum_take HR.out (fun h hm => (HP.out h hm).2.1) HS.out e m
        by_cases hml : m < hs.length
        · obtain ⟨y, hy⟩ := getElem?_ex hml
          obtain ⟨b, off, rfl, hb, hcc⟩ := HH.out.resolve_left (fun e => by rw [e] at hml; simp at hml)
          obtain ⟨c0, c1, c2⟩ := hcc m y hy
          have hstep := Lib.hid (psum_step hs f e m y hy)
          have hyp := HP.out y (List.mem_of_getElem? hy)
          obtain ⟨⟨e1, e2⟩, p1, p2⟩ := hyp
          have hmI : (m : Int) < (hs.length : Int) := by omega
          have hm0 : (0 : Int) ≤ (m : Int) := by omega
          clear hcc
          generalize psum (hs.take m) f e = S at *
          by_cases hoe : y.o = e
          · have q1 : (y.o == e) = true := beq_iff_eq.2 hoe
            have hnx : Hid (psum (hs.take (m + 1)) f e = S + f (y.e - 1).toNat * y.p) := by show _ = _; rw [hstep.out, if_pos hoe]
            have hmem := HPRE.out y (List.mem_of_getElem? hy) hoe
            rw [List.mem_take_iff_getElem] at hmem
            obtain ⟨j, hj, hje⟩ := hmem
            have hcall := HIH.out j y.e (by omega) (by rw [List.getElem?_eq_getElem (by omega), hje]) w HH.out
            obtain ⟨f1, f2⟩ := HR.out (y.e - 1).toNat
            have P1 : 0 ≤ f (y.e - 1).toNat * y.p := Int.mul_nonneg f1 (by omega)
            have P2 : f (y.e - 1).toNat * y.p ≤ 1000000 := by
              have := Int.mul_le_mul f2 p2 (by omega) (by omega)
              omega
            generalize f (y.e - 1).toNat = F at *
            clear hoe hstep hje hj hy f1 f2 e1 e2 p1 p2
            go_wp2_with fail
            refine hcall.mono ?_
            rintro e' w' ⟨rfl, rfl⟩
            clear hcall
            go_wp2_with fail
            go_round
            case rel => exact ⟨m + 1, by omega, by go_num, by rw [hnx.out]⟩
            case measure => simp [intOf]; omega
          · have q1 : (y.o == e) = false := beq_eq_false_iff_ne.2 hoe
            have hnx : Hid (psum (hs.take (m + 1)) f e = S) := by show _ = _; rw [hstep.out, if_neg hoe]; omega
            clear hoe hstep hy
            go_wp2_with fail
            go_round
            case rel => exact ⟨m + 1, by omega, by go_num, by rw [hnx.out]⟩
            case measure => simp [intOf]; omega
        · have hmI : decide ((m : Int) < (hs.length : Int)) = false := decide_eq_false (by omega)
          have hmn : decide (m < hs.length) = false := decide_eq_false (by omega)
          have HV2 : Hid (f J = psum (hs.take m) f e / 1000) := by show _ = _; rw [HV.out, List.take_of_length_le (by omega)]
          generalize psum (hs.take m) f e = S at *
          go_wp2_with fail
          go_ret
          exact ⟨ret_int HV2.out.symm, rfl⟩
  termination_by N => N
end Go.Proofs.YtbhndnjlplibmaaDoor.gp
