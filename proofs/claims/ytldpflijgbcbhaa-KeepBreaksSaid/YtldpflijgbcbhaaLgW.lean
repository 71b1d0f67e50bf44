/- Bits of a chunk's head. -/
import Derived.Test.YtldpflijgbcbhaaBits
import Derived.Test.YtldpflijgbcbhaaLgR
import Derived.Test.YtldpflijgbcbhaaDiskF
import Derived.WalkSpells
namespace Go.Proofs.Ytldpflijgbcbhaa.lg
open Go.RowKit

set_option maxRecDepth 100000 in
theorem or64_small : ∀ y : Fin 64, bits .or .u8 64 (y.val : Int) = ((64 + y.val : Nat) : Int) := by decide +kernel
theorem or64 {n : Nat} (h : n < 64) : bits .or .u8 64 (n : Int) = ((64 + n : Nat) : Int) := or64_small ⟨n, h⟩
set_option maxRecDepth 100000 in
theorem and192_small : ∀ y : Fin 256, bits .and .u8 (y.val : Int) 192 = ((y.val / 64 * 64 : Nat) : Int) := by decide +kernel
theorem and192 {n : Nat} (h : n < 256) : bits .and .u8 (n : Int) 192 = ((n / 64 * 64 : Nat) : Int) := and192_small ⟨n, h⟩
set_option maxRecDepth 100000 in
theorem and63_small : ∀ y : Fin 256, bits .and .u8 (y.val : Int) 63 = ((y.val % 64 : Nat) : Int) := by decide +kernel
theorem and63 {n : Nat} (h : n < 256) : bits .and .u8 (n : Int) 63 = ((n % 64 : Nat) : Int) := and63_small ⟨n, h⟩
theorem bits_i64_or (a b : Nat) (ha : a < 4611686018427387904) (hb : b < 4611686018427387904) : bits .or .i64 (a : Int) (b : Int) = ((a ||| b : Nat) : Int) := by
  have hx : a ||| b < 4611686018427387904 := Nat.or_lt_two_pow (n := 62) ha hb
  show IntKind.i64.wrap (((BitVec.ofInt 64 (a : Int)) ||| (BitVec.ofInt 64 (b : Int))).toNat : Int) = _
  rw [BitVec.toNat_or, BitVec.ofInt_natCast, BitVec.ofInt_natCast, BitVec.toNat_ofNat, BitVec.toNat_ofNat, Nat.mod_eq_of_lt (by omega), Nat.mod_eq_of_lt (by omega), wrap_i64 (by omega) (by omega)]
theorem or256 {a b : Nat} (ha : a < 256) (hb : b < 256) : bits .or .i64 ((a * 256 : Nat) : Int) (b : Int) = ((a * 256 + b : Nat) : Int) := by
  rw [bits_i64_or _ _ (by omega) (by omega)]
  have h := Nat.shiftLeft_add_eq_or_of_lt (show b < 2 ^ 8 by omega) a
  rw [Nat.shiftLeft_eq] at h
  have h2 : a * 256 ||| b = a * 256 + b := h.symm
  rw [h2]
end Go.Proofs.Ytldpflijgbcbhaa.lg

/- log.where and log.Format walked: what is refused; all blocks are written with nothing, as far as the disk goes. -/
namespace Go.Proofs.Ytldpflijgbcbhaa.lg
open Go.RowKit

theorem diskF_len {B : Nat} {F : Nat → Prop} {w : World} {d : Nat} {M : DiskM} (h : DiskF B F w d M) : M.now.length ≤ 200 ∧ 0 < M.now.length := by
  obtain ⟨S, ⟨_, _, _, _, _, _, _, _, h⟩, _⟩ := h
  exact ⟨h.le, h.pos⟩
set_option maxHeartbeats 1000000 in
theorem where_any (B : Nat) (F : Nat → Prop) (fr mn : Int) (w : World) (d : Nat) (M : DiskM) (h : DiskF B F w d M) :
    Calls Try.prog 51 #[.pointer (some ⟨d, 0, none⟩), .int .i64 fr, .int .i64 mn] w fun e w' => e = .returned (errV (whereC M.now.length fr mn)) ∧ w = w' := by
  obtain ⟨hl1, hl2⟩ := diskF_len h
  have hb := blocksF B F w d M h
  clear h
  unfold whereC
  generalize M.now.length = n at *
  by_cases c1 : mn < 1
  · rw [if_pos (Or.inl c1)]
    go_enter Try.func51, Try.ntmps51
    go_wp2_with fail
    go_ret
    exact ⟨rfl, rfl⟩
  · by_cases c2 : 200 < mn
    · rw [if_pos (by omega)]
      go_enter Try.func51, Try.ntmps51
      go_wp2_with fail
      go_ret
      exact ⟨rfl, rfl⟩
    · by_cases c3 : fr < 0
      · rw [if_pos (by omega)]
        go_enter Try.func51, Try.ntmps51
        go_wp2_with fail
        go_ret
        exact ⟨rfl, rfl⟩
      · by_cases c4 : (n : Int) - mn < fr
        · rw [if_pos (by omega)]
          go_enter Try.func51, Try.ntmps51
          go_wp2_with fail
          refine hb.mono ?_
          rintro e w1 ⟨rfl, rfl⟩
          clear hb
          go_wp2_with fail
          go_ret
          exact ⟨rfl, rfl⟩
        · rw [if_neg (by omega)]
          go_enter Try.func51, Try.ntmps51
          go_wp2_with fail
          refine hb.mono ?_
          rintro e w1 ⟨rfl, rfl⟩
          clear hb
          go_wp2_with fail
          go_ret
          exact ⟨rfl, rfl⟩
theorem whereC_ok {n fr mn : Nat} (h1 : 1 ≤ mn) (h2 : mn ≤ 200) (h3 : fr + mn ≤ n) : whereC n (fr : Int) (mn : Int) = 0 := by
  unfold whereC; rw [if_neg (by omega)]

theorem fmtR_zero (M : DiskM) (fr i : Nat) : fmtR M fr i 0 = (M.fl, M.fcode) := rfl
theorem fmtR_more {M : DiskM} {fr i mn : Nat} (h : i < mn) (hc : M.wcode ((fr + i : Nat) : Int) 0 = 0) : fmtR M fr i (mn - i) = fmtR (M.wr ((fr + i : Nat) : Int) []) fr (i + 1) (mn - (i + 1)) := by
  rw [show mn - i = (mn - (i + 1)) + 1 by omega, fmtR, if_pos hc]
theorem fmtR_stop {M : DiskM} {fr i mn : Nat} (h : i < mn) (hc : M.wcode ((fr + i : Nat) : Int) 0 ≠ 0) : fmtR M fr i (mn - i) = (M.wr ((fr + i : Nat) : Int) [], M.wcode ((fr + i : Nat) : Int) 0) := by
  rw [show mn - i = (mn - (i + 1)) + 1 by omega, fmtR, if_neg hc]
  congr 1
  rw [DiskM.wr, if_neg (by simpa using hc)]
/-- how far the disk has grown -/
def Near (M M' : DiskM) (i : Nat) : Prop := M'.now.length = M.now.length ∧ M'.steps ≤ M.steps + i ∧ M'.since.length ≤ M.since.length + i
theorem Near.refl (M : DiskM) : Near M M 0 := ⟨rfl, Nat.le_refl _, Nat.le_refl _⟩
theorem Near.wr {M M' : DiskM} {i : Nat} (h : Near M M' i) (j : Int) (l : List UInt8) : Near M (M'.wr j l) (i + 1) := by
  obtain ⟨h1, h2, h3⟩ := h
  unfold DiskM.wr
  split
  · exact ⟨by simp [DiskM.write, h1], by simp only [DiskM.write]; omega, by simp only [DiskM.write, List.length_append, List.length_cons, List.length_nil]; omega⟩
  · exact ⟨h1, by omega, by omega⟩
theorem bytes_nil (w : World) : BytesW w (.slice none 0 0) [] := ⟨none, 0, rfl, fun h0 => absurd h0 (by simp)⟩

set_option maxRecDepth 100000 in
set_option maxHeartbeats 2000000 in
theorem format_any (B : Nat) (F : Nat → Prop) (fr mn : Nat) (w : World) (d : Nat) (M : DiskM) (h : DiskF B F w d M) (h1 : 1 ≤ mn) (h2 : mn ≤ 200) (h3 : fr + mn ≤ M.now.length) (hs : M.steps ≤ 100000000) (hsn : M.since.length ≤ 100000000) :
    Calls Try.prog 19 #[.pointer (some ⟨d, 0, none⟩), .int .i64 fr, .int .i64 mn] w (StepF B F w d (errV (fmtR M fr 0 mn).2) (fmtR M fr 0 mn).1) := by
  have hw := where_any B F fr mn w d M h
  rw [whereC_ok h1 h2 h3, errV_zero] at hw
  have hlen := (diskF_len h).1
  have HD := Lib.hid h
  have hfr : fr ≤ 200 := by omega
  clear h
  go_enter Try.func19, Try.ntmps19
  go_wp2_with fail
  refine hw.mono ?_
  rintro e w1 ⟨rfl, rfl⟩
  clear hw
  go_wp2_with fail
  go_loopw [18] (fun z wr => ∃ (i : Nat) (M' : DiskM), z = .int .i64 (i : Int) ∧ i ≤ mn ∧ Hid (fmtR M fr 0 mn = fmtR M' fr i (mn - i)) ∧ Hid (Near M M' i) ∧ Hid (Stays B F w wr) ∧ Hid (DiskF B F wr d M')) (fun z _ => mn - (intOf z).toNat)
  case atStart => exact ⟨0, M, rfl, Nat.zero_le _, rfl, Near.refl M, Stays.refl _ _ _, HD.out⟩
  case round =>
    obtain ⟨i, M', rfl, hi, hE, hN, hS, hD⟩ := hrel
    have hst : M'.steps ≤ 1000000000 := by have := hN.out.2.1; omega
    have hsi : M'.since.length ≤ 1000000000 := by have := hN.out.2.2; omega
    by_cases hlt : i < mn
    · have hc := writeF B F ((fr + i : Nat) : Int) (.slice none 0 0) [] wr d M' hD.out (by omega) hsi (by simp) (bytes_nil wr) (fun h0 => absurd h0 (by simp))
      have hc' : Calls Try.prog 52 #[.pointer (some ⟨d, 0, none⟩), .int .i64 ((fr + i : Nat) : Int), .slice none 0 0] wr (StepF B F wr d (errV (M'.wcode ((fr + i : Nat) : Int) 0)) (M'.wr ((fr + i : Nat) : Int) [])) := hc
      have HN' := Lib.hid (hN.out.wr ((fr + i : Nat) : Int) [])
      have hgo : M'.wcode ((fr + i : Nat) : Int) 0 = 0 → Hid (fmtR M fr 0 mn = fmtR (M'.wr ((fr + i : Nat) : Int) []) fr (i + 1) (mn - (i + 1))) := fun e => hE.out.trans (fmtR_more hlt e)
      have hno : M'.wcode ((fr + i : Nat) : Int) 0 ≠ 0 → Hid (fmtR M fr 0 mn = (M'.wr ((fr + i : Nat) : Int) [], M'.wcode ((fr + i : Nat) : Int) 0)) := fun e => hE.out.trans (fmtR_stop hlt e)
      generalize M'.wcode ((fr + i : Nat) : Int) 0 = C at *
      generalize M'.wr ((fr + i : Nat) : Int) [] = M2 at *
      rw [Int.natCast_add] at hc'
      have hi2 : i ≤ 200 := by omega
      clear hc hE hD hst hsi hN
      by_cases hC : C = 0
      · subst hC
        have HGO := hgo rfl
        clear hgo hno
        rw [errV_zero] at hc'
        go_wp2_with fail
        refine hc'.mono ?_
        rintro e w2 ⟨rfl, hs2, hd2⟩
        have HS2 := Lib.hid (hS.out.trans hs2)
        have HD2 := Lib.hid hd2
        clear hc' hs2 hd2 hS
        go_wp2_with fail
        go_roundw
        case rel => exact ⟨i + 1, M2, by go_num, by omega, HGO, HN', HS2, HD2⟩
        case measure => simp [intOf]; omega
      · have HNO := hno hC
        clear hgo hno
        rw [errV_some hC] at hc'
        go_wp2_with fail
        refine hc'.mono ?_
        rintro e w2 ⟨rfl, hs2, hd2⟩
        have HS2 := Lib.hid (hS.out.trans hs2)
        have HD2 := Lib.hid hd2
        clear hc' hs2 hd2 hS
        go_wp2_with fail
        go_ret
        refine ⟨?_, HS2.out, ?_⟩
        · rw [HNO.out, errV_some hC]; rfl
        · rw [HNO.out]; exact HD2.out
    · obtain rfl : i = mn := by omega
      have hc := flushF B F wr d M' hD.out (by omega)
      have HE : Hid (fmtR M fr 0 i = (M'.fl, M'.fcode)) := by
        have := hE.out
        rw [Nat.sub_self, fmtR_zero] at this
        exact this
      generalize M'.fcode = C at *
      generalize M'.fl = M2 at *
      clear hE hN hD hst hsi
      obtain ⟨ev, hev⟩ : ∃ ev, ev = errV C := ⟨_, rfl⟩
      rw [← hev] at hc
      have HEV := Lib.hid hev
      clear hev
      go_wp2_with fail
      refine hc.mono ?_
      rintro e w2 ⟨rfl, hs2, hd2⟩
      have HS2 := Lib.hid (hS.out.trans hs2)
      have HD2 := Lib.hid hd2
      clear hc hs2 hd2 hS
      go_wp2_with fail
      go_ret
      refine ⟨?_, HS2.out, ?_⟩
      · refine Eq.trans (b := Ending.returned ev) rfl ?_
        rw [HE.out, HEV.out]
      · rw [HE.out]; exact HD2.out
end Go.Proofs.Ytldpflijgbcbhaa.lg
