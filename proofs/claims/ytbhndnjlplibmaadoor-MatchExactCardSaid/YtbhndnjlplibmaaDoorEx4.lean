/- dayref3.Exact at items that are right, sixteen at most: what match.Exact's search finds. -/
import Derived.Test.YtbhndnjlplibmaaDoorEx3
import Derived.BigQuiet
import Derived.Deep.QuietTactic
namespace Go.Proofs.YtbhndnjlplibmaaDoor.mt
open Go.RowKit

/-- a slice of places -/
def SlI (w : World) (v : Value) (x : List Nat) : Prop := ∃ xo xc, v = .slice xo x.length xc ∧ IntsAt w xo (x.map fun n : Nat => (n : Int))
theorem ints_keep {u u' : World} {xo : Option Addr} {xs : List Int} (h : IntsAt u xo xs) (hb : Below u.heap.size u u') : IntsAt u' xo xs := by
  rcases h with h | ⟨b, off, e, hc⟩
  · exact Or.inl h
  · exact Or.inr ⟨b, off, e, fun i hi => (hb.cell (p := ⟨b, off + i, none⟩) (cell_block (hc i hi))).trans (hc i hi)⟩
theorem sli_of_row {w : World} {base : Nat} {e : TypeId} {v : Value} {x : List Nat} (h : w.ownsRow base e 1 v x.length (natV x)) : SlI w v x := by
  by_cases h0 : 0 < x.length
  · obtain ⟨g, cap, rfl, hi⟩ := idx_of_row h rfl h0
    exact slx_form (Or.inr ⟨g, cap, rfl, hi⟩)
  · obtain rfl : x = [] := List.length_eq_zero_iff.1 (by omega)
    rcases h.2 with ⟨rfl, _⟩ | ⟨g, cap, cur, rfl, _⟩
    · exact ⟨none, 0, rfl, Or.inl rfl⟩
    · exact ⟨_, _, rfl, Or.inl rfl⟩
theorem pow_le_of {n : Nat} (h : n ≤ 16) : 2 ^ n ≤ 65536 := by
  have := Nat.pow_le_pow_right (show 0 < 2 by decide) h
  omega

theorem bits_i64_and (a b : Nat) (ha : a < 9223372036854775808) (hb : b < 9223372036854775808) : bits .and .i64 (a : Int) (b : Int) = ((a &&& b : Nat) : Int) := by
  have hx : a &&& b < 9223372036854775808 := Nat.and_lt_two_pow (n := 63) a hb
  show IntKind.i64.wrap (((BitVec.ofInt 64 (a : Int)) &&& (BitVec.ofInt 64 (b : Int))).toNat : Int) = _
  rw [BitVec.toNat_and, BitVec.ofInt_natCast, BitVec.ofInt_natCast, BitVec.toNat_ofNat, BitVec.toNat_ofNat, Nat.mod_eq_of_lt (by omega), Nat.mod_eq_of_lt (by omega)]
  simp [IntKind.wrap, IntKind.signed, IntKind.bits]
  omega
/-- the code's test of a bit -/
theorem bit_walk {k : Nat} (hk : k < 9223372036854775808) (j : Nat) : (bits .and .i64 ((k : Int) / 2 ^ j) 1 == 1) = k.testBit j := by
  have e : (k : Int) / 2 ^ j = ((k / 2 ^ j : Nat) : Int) := by simp
  have h1 : k / 2 ^ j ≤ k := Nat.div_le_self _ _
  have e2 := bits_i64_and (k / 2 ^ j) 1 (by omega) (by omega)
  rw [Nat.and_one_is_mod] at e2
  rw [e, show (1 : Int) = ((1 : Nat) : Int) from rfl, e2, Nat.testBit_eq_decide_div_mod_eq, Bool.eq_iff_iff]
  simp
  omega
theorem idx_set {B : Nat → Bool} {j : Nat} (h : B j = true) : idxB B (j + 1) = idxB B j ++ [j] := by rw [idxB_succ, if_pos h]
theorem idx_clear {B : Nat → Bool} {j : Nat} (h : B j = false) : idxB B (j + 1) = idxB B j := by rw [idxB_succ, if_neg (by rw [h]; simp), List.append_nil]
theorem sumL_snoc (t : List Int) (x : List Nat) (j : Nat) : sumL t (x ++ [j]) = sumL t x + t.getD j 0 := by
  unfold sumL
  rw [List.map_append, List.sum_append]
  simp
theorem natV_snoc (x : List Nat) (j : Nat) : natV (x ++ [j]) = natV x ++ [.int .i64 (j : Int)] := by simp [natV]
theorem exSt_skip {t : List Int} {want : Int} {k : Nat} {st : Bool × List Nat} (h : exSt t want k = st) (hs : sumL t (bitsN t.length k) ≠ want) : exSt t want (k + 1) = st := by
  show exStep t want (exSt t want k) _ = _
  unfold exStep
  rw [if_neg hs, h]
theorem exSt_take {t : List Int} {want : Int} {k : Nat} {st : Bool × List Nat} (h : exSt t want k = st) (hs : sumL t (bitsN t.length k) = want) (hb : betB st (bitsN t.length k) = true) : exSt t want (k + 1) = (true, bitsN t.length k) := by
  show exStep t want (exSt t want k) _ = _
  unfold exStep
  rw [if_pos hs, h, if_pos hb]
theorem exSt_leave {t : List Int} {want : Int} {k : Nat} {st : Bool × List Nat} (h : exSt t want k = st) (hb : betB st (bitsN t.length k) = false) : exSt t want (k + 1) = st := by
  show exStep t want (exSt t want k) _ = _
  unfold exStep
  rw [h, if_neg (c := betB _ _ = true) (by rw [hb]; simp)]
  split <;> rfl
theorem lexB_drop {x y : List Nat} {q : Nat} (hx : q < x.length) (hy : q < y.length) : lexB (x.drop q) (y.drop q) = if x.getD q 0 = y.getD q 0 then lexB (x.drop (q + 1)) (y.drop (q + 1)) else decide (x.getD q 0 < y.getD q 0) := by
  rw [List.drop_eq_getElem_cons hx, List.drop_eq_getElem_cons hy, lexB]
  simp [hx, hy]
theorem lexB_end {x y : List Nat} {q : Nat} (hx : x.length ≤ q) : lexB (x.drop q) (y.drop q) = false := by
  rw [List.drop_of_length_le hx]
  cases y.drop q <;> rfl
theorem cast_map (x : List Nat) {j : Nat} (h : j < x.length) : (x.map fun n : Nat => (n : Int)).getD j 0 = ((x.getD j 0 : Nat) : Int) := by simp [h]

set_option maxRecDepth 100000 in
set_option maxHeartbeats 8000000 in
theorem rexact_any (ao : Option Addr) (cap : Nat) (its : List ItemM) (want : Int) (w : World) (hh : ItemsAt w.heap.size w ao its) (hcc : itemsF its = 0) (h16 : its.length ≤ 16) :
    Calls Tryd.prog 27 #[.slice ao its.length cap, .int .i64 want] w (fun e w' => Below w.heap.size w w' ∧ ∃ v, e = .returned (.tuple #[v, .bool (exactM (amts its) want).isSome]) ∧ SlI w' v ((exactM (amts its) want).getD [])) := by
  have HH := Lib.hid hh
  have HCC := Lib.hid hcc
  obtain ⟨N, hN⟩ : ∃ N, 2 ^ its.length = N := ⟨_, rfl⟩
  have hpow : N ≤ 65536 := hN ▸ pow_le_of h16
  have hNI : (2 : Int) ^ its.length = (N : Int) := by rw [← hN]; simp
  have HN := Lib.hid hN
  obtain ⟨i0, hi0, hz0, hz1, hz2⟩ := info_parts infoInt
  have HI0 := Lib.hid hi0
  have HZ0 := Lib.hid hz0
  have HZ1 := Lib.hid hz1
  have HZ2 := Lib.hid hz2
  have HBD := Lib.hid (bound_of hcc)
  clear hh hcc hN hi0 hz0 hz1 hz2
  go_enter Tryd.func27, Tryd.ntmps27
  go_wp2_with fail
  go_loopw [6, 7, 8] (fun b f i wr => ∃ (k : Nat) (st : Bool × List Nat) (bo : Option Addr) (bc : Nat), k ≤ N ∧ i = .int .i64 (k : Int) ∧ Hid (exSt (amts its) want k = st) ∧ f = .bool st.1 ∧ b = .slice bo st.2.length bc ∧ Hid (IntsAt wr bo (st.2.map fun n : Nat => (n : Int))) ∧ Hid (Below w.heap.size w wr)) (fun _ _ i _ => 65536 - (intOf i).toNat)
  case atStart => exact ⟨0, (false, []), none, 0, Nat.zero_le _, rfl, rfl, rfl, rfl, Or.inl rfl, Below.refl _ _⟩
  case round =>
    obtain ⟨k, ⟨fd, best⟩, bo, bc, hk, rfl, HST, rfl, rfl, HBI, HB⟩ := hrel
    dsimp only at HBI ⊢
    by_cases hlt : k < N
    · go_wp2_with fail
      obtain ⟨wo, hwo⟩ : ∃ wo, wo = wr := ⟨_, rfl⟩
      have SB : Hid (RowSt wo [] 3 1 (.slice none 0 0) (idxB (fun i => k.testBit i) 0).length (natV (idxB (fun i => k.testBit i) 0)) wr) := by rw [hwo]; exact RowSt.start (Fr.nil _)
      have HWO := Lib.hid hwo
      clear hwo
      go_loopw [9, 10, 11] (fun v s i wi => ∃ j : Nat, j ≤ its.length ∧ i = .int .i64 (j : Int) ∧ s = .int .i64 (sumL (amts its) (idxB (fun i => k.testBit i) j)) ∧ Hid (RowSt wo [] 3 1 v (idxB (fun i => k.testBit i) j).length (natV (idxB (fun i => k.testBit i) j)) wi)) (fun _ _ i _ => its.length - (intOf i).toNat)
      case atStart => exact ⟨0, Nat.zero_le _, rfl, rfl, SB⟩
      case round =>
        clear SB
        obtain ⟨j, hj, rfl, rfl, HS⟩ := hrel
        by_cases hlt2 : j < its.length
        · have hbt := bit_walk (show k < 9223372036854775808 by omega) j
          have hkd : (0 : Int) ≤ (k : Int) := by omega
          cases hB : k.testBit j with
          | true =>
            rw [hB] at hbt
            have hset := Lib.hid (idx_set (B := fun i => k.testBit i) hB)
            have hsn := Lib.hid (sumL_snoc (amts its) (idxB (fun i => k.testBit i) j) j)
            obtain ⟨x, hx⟩ := getElem?_ex hlt2
            obtain ⟨ib, ioff, rfl, hib, hci⟩ := HH.out.resolve_left (fun e => by rw [e] at hlt2; simp at hlt2)
            obtain ⟨_, _, x2'⟩ := hci _ x hx
            have hcell : ∀ wx, Below wo.heap.size wo wx → wx.cell? ⟨ib, ioff + j * 3 + 2, none⟩ = some (.int .i64 x.amt) := fun wx hb => ((HB.out.trans (by rw [← HWO.out]; exact hb.mono (by rw [HWO.out]; exact HB.out.size))).cell (p := ⟨ib, _, none⟩) hib).trans x2'
            have hxa := HBD.out j
            rw [amts_get its j x hx] at hxa
            have hga := Lib.hid (amts_get its j x hx)
            obtain ⟨xa1, xa2⟩ := hxa
            have hsb := sum_bound HBD.out (idxB (fun i => k.testBit i) j)
            have hil := idxB_len (fun i => k.testBit i) j
            obtain ⟨pb1, pb2⟩ : -16000000000000000 ≤ sumL (amts its) (idxB (fun i => k.testBit i) j) ∧ sumL (amts its) (idxB (fun i => k.testBit i) j) ≤ 16000000000000000 := by unfold sumL; omega
            obtain ⟨xr, xp, xa⟩ := x
            dsimp only at hcell xa1 xa2 hga
            have HCELL := Lib.hid hcell
            have hsz := HS.out.fr.below.size
            obtain ⟨uo, um, uc, rfl⟩ := ownsRow_form HS.out.row
            clear hB x2' hci hx hsb hcell
            generalize hL : idxB (fun i => k.testBit i) j = L at *
            generalize hSS : sumL (amts its) L = S at *
            have HL := Lib.hid hL
            have HSS := Lib.hid hSS
            clear hL hSS
            go_wp2_with (at_builtin; go_must (refine wpList_append_own_at (o := ⟨some 35, _, _, _, _, _⟩) _ rfl (.tmp 32) (.tmp 34) 28 rfl wo.heap.size 3 i0 (.int .i64 0) 1 8 Tryd.underlying28 HI0.out HZ0.out HZ1.out HZ2.out rfl (by decide) (.slice uo um uc) L.length (natV L) rfl (World.ownsRow.alloc HS.out.row _) ⟨wr.heap.size, 0, none⟩ 1 1 [.int .i64 (j : Int)] rfl rfl (World.news_of_block (cs := #[.int .i64 (j : Int)]) (t := 3) (fr := (0, 0)) (by exact heap_new_at (by simp) _)) (by simp [Value.oneCell']) (by unfold maxLen; omega) (by omega) (by simp at hsz ⊢; omega) ?_); intro v1 w2 hown1 hgrow1 _ hblk1; have x2 := HCELL.out w2 (RowSt.moved HS.out hown1 (Moved.append hgrow1 (by simpa using hblk1))).fr.below)
            have HS5 : Hid (RowSt wo [] 3 1 v1 (L ++ [j]).length (natV (L ++ [j])) w2) := HS.out.moved (ownsRow_cast hown1 (by simp) (natV_snoc _ _).symm) (Moved.append hgrow1 (by simpa using hblk1))
            clear hown1 hgrow1 hblk1 HS hsz x2
            go_wp2_with fail
            go_roundw
            case rel => exact ⟨j + 1, by omega, by go_num, by rw [hset.out, hsn.out, hga.out], by show RowSt _ _ _ _ _ _ _ _; rw [hset.out]; exact HS5.out⟩
            case measure => simp [intOf]; omega
          | false =>
            rw [hB] at hbt
            have hset := Lib.hid (idx_clear (B := fun i => k.testBit i) hB)
            clear hB
            go_wp2_with fail
            go_roundw
            case rel => exact ⟨j + 1, by omega, by go_num, by rw [hset.out], by show RowSt _ _ _ _ _ _ _ _; rw [hset.out]; exact HS.out⟩
            case measure => simp [intOf]; omega
        · obtain rfl : j = its.length := by omega
          have HBW : Hid (Below w.heap.size w wr) := HB.out.trans (by rw [← HWO.out]; exact HS.out.fr.below.mono (by rw [HWO.out]; exact HB.out.size))
          have hbits : idxB (fun i => k.testBit i) its.length = bitsN (amts its).length k := by rw [amts_len]; rfl
          have hrow := HS.out.row
          rw [hbits] at hrow ⊢
          obtain ⟨so, sc, rfl, hsi⟩ := sli_of_row hrow
          have HBI2 : Hid (IntsAt wr bo (best.map fun n : Nat => (n : Int))) := by
            have h1 := HBI.out
            rw [← HWO.out] at h1
            exact ints_keep h1 HS.out.fr.below
          have hSl : (bitsN (amts its).length k).length ≤ 16 := by
            have := idxB_len (fun i => k.testBit i) (amts its).length
            rw [amts_len] at this
            unfold bitsN; rw [amts_len]; omega
          obtain ⟨S, hS⟩ : ∃ S, bitsN (amts its).length k = S := ⟨_, rfl⟩
          have HSK := Lib.hid hS
          rw [hS] at hsi hSl ⊢
          have HSI := Lib.hid hsi
          clear hsi hS hrow hbits HS HBI HWO HB
          by_cases hs : sumL (amts its) S = want
          · have q1 : (sumL (amts its) S != want) = false := by simpa using hs
            have HEQ : Hid (sumL (amts its) (bitsN (amts its).length k) = want) := by show _ = _; rw [HSK.out]; exact hs
            have take : ∀ fd, Hid (exSt (amts its) want k = (fd, best)) → betB (fd, best) S = true → Hid (exSt (amts its) want (k + 1) = (true, S)) := fun fd h hb => by
              have := exSt_take h.out HEQ.out (by rw [HSK.out]; exact hb)
              rw [HSK.out] at this
              exact this
            have leave : ∀ fd, Hid (exSt (amts its) want k = (fd, best)) → betB (fd, best) S = false → Hid (exSt (amts its) want (k + 1) = (fd, best)) := fun fd h hb => exSt_leave h.out (by rw [HSK.out]; exact hb)
            generalize sumL (amts its) S = sm at *
            clear hs
            cases fd with
            | false =>
              have HT := take false HST rfl
              clear take leave
              go_wp2_with fail
              go_roundw
              case rel => exact ⟨k + 1, (true, S), so, sc, by omega, by go_num, HT, rfl, rfl, HSI, HBW⟩
              case measure => simp [intOf]; omega
            | true =>
              rcases Nat.lt_trichotomy S.length best.length with hl | hl | hl
              · have HT := take true HST (by unfold betB; rw [decide_eq_true hl]; rfl)
                have d1 : decide ((S.length : Int) < (best.length : Int)) = true := decide_eq_true (by omega)
                have d2 : decide (S.length < best.length) = true := decide_eq_true hl
                have d3 : ((S.length : Int) == (best.length : Int)) = false := by simp; omega
                have d4 : (S.length == best.length) = false := by simp; omega
                clear take leave hl
                go_wp2_with fail
                go_roundw
                case rel => exact ⟨k + 1, (true, S), so, sc, by omega, by go_num, HT, rfl, rfl, HSI, HBW⟩
                case measure => simp [intOf]; omega
              · have hbet : betB (true, best) S = lexB S best := by unfold betB; simp [hl]
                have d1 : decide ((S.length : Int) < (best.length : Int)) = false := decide_eq_false (by omega)
                have d2 : decide (S.length < best.length) = false := decide_eq_false (by omega)
                have d3 : ((S.length : Int) == (best.length : Int)) = true := by simp; omega
                have d4 : (S.length == best.length) = true := by simp; omega
                have HLEN := Lib.hid hl
                have TK : Hid (lexB S best = true → Hid (exSt (amts its) want (k + 1) = (true, S))) := fun h => take true HST (by rw [hbet]; exact h)
                have LV : Hid (lexB S best = false → Hid (exSt (amts its) want (k + 1) = (true, best))) := fun h => leave true HST (by rw [hbet]; exact h)
                have HK := fun n => Lib.hid (show Below w.heap.size w (wr.drewN n) from HBW.out.trans (big.belowN _ _ n))
                have HN1 := fun n => Lib.hid (ints_keep HSI.out (big.belowN wr.heap.size wr n))
                have HN2 := fun n => Lib.hid (ints_keep HBI2.out (big.belowN wr.heap.size wr n))
                clear take leave hl hbet
                go_wp2_with fail
                clear d1 d2 d3 d4
                obtain ⟨wz, hwz⟩ : ∃ wz, wz = wr := ⟨_, rfl⟩
                have HW0 : Hid (wr = wz.drewN 0) := hwz.symm
                simp only [← hwz] at HK HN1 HN2 HSI HBI2 HBW
                clear hwz
                go_loopw [12, 13] (fun bt i wx => ∃ (q n : Nat), q ≤ S.length ∧ i = .int .i64 (q : Int) ∧ bt = .bool false ∧ Hid (lexB S best = lexB (S.drop q) (best.drop q)) ∧ Hid (wx = wz.drewN n)) (fun _ i _ => S.length - (intOf i).toNat)
                case atStart => exact ⟨0, 0, Nat.zero_le _, rfl, rfl, rfl, HW0⟩
                case round =>
                  clear HW0
                  obtain ⟨q, n, hq, rfl, rfl, HLX, hwx⟩ := hrel
                  obtain rfl := hwx.out
                  clear hwx
                  by_cases hlt3 : q < S.length
                  · obtain ⟨b1, o1, rfl, hc1⟩ := HSI.out.resolve_left (fun e => by have := congrArg List.length e; simp at this; rw [this] at hlt3; simp at hlt3)
                    obtain ⟨b2, o2, rfl, hc2⟩ := HBI2.out.resolve_left (fun e => by have := congrArg List.length e; simp at this; have := HLEN.out; rw [‹best = []›] at this; simp at this; rw [this] at hlt3; simp at hlt3)
                    have x1 := hc1 q (by simpa using hlt3)
                    have x2 := hc2 q (by have := HLEN.out; simp; omega)
                    rw [cast_map _ hlt3] at x1
                    rw [cast_map _ (by have := HLEN.out; omega)] at x2
                    have hdr := lexB_drop hlt3 (show q < best.length by have := HLEN.out; omega)
                    have hi1 : (q : Int) < (S.length : Int) := by omega
                    have hi2 : (q : Int) < (best.length : Int) := by have := HLEN.out; omega
                    have hi0 : (0 : Int) ≤ (q : Int) := by omega
                    rw [← HLX.out] at hdr
                    have HDR := Lib.hid hdr
                    clear hdr HLX hc1 hc2
                    generalize S.getD q 0 = u at *
                    generalize best.getD q 0 = v at *
                    by_cases huv : u = v
                    · subst huv
                      have n1 : ((u : Int) != (u : Int)) = false := by simp
                      have n2 : (u != u) = false := by simp
                      have HL2 : Hid (lexB S best = lexB (S.drop (q + 1)) (best.drop (q + 1))) := by have := HDR.out; rw [if_pos rfl] at this; exact this
                      clear HDR
                      go_wp2_with fail
                      go_quiet (fail)
                      go_wp2_with fail
                      go_roundw
                      case rel => exact ⟨q + 1, _, by omega, by go_num, rfl, HL2, rfl⟩
                      case measure => simp [intOf]; omega
                    · have n1 : ((u : Int) != (v : Int)) = true := by simp; omega
                      have n2 : (u != v) = true := by simp; omega
                      have hl2 : lexB S best = decide (u < v) := by have := HDR.out; rw [if_neg huv] at this; exact this
                      by_cases hlt4 : u < v
                      · have n3 : decide ((u : Int) < (v : Int)) = true := decide_eq_true (by omega)
                        have n4 : decide (u < v) = true := decide_eq_true hlt4
                        have HT := TK.out (by rw [hl2, n4])
                        clear HDR hl2 huv hlt4 TK LV
                        go_wp2_with fail
                        go_quiet (fail)
                        go_wp2_with fail
                        go_quiet (fail)
                        go_wp2_with fail
                        go_roundw
                        case rel => exact ⟨k + 1, (true, S), _, sc, by omega, by go_num, HT, rfl, rfl, HN1 _, HK _⟩
                        case measure => simp [intOf]; omega
                      · have n3 : decide ((u : Int) < (v : Int)) = false := decide_eq_false (by omega)
                        have n4 : decide (u < v) = false := decide_eq_false hlt4
                        have HT := LV.out (by rw [hl2, n4])
                        clear HDR hl2 huv hlt4 TK LV
                        go_wp2_with fail
                        go_quiet (fail)
                        go_wp2_with fail
                        go_quiet (fail)
                        go_wp2_with fail
                        go_roundw
                        case rel => exact ⟨k + 1, (true, best), _, bc, by omega, by go_num, HT, rfl, rfl, HN2 _, HK _⟩
                        case measure => simp [intOf]; omega
                  · have HT := LV.out (by rw [HLX.out]; exact lexB_end (by omega))
                    clear TK LV HLX
                    go_wp2_with fail
                    go_roundw
                    case rel => exact ⟨k + 1, (true, best), _, bc, by omega, by go_num, HT, rfl, rfl, HN2 _, HK _⟩
                    case measure => simp [intOf]; omega
              · have HT := leave true HST (by unfold betB; rw [decide_eq_false (show ¬ S.length < best.length by omega), decide_eq_false (show ¬ S.length = best.length by omega)]; rfl)
                have d1 : decide ((S.length : Int) < (best.length : Int)) = false := decide_eq_false (by omega)
                have d2 : decide (S.length < best.length) = false := decide_eq_false (by omega)
                have d3 : ((S.length : Int) == (best.length : Int)) = false := by simp; omega
                have d4 : (S.length == best.length) = false := by simp; omega
                clear take leave hl
                go_wp2_with fail
                go_roundw
                case rel => exact ⟨k + 1, (true, best), bo, bc, by omega, by go_num, HT, rfl, rfl, HBI2, HBW⟩
                case measure => simp [intOf]; omega
          · have q1 : (sumL (amts its) S != want) = true := by simpa using hs
            have HT : Hid (exSt (amts its) want (k + 1) = (fd, best)) := exSt_skip HST.out (by rw [HSK.out]; exact hs)
            generalize sumL (amts its) S = sm at *
            clear hs
            go_wp2_with fail
            go_roundw
            case rel => exact ⟨k + 1, (fd, best), bo, bc, by omega, by go_num, HT, rfl, rfl, HBI2, HBW⟩
            case measure => simp [intOf]; omega
    · obtain rfl : k = N := by omega
      have HE := exSt_all HBD.out (by rw [amts_len]; omega) want
      rw [amts_len, HN.out, HST.out] at HE
      have HE1 := Lib.hid (congrArg Prod.fst HE)
      have HE2 := Lib.hid (congrArg Prod.snd HE)
      clear HE
      go_wp2_with fail
      go_ret2
      refine ⟨HB.out, .slice bo best.length bc, ?_, bo, bc, ?_, ?_⟩
      · rw [← HE1.out]; rfl
      · rw [← HE2.out]
      · rw [← HE2.out]; exact HBI.out
end Go.Proofs.YtbhndnjlplibmaaDoor.mt
