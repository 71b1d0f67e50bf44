/- pair.Left at any pairs, balances and currency. -/
import Derived.Test.YtbhndnjlplibmaaDoorLg2
import Derived.Test.YtbhndnjlplibmaaDoorLgG
import Derived.Test.YtbhndnjlplibmaaDoorCur
import Derived.Test.YtbhndnjlplibmaaDoorBg20
import Derived.OwnWalk
import Derived.Deep.AppendLies
import Derived.Deep.DeepMust
namespace Go.Proofs.YtbhndnjlplibmaaDoor.lg
open Go.RowKit

theorem infoInt : (Tryd.prog.info? 3).map (fun i => (i.zero, i.size, i.bytes)) = some (some (.int .i64 0), 1, 8) := by kernel_rfl
def leftM (t : List BalM) (c : ByteArray) (l : List PairM) : List Int := l.map fun p => getB t p.a p.one c + getB t p.b p.other c
def leftC (t : List BalM) (c : ByteArray) (l : List PairM) : Int := if 20 < l.length then 4 else if chkB t ≠ 0 then chkB t else if curB c = false then 2 else 0
def leftX (t : List BalM) (c : ByteArray) (l : List PairM) : List Int := if leftC t c l = 0 then leftM t c l else []
theorem balFrom_zero {t : List BalM} : ∀ {l : List BalM} {k : Nat}, balFrom t l k = 0 → ∀ x ∈ l, mayB x.amt = true
  | [], _, _, _, hx => by cases hx
  | y :: r, k, h, x, hx => by
    unfold balFrom at h
    split at h
    · rename_i h0
      rcases List.mem_cons.1 hx with rfl | hx
      · unfold balOne at h0
        split at h0
        · cases h0
        · split at h0
          · cases h0
          · rename_i h1; exact by cases hb : mayB x.amt with | true => rfl | false => exact absurd hb h1
      · exact balFrom_zero h x hx
    · rename_i h0; exact absurd h h0
theorem chkB_zero {t : List BalM} (h : chkB t = 0) : t.length ≤ 200 ∧ ∀ x ∈ t, mayB x.amt = true := by
  unfold chkB at h
  split at h
  · cases h
  · exact ⟨by omega, balFrom_zero h⟩
theorem getB_bound : ∀ {t : List BalM}, (∀ x ∈ t, mayB x.amt = true) → ∀ (e : Int) (a c : ByteArray), -1000000000000000000 ≤ getB t e a c ∧ getB t e a c ≤ 1000000000000000000
  | [], _, _, _, _ => ⟨by unfold getB; decide, by unfold getB; decide⟩
  | x :: r, h, e, a, c => by
    unfold getB
    split
    · exact mayB_iff.1 (h x (List.mem_cons_self ..))
    · exact getB_bound (fun y hy => h y (List.mem_cons_of_mem _ hy)) e a c
theorem madd_small (a b : Int) (w : World) (ha : -1000000000000000000 ≤ a ∧ a ≤ 1000000000000000000) (hb : -1000000000000000000 ≤ b ∧ b ≤ 1000000000000000000) :
    Calls Tryd.prog 57 #[.int .i64 a, .int .i64 b] w fun e w' => e = .returned (.tuple #[.int .i64 (a + b), .nilIface]) ∧ Below w.heap.size w w' := by
  have h := big.madd_any a b w (by omega) (by omega)
  have hf : big.fits (a + b) = true := by unfold big.fits; simp; omega
  rwa [show big.smallV (a + b) = .tuple #[.int .i64 (a + b), .nilIface] from if_pos hf] at h
/-- what stays while one pair is reckoned -/
theorem pl_keep {q : Nat} {p : PairM} {ao : Option Addr} {t : List BalM} {W w1 w2 : World} (h : w1.cell? ⟨q, 0, none⟩ = some (.int .i64 p.a) ∧ w1.cell? ⟨q, 1, none⟩ = some (.int .i64 p.b) ∧ w1.cell? ⟨q, 2, none⟩ = some (.string p.one) ∧ w1.cell? ⟨q, 3, none⟩ = some (.string p.other) ∧ BalsAt w1 ao t ∧ (q < W.heap.size ∧ Below W.heap.size W w1))
    (hb : Below w1.heap.size w1 w2) : w2.cell? ⟨q, 0, none⟩ = some (.int .i64 p.a) ∧ w2.cell? ⟨q, 1, none⟩ = some (.int .i64 p.b) ∧ w2.cell? ⟨q, 2, none⟩ = some (.string p.one) ∧ w2.cell? ⟨q, 3, none⟩ = some (.string p.other) ∧ BalsAt w2 ao t ∧ (q < W.heap.size ∧ Below W.heap.size W w2) := by
  obtain ⟨c0, c1, c2, c3, hz, hq, hw⟩ := h
  have hq1 : q < w1.heap.size := Nat.lt_of_lt_of_le hq hw.size
  exact ⟨(hb.cell (p := ⟨q, 0, none⟩) hq1).trans c0, (hb.cell (p := ⟨q, 1, none⟩) hq1).trans c1, (hb.cell (p := ⟨q, 2, none⟩) hq1).trans c2, (hb.cell (p := ⟨q, 3, none⟩) hq1).trans c3, hz.below hb, hq, hw.trans (hb.mono hw.size)⟩
theorem ints_of_row {w : World} {base : Nat} {e : TypeId} {v : Value} {zs : List Int} (h : w.ownsRow base e 1 v zs.length (zs.map (Value.int .i64))) :
    ∃ ao cap, v = .slice ao zs.length cap ∧ IntsAt w ao zs := by
  obtain ⟨h1, h2⟩ := h
  rcases h2 with ⟨rfl, hn⟩ | ⟨g, cap, cur, rfl, hg, hh, hc, hm, hsz, htk⟩
  · exact ⟨none, 0, by rw [hn], Or.inl (List.length_eq_zero_iff.1 hn)⟩
  · refine ⟨some ⟨g, 0, none⟩, cap, rfl, Or.inr ⟨g, 0, rfl, fun i hi => ?_⟩⟩
    have hsz' : cur.size = cap := by omega
    have this : cur[i]? = some (.int .i64 (zs.getD i 0)) := by
      have h3 : (cur.toList.take (zs.length * 1))[i]? = (zs.map (Value.int .i64))[i]? := by rw [htk]
      rw [List.getElem?_take, if_pos (by omega), List.getElem?_map] at h3
      simp only [Array.getElem?_toList] at h3
      rw [h3]
      simp [List.getD, hi]
    simp only [World.cell?, hh, Nat.zero_add]
    simpa using this
def LeftPost (B : Nat) (w : World) (c : Int) (xs : List Int) (e : Ending) (w' : World) : Prop := Below B w w' ∧ ∃ ao cap, e = .returned (.tuple #[.slice ao xs.length cap, errV c]) ∧ IntsAt w' ao xs
theorem left_bad {B : Nat} {w w' : World} {t : List BalM} {cu : ByteArray} {l : List PairM} {c : Int} (hb : Below B w w') (hc : leftC t cu l = c) (h0 : c ≠ 0) : LeftPost B w (leftC t cu l) (leftX t cu l) (.returned (.tuple #[.slice none 0 0, errV c])) w' := by
  have hx : leftX t cu l = [] := by unfold leftX; rw [if_neg (by rw [hc]; exact h0)]
  rw [hc, hx]
  exact ⟨hb, none, 0, rfl, Or.inl rfl⟩
theorem leftM_take (t : List BalM) (c : ByteArray) {l : List PairM} {k : Nat} {p : PairM} (h : l[k]? = some p) : leftM t c (l.take (k + 1)) = leftM t c (l.take k) ++ [getB t p.a p.one c + getB t p.b p.other c] := by
  obtain ⟨hk, rfl⟩ := List.getElem?_eq_some_iff.1 h
  unfold leftM
  rw [List.take_succ_eq_append_getElem hk, List.map_append]
  rfl

set_option maxRecDepth 100000 in
set_option maxHeartbeats 4000000 in
theorem left_any (lo : Option Addr) (lc : Nat) (l : List PairM) (ao : Option Addr) (cap : Nat) (t : List BalM) (cu : ByteArray) (w : World) (hl : PairsAt w lo l) (hh : BalsAt w ao t) (hm : t.length ≤ 9223372036854775807) (hml : l.length ≤ 9223372036854775807) :
    Calls Tryd.prog 33 #[.slice lo l.length lc, .slice ao t.length cap, .string cu] w (LeftPost w.heap.size w (leftC t cu l) (leftX t cu l)) := by
  by_cases h20 : 20 < l.length
  · have hd : decide ((20 : Int) < (l.length : Int)) = true := decide_eq_true (by omega)
    have hc : leftC t cu l = 4 := by unfold leftC; rw [if_pos h20]
    have HP := fun w' (h : Below w.heap.size w w') => Lib.hid (left_bad h hc (by decide))
    clear hl hh hc
    go_enter Tryd.func33, Tryd.ntmps33
    go_wp2
    go_ret2
    exact (HP _ (Below.refl _ _)).out
  · have hd : decide ((20 : Int) < (l.length : Int)) = false := decide_eq_false (by omega)
    have hl20 : l.length ≤ 20 := by omega
    obtain ⟨r, hr⟩ : ∃ r, chkB t = r := ⟨_, rfl⟩
    have hck := check_r r ao cap t w hh hm (Lib.hid hr)
    have HC : Hid (leftC t cu l = if r ≠ 0 then r else if curB cu = false then 2 else 0) := by show _ = _; unfold leftC; rw [if_neg h20, hr]
    have HR := Lib.hid hr
    have HL := Lib.hid hl
    have HH := Lib.hid hh
    clear hr hl hh h20
    obtain ⟨B, hB⟩ : ∃ B, B = w.heap.size := ⟨_, rfl⟩
    rw [← hB] at hck ⊢
    have HB := Lib.hid hB
    clear hB
    go_enter Tryd.func33, Tryd.ntmps33
    go_wp2_with fail
    refine hck.mono ?_
    rintro e w1 ⟨rfl, hb1⟩
    have HB1 := Lib.hid hb1
    clear hck hb1
    by_cases h0 : r = 0
    · subst h0
      rw [errV_zero]
      have hcu := cur_any cu w1
      have HC2 : Hid (leftC t cu l = if curB cu = false then 2 else 0) := HC.out
      clear HC
      cases hcb : curB cu with
      | false =>
        have hc : leftC t cu l = 2 := by rw [HC2.out, if_pos hcb]
        have HP := fun w' (h : Below B w w') => Lib.hid (left_bad h hc (by decide))
        rw [hcb] at hcu
        clear hcb hc HC2
        go_wp2_with fail
        refine hcu.mono ?_
        rintro e w2 ⟨rfl, hb2⟩
        have HB2 := Lib.hid (HB1.out.trans (hb2.mono (by rw [HB.out]; rw [HB.out] at HB1; exact HB1.out.size)))
        clear hcu hb2
        go_wp2_with fail
        go_ret2
        exact (HP _ HB2.out).out
      | true =>
        have hc : leftC t cu l = 0 := by rw [HC2.out, if_neg (by rw [hcb]; simp)]
        have hx : leftX t cu l = leftM t cu l := by unfold leftX; rw [if_pos hc]
        have HCZ := Lib.hid hc
        have HXZ := Lib.hid hx
        rw [hcb] at hcu
        have HBD := Lib.hid (getB_bound (chkB_zero HR.out).2)
        obtain ⟨i0, hi0, hz0, hz1, hz2⟩ := info_parts infoInt
        have HI0 := Lib.hid hi0
        have HZ0 := Lib.hid hz0
        have HZ1 := Lib.hid hz1
        have HZ2 := Lib.hid hz2
        clear hcb hc hx HC2 hi0 hz0 hz1 hz2
        go_wp2_with fail
        refine hcu.mono ?_
        rintro e w2 ⟨rfl, hb2⟩
        have HB2 : Hid (Below w.heap.size w w2) := by rw [HB.out] at HB1; exact HB1.out.trans (hb2.mono HB1.out.size)
        clear hcu hb2 HB1
        have S0 : Hid (RowSt w [] 3 1 (.slice none 0 0) 0 ((leftM t cu (l.take 0)).map (Value.int .i64)) w2) := RowSt.start ⟨HB2.out, fun p hp => by cases hp⟩
        go_wp2_with fail
        go_loopw [9, 29] (fun v i wr => ∃ k : Nat, k ≤ l.length ∧ i = .int .i64 (k : Int) ∧ Hid (RowSt w [] 3 1 v k ((leftM t cu (l.take k)).map (Value.int .i64)) wr)) (fun _ i _ => l.length - (intOf i).toNat)
        case atStart => exact ⟨0, Nat.zero_le _, rfl, S0⟩
        case round =>
          clear S0
          obtain ⟨k, hk, rfl, HS⟩ := hrel
          by_cases hlt : k < l.length
          · obtain ⟨p, hp⟩ := getElem?_ex hlt
            obtain ⟨b, off, rfl, hb, hcc⟩ := HL.out.resolve_left (fun e => by rw [e] at hlt; simp at hlt)
            obtain ⟨y0, y1, y2, y3, y4⟩ := hcc k p hp
            have x0 := (HS.out.fr.old hb _).trans y0
            have x1 := (HS.out.fr.old hb _).trans y1
            have x2 := (HS.out.fr.old hb _).trans y2
            have x3 := (HS.out.fr.old hb _).trans y3
            have x4 := (HS.out.fr.old hb _).trans y4
            have HTK := Lib.hid (leftM_take t cu hp)
            have hi1 : (k : Int) < (l.length : Int) := by omega
            have hi0' : (0 : Int) ≤ (k : Int) := by omega
            obtain ⟨W, hW⟩ : ∃ W, W = wr.alloc (.cells #[.int .i64 p.a, .int .i64 p.b, .string p.one, .string p.other, .string p.diff] 74) := ⟨_, rfl⟩
            have hbx : W.heap[wr.heap.size]? = some (.cells #[.int .i64 p.a, .int .i64 p.b, .string p.one, .string p.other, .string p.diff] 74 (0, 0)) := by rw [hW]; exact heap_new_at rfl _
            obtain ⟨uo, um, uc, rfl⟩ := ownsRow_form HS.out.row
            have SW : Hid (RowSt w [] 3 1 (.slice uo um uc) k ((leftM t cu (l.take k)).map (Value.int .i64)) W) := by rw [hW]; exact HS.out.later ((Below.refl _ _).alloc (Nat.le_refl _) _)
            have hS0 : W.cell? ⟨wr.heap.size, 0, none⟩ = some (.int .i64 p.a) ∧ W.cell? ⟨wr.heap.size, 1, none⟩ = some (.int .i64 p.b) ∧ W.cell? ⟨wr.heap.size, 2, none⟩ = some (.string p.one) ∧ W.cell? ⟨wr.heap.size, 3, none⟩ = some (.string p.other) ∧ BalsAt W ao t ∧ (wr.heap.size < W.heap.size ∧ Below W.heap.size W W) :=
              ⟨cell_of_heap hbx 0, cell_of_heap hbx 1, cell_of_heap hbx 2, cell_of_heap hbx 3, HH.out.below SW.out.fr.below, lt_of_heap hbx, Below.refl _ _⟩
            have HS0 := Lib.hid hS0
            have HW := Lib.hid hW
            clear hW hbx hcc y0 y1 y2 y3 y4 hp HS hS0
            go_wp2_with fail
            rw [← HW.out]
            go_region_held3 (fun w' => w'.cell? ⟨wr.heap.size, 0, none⟩ = some (.int .i64 p.a) ∧ w'.cell? ⟨wr.heap.size, 1, none⟩ = some (.int .i64 p.b) ∧ w'.cell? ⟨wr.heap.size, 2, none⟩ = some (.string p.one) ∧ w'.cell? ⟨wr.heap.size, 3, none⟩ = some (.string p.other) ∧ BalsAt w' ao t ∧ (wr.heap.size < W.heap.size ∧ Below W.heap.size W w'))
              (first | exact pl_keep (by assumption) hb9 | exact HS0.out | exact pl_keep HS0.out (Below.refl _ _).drew | go_keep)
              (first
                | (go_at_call 68; refine (get_any ao cap t _ _ _ _ ?_ hm).mono ?_; (exact (show _ ∧ _ ∧ _ ∧ _ ∧ BalsAt _ ao t ∧ _ from by assumption).2.2.2.2.1); rintro e w9 ⟨rfl, hb9⟩)
                | (go_at_call 57; refine (madd_small _ _ _ (HBD.out _ _ _) (HBD.out _ _ _)).mono ?_; rintro e w9 ⟨rfl, hb9⟩))
            all_goals
              have hS9 : w9.cell? ⟨wr.heap.size, 0, none⟩ = some (.int .i64 p.a) ∧ w9.cell? ⟨wr.heap.size, 1, none⟩ = some (.int .i64 p.b) ∧ w9.cell? ⟨wr.heap.size, 2, none⟩ = some (.string p.one) ∧ w9.cell? ⟨wr.heap.size, 3, none⟩ = some (.string p.other) ∧ BalsAt w9 ao t ∧ (wr.heap.size < W.heap.size ∧ Below W.heap.size W w9) := by first | assumption | exact pl_keep (by assumption) hb9
              have S9 : Hid (RowSt w [] 3 1 (.slice uo um uc) k ((leftM t cu (l.take k)).map (Value.int .i64)) w9) := SW.out.later hS9.2.2.2.2.2.2
              have hsz := S9.out.fr.below.size
              clear hS9 HS0 SW HW x0 x1 x2 x3 x4
              generalize getB t p.a p.one cu + getB t p.b p.other cu = gs at *
              go_wp2_with (at_builtin; go_must (refine wpList_append_own_at (o := ⟨some 57, _, _, _, _, _⟩) _ rfl (.tmp 54) (.tmp 56) 28 rfl w.heap.size 3 i0 (.int .i64 0) 1 8 Tryd.underlying28 HI0.out HZ0.out HZ1.out HZ2.out rfl (by decide) (.slice uo um uc) k ((leftM t cu (l.take k)).map (Value.int .i64)) rfl (World.ownsRow.alloc S9.out.row _) ⟨w9.heap.size, 0, none⟩ 1 1 [.int .i64 gs] rfl rfl (World.news_of_block (cs := #[.int .i64 gs]) (t := 3) (fr := (0, 0)) (by exact heap_new_at (by simp) _)) (by simp [Value.oneCell']) (by unfold maxLen; omega) (by omega) (by simp at hsz ⊢; omega) ?_); intro v1 wn hown1 hgrow1 _ hblk1)
              have HS5 : Hid (RowSt w [] 3 1 v1 (k + 1) ((leftM t cu (l.take (k + 1))).map (Value.int .i64)) wn) := S9.out.moved (ownsRow_cast hown1 rfl (by rw [HTK.out]; simp)) (Moved.append hgrow1 (by simpa using hblk1))
              clear hown1 hgrow1 hblk1 S9 hsz
              go_wp2_with fail
              go_roundw
              case rel => exact ⟨k + 1, by omega, by go_num, HS5⟩
              case measure => simp [intOf]; omega
          · obtain rfl : k = l.length := by omega
            have hS2 := HS.out
            rw [List.take_of_length_le (Nat.le_refl _)] at hS2
            have hlen : (leftM t cu l).length = l.length := by simp [leftM]
            obtain ⟨xo, xc, rfl, hxi⟩ := ints_of_row (zs := leftM t cu l) (by rw [hlen]; exact hS2.row)
            have HBF : Hid (Below B w wr) := by rw [HB.out]; exact hS2.fr.below
            have HXI := Lib.hid hxi
            clear hS2 HS hxi hlt
            go_wp2_with fail
            go_ret2
            rw [HCZ.out, HXZ.out]
            exact ⟨HBF.out, xo, xc, rfl, HXI.out⟩
    · have hc : leftC t cu l = r := by rw [HC.out, if_pos h0]
      have HP := fun w' (h : Below B w w') => Lib.hid (left_bad h hc h0)
      have he := errV_some h0
      rw [he]
      rw [he] at HP
      clear hc he HC
      go_wp2_with fail
      go_ret2
      exact (HP _ HB1.out).out
end Go.Proofs.YtbhndnjlplibmaaDoor.lg
