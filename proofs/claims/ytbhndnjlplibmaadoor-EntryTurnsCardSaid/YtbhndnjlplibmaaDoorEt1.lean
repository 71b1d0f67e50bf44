/- dayref1.Few, entry.small: what is wrong with lines that are added up; entry.Compare. -/
import Derived.Test.YtbhndnjlplibmaaDoorGd1
import Derived.StillTailTactics
namespace Go.Proofs.YtbhndnjlplibmaaDoor.lg
open Go.RowKit

theorem ramount_any (n : Int) (w : World) : Calls Tryd.prog 53 #[.int .i64 n] w fun e w' => e = .returned (.bool (mayA n)) ∧ w = w' := by
  by_cases h1 : -1000000000000000 ≤ n
  · by_cases h2 : n ≤ 1000000000000000
    · have hb : Hid (mayA n = true) := by show _ = _; simp [mayA, h1, h2]
      go_enter Tryd.func53, Tryd.ntmps53
      go_wp2
      go_ret
      exact ⟨ret_bool hb.out.symm, rfl⟩
    · have hb : Hid (mayA n = false) := by show _ = _; simp [mayA, h2]
      go_enter Tryd.func53, Tryd.ntmps53
      go_wp2
      go_ret
      exact ⟨ret_bool hb.out.symm, rfl⟩
  · have hb : Hid (mayA n = false) := by show _ = _; simp [mayA, h1]
    go_enter Tryd.func53, Tryd.ntmps53
    go_wp2
    go_ret
    exact ⟨ret_bool hb.out.symm, rfl⟩
def fewC (l : List LineM) : Int := if 20 < l.length then 4 else if badL l = true then 1 else 0
theorem fewC_zero {l : List LineM} (h : fewC l = 0) : l.length ≤ 20 ∧ ∀ x ∈ l, -1000000000000000 ≤ x.amt ∧ x.amt ≤ 1000000000000000 := by
  unfold fewC at h
  split at h
  · cases h
  · split at h
    · cases h
    · rename_i h1 h2
      refine ⟨by omega, fun x hx => mayA_iff.1 ?_⟩
      cases hm : mayA x.amt with
      | true => rfl
      | false => exact absurd (List.any_eq_true.2 ⟨x, hx, by rw [hm]; rfl⟩) h2
set_option maxRecDepth 100000 in
set_option maxHeartbeats 2000000 in
theorem few_any (lo : Option Addr) (lc : Nat) (l : List LineM) (w : World) (hl : LinesAt w lo l) (hm : l.length ≤ 9223372036854775807) :
    Calls Tryd.prog 34 #[.slice lo l.length lc] w fun e w' => e = .returned (.int .i64 (fewC l)) ∧ w = w' := by
  by_cases hlen : 20 < l.length
  · have hd : decide ((20 : Int) < (l.length : Int)) = true := decide_eq_true (by omega)
    have hc : Hid (fewC l = 4) := by show _ = _; unfold fewC; rw [if_pos hlen]
    go_enter Tryd.func34, Tryd.ntmps34
    go_wp2
    go_ret
    exact ⟨ret_int hc.out.symm, rfl⟩
  · have hd : decide ((20 : Int) < (l.length : Int)) = false := decide_eq_false (by omega)
    obtain ⟨bd, hbd⟩ : ∃ bd, badL l = bd := ⟨_, rfl⟩
    have hc : Hid (fewC l = if bd = true then 1 else 0) := by show _ = _; unfold fewC; rw [if_neg hlen, hbd]
    have HBD := Lib.hid hbd
    have HL := Lib.hid hl
    clear hbd hl
    go_enter Tryd.func34, Tryd.ntmps34
    go_wp2
    go_loop [3] (fun i => ∃ k : Nat, k ≤ l.length ∧ i = .int .i64 (k : Int) ∧ Hid (badL (l.drop k) = bd)) (fun i => l.length - (intOf i).toNat)
    case atStart => exact ⟨0, Nat.zero_le _, rfl, HBD⟩
    case round =>
      clear HBD
      obtain ⟨k, hk, rfl, HD⟩ := hrel
      by_cases hlt : k < l.length
      · obtain ⟨x, hx⟩ := getElem?_ex hlt
        obtain ⟨b, off, rfl, hb, hcc⟩ := HL.out.resolve_left (fun e => by rw [e] at hlt; simp at hlt)
        obtain ⟨x0, x1, x2⟩ := hcc k x hx
        have hdr := badL_drop hx
        rw [HD.out] at hdr
        have hcall := ramount_any x.amt w
        have hi1 : (k : Int) < (l.length : Int) := by omega
        have hi0 : (0 : Int) ≤ (k : Int) := by omega
        cases hmb : mayA x.amt with
        | false =>
          rw [hmb] at hcall hdr
          have HZ : Hid (fewC l = 1) := by show _ = _; rw [hc.out, hdr]; rfl
          clear hcc hx hdr HD hmb hc
          go_wp2_with fail
          refine hcall.mono ?_
          rintro e w1 ⟨rfl, rfl⟩
          clear hcall
          go_wp2_with fail
          go_ret
          exact ⟨ret_int HZ.out.symm, rfl⟩
        | true =>
          rw [hmb] at hcall hdr
          have HZ : Hid (badL (l.drop (k + 1)) = bd) := by show _ = _; rw [hdr]; rfl
          clear hcc hx hdr HD hmb
          go_wp2_with fail
          refine hcall.mono ?_
          rintro e w1 ⟨rfl, rfl⟩
          clear hcall
          go_wp2_with fail
          go_round
          case rel => exact ⟨k + 1, by omega, by go_num, HZ⟩
          case measure => simp [intOf]; omega
      · obtain rfl : k = l.length := by omega
        have hz := HD.out
        rw [List.drop_of_length_le (Nat.le_refl _)] at hz
        have HZ : Hid (fewC l = 0) := by show _ = _; rw [hc.out, ← hz]; rfl
        clear hz HD hc
        go_wp2
        go_ret
        exact ⟨ret_int HZ.out.symm, rfl⟩

theorem small1_any (x : LineM) (w : World) : Calls Tryd.prog 87 #[.agg #[.string x.acc, .string x.cur, .int .i64 x.amt]] w fun e w' => e = .returned (.bool (!mayA x.amt)) ∧ Below w.heap.size w w' := by
  have hcall := fun W => amount_any x.amt W
  generalize mayA x.amt = m at hcall
  have HB : Hid (Below w.heap.size w (w.alloc (.cells #[.string x.acc, .string x.cur, .int .i64 x.amt] 87))) := (Below.refl _ _).alloc (Nat.le_refl _) _
  go_enter Tryd.func87, Tryd.ntmps87
  go_wp2_with fail
  refine (hcall _).mono ?_
  rintro e w1 ⟨rfl, rfl⟩
  clear hcall
  go_wp2_with fail
  go_ret
  exact ⟨rfl, HB.out⟩
def firstL (p : LineM → Bool) : List LineM → Nat → Int
  | [], _ => -1
  | z :: r, k => if p z = true then (k : Int) else firstL p r (k + 1)
theorem firstL_nonneg (p : LineM → Bool) : ∀ (zs : List LineM) (k : Nat), 0 ≤ firstL p zs k ↔ zs.any p = true
  | [], k => by simp [firstL]
  | z :: r, k => by
    unfold firstL
    split
    · rename_i h; simp [h]
    · rename_i h
      rw [firstL_nonneg p r (k + 1)]; simp [h]
theorem firstL_drop {p : LineM → Bool} {zs : List LineM} {k : Nat} {z : LineM} (h : zs[k]? = some z) : firstL p (zs.drop k) k = if p z = true then (k : Int) else firstL p (zs.drop (k + 1)) (k + 1) := by
  obtain ⟨hk, rfl⟩ := List.getElem?_eq_some_iff.1 h
  rw [List.drop_eq_getElem_cons hk, firstL]
set_option maxRecDepth 100000 in
set_option maxHeartbeats 2000000 in
theorem index_any (F : FuncId) (p : LineM → Bool) (hen : ∀ args w, (callFunc F args).run Tryd.prog w = .ok (.enter F args) w) (hp : ∀ x w, Calls Tryd.prog F #[.agg #[.string x.acc, .string x.cur, .int .i64 x.amt]] w fun e w' => e = .returned (.bool (p x)) ∧ Below w.heap.size w w') (ao : Option Addr) (cap : Nat) (t : List LineM) (w : World) (hh : LinesAt w ao t) (hm : t.length ≤ 9223372036854775807) :
    Calls Tryd.prog 90 #[.slice ao t.length cap, .func (.func F) #[] #[]] w fun e w' => e = .returned (.int .i64 (firstL p t 0)) ∧ Below w.heap.size w w' := by
  have HH := Lib.hid hh
  obtain ⟨r, hr⟩ : ∃ r, firstL p t 0 = r := ⟨_, rfl⟩
  rw [hr]
  have HR0 := Lib.hid hr
  have HP := Lib.hid hp
  clear hh hr hp
  go_enter Tryd.func90, Tryd.ntmps90
  go_wp2_with fail
  go_loopw [8] (fun i wr => ∃ k : Nat, k ≤ t.length ∧ i = .int .i64 (k : Int) ∧ Hid (firstL p (t.drop k) k = r) ∧ Hid (Below w.heap.size w wr)) (fun i _ => t.length - (intOf i).toNat)
  case atStart => exact ⟨0, Nat.zero_le _, rfl, HR0, Below.refl _ _⟩
  case round =>
    clear HR0
    obtain ⟨k, hk, rfl, HR, HBW⟩ := hrel
    by_cases hlt : k < t.length
    · obtain ⟨x, hx⟩ := getElem?_ex hlt
      obtain ⟨b, off, rfl, hb, hcc⟩ := HH.out.resolve_left (fun e => by rw [e] at hlt; simp at hlt)
      obtain ⟨y0, y1, y2⟩ := hcc k x hx
      have x0 := (HBW.out.cell (p := ⟨b, _, none⟩) hb).trans y0
      have x1 := (HBW.out.cell (p := ⟨b, _, none⟩) hb).trans y1
      have x2 := (HBW.out.cell (p := ⟨b, _, none⟩) hb).trans y2
      have hdr := firstL_drop (p := p) hx
      rw [HR.out] at hdr
      have hcall := HP.out x wr
      have hi1 : (k : Int) < (t.length : Int) := by omega
      have hi0 : (0 : Int) ≤ (k : Int) := by omega
      cases hmb : p x with
      | true =>
        have HZ : Hid ((k : Int) = r) := by rw [if_pos hmb] at hdr; exact hdr.symm
        rw [hmb] at hcall
        clear hcc y0 y1 y2 hx hdr HR hmb
        go_wp2_with fail
        refine hcall.mono ?_
        rintro e w1 ⟨rfl, hb1⟩
        have HB1 := Lib.hid (HBW.out.trans (hb1.mono HBW.out.size))
        clear hcall hb1
        go_wp2_with fail
        go_ret
        exact ⟨ret_int HZ.out, HB1.out⟩
      | false =>
        have HZ : Hid (firstL p (t.drop (k + 1)) (k + 1) = r) := by rw [if_neg (by rw [hmb]; simp)] at hdr; exact hdr.symm
        rw [hmb] at hcall
        clear hcc y0 y1 y2 hx hdr HR hmb
        go_wp2_with fail
        refine hcall.mono ?_
        rintro e w1 ⟨rfl, hb1⟩
        have HB1 := Lib.hid (HBW.out.trans (hb1.mono HBW.out.size))
        clear hcall hb1
        go_wp2_with fail
        go_roundw
        case rel => exact ⟨k + 1, by omega, by go_num, HZ, HB1⟩
        case measure => simp [intOf]; omega
    · obtain rfl : k = t.length := by omega
      have hz := HR.out
      rw [List.drop_of_length_le (Nat.le_refl _)] at hz
      have HZ : Hid ((-1 : Int) = r) := hz
      clear hz HR
      go_wp2_with fail
      go_ret
      exact ⟨ret_int HZ.out, HBW.out⟩
theorem enter_small1 : ∀ args w, (callFunc 87 args).run Tryd.prog w = .ok (.enter 87 args) w := enters_of Tryd.func87 (by kernel_rfl) rfl
theorem contains_small (ao : Option Addr) (cap : Nat) (t : List LineM) (w : World) (hh : LinesAt w ao t) (hm : t.length ≤ 9223372036854775807) :
    Calls Tryd.prog 86 #[.slice ao t.length cap, .func (.func 87) #[] #[]] w fun e w' => e = .returned (.bool (badL t)) ∧ Below w.heap.size w w' := by
  have hb : Hid (decide (0 ≤ firstL (fun x => !mayA x.amt) t 0) = badL t) := by
    show _ = _
    rw [Bool.eq_iff_iff, decide_eq_true_iff, firstL_nonneg]; rfl
  have hi := index_any 87 (fun x => !mayA x.amt) enter_small1 (fun x w => small1_any x w) ao cap t w hh hm
  clear hh
  generalize badL t = R at hb ⊢
  generalize firstL (fun x => !mayA x.amt) t 0 = x at hb hi
  go_enter Tryd.func86, Tryd.ntmps86
  go_wp2_with fail
  refine hi.mono ?_
  rintro e w' ⟨rfl, hbel⟩
  clear hi
  go_wp2_with fail
  go_ret
  exact ⟨ret_bool hb.out, hbel⟩
theorem small_any (lo : Option Addr) (lc : Nat) (l : List LineM) (w : World) (hl : LinesAt w lo l) (hm : l.length ≤ 9223372036854775807) :
    Calls Tryd.prog 69 #[.slice lo l.length lc] w fun e w' => e = .returned (errV (fewC l)) ∧ Below w.heap.size w w' := by
  by_cases hlen : 20 < l.length
  · have hd : decide ((20 : Int) < (l.length : Int)) = true := decide_eq_true (by omega)
    have hc : Hid (fewC l = 4) := by show _ = _; unfold fewC; rw [if_pos hlen]
    go_enter Tryd.func69, Tryd.ntmps69
    go_wp2
    go_ret
    exact ⟨by rw [hc.out]; rfl, Below.refl _ _⟩
  · have hd : decide ((20 : Int) < (l.length : Int)) = false := decide_eq_false (by omega)
    have hcall := contains_small lo lc l w hl hm
    cases hb : badL l with
    | true =>
      have hc : Hid (fewC l = 1) := by show _ = _; unfold fewC; rw [if_neg hlen, if_pos hb]
      rw [hb] at hcall
      clear hb hl
      go_enter Tryd.func69, Tryd.ntmps69
      go_wp2_with fail
      refine hcall.mono ?_
      rintro e w1 ⟨rfl, hb1⟩
      clear hcall
      go_wp2_with fail
      go_ret
      exact ⟨by rw [hc.out]; rfl, hb1⟩
    | false =>
      have hc : Hid (fewC l = 0) := by show _ = _; unfold fewC; rw [if_neg hlen, if_neg (by rw [hb]; simp)]
      rw [hb] at hcall
      clear hb hl
      go_enter Tryd.func69, Tryd.ntmps69
      go_wp2_with fail
      refine hcall.mono ?_
      rintro e w1 ⟨rfl, hb1⟩
      clear hcall
      go_wp2_with fail
      go_ret
      exact ⟨by rw [hc.out]; rfl, hb1⟩
end Go.Proofs.YtbhndnjlplibmaaDoor.lg
