/- Rates in memory; rate.part, Period, gcd, direct, of; the set of rates that were seen. -/
import Derived.Test.YtbhndnjlplibmaaDoorCur
import Derived.Test.YtbhndnjlplibmaaDoorCmB
import Derived.DeepKeys4
import Derived.WideKeyEntry
import Derived.Maps.Range
import Derived.BigQuiet
import Derived.Deep.QuietTactic
import Derived.Laws.Rows
namespace Go.Proofs.YtbhndnjlplibmaaDoor.rt
open Go.RowKit Go.MapKept Go.Proofs.YtbhndnjlplibmaaDoor.lg
open Go.WideMaps (KeyLaw)
open Go.ChangeMaps (setBlock)

structure RateM where
  fr : ByteArray
  to : ByteArray
  per : Int
  num : Int
  den : Int
instance : Inhabited RateM := ⟨⟨⟨#[]⟩, ⟨#[]⟩, 0, 0, 0⟩⟩
def RatesAt (w : World) (b : Nat) (t : List RateM) : Prop := b < w.heap.size ∧ ∀ (i : Nat) (x : RateM), t[i]? = some x →
    w.cell? ⟨b, i * 5, none⟩ = some (.string x.fr) ∧ w.cell? ⟨b, i * 5 + 1, none⟩ = some (.string x.to) ∧ w.cell? ⟨b, i * 5 + 2, none⟩ = some (.int .i64 x.per) ∧ w.cell? ⟨b, i * 5 + 3, none⟩ = some (.int .i64 x.num) ∧ w.cell? ⟨b, i * 5 + 4, none⟩ = some (.int .i64 x.den)
theorem RatesAt.below {w w' : World} {b : Nat} {t : List RateM} (h : RatesAt w b t) (hb : Below w.heap.size w w') : RatesAt w' b t := by
  obtain ⟨hlt, hc⟩ := h
  refine ⟨Nat.lt_of_lt_of_le hlt hb.size, fun i y hy => ?_⟩
  obtain ⟨h1, h2, h3, h4, h5⟩ := hc i y hy
  exact ⟨(hb.cell (p := ⟨b, i * 5, none⟩) hlt).trans h1, (hb.cell (p := ⟨b, i * 5 + 1, none⟩) hlt).trans h2, (hb.cell (p := ⟨b, i * 5 + 2, none⟩) hlt).trans h3, (hb.cell (p := ⟨b, i * 5 + 3, none⟩) hlt).trans h4, (hb.cell (p := ⟨b, i * 5 + 4, none⟩) hlt).trans h5⟩
theorem el_ex {α : Type} {l : List α} {k : Nat} (h : k < l.length) : ∃ x, l[k]? = some x := ⟨l[k], by simp [h]⟩

theorem part_in (n : Int) (w : World) (h1 : 1 ≤ n) (h2 : n ≤ 1000000000) : Calls Tryd.prog 83 #[.int .i64 n] w fun e w' => e = .returned (.bool true) ∧ w = w' := by
  go_enter Tryd.func83, Tryd.ntmps83
  go_wp2
  go_ret
  exact ⟨rfl, rfl⟩
theorem period_in (n : Int) (w : World) (h1 : 1 ≤ n) (h2 : n ≤ 120) : Calls Tryd.prog 51 #[.int .i64 n] w fun e w' => e = .returned (.bool true) ∧ w = w' := by
  go_enter Tryd.func51, Tryd.ntmps51
  go_wp2
  go_ret
  exact ⟨rfl, rfl⟩
/-- the greatest that divides both -/
theorem gcd_any (a b : Nat) (w : World) (ha : a ≤ 1000000000000000000) (hb : b ≤ 1000000000000000000) : Calls Tryd.prog 66 #[.int .i64 (a : Int), .int .i64 (b : Int)] w fun e w' => e = .returned (.int .i64 (Nat.gcd a b : Nat)) ∧ Below w.heap.size w w' := by
  obtain ⟨g, hg⟩ : ∃ g, Nat.gcd a b = g := ⟨_, rfl⟩
  rw [hg]
  have HG := Lib.hid hg
  clear hg
  go_enter Tryd.func66, Tryd.ntmps66
  go_wp2_with fail
  go_loopw [0, 1] (fun x y wr => ∃ c d : Nat, c ≤ 1000000000000000000 ∧ d ≤ 1000000000000000000 ∧ x = .int .i64 (c : Int) ∧ y = .int .i64 (d : Int) ∧ Hid (Nat.gcd c d = g) ∧ Hid (Below w.heap.size w wr)) (fun _ y _ => (intOf y).toNat)
  case atStart => exact ⟨a, b, ha, hb, rfl, rfl, HG, Below.refl _ _⟩
  case round =>
    clear HG ha hb
    obtain ⟨c, d, hc, hd, rfl, rfl, HG, HB⟩ := hrel
    rcases Nat.eq_zero_or_pos d with h0 | h0
    · subst h0
      have hz : Hid (((c : Nat) : Int) = (g : Int)) := by show _ = _; have := HG.out; rw [Nat.gcd_zero_right] at this; omega
      clear HG hd
      go_wp2_with fail
      go_ret
      exact ⟨ret_int hz.out, HB.out⟩
    · have hm : c % d < d := Nat.mod_lt _ h0
      have hz : Hid (Nat.gcd d (c % d) = g) := by show _ = _; have := HG.out; rw [← this, Nat.gcd_comm c d, Nat.gcd_rec d c, Nat.gcd_comm]
      have hd0 : ((d : Int) == 0) = false := by simp; omega
      have hd1 : (0 : Int) < (d : Int) := by omega
      have hdn : decide ((0 : Int) < (d : Int)) = true := decide_eq_true hd1
      have hc0 : (0 : Int) ≤ (c : Int) := by omega
      have e2 : ((c : Int)).tmod (d : Int) = ((c % d : Nat) : Int) := by rw [Int.tmod_eq_emod_of_nonneg hc0]; omega
      clear HG
      go_wp2_with fail
      go_quiet (fail)
      have HB2 : Hid (Below w.heap.size w (wr.drewN nq)) := ⟨HB.out.os, HB.out.tape, HB.out.output, HB.out.size, HB.out.block⟩
      go_wp2_with fail
      go_roundw
      case rel => exact ⟨d, c % d, hd, by omega, rfl, by first | rfl | go_num, hz, HB2⟩
      case measure => simp [intOf]; omega

/-- the rate of just both -/
def dirM (fr to : ByteArray) (per : Int) : List RateM → Option (Int × Int)
  | [] => none
  | r :: t => if r.per ≠ per then dirM fr to per t else if sameS r.fr fr = true ∧ sameS r.to to = true then some (r.num, r.den) else if sameS r.fr to = true ∧ sameS r.to fr = true then some (r.den, r.num) else dirM fr to per t
def dirV : Option (Int × Int) → Value
  | none => .tuple #[.int .i64 0, .int .i64 0, .bool false]
  | some (n, d) => .tuple #[.int .i64 n, .int .i64 d, .bool true]
theorem dir_drop {fr to : ByteArray} {per : Int} {l : List RateM} {k : Nat} {x : RateM} (h : l[k]? = some x) : dirM fr to per (l.drop k) = if x.per ≠ per then dirM fr to per (l.drop (k + 1)) else if sameS x.fr fr = true ∧ sameS x.to to = true then some (x.num, x.den) else if sameS x.fr to = true ∧ sameS x.to fr = true then some (x.den, x.num) else dirM fr to per (l.drop (k + 1)) := by
  obtain ⟨hk, rfl⟩ := List.getElem?_eq_some_iff.1 h
  rw [List.drop_eq_getElem_cons hk, dirM]
set_option maxRecDepth 100000 in
set_option maxHeartbeats 4000000 in
theorem direct_any (b cap : Nat) (l : List RateM) (fr to : ByteArray) (per : Int) (w : World) (hl : RatesAt w b l) (hne : sameS fr to = false) (hn : l.length ≤ 100) :
    Calls Tryd.prog 65 #[.slice (some ⟨b, 0, none⟩) l.length cap, .string fr, .string to, .int .i64 per] w fun e w' => e = .returned (dirV (dirM fr to per l)) ∧ Below w.heap.size w w' := by
  have HL := Lib.hid hl
  obtain ⟨R, hR⟩ : ∃ R, dirM fr to per l = R := ⟨_, rfl⟩
  rw [hR]
  have HR0 := Lib.hid hR
  have hne2 : (fr.toList == to.toList) = false := hne
  clear hl hR hne
  go_enter Tryd.func65, Tryd.ntmps65
  go_wp2_with fail
  clear hne2
  go_loopw [18] (fun i wr => ∃ k : Nat, k ≤ l.length ∧ i = .int .i64 (k : Int) ∧ Hid (dirM fr to per (l.drop k) = R) ∧ Hid (Below w.heap.size w wr)) (fun i _ => l.length - (intOf i).toNat)
  case atStart => exact ⟨0, Nat.zero_le _, rfl, HR0, Below.refl _ _⟩
  case round =>
    clear HR0
    obtain ⟨k, hk, rfl, HR, HBW⟩ := hrel
    have hi0 : (0 : Int) ≤ (k : Int) := by omega
    by_cases hlt : k < l.length
    · obtain ⟨x, hx⟩ := el_ex hlt
      obtain ⟨hb, hcc⟩ := HL.out
      obtain ⟨y0, y1, y2, y3, y4⟩ := hcc k x hx
      have x0 := (HBW.out.cell (p := ⟨b, _, none⟩) hb).trans y0
      have x1 := (HBW.out.cell (p := ⟨b, _, none⟩) hb).trans y1
      have x2 := (HBW.out.cell (p := ⟨b, _, none⟩) hb).trans y2
      have x3 := (HBW.out.cell (p := ⟨b, _, none⟩) hb).trans y3
      have x4 := (HBW.out.cell (p := ⟨b, _, none⟩) hb).trans y4
      have hdr := dir_drop (fr := fr) (to := to) (per := per) hx
      rw [HR.out] at hdr
      have hi1 : (k : Int) < (l.length : Int) := by omega
      have HB1 : Hid (Below w.heap.size w (wr.alloc (.cells #[.string x.fr, .string x.to, .int .i64 x.per, .int .i64 x.num, .int .i64 x.den] 67))) := HBW.out.alloc HBW.out.size _
      obtain ⟨s1, hs1⟩ : ∃ s, sameS x.fr fr = s := ⟨_, rfl⟩
      obtain ⟨s2, hs2⟩ : ∃ s, sameS x.to to = s := ⟨_, rfl⟩
      obtain ⟨s3, hs3⟩ : ∃ s, sameS x.fr to = s := ⟨_, rfl⟩
      obtain ⟨s4, hs4⟩ : ∃ s, sameS x.to fr = s := ⟨_, rfl⟩
      rw [hs1, hs2, hs3, hs4] at hdr
      have t1 : (x.fr.toList == fr.toList) = s1 := hs1
      have t2 : (x.to.toList == to.toList) = s2 := hs2
      have t3 : (x.fr.toList == to.toList) = s3 := hs3
      have t4 : (x.to.toList == fr.toList) = s4 := hs4
      have HDR := Lib.hid hdr
      clear hcc y0 y1 y2 y3 y4 hx hdr HR hs1 hs2 hs3 hs4
      by_cases hp : x.per = per
      · have hpb : (x.per != per) = false := by simp [hp]
        have HD2 : Hid (R = if s1 = true ∧ s2 = true then some (x.num, x.den) else if s3 = true ∧ s4 = true then some (x.den, x.num) else dirM fr to per (l.drop (k + 1))) := by
          show _ = _; rw [HDR.out, if_neg (by simp [hp])]
        clear HDR hp
        by_cases h12 : s1 = true ∧ s2 = true
        · obtain ⟨rfl, rfl⟩ := h12
          have HZ : Hid (R = some (x.num, x.den)) := by show _ = _; rw [HD2.out, if_pos ⟨rfl, rfl⟩]
          clear HD2 t3 t4
          go_wp2_with fail
          go_quiet (fail)
          go_wp2_with fail
          go_ret3
          exact ⟨by rw [HZ.out]; rfl, ⟨HB1.out.os, HB1.out.tape, HB1.out.output, HB1.out.size, HB1.out.block⟩⟩
        · by_cases h34 : s3 = true ∧ s4 = true
          · obtain ⟨rfl, rfl⟩ := h34
            have HZ : Hid (R = some (x.den, x.num)) := by show _ = _; rw [HD2.out, if_neg h12, if_pos ⟨rfl, rfl⟩]
            clear HD2
            cases s1 <;> cases s2
            all_goals (try (exact absurd ⟨rfl, rfl⟩ h12))
            all_goals
              clear h12
              go_wp2_with fail
              go_quiet (fail)
              go_wp2_with fail
              go_ret3
              exact ⟨by rw [HZ.out]; rfl, ⟨HB1.out.os, HB1.out.tape, HB1.out.output, HB1.out.size, HB1.out.block⟩⟩
          · have HZ : Hid (dirM fr to per (l.drop (k + 1)) = R) := by show _ = _; rw [HD2.out, if_neg h12, if_neg h34]
            clear HD2
            cases s1 <;> cases s2 <;> cases s3 <;> cases s4
            all_goals (try (exact absurd ⟨rfl, rfl⟩ h12))
            all_goals (try (exact absurd ⟨rfl, rfl⟩ h34))
            all_goals
              clear h12 h34
              go_wp2_with fail
              go_roundw
              case rel => exact ⟨k + 1, by omega, by go_num, HZ, HB1⟩
              case measure => simp [intOf]; omega
      · have hpb : (x.per != per) = true := by simp [hp]
        have HZ : Hid (dirM fr to per (l.drop (k + 1)) = R) := by show _ = _; rw [HDR.out, if_pos hp]
        clear HDR hp t1 t2 t3 t4
        go_wp2_with fail
        go_roundw
        case rel => exact ⟨k + 1, by omega, by go_num, HZ, HB1⟩
        case measure => simp [intOf]; omega
    · obtain rfl : k = l.length := by omega
      have HZ : Hid (R = none) := by show _ = _; rw [← HR.out, List.drop_of_length_le (Nat.le_refl _)]; rfl
      clear HR
      go_wp2_with fail
      go_ret3
      exact ⟨by rw [HZ.out]; rfl, HBW.out⟩
end Go.Proofs.YtbhndnjlplibmaaDoor.rt
