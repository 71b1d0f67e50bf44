/- slices.Index and slices.Contains at []int: what they answer, at any slice of integers that lies in memory; the world stays as it is. -/
import Derived.Test.YtldpflijgbcbhaaBase
namespace Go.Proofs.Ytldpflijgbcbhaa
open Go.RowKit

/-- The integers zs lie at the slice's address. -/
def IntsAt (w : World) (ao : Option Addr) (zs : List Int) : Prop :=
  zs = [] ∨ ∃ b off, ao = some ⟨b, off, none⟩ ∧ ∀ i, i < zs.length → w.cell? ⟨b, off + i, none⟩ = some (.int .i64 (zs.getD i 0))

/-- the first place of t from k on; -1: none -/
def idxFrom (t : Int) : List Int → Nat → Int
  | [], _ => -1
  | z :: r, k => if t = z then (k : Int) else idxFrom t r (k + 1)

/-- is t in the list? (kept from the walk's simp) -/
def memB (zs : List Int) (t : Int) : Bool := zs.contains t

theorem idxFrom_neg (t : Int) : ∀ (zs : List Int) (k : Nat), 0 ≤ idxFrom t zs k ↔ t ∈ zs
  | [], k => by simp [idxFrom]
  | z :: r, k => by
    unfold idxFrom
    split
    · simp_all
    · rw [idxFrom_neg t r (k + 1)]; simp_all

theorem idxFrom_drop (t : Int) (zs : List Int) (k : Nat) (h : k < zs.length) : idxFrom t (zs.drop k) k = if t = zs.getD k 0 then (k : Int) else idxFrom t (zs.drop (k + 1)) (k + 1) := by
  rw [List.drop_eq_getElem_cons h, idxFrom]
  simp [List.getD, h]

set_option maxHeartbeats 1000000 in
theorem index_ints (ao : Option Addr) (cap : Nat) (zs : List Int) (t : Int) (w : World) (hz : IntsAt w ao zs) (hm : zs.length ≤ 9223372036854775807) :
    Calls Try.prog 75 #[.slice ao zs.length cap, .int .i64 t] w fun e w' => e = .returned (.int .i64 (idxFrom t zs 0)) ∧ w = w' := by
  rcases hz with rfl | ⟨b, off, rfl, hc⟩
  · go_enter Try.func75, Try.ntmps75
    go_wp2
    refine wp_loop_rounds 1 ?_
    rw [rounds_succ]
    go_wp2
    go_ret
    exact ⟨rfl, rfl⟩
  · have HC := Lib.hid hc
    clear hc
    go_enter Try.func75, Try.ntmps75
    go_wp2
    go_loop [8] (fun i => ∃ k : Nat, k ≤ zs.length ∧ i = .int .i64 k ∧ Hid (idxFrom t zs 0 = idxFrom t (zs.drop k) k)) (fun i => zs.length - (intOf i).toNat)
    case atStart => exact ⟨0, Nat.zero_le _, rfl, rfl⟩
    case round =>
      obtain ⟨k, hk, rfl, hi⟩ := hrel
      by_cases hlt : k < zs.length
      · have hcell := HC.out k hlt
        have hd0 := idxFrom_drop t zs k hlt
        generalize zs.getD k 0 = z at hcell hd0
        have hd := Lib.hid hd0
        clear hd0
        by_cases ht : t = z
        · have hd2 : Hid (idxFrom t zs 0 = (k : Int)) := by
            have a := hi.out; have b := hd.out; rw [if_pos ht] at b; exact a.trans b
          have htb : (t == z) = true := beq_iff_eq.2 ht
          clear ht hi hd
          go_wp2
          go_ret
          exact ⟨ret_int hd2.out.symm, rfl⟩
        · have hd2 : Hid (idxFrom t zs 0 = idxFrom t (zs.drop (k + 1)) (k + 1)) := by
            have a := hi.out; have b := hd.out; rw [if_neg ht] at b; exact a.trans b
          have htb : (t == z) = false := beq_eq_false_iff_ne.2 ht
          clear ht hi hd
          go_wp2
          go_round
          case rel => exact ⟨k + 1, by omega, by go_num, hd2⟩
          case measure => simp [intOf]; omega
      · have hke : zs.drop k = [] := List.drop_eq_nil_of_le (by omega)
        have hd2 : Hid (idxFrom t zs 0 = -1) := by have a := hi.out; rw [hke] at a; exact a
        clear hi hke
        go_wp2
        go_ret
        exact ⟨ret_int hd2.out.symm, rfl⟩

set_option maxHeartbeats 1000000 in
theorem contains_ints (ao : Option Addr) (cap : Nat) (zs : List Int) (t : Int) (w : World) (hz : IntsAt w ao zs) (hm : zs.length ≤ 9223372036854775807) :
    Calls Try.prog 58 #[.slice ao zs.length cap, .int .i64 t] w fun e w' => e = .returned (.bool (memB zs t)) ∧ w = w' := by
  have hb : Hid ((decide (0 ≤ idxFrom t zs 0)) = memB zs t) := by
    show _ = _
    unfold memB
    rw [Bool.eq_iff_iff, decide_eq_true_iff, idxFrom_neg]; simp
  go_enter Try.func58, Try.ntmps58
  go_wp2_with fail
  refine (index_ints ao cap zs t _ hz hm).mono ?_
  rintro e w' ⟨rfl, rfl⟩
  generalize idxFrom t zs 0 = x at hb
  go_wp2
  go_ret
  exact ⟨ret_bool hb.out, rfl⟩
end Go.Proofs.Ytldpflijgbcbhaa
