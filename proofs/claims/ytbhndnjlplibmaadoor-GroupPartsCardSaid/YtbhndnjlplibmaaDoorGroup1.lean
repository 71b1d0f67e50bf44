/- Holdings in memory, and the closures of package group that look for one: what they answer. -/
import Derived.Test.YtbhndnjlplibmaaDoorInts
namespace Go.Proofs.YtbhndnjlplibmaaDoor
open Go.RowKit

structure Hold where
  e : Int
  o : Int
  p : Int

/-- The holdings hs lie at the slice's address, in a block below B. -/
def HoldsAt (B : Nat) (w : World) (ao : Option Addr) (hs : List Hold) : Prop :=
  hs = [] ∨ ∃ b off, ao = some ⟨b, off, none⟩ ∧ b < B ∧ ∀ i h, hs[i]? = some h →
    w.cell? ⟨b, off + i * 3, none⟩ = some (.int .i64 h.e) ∧ w.cell? ⟨b, off + i * 3 + 1, none⟩ = some (.int .i64 h.o) ∧ w.cell? ⟨b, off + i * 3 + 2, none⟩ = some (.int .i64 h.p)

theorem HoldsAt.below {B : Nat} {w w' : World} {ao : Option Addr} {hs : List Hold} (h : HoldsAt B w ao hs) (hb : Below B w w') : HoldsAt B w' ao hs := by
  rcases h with h | ⟨b, off, e, hB, hc⟩
  · exact Or.inl h
  · refine Or.inr ⟨b, off, e, hB, fun i x hx => ?_⟩
    obtain ⟨h1, h2, h3⟩ := hc i x hx
    exact ⟨(hb.cell (p := ⟨b, _, none⟩) hB).trans h1, (hb.cell (p := ⟨b, _, none⟩) hB).trans h2, (hb.cell (p := ⟨b, _, none⟩) hB).trans h3⟩

theorem HoldsAt.take {B : Nat} {w : World} {ao : Option Addr} {hs : List Hold} (h : HoldsAt B w ao hs) (k : Nat) : HoldsAt B w ao (hs.take k) := by
  rcases h with h | ⟨b, off, e, hB, hc⟩
  · exact Or.inl (by simp [h])
  · refine Or.inr ⟨b, off, e, hB, fun i x hx => hc i x ?_⟩
    rw [List.getElem?_take] at hx
    split at hx
    · exact hx
    · cases hx

/-- a Hold lies at an address -/
def HoldAt (w : World) (a : Addr) (h : Hold) : Prop :=
  a.spot = none ∧ w.cell? ⟨a.block, a.off, none⟩ = some (.int .i64 h.e) ∧ w.cell? ⟨a.block, a.off + 1, none⟩ = some (.int .i64 h.o) ∧ w.cell? ⟨a.block, a.off + 2, none⟩ = some (.int .i64 h.p)

set_option maxHeartbeats 1000000 in
/-- group.Check$1: is it of the same entity, and of the same one? -/
theorem check1_any (x h : Hold) (b : Nat) (w : World) (h0 : w.cell? ⟨b, 0, none⟩ = some (.int .i64 h.e)) (h1 : w.cell? ⟨b, 1, none⟩ = some (.int .i64 h.o)) :
    Calls Tryd.prog 46 #[.agg #[.int .i64 x.e, .int .i64 x.o, .int .i64 x.p], .pointer (some ⟨b, 0, none⟩)] w fun e w' => e = .returned (.bool (x.e == h.e && x.o == h.o)) ∧ Below w.heap.size w w' := by
  have hb : b < w.heap.size := by
    rcases Nat.lt_or_ge b w.heap.size with h | h
    · exact h
    · simp [World.cell?, Array.getElem?_eq_none h] at h0
  obtain ⟨he, ho, hp⟩ := h
  obtain ⟨xe, xo, xp⟩ := x
  dsimp only at *
  by_cases e1 : xe = he
  · have e1' : (xe == he) = true := beq_iff_eq.2 e1
    have H := Lib.hid e1'
    clear e1
    go_enter Tryd.func46, Tryd.ntmps46
    go_wp2
    go_ret
    exact ⟨ret_bool (by rw [H.out]; rfl), (Below.refl _ _).alloc (Nat.le_refl _) _⟩
  · have e1' : (xe == he) = false := beq_eq_false_iff_ne.2 e1
    have H := Lib.hid e1'
    clear e1
    go_enter Tryd.func46, Tryd.ntmps46
    go_wp2
    go_ret
    exact ⟨ret_bool (by rw [H.out]; rfl), (Below.refl _ _).alloc (Nat.le_refl _) _⟩

/-- the first place from k on that p says yes at; -1: none -/
def firstFrom {α : Type} (p : α → Bool) : List α → Nat → Int
  | [], _ => -1
  | z :: r, k => if p z = true then (k : Int) else firstFrom p r (k + 1)

theorem firstFrom_nonneg {α : Type} (p : α → Bool) : ∀ (zs : List α) (k : Nat), 0 ≤ firstFrom p zs k ↔ zs.any p = true
  | [], k => by simp [firstFrom]
  | z :: r, k => by
    unfold firstFrom
    split
    · rename_i h; simp [h]
    · rename_i h; rw [firstFrom_nonneg p r (k + 1)]; simp [h]

theorem firstFrom_drop {α : Type} (p : α → Bool) (zs : List α) (k : Nat) (z : α) (h : zs[k]? = some z) : firstFrom p (zs.drop k) k = if p z = true then (k : Int) else firstFrom p (zs.drop (k + 1)) (k + 1) := by
  obtain ⟨hk, rfl⟩ := List.getElem?_eq_some_iff.1 h
  rw [List.drop_eq_getElem_cons hk, firstFrom]

theorem getElem?_ex {α : Type} {l : List α} {k : Nat} (h : k < l.length) : ∃ x, l[k]? = some x := ⟨l[k], by simp [h]⟩

/-- what a closure over holdings answers, in any later world -/
def Answers (fid : FuncId) (mk : Value → Array Value) (B : Nat) (w : World) (p : Hold → Bool) : Prop :=
  ∀ (x : Hold) (wr : World), Below B w wr → Calls Tryd.prog fid (mk (.agg #[.int .i64 x.e, .int .i64 x.o, .int .i64 x.p])) wr fun e w' => e = .returned (.bool (p x)) ∧ Below wr.heap.size wr w'

set_option maxHeartbeats 1000000 in
theorem indexf_check (p : Hold → Bool) (b0 : Nat) (ao : Option Addr) (cap : Nat) (hs : List Hold) (w : World) (hh : HoldsAt w.heap.size w ao hs) (hm : hs.length ≤ 9223372036854775807)
    (hf : Answers 46 (fun v => #[v, .pointer (some ⟨b0, 0, none⟩)]) w.heap.size w p) :
    Calls Tryd.prog 75 #[.slice ao hs.length cap, .func (.func 46) #[] #[.pointer (some ⟨b0, 0, none⟩)]] w fun e w' => e = .returned (.int .i64 (firstFrom p hs 0)) ∧ Below w.heap.size w w' := by
  rcases hh with rfl | ⟨b, off, rfl, hB, hc⟩
  · go_enter Tryd.func75, Tryd.ntmps75
    go_wp2
    refine wp_loop_rounds 1 ?_
    rw [rounds_succ]
    go_wp2
    go_ret
    exact ⟨rfl, Below.refl _ _⟩
  · have HC := Lib.hid hc
    clear hc
    go_enter Tryd.func75, Tryd.ntmps75
    go_wp2
    go_loopw [8] (fun i wr => ∃ k : Nat, k ≤ hs.length ∧ i = .int .i64 k ∧ Hid (firstFrom p hs 0 = firstFrom p (hs.drop k) k) ∧ Below w.heap.size w wr) (fun i _ => hs.length - (intOf i).toNat)
    case atStart => exact ⟨0, Nat.zero_le _, rfl, rfl, Below.refl _ _⟩
    case round =>
      obtain ⟨k, hk, rfl, hi, hbel⟩ := hrel
      by_cases hlt : k < hs.length
      · obtain ⟨x, hx⟩ := getElem?_ex hlt
        obtain ⟨c0, c1, c2⟩ := HC.out k x hx
        have c0 := (hbel.cell (p := ⟨b, _, none⟩) hB).trans c0
        have c1 := (hbel.cell (p := ⟨b, _, none⟩) hB).trans c1
        have c2 := (hbel.cell (p := ⟨b, _, none⟩) hB).trans c2
        have hd := Lib.hid (firstFrom_drop p hs k x hx)
        have hcall := hf x wr hbel
        have HF := Lib.hid hf
        clear hx hf
        by_cases hp : p x = true
        · have hd2 : Hid (firstFrom p hs 0 = (k : Int)) := by
            have a := hi.out; have b := hd.out; rw [if_pos hp] at b; exact a.trans b
          rw [hp] at hcall
          clear hi hd hp
          go_wp2_with fail
          refine hcall.mono ?_
          rintro e w1 ⟨rfl, hb1⟩
          go_wp2_with fail
          go_ret
          exact ⟨ret_int hd2.out.symm, hbel.trans (hb1.mono hbel.size)⟩
        · have hd2 : Hid (firstFrom p hs 0 = firstFrom p (hs.drop (k + 1)) (k + 1)) := by
            have a := hi.out; have b := hd.out; rw [if_neg hp] at b; exact a.trans b
          have hp' : p x = false := by simpa using hp
          rw [hp'] at hcall
          clear hi hd hp hp'
          go_wp2_with fail
          refine hcall.mono ?_
          rintro e w1 ⟨rfl, hb1⟩
          go_wp2_with fail
          go_roundw
          case rel => exact ⟨k + 1, by omega, by go_num, hd2, hbel.trans (hb1.mono hbel.size)⟩
          case measure => simp [intOf]; omega
      · have hke : hs.drop k = [] := List.drop_eq_nil_of_le (by omega)
        have hd2 : Hid (firstFrom p hs 0 = -1) := by have a := hi.out; rw [hke] at a; exact a
        have HF := Lib.hid hf
        clear hi hke hf
        go_wp2
        go_ret
        exact ⟨ret_int hd2.out.symm, hbel⟩

set_option maxHeartbeats 1000000 in
theorem containsf_check (p : Hold → Bool) (b0 : Nat) (ao : Option Addr) (cap : Nat) (hs : List Hold) (w : World) (hh : HoldsAt w.heap.size w ao hs) (hm : hs.length ≤ 9223372036854775807)
    (hf : Answers 46 (fun v => #[v, .pointer (some ⟨b0, 0, none⟩)]) w.heap.size w p) :
    Calls Tryd.prog 45 #[.slice ao hs.length cap, .func (.func 46) #[] #[.pointer (some ⟨b0, 0, none⟩)]] w fun e w' => e = .returned (.bool (hs.any p)) ∧ Below w.heap.size w w' := by
  have hb : Hid ((decide (0 ≤ firstFrom p hs 0)) = hs.any p) := by
    show _ = _
    rw [Bool.eq_iff_iff, decide_eq_true_iff, firstFrom_nonneg]
  have hi := indexf_check p b0 ao cap hs w hh hm hf
  clear hh hf
  go_enter Tryd.func45, Tryd.ntmps45
  go_wp2_with fail
  refine hi.mono ?_
  rintro e w' ⟨rfl, hbel⟩
  generalize firstFrom p hs 0 = x at hb
  go_wp2
  go_ret
  exact ⟨ret_bool hb.out, hbel⟩
end Go.Proofs.YtbhndnjlplibmaaDoor
