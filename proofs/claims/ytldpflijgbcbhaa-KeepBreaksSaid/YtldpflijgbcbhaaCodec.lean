/- Numbers, texts, entries and balances as bytes, and bytes read as these: plain functions, and that each undoes the other. -/
import Derived.Test.YtldpflijgbcbhaaBase
namespace Go.Proofs.Ytldpflijgbcbhaa

/-- a number's bytes: seven bits each, the least first -/
def varint (x : Nat) : List UInt8 := if x < 128 then [UInt8.ofNat x] else UInt8.ofNat (x % 128 + 128) :: varint (x / 128)
termination_by x
decreasing_by omega

theorem varint_small {x : Nat} (h : x < 128) : varint x = [UInt8.ofNat x] := by rw [varint, if_pos h]
theorem varint_big {x : Nat} (h : 128 ≤ x) : varint x = UInt8.ofNat (x % 128 + 128) :: varint (x / 128) := by rw [varint, if_neg (by omega)]

def zig (n : Int) : Nat := if 0 ≤ n then (2 * n).toNat else (-2 * n - 1).toNat
def zag (x : Nat) : Int := if x % 2 = 0 then ((x / 2 : Nat) : Int) else -((x / 2 : Nat) : Int) - 1
theorem zag_zig (n : Int) : zag (zig n) = n := by unfold zag zig; split <;> split <;> omega
theorem zig_zag (x : Nat) : zig (zag x) = x := by unfold zag zig; split <;> split <;> omega

/-- a number read: the i-th byte on, acc so far; what is left -/
def rdv (i acc : Nat) : List UInt8 → Option (Nat × List UInt8)
  | [] => none
  | c :: r => if 9 < i ∨ (i = 9 ∧ 1 < c.toNat) ∨ (0 < i ∧ c.toNat = 0) then none else
      if c.toNat < 128 then some (acc + c.toNat * 128 ^ i, r) else rdv (i + 1) (acc + c.toNat % 128 * 128 ^ i) r

theorem ofNat_toNat {n : Nat} (h : n < 256) : (UInt8.ofNat n).toNat = n := by rw [UInt8.toNat_ofNat']; exact Nat.mod_eq_of_lt h
theorem toNat_ofNat (c : UInt8) : UInt8.ofNat c.toNat = c := by simp

theorem nine_of {x i : Nat} (hi : i ≤ 9) (h : x * 128 ^ i < 18446744073709551616) (h9 : i = 9) : x ≤ 1 := by
  subst h9
  simp only [Nat.reducePow] at h
  omega
theorem eight_of {x i : Nat} (hi : i ≤ 9) (h : x * 128 ^ i < 18446744073709551616) (hx : 128 ≤ x) : i ≤ 8 := by
  rcases Nat.lt_or_ge i 9 with h8 | h8
  · omega
  · obtain rfl : i = 9 := by omega
    simp only [Nat.reducePow] at h
    omega
theorem step_lt {x i : Nat} (h : x * 128 ^ i < 18446744073709551616) : x / 128 * 128 ^ (i + 1) < 18446744073709551616 := by
  have e : 128 ^ (i + 1) = 128 * 128 ^ i := by rw [Nat.pow_succ]; omega
  rw [e, ← Nat.mul_assoc]
  exact Nat.lt_of_le_of_lt (Nat.mul_le_mul_right _ (Nat.div_mul_le_self x 128)) h
theorem step_eq (x i acc : Nat) : acc + x % 128 * 128 ^ i + x / 128 * 128 ^ (i + 1) = acc + x * 128 ^ i := by
  have e : 128 ^ (i + 1) = 128 * 128 ^ i := by rw [Nat.pow_succ]; omega
  have h : x = x % 128 + x / 128 * 128 := by omega
  conv => rhs; rw [h]
  rw [e, ← Nat.mul_assoc, Nat.add_mul, Nat.add_assoc]

theorem rdv_fwd : ∀ (n x i acc : Nat) (r : List UInt8), x ≤ n → i ≤ 9 → x * 128 ^ i < 18446744073709551616 → (0 < i → 0 < x) → rdv i acc (varint x ++ r) = some (acc + x * 128 ^ i, r) := by
  intro n
  induction n with
  | zero =>
    intro x i acc r hx hi hlt hp
    obtain rfl : x = 0 := by omega
    have h0 : i = 0 := by rcases Nat.eq_zero_or_pos i with h | h; exact h; have := hp h; omega
    subst h0
    rw [varint_small (by omega)]
    rfl
  | succ n ih =>
    intro x i acc r hx hi hlt hp
    by_cases h : x < 128
    · rw [varint_small h, List.singleton_append, rdv, ofNat_toNat (by omega), if_neg, if_pos h]
      rintro (h1 | ⟨h1, h2⟩ | ⟨h1, h2⟩)
      · omega
      · have := nine_of hi hlt h1; omega
      · have := hp h1; omega
    · rw [varint_big (by omega), List.cons_append, rdv, ofNat_toNat (by omega), if_neg, if_neg (by omega)]
      · rw [show (x % 128 + 128) % 128 = x % 128 by omega, ih (x / 128) (i + 1) _ r (by omega) (by have := eight_of hi hlt (by omega); omega) (step_lt hlt) (by omega), step_eq]
      · have := eight_of hi hlt (by omega)
        rintro (h1 | ⟨h1, h2⟩ | ⟨h1, h2⟩) <;> omega

theorem pow_part {i : Nat} (hi : i ≤ 8) : ∃ K, 128 ^ (i + 1) * K = 18446744073709551616 := by
  match i, hi with
  | 0, _ => exact ⟨2 ^ 57, by decide⟩
  | 1, _ => exact ⟨2 ^ 50, by decide⟩
  | 2, _ => exact ⟨2 ^ 43, by decide⟩
  | 3, _ => exact ⟨2 ^ 36, by decide⟩
  | 4, _ => exact ⟨2 ^ 29, by decide⟩
  | 5, _ => exact ⟨2 ^ 22, by decide⟩
  | 6, _ => exact ⟨2 ^ 15, by decide⟩
  | 7, _ => exact ⟨2 ^ 8, by decide⟩
  | 8, _ => exact ⟨2, by decide⟩
theorem lt_of_step {c x i : Nat} (hi : i ≤ 8) (h : x * 128 ^ (i + 1) < 18446744073709551616) (hc : c < 128) : (c + 128 * x) * 128 ^ i < 18446744073709551616 := by
  obtain ⟨K, hK⟩ := pow_part hi
  have e : 128 ^ (i + 1) = 128 * 128 ^ i := by rw [Nat.pow_succ]; omega
  have hp : 0 < 128 ^ i := Nat.pow_pos (by omega)
  rw [← hK, Nat.mul_comm] at h
  have h1 : x < K := Nat.lt_of_mul_lt_mul_left h
  have h2 : (c + 128 * x) * 128 ^ i < 128 * (x + 1) * 128 ^ i := Nat.mul_lt_mul_of_pos_right (by omega) hp
  have h3 : 128 * (x + 1) * 128 ^ i ≤ 128 ^ (i + 1) * K := by
    rw [e, Nat.mul_right_comm]
    exact Nat.mul_le_mul_left _ (by omega)
  rw [hK] at h3
  exact Nat.lt_of_lt_of_le h2 h3

theorem rdv_bwd : ∀ (l : List UInt8) (i acc y : Nat) (r : List UInt8), rdv i acc l = some (y, r) → ∃ x, y = acc + x * 128 ^ i ∧ l = varint x ++ r ∧ x * 128 ^ i < 18446744073709551616 ∧ (0 < i → 0 < x) ∧ i ≤ 9 := by
  intro l
  induction l with
  | nil => intro i acc y r h; cases h
  | cons c t ih =>
    intro i acc y r h
    rw [rdv] at h
    split at h
    · cases h
    · rename_i hb
      have hc : c.toNat < 256 := c.toNat_lt
      have hi : i ≤ 9 := by rcases Nat.lt_or_ge 9 i with h1 | h1; exact absurd (Or.inl h1) hb; exact h1
      have h9 : i = 9 → c.toNat ≤ 1 := fun e => by rcases Nat.lt_or_ge 1 c.toNat with h1 | h1; exact absurd (Or.inr (Or.inl ⟨e, h1⟩)) hb; exact h1
      have hp : 0 < i → 0 < c.toNat := fun e => by rcases Nat.eq_zero_or_pos c.toNat with h1 | h1; exact absurd (Or.inr (Or.inr ⟨e, h1⟩)) hb; exact h1
      split at h
      · rename_i hs
        injection h with h
        injection h with h1 h2
        subst h1 h2
        refine ⟨c.toNat, rfl, by rw [varint_small hs, toNat_ofNat]; rfl, ?_, hp, hi⟩
        rcases Nat.lt_or_ge i 9 with h8 | h8
        · have : c.toNat * 128 ^ i ≤ 127 * 128 ^ 8 := Nat.mul_le_mul (by omega) (Nat.pow_le_pow_right (by omega) (by omega))
          simp only [Nat.reducePow] at this
          omega
        · obtain rfl : i = 9 := by omega
          have := h9 rfl
          simp only [Nat.reducePow]
          omega
      · rename_i hs
        obtain ⟨x, hy, ht, hlt, hx, hi9⟩ := ih _ _ _ _ h
        have hx0 := hx (by omega)
        have e : 128 ^ (i + 1) = 128 * 128 ^ i := by rw [Nat.pow_succ]; omega
        refine ⟨c.toNat % 128 + 128 * x, ?_, ?_, lt_of_step (by omega) hlt (by omega), by omega, hi⟩
        · rw [hy, e, Nat.add_mul, Nat.add_assoc, ← Nat.mul_assoc, Nat.mul_comm x 128]
        · rw [ht, varint_big (x := c.toNat % 128 + 128 * x) (by omega), show (c.toNat % 128 + 128 * x) % 128 + 128 = c.toNat by omega, show (c.toNat % 128 + 128 * x) / 128 = x by omega, toNat_ofNat]
          rfl

def numB (n : Int) : List UInt8 := varint (zig n)
theorem zig_lt {n : Int} (h : -9223372036854775808 ≤ n) (h2 : n ≤ 9223372036854775807) : zig n < 18446744073709551616 := by unfold zig; split <;> omega
def rdNum (lo hi : Int) (l : List UInt8) : Option (Int × List UInt8) :=
  (rdv 0 0 l).bind fun p => if lo ≤ zag p.1 ∧ zag p.1 ≤ hi then some (zag p.1, p.2) else none
theorem num_fwd {lo hi n : Int} (r : List UInt8) (h : -9223372036854775808 ≤ n) (h2 : n ≤ 9223372036854775807) (h3 : lo ≤ n) (h4 : n ≤ hi) : rdNum lo hi (numB n ++ r) = some (n, r) := by
  have h5 := zig_lt h h2
  rw [rdNum, numB, rdv_fwd (zig n) (zig n) 0 0 r (Nat.le_refl _) (by omega) (by simpa using h5) (by omega)]
  simp only [Option.bind_some, Nat.pow_zero, Nat.mul_one, Nat.zero_add, zag_zig]
  rw [if_pos ⟨h3, h4⟩]
theorem num_bwd {lo hi n : Int} {l r : List UInt8} (h : rdNum lo hi l = some (n, r)) : l = numB n ++ r ∧ lo ≤ n ∧ n ≤ hi := by
  unfold rdNum at h
  cases h1 : rdv 0 0 l with
  | none => rw [h1] at h; cases h
  | some p =>
    obtain ⟨x, r'⟩ := p
    rw [h1] at h
    simp only [Option.bind_some] at h
    split at h
    · rename_i hb
      injection h with h
      injection h with h2 h3
      subst h2 h3
      obtain ⟨y, hy, hl, _, _, _⟩ := rdv_bwd _ _ _ _ _ h1
      simp only [Nat.pow_zero, Nat.mul_one, Nat.zero_add] at hy
      subst hy
      exact ⟨by rw [numB, zig_zag]; exact hl, hb⟩
    · cases h

def textB (s : ByteArray) : List UInt8 := numB s.size ++ s.data.toList
def rdText (l : List UInt8) : Option (ByteArray × List UInt8) :=
  (rdNum 0 24 l).bind fun p => if p.2.length < p.1.toNat then none else some (⟨(p.2.take p.1.toNat).toArray⟩, p.2.drop p.1.toNat)
theorem size_list (s : ByteArray) : s.data.toList.length = s.size := rfl
theorem text_fwd {s : ByteArray} (r : List UInt8) (h : s.size ≤ 24) : rdText (textB s ++ r) = some (s, r) := by
  have hl := size_list s
  rw [rdText, textB, List.append_assoc, num_fwd _ (by omega) (by omega) (by omega) (by omega)]
  simp only [Option.bind_some, Int.toNat_natCast]
  rw [if_neg (by rw [List.length_append]; omega), ← hl, List.take_left, List.drop_left]
theorem text_bwd {s : ByteArray} {l r : List UInt8} (h : rdText l = some (s, r)) : l = textB s ++ r ∧ s.size ≤ 24 := by
  unfold rdText at h
  cases h1 : rdNum 0 24 l with
  | none => rw [h1] at h; cases h
  | some p =>
    obtain ⟨n, t⟩ := p
    rw [h1] at h
    simp only [Option.bind_some] at h
    split at h
    · cases h
    · rename_i hb
      injection h with h
      injection h with h2 h3
      obtain ⟨hl, h4, h5⟩ := num_bwd h1
      have hs : s.size = n.toNat := by
        rw [← size_list, ← h2]
        show (t.take n.toNat).length = _
        rw [List.length_take]; omega
      have hd : s.data.toList = t.take n.toNat := by rw [← h2]
      refine ⟨?_, by omega⟩
      rw [textB, hs, hd, ← h3, List.append_assoc, List.take_append_drop, hl]
      congr 2
      omega

/-- many, one behind the other; each is held against the one ahead of it -/
def many {α : Type} (p : List UInt8 → Option (α × List UInt8)) (chk : Option α → α → Bool) : Nat → Option α → List UInt8 → Option (List α × List UInt8)
  | 0, _, l => some ([], l)
  | k + 1, prev, l => (p l).bind fun a => if chk prev a.1 = true then (many p chk k (some a.1) a.2).bind fun b => some (a.1 :: b.1, b.2) else none
def chain {α : Type} (chk : Option α → α → Bool) : Option α → List α → Prop
  | _, [] => True
  | prev, a :: t => chk prev a = true ∧ chain chk (some a) t
theorem many_fwd {α : Type} {p : List UInt8 → Option (α × List UInt8)} {chk : Option α → α → Bool} {enc : α → List UInt8} {ok : α → Prop} (hp : ∀ a r, ok a → p (enc a ++ r) = some (a, r)) :
    ∀ (t : List α) (prev : Option α) (r : List UInt8), (∀ a ∈ t, ok a) → chain chk prev t → many p chk t.length prev (t.flatMap enc ++ r) = some (t, r)
  | [], _, _, _, _ => rfl
  | a :: t, prev, r, h, hc => by
    rw [List.length_cons, many, List.flatMap_cons, List.append_assoc, hp a _ (h a (by simp))]
    simp only [Option.bind_some]
    rw [if_pos hc.1, many_fwd hp t (some a) r (fun x hx => h x (by simp [hx])) hc.2]
    rfl
theorem many_bwd {α : Type} {p : List UInt8 → Option (α × List UInt8)} {chk : Option α → α → Bool} {enc : α → List UInt8} {ok : α → Prop} (hp : ∀ l a r, p l = some (a, r) → l = enc a ++ r ∧ ok a) :
    ∀ (k : Nat) (prev : Option α) (l : List UInt8) (t : List α) (r : List UInt8), many p chk k prev l = some (t, r) → l = t.flatMap enc ++ r ∧ (∀ a ∈ t, ok a) ∧ chain chk prev t ∧ t.length = k
  | 0, prev, l, t, r, h => by
    simp only [many, Option.some.injEq, Prod.mk.injEq] at h
    obtain ⟨rfl, rfl⟩ := h
    exact ⟨rfl, (fun a h => by cases h), trivial, rfl⟩
  | k + 1, prev, l, t, r, h => by
    rw [many] at h
    cases h1 : p l with
    | none => rw [h1] at h; cases h
    | some a =>
      obtain ⟨a, l1⟩ := a
      rw [h1] at h
      simp only [Option.bind_some] at h
      split at h
      · rename_i hc
        cases h2 : many p chk k (some a) l1 with
        | none => rw [h2] at h; cases h
        | some b =>
          obtain ⟨b, l2⟩ := b
          rw [h2] at h
          simp only [Option.bind_some, Option.some.injEq, Prod.mk.injEq] at h
          obtain ⟨rfl, rfl⟩ := h
          obtain ⟨e1, e2⟩ := hp _ _ _ h1
          obtain ⟨e3, e4, e5, e6⟩ := many_bwd hp k (some a) l1 b l2 h2
          refine ⟨by rw [e1, e3, List.flatMap_cons, List.append_assoc], fun x hx => ?_, ⟨hc, e5⟩, by simp [e6]⟩
          rcases List.mem_cons.1 hx with rfl | hx
          · exact e2
          · exact e4 x hx
      · cases h

structure LineM where
  acc : ByteArray
  cur : ByteArray
  amt : Int
def bigA : Int := 1000000000000000
def LineM.bytes (x : LineM) : List UInt8 := textB x.acc ++ (textB x.cur ++ numB x.amt)
def LineM.ok (x : LineM) : Prop := x.acc.size ≤ 24 ∧ x.cur.size ≤ 24 ∧ -bigA ≤ x.amt ∧ x.amt ≤ bigA
def rdLine (l : List UInt8) : Option (LineM × List UInt8) :=
  (rdText l).bind fun a => (rdText a.2).bind fun b => (rdNum (-bigA) bigA b.2).bind fun c => some (⟨a.1, b.1, c.1⟩, c.2)
theorem line_fwd (x : LineM) (r : List UInt8) (h : x.ok) : rdLine (x.bytes ++ r) = some (x, r) := by
  obtain ⟨h1, h2, h3, h4⟩ := h
  unfold bigA at h3 h4
  simp only [rdLine, LineM.bytes, List.append_assoc, text_fwd _ h1, text_fwd _ h2, num_fwd (lo := -bigA) (hi := bigA) r (by omega) (by omega) (show -bigA ≤ x.amt by unfold bigA; omega) (show x.amt ≤ bigA by unfold bigA; omega), Option.bind_some]
theorem bind_some_inv {α β : Type} {x : Option α} {f : α → Option β} {b : β} (h : x.bind f = some b) : ∃ a, x = some a ∧ f a = some b := by
  cases x with
  | none => cases h
  | some a => exact ⟨a, rfl, h⟩
theorem line_bwd (l : List UInt8) (x : LineM) (r : List UInt8) (h : rdLine l = some (x, r)) : l = x.bytes ++ r ∧ x.ok := by
  unfold rdLine at h
  obtain ⟨⟨a, l1⟩, h1, h⟩ := bind_some_inv h
  obtain ⟨⟨b, l2⟩, h2, h⟩ := bind_some_inv h
  obtain ⟨⟨c, l3⟩, h3, h⟩ := bind_some_inv h
  simp only [Option.some.injEq, Prod.mk.injEq] at h
  obtain ⟨rfl, rfl⟩ := h
  obtain ⟨e1, k1⟩ := text_bwd h1
  obtain ⟨e2, k2⟩ := text_bwd h2
  obtain ⟨e3, k3⟩ := num_bwd h3
  exact ⟨by simp only at e2 e3; rw [e1, e2, e3]; simp [LineM.bytes, List.append_assoc], k1, k2, k3⟩

structure EntryM where
  ref : ByteArray
  ent : Int
  per : Int
  lines : List LineM
def EntryM.bytes (e : EntryM) : List UInt8 := textB e.ref ++ (numB e.ent ++ (numB e.per ++ (numB e.lines.length ++ e.lines.flatMap LineM.bytes)))
def EntryM.ok (e : EntryM) : Prop := e.ref.size ≤ 24 ∧ (0 ≤ e.ent ∧ e.ent ≤ 200) ∧ (0 ≤ e.per ∧ e.per ≤ 200) ∧ e.lines.length ≤ 20 ∧ ∀ x ∈ e.lines, x.ok
def noChk {α : Type} (_ : Option α) (_ : α) : Bool := true
theorem chain_no {α : Type} : ∀ (t : List α) (prev : Option α), chain noChk prev t
  | [], _ => trivial
  | a :: t, _ => ⟨rfl, chain_no t (some a)⟩
def rdEntry (l : List UInt8) : Option (EntryM × List UInt8) :=
  (rdText l).bind fun a => (rdNum 0 200 a.2).bind fun b => (rdNum 0 200 b.2).bind fun c => (rdNum 0 20 c.2).bind fun n =>
    (many rdLine noChk n.1.toNat none n.2).bind fun t => some (⟨a.1, b.1, c.1, t.1⟩, t.2)
theorem entry_fwd (e : EntryM) (r : List UInt8) (h : e.ok) : rdEntry (e.bytes ++ r) = some (e, r) := by
  obtain ⟨h1, h2, h3, h4, h5⟩ := h
  simp only [rdEntry, EntryM.bytes, List.append_assoc, text_fwd _ h1, num_fwd _ (show -9223372036854775808 ≤ e.ent by omega) (by omega) h2.1 h2.2, num_fwd _ (show -9223372036854775808 ≤ e.per by omega) (by omega) h3.1 h3.2,
    num_fwd (lo := 0) (hi := 20) _ (show -9223372036854775808 ≤ (e.lines.length : Int) by omega) (by omega) (by omega) (by omega), Option.bind_some, Int.toNat_natCast, many_fwd line_fwd e.lines none r h5 (chain_no _ _)]
theorem entry_bwd (l : List UInt8) (e : EntryM) (r : List UInt8) (h : rdEntry l = some (e, r)) : l = e.bytes ++ r ∧ e.ok := by
  unfold rdEntry at h
  obtain ⟨⟨a, l1⟩, h1, h⟩ := bind_some_inv h
  obtain ⟨⟨b, l2⟩, h2, h⟩ := bind_some_inv h
  obtain ⟨⟨c, l3⟩, h3, h⟩ := bind_some_inv h
  obtain ⟨⟨n, l4⟩, h4, h⟩ := bind_some_inv h
  obtain ⟨⟨t, l5⟩, h5, h⟩ := bind_some_inv h
  simp only [Option.some.injEq, Prod.mk.injEq] at h
  obtain ⟨rfl, rfl⟩ := h
  obtain ⟨e1, k1⟩ := text_bwd h1
  obtain ⟨e2, k2⟩ := num_bwd h2
  obtain ⟨e3, k3⟩ := num_bwd h3
  obtain ⟨e4, k4⟩ := num_bwd h4
  obtain ⟨e5, k5, _, k6⟩ := many_bwd line_bwd _ _ _ _ _ h5
  simp only at e2 e3 e4 e5 k2 k3 k4 k6
  have hn : (t.length : Int) = n := by omega
  refine ⟨?_, k1, k2, k3, ?_, k5⟩
  · rw [e1, e2, e3, e4, e5]; simp only [EntryM.bytes, List.append_assoc, hn]
  · show t.length ≤ 20; omega
/-- without its last byte it is none -/
theorem entry_cut (e : EntryM) (h : e.ok) : rdEntry e.bytes.dropLast = none := by
  cases h1 : rdEntry e.bytes.dropLast with
  | none => rfl
  | some p =>
    obtain ⟨x, r⟩ := p
    obtain ⟨e1, k1⟩ := entry_bwd _ _ _ h1
    have hne : e.bytes ≠ [] := by unfold EntryM.bytes textB numB; rw [varint]; split <;> simp
    have h2 := List.dropLast_concat_getLast hne
    rw [e1, List.append_assoc] at h2
    have h3 := entry_fwd x (r ++ [e.bytes.getLast hne]) k1
    rw [h2] at h3
    have h4 := entry_fwd e [] h
    rw [List.append_nil] at h4
    rw [h4] at h3
    injection h3 with h3
    injection h3 with _ h3
    exact absurd h3.symm (by simp)
theorem entry_len (e : EntryM) : 1 ≤ e.bytes.length := by
  have hne : e.bytes ≠ [] := by unfold EntryM.bytes textB numB; rw [varint]; split <;> simp
  exact List.length_pos_iff.2 hne

structure BalM where
  ent : Int
  acc : ByteArray
  cur : ByteArray
  amt : Int
def BalM.bytes (x : BalM) : List UInt8 := numB x.ent ++ (textB x.acc ++ (textB x.cur ++ numB x.amt))
def BalM.ok (x : BalM) : Prop := (0 ≤ x.ent ∧ x.ent ≤ 200) ∧ x.acc.size ≤ 24 ∧ x.cur.size ≤ 24 ∧ -bigA ≤ x.amt ∧ x.amt ≤ bigA
def rdBal (l : List UInt8) : Option (BalM × List UInt8) :=
  (rdNum 0 200 l).bind fun n => (rdText n.2).bind fun a => (rdText a.2).bind fun b => (rdNum (-bigA) bigA b.2).bind fun c => some (⟨n.1, a.1, b.1, c.1⟩, c.2)
theorem bal_fwd (x : BalM) (r : List UInt8) (h : x.ok) : rdBal (x.bytes ++ r) = some (x, r) := by
  obtain ⟨h0, h1, h2, h3, h4⟩ := h
  unfold bigA at h3 h4
  simp only [rdBal, BalM.bytes, List.append_assoc, num_fwd _ (show -9223372036854775808 ≤ x.ent by omega) (by omega) h0.1 h0.2, text_fwd _ h1, text_fwd _ h2, num_fwd (lo := -bigA) (hi := bigA) r (by omega) (by omega) (show -bigA ≤ x.amt by unfold bigA; omega) (show x.amt ≤ bigA by unfold bigA; omega), Option.bind_some]
theorem bal_bwd (l : List UInt8) (x : BalM) (r : List UInt8) (h : rdBal l = some (x, r)) : l = x.bytes ++ r ∧ x.ok := by
  unfold rdBal at h
  obtain ⟨⟨n, l0⟩, h0, h⟩ := bind_some_inv h
  obtain ⟨⟨a, l1⟩, h1, h⟩ := bind_some_inv h
  obtain ⟨⟨b, l2⟩, h2, h⟩ := bind_some_inv h
  obtain ⟨⟨c, l3⟩, h3, h⟩ := bind_some_inv h
  simp only [Option.some.injEq, Prod.mk.injEq] at h
  obtain ⟨rfl, rfl⟩ := h
  obtain ⟨e0, k0⟩ := num_bwd h0
  obtain ⟨e1, k1⟩ := text_bwd h1
  obtain ⟨e2, k2⟩ := text_bwd h2
  obtain ⟨e3, k3⟩ := num_bwd h3
  exact ⟨by simp only at e1 e2 e3; rw [e0, e1, e2, e3]; simp [BalM.bytes, List.append_assoc], k0, k1, k2, k3⟩
def balsB (t : List BalM) : List UInt8 := numB t.length ++ t.flatMap BalM.bytes
/-- does one stand ahead of the next? -/
def rise (cmp : BalM → BalM → Int) : Option BalM → BalM → Bool
  | none, _ => true
  | some a, b => decide (cmp a b < 0)
def rdBals (cmp : BalM → BalM → Int) (l : List UInt8) : Option (List BalM × List UInt8) :=
  (rdNum 0 200 l).bind fun n => many rdBal (rise cmp) n.1.toNat none n.2
def balsOk (cmp : BalM → BalM → Int) (t : List BalM) : Prop := t.length ≤ 200 ∧ (∀ x ∈ t, x.ok) ∧ chain (rise cmp) none t
theorem bals_fwd {cmp : BalM → BalM → Int} (t : List BalM) (r : List UInt8) (h : balsOk cmp t) : rdBals cmp (balsB t ++ r) = some (t, r) := by
  obtain ⟨h1, h2, h3⟩ := h
  simp only [rdBals, balsB, List.append_assoc, num_fwd (lo := 0) (hi := 200) _ (show -9223372036854775808 ≤ (t.length : Int) by omega) (by omega) (by omega) (by omega), Option.bind_some, Int.toNat_natCast, many_fwd bal_fwd t none r h2 h3]
theorem bals_bwd {cmp : BalM → BalM → Int} (l : List UInt8) (t : List BalM) (r : List UInt8) (h : rdBals cmp l = some (t, r)) : l = balsB t ++ r ∧ balsOk cmp t := by
  unfold rdBals at h
  obtain ⟨⟨n, l0⟩, h0, h⟩ := bind_some_inv h
  obtain ⟨e0, k0⟩ := num_bwd h0
  obtain ⟨e5, k5, k7, k6⟩ := many_bwd bal_bwd _ _ _ _ _ h
  simp only at e5 k6
  have hn : (t.length : Int) = n := by omega
  exact ⟨by rw [e0, e5]; simp only [balsB, List.append_assoc, hn], by omega, k5, k7⟩
theorem balsB_ne (t : List BalM) : balsB t ≠ [] := by unfold balsB numB; rw [varint]; split <;> simp
theorem bals_cut {cmp : BalM → BalM → Int} (e : List BalM) (h : balsOk cmp e) : rdBals cmp (balsB e).dropLast = none := by
  cases h1 : rdBals cmp (balsB e).dropLast with
  | none => rfl
  | some p =>
    obtain ⟨x, r⟩ := p
    obtain ⟨e1, k1⟩ := bals_bwd _ _ _ h1
    have hne := balsB_ne e
    have h2 := List.dropLast_concat_getLast hne
    rw [e1, List.append_assoc] at h2
    have h3 := bals_fwd x (r ++ [(balsB e).getLast hne]) k1
    rw [h2] at h3
    have h4 := bals_fwd e [] h
    rw [List.append_nil] at h4
    rw [h4] at h3
    injection h3 with h3
    injection h3 with _ h3
    exact absurd h3.symm (by simp)

/-- the first of some faults; 0: none -/
def firstOf : List Int → Int
  | [] => 0
  | c :: t => if c = 0 then firstOf t else c
theorem firstOf_zero : ∀ (l : List Int), firstOf l = 0 ↔ ∀ c ∈ l, c = 0
  | [] => by simp [firstOf]
  | c :: t => by
    rw [firstOf]
    by_cases h : c = 0
    · simp [h, firstOf_zero t]
    · simp [h]
def numC (ok : Bool) : Int := if ok = true then 0 else 1
def textC (s : ByteArray) : Int := if 24 < s.size then 4 else 0
def itemB (n : Int) : Bool := decide (0 ≤ n) && decide (n ≤ 200)
def amtB (n : Int) : Bool := decide (-bigA ≤ n) && decide (n ≤ bigA)
def LineM.codes (x : LineM) : List Int := [textC x.acc, textC x.cur, numC (amtB x.amt)]
def EntryM.codes (e : EntryM) : List Int := [textC e.ref, numC (itemB e.ent), numC (itemB e.per)] ++ e.lines.flatMap LineM.codes
def EntryM.code (e : EntryM) : Int := if 20 < e.lines.length then 4 else firstOf e.codes
theorem textC_zero {s : ByteArray} : textC s = 0 ↔ s.size ≤ 24 := by unfold textC; split <;> omega
theorem itemB_zero {n : Int} : numC (itemB n) = 0 ↔ 0 ≤ n ∧ n ≤ 200 := by unfold numC itemB; simp
theorem amtB_zero {n : Int} : numC (amtB n) = 0 ↔ -bigA ≤ n ∧ n ≤ bigA := by unfold numC amtB; simp
theorem line_codes {x : LineM} : (∀ c ∈ x.codes, c = 0) ↔ x.ok := by simp [LineM.codes, LineM.ok, textC_zero, amtB_zero]
theorem entry_code (e : EntryM) : e.code = 0 ↔ e.ok := by
  unfold EntryM.code
  split
  · constructor
    · intro h; cases h
    · intro h; have := h.2.2.2.1; omega
  · rename_i hn
    rw [firstOf_zero, EntryM.codes]
    constructor
    · intro h
      refine ⟨textC_zero.1 (h _ (by simp)), itemB_zero.1 (h _ (by simp)), itemB_zero.1 (h _ (by simp)), by omega, fun x hx => ?_⟩
      exact line_codes.1 fun c hc => h c (by simp only [List.mem_append, List.mem_flatMap]; exact Or.inr ⟨x, hx, hc⟩)
    · rintro ⟨h1, h2, h3, _, h5⟩ c hc
      simp only [List.mem_append, List.mem_flatMap, List.mem_cons, List.not_mem_nil, or_false] at hc
      rcases hc with (rfl | rfl | rfl) | ⟨x, hx, hc⟩
      · exact textC_zero.2 h1
      · exact itemB_zero.2 h2
      · exact itemB_zero.2 h3
      · exact line_codes.2 (h5 x hx) c hc
end Go.Proofs.Ytldpflijgbcbhaa
