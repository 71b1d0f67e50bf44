/- The log, in plain terms: chunks, how a log is opened, what stands on the disk. No program here. -/
import Derived.Test.YtldpflijgbcbhaaBase
namespace Go.Proofs.Ytldpflijgbcbhaa.lg
open Go.RowKit

structure Chk where
  used : Nat
  index : Nat
  epoch : Nat
  bytes : List UInt8
/-- byte i as a number -/
def bAt (l : List UInt8) (i : Nat) : Nat := (l.getD i 0).toNat
/-- the chunk of a block -/
def chkOf : Option (List UInt8) → Option Chk
  | none => none
  | some l => if bAt l 0 / 64 = 1 ∧ bAt l 0 % 64 ≤ 60 then some ⟨bAt l 0 % 64, bAt l 1, bAt l 2 * 256 + bAt l 3, (l.drop 4).take (bAt l 0 % 64)⟩ else none

/-- may it be chunk k? -/
def good (k last i : Nat) (c : Chk) : Bool := decide (c.index = k % 256) && decide (last ≤ c.epoch) && (decide (i < 2) || decide (60 ≤ c.used))
def better (acc : Option (Chk × Nat)) (c : Chk) : Bool :=
  match acc with
  | none => true
  | some p => decide (p.1.epoch < c.epoch) || (decide (c.epoch = p.1.epoch) && decide (p.1.used < c.used))
def look (blk : Nat → Option Chk) (k last : Nat) (acc : Option (Chk × Nat)) (i : Nat) : Option (Chk × Nat) :=
  match blk i with
  | none => acc
  | some c => if (good k last i c && better acc c) = true then some (c, i) else acc
def pick (blk : Nat → Option Chk) (k last : Nat) : Option (Chk × Nat) := look blk k last (look blk k last (look blk k last none 0) 1) (2 + k)
def epOf : Option Chk → Nat
  | none => 0
  | some c => c.epoch

structure OpS where
  stream : List UInt8
  epoch : Nat
  last : Nat
  bare : Bool
  safe : Nat
def epK (blk : Nat → Option Chk) (k e : Nat) : Nat := max (max (max e (epOf (blk 0))) (epOf (blk 1))) (epOf (blk (2 + k)))
def opNext (s : OpS) (e : Nat) (p : Chk × Nat) : OpS := ⟨s.stream ++ p.1.bytes, e, p.1.epoch, decide (2 ≤ p.2), if p.2 < 2 then p.2 else s.safe⟩
def openGo (blk : Nat → Option Chk) : Nat → Nat → OpS → OpS
  | 0, _, s => s
  | f + 1, k, s =>
    match pick blk k s.last with
    | none => { s with epoch := epK blk k s.epoch }
    | some p => if p.1.used < 60 then opNext s (epK blk k s.epoch) p else openGo blk f (k + 1) (opNext s (epK blk k s.epoch) p)
def epAll (blk : Nat → Option Chk) : Nat → Nat → Nat
  | 0, e => e
  | n + 1, e => max (epAll blk n e) (epOf (blk n))

/-- records one behind the other -/
def enc1 (b : List UInt8) : List UInt8 := UInt8.ofNat (b.length / 256) :: UInt8.ofNat b.length :: b
def enc (rs : List (List UInt8)) : List UInt8 := rs.flatMap enc1
def parse : Nat → List UInt8 → List (List UInt8)
  | 0, _ => []
  | f + 1, l => if l.length < 2 then [] else if bAt l 0 * 256 + bAt l 1 < 1 ∨ 200 < bAt l 0 * 256 + bAt l 1 ∨ l.length < 2 + (bAt l 0 * 256 + bAt l 1) then [] else
    (l.drop 2).take (bAt l 0 * 256 + bAt l 1) :: parse f (l.drop (2 + (bAt l 0 * 256 + bAt l 1)))

theorem enc1_len (b : List UInt8) : (enc1 b).length = b.length + 2 := by simp [enc1]
theorem enc_cons (b : List UInt8) (rs : List (List UInt8)) : enc (b :: rs) = enc1 b ++ enc rs := rfl
theorem enc_append (a b : List (List UInt8)) : enc (a ++ b) = enc a ++ enc b := by simp [enc]
theorem bAt_enc1 {b : List UInt8} (h : b.length < 65536) (r : List UInt8) : bAt (enc1 b ++ r) 0 * 256 + bAt (enc1 b ++ r) 1 = b.length := by
  simp only [enc1, bAt, List.cons_append, List.getD_cons_zero, List.getD_cons_succ, UInt8.toNat_ofNat']
  omega
theorem parse_enc (f : Nat) : ∀ (rs : List (List UInt8)), rs.length ≤ f → (∀ b ∈ rs, 1 ≤ b.length ∧ b.length ≤ 200) → parse f (enc rs) = rs := by
  induction f with
  | zero => intro rs h _; rw [List.length_eq_zero_iff.1 (Nat.le_zero.1 h)]; rfl
  | succ f ih =>
    intro rs h hb
    cases rs with
    | nil => simp [enc, parse]
    | cons b rs =>
      have h1 := hb b (by simp)
      have hl : (enc1 b ++ enc rs).length = b.length + 2 + (enc rs).length := by rw [List.length_append, enc1_len]
      have hn := bAt_enc1 (b := b) (by omega) (enc rs)
      have e1 : (enc1 b ++ enc rs).drop 2 = b ++ enc rs := rfl
      have e2 : (enc1 b ++ enc rs).drop (2 + b.length) = enc rs := by
        rw [← List.drop_drop, e1, List.drop_left]
      rw [enc_cons, parse, if_neg (by omega), hn, if_neg (by omega), e1, e2, List.take_left, ih rs (by simpa using h) (fun c hc => hb c (by simp [hc]))]
theorem enc_len_ge (rs : List (List UInt8)) : rs.length ≤ (enc rs).length := by
  induction rs with
  | nil => simp [enc]
  | cons b rs ih => rw [enc_cons, List.length_append, enc1_len, List.length_cons]; omega

/-- u bytes of chunk k -/
def chunkOf (F : List UInt8) (k u : Nat) : List UInt8 := (F.drop (60 * k)).take u
theorem chunkOf_len {F : List UInt8} {k u : Nat} (h : 60 * k + u ≤ F.length) : (chunkOf F k u).length = u := by simp [chunkOf]; omega
theorem chunkOf_more {F : List UInt8} {k u : Nat} (h : 60 * k + u ≤ F.length) (x : List UInt8) : chunkOf (F ++ x) k u = chunkOf F k u := by
  unfold chunkOf
  rw [List.drop_append_of_le_length (by omega), List.take_append_of_le_length (by simp; omega)]
theorem take_chunk (F : List UInt8) (k u : Nat) : F.take (60 * k) ++ chunkOf F k u = F.take (60 * k + u) := by
  unfold chunkOf; rw [List.take_add]

/-- all chunks are of a stream -/
structure Cons (blk : Nat → Option Chk) (F : List UInt8) (E : Nat) : Prop where
  len : ∀ i c, blk i = some c → 60 * c.index + c.used ≤ F.length
  bytes : ∀ i c, blk i = some c → c.bytes = chunkOf F c.index c.used
  ep : ∀ i c, blk i = some c → c.epoch ≤ E
  pos : ∀ i c, blk i = some c → 0 < c.used
  turn : ∀ i c, i < 2 → blk i = some c → c.used < 60
  own : ∀ i c, 2 ≤ i → blk i = some c → c.index = i - 2 ∧ c.used = 60
/-- a stream is there; its last chunk, that is not full, in block t -/
structure Holds (blk : Nat → Option Chk) (s : List UInt8) (t : Nat) : Prop where
  full : ∀ k, k < s.length / 60 → ∃ c, blk (2 + k) = some c
  mono : ∀ k c d, k + 1 < s.length / 60 → blk (2 + k) = some c → blk (2 + (k + 1)) = some d → c.epoch ≤ d.epoch
  old : ∀ k c i d, k < s.length / 60 → blk (2 + k) = some c → i < 2 → blk i = some d → d.index = k → d.epoch ≤ c.epoch
  tail : s.length % 60 ≠ 0 → t < 2 ∧ ∃ c, blk t = some c ∧ c.index = s.length / 60 ∧ c.used = s.length % 60 ∧ (∀ k d, k + 1 = s.length / 60 → blk (2 + k) = some d → d.epoch ≤ c.epoch) ∧
    (∀ i d, i < 2 → i ≠ t → blk i = some d → d.index = s.length / 60 → d.epoch < c.epoch ∨ (d.epoch = c.epoch ∧ d.used < c.used))

theorem look_mem {blk : Nat → Option Chk} {k last i : Nat} {acc : Option (Chk × Nat)} {p : Chk × Nat} (h : look blk k last acc i = some p) : acc = some p ∨ (p.2 = i ∧ blk i = some p.1 ∧ good k last i p.1 = true) := by
  unfold look at h
  split at h
  · exact Or.inl h
  · rename_i c hc
    split at h
    · rename_i hg
      obtain rfl := Option.some.inj h
      exact Or.inr ⟨rfl, hc, by simp only [Bool.and_eq_true] at hg; exact hg.1⟩
    · exact Or.inl h
theorem look_good {blk : Nat → Option Chk} {k last i : Nat} {acc : Option (Chk × Nat)} {c : Chk} (hc : blk i = some c) (hg : good k last i c = true) (hb : better acc c = true) : look blk k last acc i = some (c, i) := by
  unfold look; rw [hc]; simp [hg, hb]
theorem look_skip {blk : Nat → Option Chk} {k last i : Nat} {acc : Option (Chk × Nat)} (h : ∀ c, blk i = some c → good k last i c = true → better acc c = false) : look blk k last acc i = acc := by
  unfold look
  split
  · rfl
  · rename_i c hc
    split
    · rename_i hg
      simp only [Bool.and_eq_true] at hg
      rw [h c hc hg.1] at hg
      exact absurd hg.2 (by simp)
    · rfl
theorem good_iff {k last i : Nat} {c : Chk} : good k last i c = true ↔ c.index = k % 256 ∧ last ≤ c.epoch ∧ (i < 2 ∨ 60 ≤ c.used) := by
  simp [good, and_assoc]
theorem two_mem {blk : Nat → Option Chk} {k last : Nat} {p : Chk × Nat} (h : look blk k last (look blk k last none 0) 1 = some p) : p.2 < 2 ∧ blk p.2 = some p.1 ∧ good k last p.2 p.1 = true := by
  rcases look_mem h with h | ⟨h1, h2, h3⟩
  · rcases look_mem h with h | ⟨h1, h2, h3⟩
    · cases h
    · rw [h1]; exact ⟨by omega, h2, h3⟩
  · rw [h1]; exact ⟨by omega, h2, h3⟩

theorem pick_full {blk : Nat → Option Chk} {F s : List UInt8} {E t k last : Nat} {c : Chk} (hC : Cons blk F E) (hH : Holds blk s t) (hk : k < s.length / 60) (hk2 : k < 256) (hc : blk (2 + k) = some c) (hl : last ≤ c.epoch) : pick blk k last = some (c, 2 + k) := by
  obtain ⟨h1, h2⟩ := hC.own (2 + k) c (by omega) hc
  refine look_good hc (good_iff.2 ⟨by omega, hl, Or.inr (by omega)⟩) ?_
  cases hacc : look blk k last (look blk k last none 0) 1 with
  | none => rfl
  | some p =>
    obtain ⟨g1, g2, g3⟩ := two_mem hacc
    obtain ⟨g4, g5, _⟩ := good_iff.1 g3
    have g6 := hH.old k c p.2 p.1 hk hc g1 g2 (by omega)
    have g7 := hC.turn p.2 p.1 g1 g2
    simp only [better, Bool.or_eq_true, Bool.and_eq_true, decide_eq_true_eq]
    omega
theorem pick_tail {blk : Nat → Option Chk} {s : List UInt8} {E t last : Nat} {c : Chk} (hC : Cons blk s E) (ht : t < 2) (hc : blk t = some c) (hi : c.index = s.length / 60)
    (hu : ∀ i d, i < 2 → i ≠ t → blk i = some d → d.index = s.length / 60 → d.epoch < c.epoch ∨ (d.epoch = c.epoch ∧ d.used < c.used)) (hk2 : s.length / 60 < 256) (hl : last ≤ c.epoch) : pick blk (s.length / 60) last = some (c, t) := by
  have hno : ∀ acc, look blk (s.length / 60) last acc (2 + s.length / 60) = acc := fun acc => look_skip fun d hd _ => by
    obtain ⟨h1, h2⟩ := hC.own _ d (by omega) hd
    have := hC.len _ d hd
    omega
  unfold pick
  rw [hno]
  have hg := good_iff.2 (show c.index = s.length / 60 % 256 ∧ last ≤ c.epoch ∧ (t < 2 ∨ 60 ≤ c.used) from ⟨by omega, hl, Or.inl ht⟩)
  obtain rfl | rfl : t = 0 ∨ t = 1 := by omega
  · rw [look_good (acc := none) hc hg rfl]
    refine look_skip fun d hd hgd => ?_
    obtain ⟨h1, h2, _⟩ := good_iff.1 hgd
    have := hu 1 d (by omega) (by omega) hd (by omega)
    simp only [better, Bool.or_eq_false_iff, Bool.and_eq_false_iff, decide_eq_false_iff_not]
    omega
  · refine look_good hc hg ?_
    cases hacc : look blk (s.length / 60) last none 0 with
    | none => rfl
    | some p =>
      rcases look_mem hacc with h | ⟨h1, h2, h3⟩
      · cases h
      · obtain ⟨h4, h5, _⟩ := good_iff.1 h3
        have := hu 0 p.1 (by omega) (by omega) h2 (by omega)
        simp only [better, Bool.or_eq_true, Bool.and_eq_true, decide_eq_true_eq]
        omega
theorem pick_none {blk : Nat → Option Chk} {s : List UInt8} {E last : Nat} (hC : Cons blk s E) (h0 : s.length % 60 = 0) (hk2 : s.length / 60 < 256) : pick blk (s.length / 60) last = none := by
  have hno : ∀ acc i, look blk (s.length / 60) last acc i = acc := fun acc i => look_skip fun d hd hg => by
    obtain ⟨h1, _, _⟩ := good_iff.1 hg
    have := hC.len _ d hd
    have := hC.pos _ d hd
    omega
  unfold pick
  rw [hno, hno, hno]

theorem ep_le {blk : Nat → Option Chk} {F : List UInt8} {E : Nat} (hC : Cons blk F E) (i : Nat) : epOf (blk i) ≤ E := by
  cases h : blk i with
  | none => exact Nat.zero_le _
  | some c => exact hC.ep i c h
theorem epK_le {blk : Nat → Option Chk} {F : List UInt8} {E k e : Nat} (hC : Cons blk F E) (he : e ≤ E) : epK blk k e ≤ E := by
  have := ep_le hC 0; have := ep_le hC 1; have := ep_le hC (2 + k)
  unfold epK; omega

/-- what a log is opened as -/
theorem open_holds {blk : Nat → Option Chk} {s : List UInt8} {E t : Nat} (hC : Cons blk s E) (hH : Holds blk s t) (hs : s.length ≤ 12000) : ∀ (n f k : Nat) (o : OpS), n + k = s.length / 60 → n < f → o.stream = s.take (60 * k) → o.epoch ≤ E → (∀ c j, j + 1 = k → blk (2 + j) = some c → o.last = c.epoch) → (k = 0 → o.last = 0) →
    (openGo blk f k o).stream = s ∧ (openGo blk f k o).epoch ≤ E ∧ (s.length % 60 ≠ 0 → (openGo blk f k o).safe = t ∧ (openGo blk f k o).bare = false) ∧ (s.length % 60 = 0 → (openGo blk f k o).safe = o.safe) := by
  intro n
  induction n with
  | zero =>
    intro f k o hk hf hos hoe hol hol0
    obtain ⟨f, rfl⟩ : ∃ g, f = g + 1 := ⟨f - 1, by omega⟩
    obtain rfl : k = s.length / 60 := by omega
    by_cases h0 : s.length % 60 = 0
    · rw [openGo, pick_none hC h0 (by omega)]
      refine ⟨?_, epK_le hC hoe, fun h => absurd h0 h, fun _ => rfl⟩
      show o.stream = s
      rw [hos, List.take_of_length_le (by omega)]
    · obtain ⟨ht, c, hc, hi, hu, hlast, huq⟩ := hH.tail h0
      have hl : o.last ≤ c.epoch := by
        rcases Nat.eq_zero_or_pos (s.length / 60) with hz | hz
        · rw [hol0 hz]; omega
        · obtain ⟨d, hd⟩ := hH.full (s.length / 60 - 1) (by omega)
          rw [hol d _ (by omega) hd]
          exact hlast _ d (by omega) hd
      rw [openGo, pick_tail hC ht hc hi huq (by omega) hl]
      simp only []
      have hu60 : c.used < 60 := by omega
      rw [if_pos hu60]
      refine ⟨?_, epK_le hC hoe, fun _ => ⟨?_, ?_⟩, fun h => absurd h h0⟩
      · show o.stream ++ c.bytes = s
        rw [hos, hC.bytes t c hc, hi, take_chunk, List.take_of_length_le (by omega)]
      · show (if t < 2 then t else o.safe) = t
        rw [if_pos ht]
      · show decide (2 ≤ t) = false
        exact decide_eq_false (by omega)
  | succ n ih =>
    intro f k o hk hf hos hoe hol hol0
    obtain ⟨f, rfl⟩ : ∃ g, f = g + 1 := ⟨f - 1, by omega⟩
    obtain ⟨c, hc⟩ := hH.full k (by omega)
    have hl : o.last ≤ c.epoch := by
      rcases Nat.eq_zero_or_pos k with hz | hz
      · rw [hol0 hz]; omega
      · obtain ⟨d, hd⟩ := hH.full (k - 1) (by omega)
        rw [hol d _ (by omega) hd]
        exact hH.mono (k - 1) d c (by omega) hd (by rw [show k - 1 + 1 = k by omega]; exact hc)
    obtain ⟨h1, h2⟩ := hC.own (2 + k) c (by omega) hc
    rw [openGo, pick_full hC hH (by omega) (by omega) hc hl]
    simp only []
    rw [if_neg (by omega)]
    have := ih f (k + 1) (opNext o (epK blk k o.epoch) (c, 2 + k)) (by omega) (by omega) ?_ (epK_le hC hoe) ?_ (fun h => by omega)
    · refine ⟨this.1, this.2.1, this.2.2.1, fun h => (this.2.2.2 h).trans ?_⟩
      show (if 2 + k < 2 then 2 + k else o.safe) = o.safe
      rw [if_neg (by omega)]
    · show o.stream ++ c.bytes = _
      rw [hos, hC.bytes _ c hc, h1, h2, show 2 + k - 2 = k by omega, take_chunk]; rfl
    · intro d j hj hd
      obtain rfl : j = k := by omega
      rw [hc] at hd
      obtain rfl := Option.some.inj hd
      rfl

theorem epAll_le {blk : Nat → Option Chk} {F : List UInt8} {E : Nat} (hC : Cons blk F E) (e : Nat) (he : e ≤ E) : ∀ n, epAll blk n e ≤ E := by
  intro n
  induction n with
  | zero => exact he
  | succ n ih => have := ep_le hC n; simp only [epAll]; omega
theorem epAll_ge {blk : Nat → Option Chk} {e i : Nat} : ∀ n, i < n → epOf (blk i) ≤ epAll blk n e := by
  intro n
  induction n with
  | zero => intro h; omega
  | succ n ih =>
    intro h
    simp only [epAll]
    rcases Nat.lt_or_ge i n with h1 | h1
    · have := ih h1; omega
    · obtain rfl : i = n := by omega
      omega

/-! writing -/
/-- one chunk more is written: chunk k of stream s, in turn block t if it is not full -/
def wrBlk (blk : Nat → Option Chk) (s : List UInt8) (E t k : Nat) : Nat → Option Chk := fun i =>
  if i = (if s.length < 60 * k + 60 then t else 2 + k) then some ⟨min 60 (s.length - 60 * k), k, E, chunkOf s k 60⟩ else blk i
/-- chunks from a on to b (not b itself) -/
def wrAll (blk : Nat → Option Chk) (s : List UInt8) (E t a : Nat) : Nat → Nat → Option Chk
  | 0 => blk
  | n + 1 => wrBlk (wrAll blk s E t a n) s E t (a + n)

theorem chunkOf_min {s : List UInt8} {k : Nat} : chunkOf s k 60 = chunkOf s k (min 60 (s.length - 60 * k)) := by
  unfold chunkOf
  rcases Nat.le_total 60 (s.length - 60 * k) with h | h
  · rw [Nat.min_eq_left h]
  · rw [Nat.min_eq_right h, List.take_of_length_le (by simp; omega), List.take_of_length_le (by simp)]

theorem wrAll_own {blk : Nat → Option Chk} {s : List UInt8} {E t a : Nat} (_ : t < 2) : ∀ n, (∀ j, j + 1 < n → 60 * (a + j) + 60 ≤ s.length) → ∀ i, 2 ≤ i → wrAll blk s E t a n i = if 2 + a ≤ i ∧ i < 2 + a + n ∧ 60 * (i - 2) + 60 ≤ s.length then some ⟨60, i - 2, E, chunkOf s (i - 2) 60⟩ else blk i := by
  intro n
  induction n with
  | zero => intro _ i hi; rw [if_neg (by omega)]; rfl
  | succ n ih =>
    intro hj i hi
    have ih' := ih (fun j h => hj j (by omega)) i hi
    simp only [wrAll, wrBlk]
    by_cases h1 : s.length < 60 * (a + n) + 60
    · rw [if_pos h1, if_neg (by omega), ih']
      by_cases h2 : i = 2 + a + n
      · subst h2
        rw [if_neg (by omega), if_neg (by omega)]
      · by_cases h3 : 2 + a ≤ i ∧ i < 2 + a + n ∧ 60 * (i - 2) + 60 ≤ s.length
        · rw [if_pos h3, if_pos (by omega)]
        · rw [if_neg h3, if_neg (by omega)]
    · rw [if_neg h1]
      by_cases h2 : i = 2 + (a + n)
      · subst h2
        rw [if_pos rfl, if_pos (by omega), show 2 + (a + n) - 2 = a + n by omega, Nat.min_eq_left (by omega)]
      · rw [if_neg h2, ih']
        by_cases h3 : 2 + a ≤ i ∧ i < 2 + a + n ∧ 60 * (i - 2) + 60 ≤ s.length
        · rw [if_pos h3, if_pos (by omega)]
        · rw [if_neg h3, if_neg (by omega)]
theorem wrAll_turn {blk : Nat → Option Chk} {s : List UInt8} {E t a : Nat} (_ : t < 2) : ∀ n, (∀ j, j + 1 < n → 60 * (a + j) + 60 ≤ s.length) → ∀ i, i < 2 → wrAll blk s E t a n i = if i = t ∧ 0 < n ∧ s.length < 60 * (a + n - 1) + 60 then some ⟨min 60 (s.length - 60 * (a + n - 1)), a + n - 1, E, chunkOf s (a + n - 1) 60⟩ else blk i := by
  intro n
  induction n with
  | zero => intro _ i hi; rw [if_neg (by omega)]; rfl
  | succ n ih =>
    intro hj i hi
    have ih' := ih (fun j h => hj j (by omega)) i hi
    have hn : n = 0 ∨ 60 * (a + n - 1) + 60 ≤ s.length := by
      rcases Nat.eq_zero_or_pos n with h | h
      · exact Or.inl h
      · right; have := hj (n - 1) (by omega); rw [show a + n - 1 = a + (n - 1) by omega]; exact this
    have ih2 : wrAll blk s E t a n i = blk i := by
      rw [ih']
      rcases hn with hn | hn
      · rw [if_neg (by omega)]
      · rw [if_neg (by omega)]
    simp only [wrAll, wrBlk, Nat.add_succ_sub_one]
    by_cases h1 : s.length < 60 * (a + n) + 60
    · rw [if_pos h1]
      by_cases h2 : i = t
      · rw [if_pos h2, if_pos ⟨h2, by omega, by omega⟩]
      · rw [if_neg h2, if_neg (by omega), ih2]
    · rw [if_neg h1, if_neg (by omega), if_neg (by omega), ih2]

/-- a stream that grew is there when its chunks were written -/
theorem append_holds {blk : Nat → Option Chk} {s x : List UInt8} {E t n : Nat} (hC : Cons blk s E) (hH : ∃ t0, Holds blk s t0 ∧ (s.length % 60 ≠ 0 → t0 < 2)) (ht : t < 2) (hx : 0 < x.length)
    (hn : 60 * (s.length / 60 + n) ≥ (s ++ x).length) (hn1 : 60 * (s.length / 60 + n) < (s ++ x).length + 60) :
    Cons (wrAll blk (s ++ x) E t (s.length / 60) n) (s ++ x) E ∧ Holds (wrAll blk (s ++ x) E t (s.length / 60) n) (s ++ x) t := by
  obtain ⟨t0, hH, ht0⟩ := hH
  obtain ⟨a, ha⟩ : ∃ a, a = s.length / 60 := ⟨_, rfl⟩
  obtain ⟨s', hs'⟩ : ∃ s', s' = s ++ x := ⟨_, rfl⟩
  have hl' : s'.length = s.length + x.length := by rw [hs']; simp
  rw [← ha, ← hs'] at hn hn1 ⊢
  have hn0 : 0 < n := by omega
  have hj : ∀ j, j + 1 < n → 60 * (a + j) + 60 ≤ s'.length := fun j h => by omega
  have hO := wrAll_own (blk := blk) (s := s') (E := E) (a := a) ht n hj
  have hT := wrAll_turn (blk := blk) (s := s') (E := E) (a := a) ht n hj
  have hmore : ∀ k u, 60 * k + u ≤ s.length → chunkOf s' k u = chunkOf s k u := fun k u h => by rw [hs']; exact chunkOf_more h x
  generalize wrAll blk s' E t a n = nb at *
  -- each chunk is an old one or a new one
  have hcase : ∀ i c, nb i = some c → (blk i = some c) ∨ (2 ≤ i ∧ a ≤ i - 2 ∧ 60 * (i - 2) + 60 ≤ s'.length ∧ c = ⟨60, i - 2, E, chunkOf s' (i - 2) 60⟩) ∨ (i = t ∧ s'.length < 60 * (a + n - 1) + 60 ∧ c = ⟨min 60 (s'.length - 60 * (a + n - 1)), a + n - 1, E, chunkOf s' (a + n - 1) 60⟩) := by
    intro i c hc
    rcases Nat.lt_or_ge i 2 with hi | hi
    · rw [hT i hi] at hc
      split at hc
      · rename_i h
        exact Or.inr (Or.inr ⟨h.1, h.2.2, (Option.some.inj hc).symm⟩)
      · exact Or.inl hc
    · rw [hO i hi] at hc
      split at hc
      · rename_i h
        exact Or.inr (Or.inl ⟨hi, by omega, h.2.2, (Option.some.inj hc).symm⟩)
      · exact Or.inl hc
  have hCons : Cons nb s' E := by
    refine ⟨?_, ?_, ?_, ?_, ?_, ?_⟩
    · intro i c hc
      rcases hcase i c hc with h | ⟨_, _, h, rfl⟩ | ⟨_, h, rfl⟩
      · have := hC.len i c h; omega
      · simp only []; omega
      · simp only []; omega
    · intro i c hc
      rcases hcase i c hc with h | ⟨_, _, h, rfl⟩ | ⟨_, h, rfl⟩
      · rw [hC.bytes i c h, hmore _ _ (hC.len i c h)]
      · rfl
      · exact chunkOf_min
    · intro i c hc
      rcases hcase i c hc with h | ⟨_, _, h, rfl⟩ | ⟨_, h, rfl⟩
      · exact hC.ep i c h
      · exact Nat.le_refl _
      · exact Nat.le_refl _
    · intro i c hc
      rcases hcase i c hc with h | ⟨_, _, h, rfl⟩ | ⟨_, h, rfl⟩
      · exact hC.pos i c h
      · show 0 < 60; omega
      · simp only []; omega
    · intro i c hi hc
      rcases hcase i c hc with h | ⟨h2, _, h, rfl⟩ | ⟨_, h, rfl⟩
      · exact hC.turn i c hi h
      · omega
      · simp only []; omega
    · intro i c hi hc
      rcases hcase i c hc with h | ⟨h2, _, h, rfl⟩ | ⟨h2, h, rfl⟩
      · exact hC.own i c hi h
      · exact ⟨rfl, rfl⟩
      · omega
  have hnew : ∀ k, a ≤ k → k < s'.length / 60 → nb (2 + k) = some ⟨60, k, E, chunkOf s' k 60⟩ := by
    intro k h1 h2
    rw [hO (2 + k) (by omega), if_pos ⟨by omega, by omega, by omega⟩, show 2 + k - 2 = k by omega]
  have hold : ∀ k, k < a → nb (2 + k) = blk (2 + k) := by
    intro k h1
    rw [hO (2 + k) (by omega), if_neg (by omega)]
  refine ⟨hCons, ?_, ?_, ?_, ?_⟩
  · intro k hk
    rcases Nat.lt_or_ge k a with h | h
    · rw [hold k h]; exact hH.full k (by omega)
    · exact ⟨_, hnew k h hk⟩
  · intro k c d hk hc hd
    rcases Nat.lt_or_ge (k + 1) a with h | h
    · rw [hold k (by omega)] at hc
      rw [hold (k + 1) h] at hd
      exact hH.mono k c d (by omega) hc hd
    · rw [hnew (k + 1) h hk] at hd
      obtain rfl := Option.some.inj hd
      exact hCons.ep _ c hc
  · intro k c i d hk hc hi hd hdk
    rcases Nat.lt_or_ge k a with h | h
    · rw [hold k h] at hc
      rcases hcase i d hd with h' | ⟨h2, _⟩ | ⟨_, _, h'⟩
      · exact hH.old k c i d (by omega) hc hi h' hdk
      · omega
      · rw [h'] at hdk; simp only [] at hdk; omega
    · rw [hnew k h hk] at hc
      obtain rfl := Option.some.inj hc
      exact hCons.ep _ d hd
  · intro h0
    have e1 : a + n - 1 = s'.length / 60 := by omega
    have htt : nb t = some ⟨min 60 (s'.length - 60 * (a + n - 1)), a + n - 1, E, chunkOf s' (a + n - 1) 60⟩ := by
      rw [hT t ht, if_pos ⟨rfl, hn0, by omega⟩]
    refine ⟨ht, _, htt, e1, by simp only []; omega, fun k d _ hd => hCons.ep _ d hd, ?_⟩
    intro i d hi hit hd hdk
    simp only []
    have hde := hCons.ep _ d hd
    rcases hcase i d hd with h' | ⟨h2, _⟩ | ⟨h2, _⟩
    · have := hC.len i d h'
      have := hC.pos i d h'
      omega
    · omega
    · exact absurd h2 hit
end Go.Proofs.Ytldpflijgbcbhaa.lg
