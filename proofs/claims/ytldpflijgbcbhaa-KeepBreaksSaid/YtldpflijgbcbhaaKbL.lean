/- The log and crashes, in plain terms: all chunks are of one stream; how far an opening goes behind a crash. No program here. -/
import Derived.Test.YtldpflijgbcbhaaLgR
namespace Go.Proofs.Ytldpflijgbcbhaa.lg
open Go.RowKit

/-- a chunk that is no more than another one -/
def ChkLe (a b : Chk) : Prop := a.epoch < b.epoch ∨ (a.epoch = b.epoch ∧ a.used ≤ b.used)
theorem ChkLe.refl (a : Chk) : ChkLe a a := Or.inr ⟨rfl, Nat.le_refl _⟩
theorem ChkLe.trans {a b c : Chk} (h : ChkLe a b) (k : ChkLe b c) : ChkLe a c := by unfold ChkLe at *; omega
def Cand (k i : Nat) : Prop := i = 0 ∨ i = 1 ∨ i = 2 + k
theorem better_no {p : Chk × Nat} {c : Chk} (h : better (some p) c = false) : ChkLe c p.1 := by
  simp only [better, Bool.or_eq_false_iff, Bool.and_eq_false_iff, decide_eq_false_iff_not] at h
  unfold ChkLe; omega
theorem better_yes {p : Chk × Nat} {c : Chk} (h : better (some p) c = true) : ChkLe p.1 c := by
  simp only [better, Bool.or_eq_true, Bool.and_eq_true, decide_eq_true_eq] at h
  unfold ChkLe; omega
theorem look_acc {blk : Nat → Option Chk} {k last i : Nat} {p : Chk × Nat} : ∃ p', look blk k last (some p) i = some p' ∧ ChkLe p.1 p'.1 := by
  unfold look
  split
  · exact ⟨p, rfl, ChkLe.refl _⟩
  · rename_i c hc
    split
    · rename_i h
      simp only [Bool.and_eq_true] at h
      exact ⟨_, rfl, better_yes h.2⟩
    · exact ⟨p, rfl, ChkLe.refl _⟩
theorem look_new {blk : Nat → Option Chk} {k last i : Nat} {acc : Option (Chk × Nat)} {c : Chk} (hc : blk i = some c) (hg : good k last i c = true) : ∃ p', look blk k last acc i = some p' ∧ ChkLe c p'.1 := by
  unfold look
  rw [hc]
  simp only [hg, Bool.true_and]
  cases hb : better acc c with
  | true => exact ⟨_, rfl, ChkLe.refl _⟩
  | false =>
    cases acc with
    | none => simp [better] at hb
    | some p => exact ⟨p, by simp, better_no hb⟩
theorem look_up {blk : Nat → Option Chk} {k last i : Nat} {acc : Option (Chk × Nat)} {c : Chk} (h : ∃ p, acc = some p ∧ ChkLe c p.1) : ∃ p', look blk k last acc i = some p' ∧ ChkLe c p'.1 := by
  obtain ⟨p, rfl, hp⟩ := h
  obtain ⟨p', h1, h2⟩ := look_acc (blk := blk) (k := k) (last := last) (i := i) (p := p)
  exact ⟨p', h1, hp.trans h2⟩
theorem pick_some {blk : Nat → Option Chk} {k last i : Nat} {c : Chk} (hi : Cand k i) (hc : blk i = some c) (hg : good k last i c = true) : ∃ p, pick blk k last = some p ∧ ChkLe c p.1 := by
  unfold pick
  rcases hi with rfl | rfl | rfl
  · exact look_up (look_up (look_new hc hg))
  · exact look_up (look_new hc hg)
  · exact look_new hc hg
theorem pick_mem {blk : Nat → Option Chk} {k last : Nat} {p : Chk × Nat} (h : pick blk k last = some p) : Cand k p.2 ∧ blk p.2 = some p.1 ∧ good k last p.2 p.1 = true := by
  unfold pick at h
  rcases look_mem h with h | ⟨h1, h2, h3⟩
  · rcases look_mem h with h | ⟨h1, h2, h3⟩
    · rcases look_mem h with h | ⟨h1, h2, h3⟩
      · cases h
      · rw [h1]; exact ⟨Or.inl rfl, h2, h3⟩
    · rw [h1]; exact ⟨Or.inr (Or.inl rfl), h2, h3⟩
  · rw [h1]; exact ⟨Or.inr (Or.inr rfl), h2, h3⟩
theorem pick_ge {blk : Nat → Option Chk} {k last i : Nat} {c : Chk} {p : Chk × Nat} (h : pick blk k last = some p) (hi : Cand k i) (hc : blk i = some c) (hg : good k last i c = true) : ChkLe c p.1 := by
  obtain ⟨p', h1, h2⟩ := pick_some hi hc hg
  rw [h] at h1
  obtain rfl := Option.some.inj h1
  exact h2
/-- a full chunk that is not older than those in the turn blocks is picked -/
theorem pick_own {blk : Nat → Option Chk} {F : List UInt8} {E k last : Nat} {c : Chk} (hC : Cons blk F E) (hc : blk (2 + k) = some c) (hk : k < 256) (hl : last ≤ c.epoch) (ht : ∀ i d, i < 2 → blk i = some d → good k last i d = true → d.epoch ≤ c.epoch) : pick blk k last = some (c, 2 + k) := by
  obtain ⟨h1, h2⟩ := hC.own (2 + k) c (by omega) hc
  have hg : good k last (2 + k) c = true := good_iff.2 ⟨by omega, hl, Or.inr (by omega)⟩
  obtain ⟨p, hp, hle⟩ := pick_some (Or.inr (Or.inr rfl)) hc hg
  obtain ⟨m1, m2, m3⟩ := pick_mem hp
  rw [hp]
  rcases Nat.lt_or_ge p.2 2 with h | h
  · have a1 := ht p.2 p.1 h m2 m3
    have a2 := hC.turn p.2 p.1 h m2
    unfold ChkLe at hle
    omega
  · have e : p.2 = 2 + k := by unfold Cand at m1; omega
    rw [e, hc] at m2
    obtain ⟨p1, p2⟩ := p
    simp only [] at m2 e
    rw [← e, Option.some.inj m2]

/-- of chunks of one stream: what a picked chunk is -/
theorem pick_cons {blk : Nat → Option Chk} {F : List UInt8} {E k last : Nat} {p : Chk × Nat} (hC : Cons blk F E) (hF : F.length ≤ 12000) (hk : k < 256) (h : pick blk k last = some p) :
    p.1.index = k ∧ last ≤ p.1.epoch ∧ 60 * k + p.1.used ≤ F.length ∧ p.1.bytes = chunkOf F k p.1.used ∧ 0 < p.1.used ∧ p.1.epoch ≤ E ∧ ((p.2 < 2 ∧ p.1.used < 60) ∨ (p.2 = 2 + k ∧ p.1.used = 60)) := by
  obtain ⟨m1, m2, m3⟩ := pick_mem h
  obtain ⟨g1, g2, _⟩ := good_iff.1 m3
  have hl := hC.len _ _ m2
  have hb := hC.bytes _ _ m2
  have hi : p.1.index = k := by omega
  refine ⟨hi, g2, by omega, by rw [hb, hi], hC.pos _ _ m2, hC.ep _ _ m2, ?_⟩
  rcases Nat.lt_or_ge p.2 2 with h | h
  · exact Or.inl ⟨h, hC.turn _ _ h m2⟩
  · have := hC.own _ _ h m2
    refine Or.inr ⟨?_, this.2⟩
    unfold Cand at m1; omega
/-- an opening goes on along the stream -/
theorem go_stream {blk : Nat → Option Chk} {F : List UInt8} {E : Nat} (hC : Cons blk F E) (hF : F.length ≤ 12000) : ∀ f k o, k + f ≤ 256 → 60 * k ≤ F.length → o.stream = F.take (60 * k) → ∃ m, 60 * k ≤ m ∧ m ≤ F.length ∧ (openGo blk f k o).stream = F.take m := by
  intro f
  induction f with
  | zero => intro k o _ h2 h3; exact ⟨60 * k, Nat.le_refl _, h2, h3⟩
  | succ f ih =>
    intro k o h1 h2 h3
    rw [openGo]
    cases hp : pick blk k o.last with
    | none => exact ⟨60 * k, Nat.le_refl _, h2, h3⟩
    | some p =>
      obtain ⟨c1, c2, c3, c4, c5, c6, c7⟩ := pick_cons hC hF (by omega) hp
      simp only []
      have hs : (opNext o (epK blk k o.epoch) p).stream = F.take (60 * k + p.1.used) := by
        show o.stream ++ p.1.bytes = _
        rw [h3, c4, take_chunk]
      split
      · exact ⟨60 * k + p.1.used, by omega, c3, hs⟩
      · have hu : p.1.used = 60 := by omega
        rw [hu] at hs
        obtain ⟨m, g1, g2, g3⟩ := ih (k + 1) _ (by omega) (by omega) (by rw [hs]; rfl)
        exact ⟨m, by omega, g2, g3⟩
theorem go_len {blk : Nat → Option Chk} {F : List UInt8} {E : Nat} (hC : Cons blk F E) (hF : F.length ≤ 12000) {f k : Nat} {o : OpS} (h1 : k + f ≤ 256) (h2 : 60 * k ≤ F.length) (h3 : o.stream = F.take (60 * k)) : 60 * k ≤ (openGo blk f k o).stream.length := by
  obtain ⟨m, g1, g2, g3⟩ := go_stream hC hF f k o h1 h2 h3
  rw [g3, List.length_take]; omega
/-- once a chunk of the newest epoch is picked, all others are -/
theorem go_new {blk : Nat → Option Chk} {F : List UInt8} {E n' : Nat} (hC : Cons blk F E) (hF : F.length ≤ 12000) (hE : ∀ i c, blk i = some c → c.epoch = E → 60 * c.index + c.used ≤ n') : ∀ f k o, k + f ≤ 256 → 60 * k ≤ F.length → o.stream = F.take (60 * k) → o.last = E → 60 * k ≤ n' → (openGo blk f k o).stream.length ≤ n' := by
  intro f
  induction f with
  | zero => intro k o _ h2 h3 _ h5; show o.stream.length ≤ n'; rw [h3, List.length_take]; omega
  | succ f ih =>
    intro k o h1 h2 h3 h4 h5
    rw [openGo]
    cases hp : pick blk k o.last with
    | none => show o.stream.length ≤ n'; rw [h3, List.length_take]; omega
    | some p =>
      obtain ⟨c1, c2, c3, c4, c5, c6, c7⟩ := pick_cons hC hF (by omega) hp
      obtain ⟨_, m2, _⟩ := pick_mem hp
      have hs : (opNext o (epK blk k o.epoch) p).stream = F.take (60 * k + p.1.used) := by
        show o.stream ++ p.1.bytes = _
        rw [h3, c4, take_chunk]
      have he : p.1.epoch = E := by omega
      have hle := hE _ _ m2 he
      simp only []
      split
      · rw [hs, List.length_take]; omega
      · have hu : p.1.used = 60 := by omega
        rw [hu] at hs
        exact ih (k + 1) _ (by omega) (by omega) (by rw [hs]; rfl) he (by omega)

/-- what a crash may have done to the blocks: base blk, new ones of epoch E that tell of n' bytes at most and of n at least -/
structure Crashed (blk blk' : Nat → Option Chk) (E n n' : Nat) : Prop where
  each : ∀ i, blk' i = blk i ∨ blk' i = none ∨ ∃ c, blk' i = some c ∧ c.epoch = E ∧ n ≤ 60 * c.index + c.used ∧ 60 * c.index + c.used ≤ n'
  own : ∀ k, k < n / 60 → blk' (2 + k) = blk (2 + k)
  old : ∀ i c, blk i = some c → c.epoch = E → 60 * c.index + c.used ≤ n'
theorem Crashed.new {blk blk' : Nat → Option Chk} {E n n' : Nat} (h : Crashed blk blk' E n n') : ∀ i c, blk' i = some c → c.epoch = E → 60 * c.index + c.used ≤ n' := by
  intro i c hc he
  rcases h.each i with h1 | h1 | ⟨d, h1, _, _, h2⟩
  · exact h.old i c (by rw [← h1]; exact hc) he
  · rw [h1] at hc; cases hc
  · rw [h1] at hc; obtain rfl := Option.some.inj hc; exact h2
theorem go_stop {blk : Nat → Option Chk} {f k : Nat} {o : OpS} {p : Chk × Nat} (hp : pick blk k o.last = some p) (hu : p.1.used < 60) : openGo blk (f + 1) k o = opNext o (epK blk k o.epoch) p := by
  rw [openGo, hp]; simp only []; rw [if_pos hu]
theorem go_more {blk : Nat → Option Chk} {f k : Nat} {o : OpS} {p : Chk × Nat} (hp : pick blk k o.last = some p) (hu : p.1.used = 60) : openGo blk (f + 1) k o = openGo blk f (k + 1) (opNext o (epK blk k o.epoch) p) := by
  rw [openGo, hp]; simp only []; rw [if_neg (by omega)]
theorem go_none {blk : Nat → Option Chk} {f k : Nat} {o : OpS} (hp : pick blk k o.last = none) : (openGo blk (f + 1) k o).stream = o.stream ∧ (openGo blk (f + 1) k o).safe = o.safe := by
  rw [openGo, hp]; exact ⟨rfl, rfl⟩
theorem next_stream {blk : Nat → Option Chk} {F : List UInt8} {k : Nat} {o : OpS} {p : Chk × Nat} (h3 : o.stream = F.take (60 * k)) (c4 : p.1.bytes = chunkOf F k p.1.used) : (opNext o (epK blk k o.epoch) p).stream = F.take (60 * k + p.1.used) := by
  show o.stream ++ p.1.bytes = _
  rw [h3, c4, take_chunk]

theorem crash_go {blk blk' : Nat → Option Chk} {F : List UInt8} {E n n' : Nat} (hC : Cons blk F E) (hC' : Cons blk' F E) (hF : F.length ≤ 12000) (h : Crashed blk blk' E n n') :
    ∀ f k o o', k + f ≤ 256 → 60 * k ≤ F.length → o.stream = F.take (60 * k) → o'.stream = F.take (60 * k) → o'.last = o.last →
      blk' (openGo blk f k o).safe = blk (openGo blk f k o).safe →
      (n % 60 ≠ 0 → blk' (2 + n / 60) = blk (2 + n / 60) ∨ (openGo blk f k o).stream.length / 60 = n / 60) → n ≤ (openGo blk f k o).stream.length →
      n ≤ (openGo blk' f k o').stream.length ∧ (openGo blk' f k o').stream.length ≤ max (openGo blk f k o).stream.length n' := by
  intro f
  induction f with
  | zero =>
    intro k o o' _ h2 h3 h4 _ _ _ h8
    have e : o'.stream.length = o.stream.length := by rw [h3, h4]
    change n ≤ o.stream.length at h8
    show n ≤ o'.stream.length ∧ o'.stream.length ≤ max o.stream.length n'
    omega
  | succ f ih =>
    intro k o o' h1 h2 h3 h4 h5 h6 h7 h8
    have hge := go_len hC hF (f := f + 1) h1 h2 h3
    have hl3 : o.stream.length = 60 * k := by rw [h3, List.length_take]; omega
    have hl4 : o'.stream.length = 60 * k := by rw [h4, List.length_take]; omega
    -- a new chunk is picked
    have hnew : ∀ p', pick blk' k o'.last = some p' → p'.1.epoch = E → n ≤ 60 * k + p'.1.used → n ≤ (openGo blk' (f + 1) k o').stream.length ∧ (openGo blk' (f + 1) k o').stream.length ≤ n' := by
      intro p' hp' he hn
      obtain ⟨c1, c2, c3, c4, c5, c6, c7⟩ := pick_cons hC' hF (by omega) hp'
      obtain ⟨_, m2, _⟩ := pick_mem hp'
      have hle := h.new _ _ m2 he
      have hs := next_stream (blk := blk') (o := o') h4 c4
      by_cases hu : p'.1.used = 60
      · rw [go_more hp' hu]
        rw [hu] at hs c3 hle hn
        have hs' : (opNext o' (epK blk' k o'.epoch) p').stream = F.take (60 * (k + 1)) := by rw [hs]; rfl
        have a1 := go_len hC' hF (f := f) (k := k + 1) (o := opNext o' (epK blk' k o'.epoch) p') (by omega) (by omega) hs'
        have a2 := go_new hC' hF h.new f (k + 1) (opNext o' (epK blk' k o'.epoch) p') (by omega) (by omega) hs' he (by omega)
        exact ⟨by omega, a2⟩
      · rw [go_stop hp' (by omega), hs, List.length_take]
        omega
    have hsome : ∀ p', pick blk' k o'.last = some p' → (blk p'.2 = some p'.1 ∧ blk' p'.2 = blk p'.2) ∨ (p'.1.epoch = E ∧ n ≤ 60 * k + p'.1.used) := by
      intro p' hp'
      obtain ⟨c1, _⟩ := pick_cons hC' hF (by omega) hp'
      obtain ⟨_, m2, _⟩ := pick_mem hp'
      rcases h.each p'.2 with e | e | ⟨c, e, e1, e2, _⟩
      · exact Or.inl ⟨by rw [← e]; exact m2, e⟩
      · rw [e] at m2; cases m2
      · rw [e] at m2
        obtain rfl := Option.some.inj m2
        exact Or.inr ⟨e1, by omega⟩
    cases hp : pick blk k o.last with
    | none =>
      obtain ⟨g1, g2⟩ := go_none (f := f) hp
      rw [g1] at h8 ⊢
      cases hp' : pick blk' k o'.last with
      | none =>
        obtain ⟨g3, g4⟩ := go_none (f := f) hp'
        rw [g3]; omega
      | some p' =>
        rcases hsome p' hp' with ⟨e1, e2⟩ | ⟨e1, e2⟩
        · obtain ⟨m1, m2, m3⟩ := pick_mem hp'
          rw [h5] at m3
          obtain ⟨q, hq, _⟩ := pick_some m1 e1 m3
          rw [hp] at hq; cases hq
        · have := hnew p' hp' e1 e2
          omega
    | some p =>
      obtain ⟨c1, c2, c3, c4, c5, c6, c7⟩ := pick_cons hC hF (by omega) hp
      obtain ⟨m1, m2, m3⟩ := pick_mem hp
      have hs := next_stream (blk := blk) (o := o) h3 c4
      -- an own block that was changed is none that counts
      have hown : p.2 = 2 + k → p.1.used = 60 → blk' (2 + k) ≠ blk (2 + k) → n ≤ 60 * k := by
        intro e1 e2 e3
        rcases Nat.lt_or_ge (60 * k) n with hlt | hlt
        · exfalso
          rcases Nat.lt_or_ge k (n / 60) with hk | hk
          · exact e3 (h.own k hk)
          · have ek : k = n / 60 := by omega
            rcases h7 (by omega) with h7 | h7
            · rw [← ek] at h7; exact e3 h7
            · rw [go_more hp e2] at h7
              rw [e2] at hs c3
              have a1 := go_len hC hF (f := f) (k := k + 1) (o := opNext o (epK blk k o.epoch) p) (by omega) (by omega) (by rw [hs]; rfl)
              omega
        · exact hlt
      -- the turn block that is picked last is as it was
      have hturn : p.2 < 2 → p.1.used < 60 → blk' p.2 = some p.1 ∧ (openGo blk (f + 1) k o).stream.length = 60 * k + p.1.used := by
        intro e1 e2
        rw [go_stop hp e2] at h6 ⊢
        have e3 : (opNext o (epK blk k o.epoch) p).safe = p.2 := by show (if p.2 < 2 then p.2 else o.safe) = p.2; rw [if_pos e1]
        rw [e3] at h6
        exact ⟨h6.trans m2, by rw [hs, List.length_take]; omega⟩
      have hfull : p.1.used = 60 → 60 * k + 60 ≤ (openGo blk (f + 1) k o).stream.length := by
        intro e2
        rw [go_more hp e2]
        rw [e2] at hs c3
        have a1 := go_len hC hF (f := f) (k := k + 1) (o := opNext o (epK blk k o.epoch) p) (by omega) (by omega) (by rw [hs]; rfl)
        omega
      cases hp' : pick blk' k o'.last with
      | none =>
        obtain ⟨g3, g4⟩ := go_none (f := f) hp'
        rw [g3]
        have hno : blk' p.2 ≠ some p.1 := by
          intro e
          obtain ⟨q, hq, _⟩ := pick_some m1 e (by rw [← h5] at m3; exact m3)
          rw [hp'] at hq; cases hq
        rcases c7 with ⟨c7, c8⟩ | ⟨c7, c8⟩
        · exact absurd (hturn c7 c8).1 hno
        · have := hown c7 c8 (by rw [← c7, m2]; exact hno)
          omega
      | some p' =>
        rcases hsome p' hp' with ⟨e1, e2⟩ | ⟨e1, e2⟩
        · obtain ⟨d1, d2, d3, d4, d5, d6, d7⟩ := pick_cons hC' hF (by omega) hp'
          obtain ⟨n1, n2, n3⟩ := pick_mem hp'
          have hle : ChkLe p'.1 p.1 := pick_ge hp n1 e1 (by rw [h5] at n3; exact n3)
          have hs' := next_stream (blk := blk') (o := o') h4 d4
          have hback : blk' p.2 = some p.1 → p'.1.used = p.1.used := by
            intro e
            have hle2 : ChkLe p.1 p'.1 := pick_ge hp' m1 e (by rw [← h5] at m3; exact m3)
            unfold ChkLe at hle hle2
            omega
          rcases c7 with ⟨c7, c8⟩ | ⟨c7, c8⟩
          · obtain ⟨t1, t2⟩ := hturn c7 c8
            have hu := hback t1
            rw [go_stop hp' (by omega), hs', List.length_take]
            omega
          · have hf := hfull c8
            rcases d7 with ⟨d7, d8⟩ | ⟨d7, d8⟩
            · rw [go_stop hp' d8, hs', List.length_take]
              have : blk' (2 + k) ≠ blk (2 + k) := by
                intro e
                have := hback (by rw [c7, e, ← c7]; exact m2)
                omega
              have := hown c7 c8 this
              omega
            · have ep : p' = p := by
                have e3 : p'.2 = p.2 := by omega
                rw [e3, m2] at e1
                have e4 := Option.some.inj e1
                obtain ⟨p1, p2⟩ := p
                obtain ⟨q1, q2⟩ := p'
                simp only [] at e3 e4
                rw [e3, e4]
              subst ep
              rw [go_more hp c8] at h6 h7 h8 ⊢
              rw [go_more hp' c8]
              rw [c8] at hs hs' c3
              exact ih (k + 1) _ _ (by omega) (by omega) (by rw [hs]; rfl) (by rw [hs']; rfl) rfl h6 h7 h8
        · have := hnew p' hp' e1 e2
          omega
end Go.Proofs.Ytldpflijgbcbhaa.lg

/- Saving on a disk that stops, in plain terms: what is there behind a crash, and what an opening finds. No program here. -/
namespace Go.Proofs.Ytldpflijgbcbhaa.lg
open Go.RowKit

/-- all was written: base blk, now blk' -/
structure Full (blk blk' : Nat → Option Chk) (E n n' t : Nat) : Prop where
  own : ∀ k, k < n / 60 → blk' (2 + k) = blk (2 + k)
  turn : ∀ i c, i < 2 → blk' i = some c → c.index < n / 60 → blk i = some c
  new : ∀ k, n / 60 ≤ k → k < n' / 60 → ∃ c, blk' (2 + k) = some c ∧ c.epoch = E
  le : ∀ i c, blk' i = some c → c.epoch = E → 60 * c.index + c.used ≤ n'
  tail : n' % 60 ≠ 0 → t < 2 ∧ (∃ c, blk' t = some c ∧ c.epoch = E ∧ c.index = n' / 60 ∧ c.used = n' % 60) ∧ ∀ i c, i < 2 → i ≠ t → blk' i = some c → c.index = n' / 60 → c.epoch = E → c.used < n' % 60
  grew : n ≤ n' ∧ (n < n' ∨ n' % 60 ≠ 0)

theorem full_go2 {blk blk' : Nat → Option Chk} {F : List UInt8} {E n n' t : Nat} (hC' : Cons blk' F E) (hF : F.length ≤ 12000) (hn' : n' ≤ F.length) (h : Full blk blk' E n n' t) :
    ∀ f k o, k + f ≤ 256 → n' / 60 < k + f → n / 60 ≤ k → k ≤ n' / 60 → o.stream = F.take (60 * k) → o.last ≤ E → (n / 60 < k → o.last = E) →
      (openGo blk' f k o).stream = F.take n' ∧ (n' % 60 ≠ 0 → (openGo blk' f k o).safe = t) := by
  intro f
  induction f with
  | zero => intro k o _ h2 _ h4; omega
  | succ f ih =>
    intro k o h1 h2 h3 h4 h5 h6 h7
    by_cases hk : k < n' / 60
    · obtain ⟨c, hc, he⟩ := h.new k h3 hk
      obtain ⟨g1, g2⟩ := hC'.own _ c (by omega) hc
      have hp : pick blk' k o.last = some (c, 2 + k) := pick_own hC' hc (by omega) (by omega) (fun i d _ hd _ => by rw [he]; exact hC'.ep i d hd)
      rw [go_more hp g2]
      refine ih (k + 1) _ (by omega) (by omega) (by omega) (by omega) ?_ (by show c.epoch ≤ E; omega) (fun _ => he)
      have hs := next_stream (blk := blk') (o := o) (p := (c, 2 + k)) h5 (by rw [hC'.bytes _ c hc]; congr 1; omega)
      rw [hs]
      show F.take (60 * k + c.used) = _
      rw [g2]; rfl
    · obtain rfl : k = n' / 60 := by omega
      by_cases h0 : n' % 60 = 0
      · obtain ⟨hg, hg2⟩ := h.grew
        have hl : o.last = E := h7 (by omega)
        have hp : pick blk' (n' / 60) o.last = none := by
          cases hp : pick blk' (n' / 60) o.last with
          | none => rfl
          | some p =>
            obtain ⟨c1, c2, c3, c4, c5, c6, c7⟩ := pick_cons hC' hF (by omega) hp
            obtain ⟨_, m2, _⟩ := pick_mem hp
            have := h.le _ _ m2 (by omega)
            omega
        obtain ⟨q1, q2⟩ := go_none (f := f) hp
        rw [q1, h5]
        exact ⟨by congr 1; omega, fun h => absurd h0 h⟩
      · obtain ⟨ht, ⟨c, hc, he, hi, hu⟩, huq⟩ := h.tail h0
        have hgd : good (n' / 60) o.last t c = true := good_iff.2 ⟨by omega, by omega, Or.inl ht⟩
        have hcand : Cand (n' / 60) t := by unfold Cand; omega
        obtain ⟨p, hp, hle⟩ := pick_some hcand hc hgd
        obtain ⟨c1, c2, c3, c4, c5, c6, c7⟩ := pick_cons hC' hF (by omega) hp
        obtain ⟨_, m2, _⟩ := pick_mem hp
        have hpe : p.1.epoch = E := by unfold ChkLe at hle; omega
        have hpl := h.le _ _ m2 hpe
        have hpu : p.1.used = n' % 60 := by unfold ChkLe at hle; omega
        have hpt : p.2 = t := by
          by_cases e : p.2 = t
          · exact e
          · have := huq p.2 p.1 (by omega) e m2 c1 hpe
            omega
        have hs := next_stream (blk := blk') (o := o) h5 c4
        rw [go_stop hp (by omega)]
        refine ⟨by rw [hs]; congr 1; omega, fun _ => ?_⟩
        show (if p.2 < 2 then p.2 else o.safe) = t
        rw [hpt, if_pos ht]
theorem full_go {blk blk' : Nat → Option Chk} {F : List UInt8} {E n n' t : Nat} (hC : Cons blk F E) (hC' : Cons blk' F E) (hF : F.length ≤ 12000) (hn' : n' ≤ F.length) (h : Full blk blk' E n n' t) :
    ∀ f k o o', k + f ≤ 256 → n' / 60 < k + f → k ≤ n / 60 → o.stream = F.take (60 * k) → o'.stream = F.take (60 * k) → o'.last = o.last → o.last ≤ E → n ≤ (openGo blk f k o).stream.length →
      (openGo blk' f k o').stream = F.take n' ∧ (n' % 60 ≠ 0 → (openGo blk' f k o').safe = t) := by
  intro f
  induction f with
  | zero => intro k o o' _ h2 h3; have := h.grew.1; omega
  | succ f ih =>
    intro k o o' h1 h2 h3 h4 h5 h6 h7 h8
    have hng := h.grew.1
    by_cases hk : k < n / 60
    · have hl4 : o.stream.length = 60 * k := by rw [h4, List.length_take]; omega
      cases hp : pick blk k o.last with
      | none =>
        obtain ⟨g1, _⟩ := go_none (f := f) hp
        rw [g1] at h8; omega
      | some p =>
        obtain ⟨c1, c2, c3, c4, c5, c6, c7⟩ := pick_cons hC hF (by omega) hp
        obtain ⟨_, m2, m3⟩ := pick_mem hp
        have hs := next_stream (blk := blk) (o := o) h4 c4
        have hu : p.1.used = 60 ∧ p.2 = 2 + k := by
          rcases c7 with ⟨e1, e2⟩ | ⟨e1, e2⟩
          · rw [go_stop hp e2, hs, List.length_take] at h8; omega
          · exact ⟨e2, e1⟩
        have hcb : blk (2 + k) = some p.1 := by rw [← hu.2]; exact m2
        have hcb' : blk' (2 + k) = some p.1 := by rw [h.own k hk]; exact hcb
        have hp' : pick blk' k o'.last = some (p.1, 2 + k) := pick_own hC' hcb' (by omega) (by omega) (fun i d hi hd hg => by
          obtain ⟨q1, q2, q3⟩ := good_iff.1 hg
          have hde : d.index = k := by have := hC'.len i d hd; omega
          have hbi := h.turn i d hi hd (by omega)
          have hle : ChkLe d p.1 := pick_ge hp (by unfold Cand; omega) hbi (good_iff.2 ⟨by omega, by omega, Or.inl hi⟩)
          unfold ChkLe at hle
          omega)
        rw [go_more hp hu.1] at h8
        rw [go_more hp' hu.1]
        have hs' := next_stream (blk := blk') (o := o') (p := (p.1, 2 + k)) h5 c4
        rw [hu.1] at hs
        refine ih (k + 1) (opNext o (epK blk k o.epoch) p) (opNext o' (epK blk' k o'.epoch) (p.1, 2 + k)) (by omega) (by omega) (by omega) (by rw [hs]; rfl) ?_ rfl c6 h8
        rw [hs']
        show F.take (60 * k + p.1.used) = _
        rw [hu.1]; rfl
    · obtain rfl : k = n / 60 := by omega
      exact full_go2 hC' hF hn' h (f + 1) (n / 60) o' h1 h2 (Nat.le_refl _) (by omega) h5 (by omega) (fun h => absurd h (Nat.lt_irrefl _))

/-! a disk of 150 blocks on which a log is written -/
def blkD (l : List (Option (List UInt8))) : Nat → Option Chk := blkOf l 0 150
/-- a chunk that is written while records are appended -/
structure Wr (F : List UInt8) (E n n' sf at_ : Nat) (c : Chk) : Prop where
  ep : c.epoch = E
  ge : n ≤ 60 * c.index + c.used
  le : 60 * c.index + c.used ≤ n'
  bytes : c.bytes = chunkOf F c.index c.used
  pos : 0 < c.used
  ne : at_ ≠ sf
  turn : at_ < 2 → c.used < 60
  own : 2 ≤ at_ → c.index = at_ - 2 ∧ c.used = 60 ∧ n / 60 ≤ at_ - 2
theorem Wr.mono {F : List UInt8} {E n n' n2 sf at_ : Nat} {c : Chk} (h : Wr F E n n' sf at_ c) (hn : n' ≤ n2) : Wr F E n n2 sf at_ c := ⟨h.ep, h.ge, Nat.le_trans h.le hn, h.bytes, h.pos, h.ne, h.turn, h.own⟩
/-- the disk while records are appended: what is safe, what was written since -/
structure Mid (F : List UInt8) (blkS : Nat → Option Chk) (E n n' sf : Nat) (M : DiskM) : Prop where
  lenN : M.now.length = 150
  lenS : M.safe.length = 150
  safe : blkD M.safe = blkS
  since : ∀ p ∈ M.since, p.1 < 150 ∧ ∃ c, chkOf (some p.2) = some c ∧ Wr F E n n' sf p.1 c
  now : ∀ i, blkD M.now i = blkS i ∨ ∃ c, blkD M.now i = some c ∧ Wr F E n n' sf i c
theorem Mid.start {F : List UInt8} {E n sf : Nat} {M : DiskM} (h1 : M.now.length = 150) (h2 : M.safe = M.now) (h3 : M.since = []) : Mid F (blkD M.now) E n n sf M :=
  ⟨h1, by rw [h2]; exact h1, by rw [h2], fun p hp => (by rw [h3] at hp; cases hp), fun i => Or.inl rfl⟩
theorem Mid.mono {F : List UInt8} {blkS : Nat → Option Chk} {E n n' n2 sf : Nat} {M : DiskM} (h : Mid F blkS E n n' sf M) (hn : n' ≤ n2) : Mid F blkS E n n2 sf M :=
  ⟨h.lenN, h.lenS, h.safe, fun p hp => by obtain ⟨g1, c, g2, g3⟩ := h.since p hp; exact ⟨g1, c, g2, g3.mono hn⟩, fun i => (h.now i).imp id (fun ⟨c, g1, g2⟩ => ⟨c, g1, g2.mono hn⟩)⟩
theorem blkD_set {l : List (Option (List UInt8))} {a : Nat} {b : Option (List UInt8)} (h1 : a < 150) (h2 : l.length = 150) : blkD (l.set a b) = fun i => if i = a then chkOf b else blkD l i := by
  have := blk_set (now := l) (fr := 0) (mn := 150) (b := b) h1 (by omega)
  rw [Nat.zero_add] at this
  exact this
theorem Mid.write {F : List UInt8} {blkS : Nat → Option Chk} {E n n' sf a : Nat} {M : DiskM} {l : List UInt8} {c : Chk} (h : Mid F blkS E n n' sf M) (ha : a < 150) (hc : chkOf (some (padTo l)) = some c) (hw : Wr F E n n' sf a c) : Mid F blkS E n n' sf (M.write a l) := by
  refine ⟨by simp [DiskM.write, h.lenN], h.lenS, h.safe, fun p hp => ?_, fun i => ?_⟩
  · rcases List.mem_append.1 hp with hp | hp
    · exact h.since p hp
    · rw [List.mem_singleton.1 hp]; exact ⟨ha, c, hc, hw⟩
  · have e : blkD (M.write a l).now i = if i = a then chkOf (some (padTo l)) else blkD M.now i := by
      show blkD (M.now.set a (some (padTo l))) i = _
      rw [blkD_set ha h.lenN]
    rw [e]
    by_cases hi : i = a
    · rw [if_pos hi, hc]
      exact Or.inr ⟨c, rfl, by rw [hi]; exact hw⟩
    · rw [if_neg hi]
      exact h.now i
/-- what a crash leaves, block by block -/
theorem Mid.crash {F : List UInt8} {blkS : Nat → Option Chk} {E n n' sf : Nat} {M : DiskM} (h : Mid F blkS E n n' sf M) (keep : List Int) (torn : Int) :
    (M.crash keep torn).now.length = 150 ∧ ∀ i, blkD (M.crash keep torn).now i = blkS i ∨ ∃ c, Wr F E n n' sf i c ∧ (blkD (M.crash keep torn).now i = none ∨ blkD (M.crash keep torn).now i = some c) := by
  refine ⟨by show (crashTo _ _ _ _ _).length = 150; rw [crashTo_len]; exact h.lenS, ?_⟩
  show ∀ i, blkD (crashTo M.since keep torn M.safe M.since.length) i = _ ∨ ∃ c, Wr F E n n' sf i c ∧ (blkD (crashTo M.since keep torn M.safe M.since.length) i = none ∨ blkD (crashTo M.since keep torn M.safe M.since.length) i = some c)
  generalize M.since.length = k
  induction k with
  | zero => intro i; left; show blkD M.safe i = _; rw [h.safe]
  | succ k ih =>
    cases hp : M.since[k]? with
    | none =>
      have e : crashTo M.since keep torn M.safe (k + 1) = crashTo M.since keep torn M.safe k := by rw [crashTo, hp]
      rw [e]; exact ih
    | some p =>
      cases hm : memB keep (k : Int) with
      | false => rw [crashTo_no hp hm]; exact ih
      | true =>
        rw [crashTo_yes hp hm]
        obtain ⟨g1, c, g2, g3⟩ := h.since p (List.mem_of_getElem? hp)
        have hl : (crashTo M.since keep torn M.safe k).length = 150 := by rw [crashTo_len]; exact h.lenS
        intro i
        rw [blkD_set g1 hl]
        by_cases hi : i = p.1
        · subst hi
          simp only [if_true]
          right
          refine ⟨c, g3, ?_⟩
          by_cases ht : (k : Int) = torn
          · rw [if_pos ht]; exact Or.inl rfl
          · rw [if_neg ht]; exact Or.inr g2
        · simp only [if_neg hi]; exact ih i

/-- what is safe, and how it is opened -/
structure Bse (F : List UInt8) (blkS : Nat → Option Chk) (E n sf : Nat) (bare : Bool) : Prop where
  cons : Cons blkS F E
  old : ∀ i c, blkS i = some c → c.epoch = E → 60 * c.index + c.used ≤ n
  sf : (openGo blkS 152 0 op0).safe = sf
  ge : n ≤ (openGo blkS 152 0 op0).stream.length
  flat : bare = false → n % 60 ≠ 0 → (openGo blkS 152 0 op0).stream.length / 60 = n / 60
  fresh : bare = true → ∀ i c, blkS i = some c → c.epoch < E
theorem cons_of {F : List UInt8} {blkS blk' : Nat → Option Chk} {E n n' sf : Nat} (hC : Cons blkS F E) (hn' : n' ≤ F.length) (h : ∀ i, blk' i = blkS i ∨ ∃ c, Wr F E n n' sf i c ∧ (blk' i = none ∨ blk' i = some c)) : Cons blk' F E := by
  have key : ∀ i c, blk' i = some c → blkS i = some c ∨ Wr F E n n' sf i c := by
    intro i c hc
    rcases h i with h1 | ⟨d, h1, h2 | h2⟩
    · left; rw [← h1]; exact hc
    · rw [h2] at hc; cases hc
    · rw [h2] at hc; obtain rfl := Option.some.inj hc; exact Or.inr h1
  refine ⟨fun i c hc => ?_, fun i c hc => ?_, fun i c hc => ?_, fun i c hc => ?_, fun i c hi hc => ?_, fun i c hi hc => ?_⟩
  · rcases key i c hc with h | h
    · exact hC.len i c h
    · have := h.le; omega
  · rcases key i c hc with h | h
    · exact hC.bytes i c h
    · exact h.bytes
  · rcases key i c hc with h | h
    · exact hC.ep i c h
    · exact Nat.le_of_eq h.ep
  · rcases key i c hc with h | h
    · exact hC.pos i c h
    · exact h.pos
  · rcases key i c hc with h | h
    · exact hC.turn i c hi h
    · exact h.turn hi
  · rcases key i c hc with h | h
    · exact hC.own i c hi h
    · have := h.own hi; exact ⟨this.1, this.2.1⟩
theorem Mid.cons {F : List UInt8} {blkS : Nat → Option Chk} {E n n' sf : Nat} {M : DiskM} (h : Mid F blkS E n n' sf M) (hC : Cons blkS F E) (hn' : n' ≤ F.length) : Cons (blkD M.now) F E :=
  cons_of hC hn' (fun i => (h.now i).imp id (fun ⟨c, g1, g2⟩ => ⟨c, g2, Or.inr g1⟩))
/-- behind a crash -/
theorem crashed_len {F : List UInt8} {blkS : Nat → Option Chk} {E n n' sf : Nat} {bare : Bool} {M : DiskM} (hB : Bse F blkS E n sf bare) (h : Mid F blkS E n n' sf M) (hF : F.length ≤ 12000) (hn' : n' ≤ F.length) (hnn : n ≤ n') (hb : bare = false ∨ n' = n) (keep : List Int) (torn : Int) :
    (M.crash keep torn).now.length = 150 ∧ Cons (blkD (M.crash keep torn).now) F E ∧ n ≤ (openGo (blkD (M.crash keep torn).now) 152 0 op0).stream.length ∧ (openGo (blkD (M.crash keep torn).now) 152 0 op0).stream.length ≤ max (openGo blkS 152 0 op0).stream.length n' := by
  obtain ⟨h1, h2⟩ := h.crash keep torn
  generalize blkD (M.crash keep torn).now = blk' at *
  have hC' := cons_of hB.cons hn' h2
  have hCr : Crashed blkS blk' E n n' := by
    refine ⟨fun i => ?_, fun k hk => ?_, fun i c hc he => Nat.le_trans (hB.old i c hc he) hnn⟩
    · rcases h2 i with g | ⟨c, g1, g | g⟩
      · exact Or.inl g
      · exact Or.inr (Or.inl g)
      · exact Or.inr (Or.inr ⟨c, g, g1.ep, g1.ge, g1.le⟩)
    · rcases h2 (2 + k) with g | ⟨c, g1, _⟩
      · exact g
      · have := (g1.own (by omega)).2.2; omega
  have hsf : blk' (openGo blkS 152 0 op0).safe = blkS (openGo blkS 152 0 op0).safe := by
    rw [hB.sf]
    rcases h2 sf with g | ⟨c, g1, _⟩
    · exact g
    · exact absurd rfl g1.ne
  have hfl : n % 60 ≠ 0 → blk' (2 + n / 60) = blkS (2 + n / 60) ∨ (openGo blkS 152 0 op0).stream.length / 60 = n / 60 := by
    intro h0
    rcases hb with hb | hb
    · exact Or.inr (hB.flat hb h0)
    · left
      rcases h2 (2 + n / 60) with g | ⟨c, g1, _⟩
      · exact g
      · have a1 := g1.own (by omega)
        have a2 := g1.le
        omega
  obtain ⟨g1, g2⟩ := crash_go hB.cons hC' hF hCr 152 0 op0 op0 (by omega) (by omega) (by simp [op0]) (by simp [op0]) rfl hsf hfl hB.ge
  exact ⟨h1, hC', g1, g2⟩

/-- all chunks up to n' were written -/
structure Grown (blkN : Nat → Option Chk) (E n n' sf : Nat) : Prop where
  new : ∀ k, n / 60 ≤ k → k < n' / 60 → ∃ c, blkN (2 + k) = some c ∧ c.epoch = E
  tail : n' % 60 ≠ 0 → n < n' → ∃ c, blkN (1 - sf) = some c ∧ c.epoch = E ∧ c.index = n' / 60 ∧ c.used = n' % 60
theorem Grown.start (blkN : Nat → Option Chk) (E n sf : Nat) : Grown blkN E n n sf := ⟨fun k h1 h2 => by omega, fun _ h => absurd h (Nat.lt_irrefl _)⟩
theorem mid_full {F : List UInt8} {blkS : Nat → Option Chk} {E n n' sf : Nat} {bare : Bool} {M : DiskM} (hB : Bse F blkS E n sf bare) (h : Mid F blkS E n n' sf M) (hnn : n < n') (hsf : sf < 2) (hg : Grown (blkD M.now) E n n' sf) : Full blkS (blkD M.now) E n n' (1 - sf) := by
  refine ⟨fun k hk => ?_, fun i c hi hc hk => ?_, hg.new, fun i c hc he => ?_, fun h0 => ⟨by omega, hg.tail h0 hnn, fun i c hi hne hc hci he => ?_⟩, Nat.le_of_lt hnn, Or.inl hnn⟩
  · rcases h.now (2 + k) with g | ⟨c, _, g⟩
    · exact g
    · have := (g.own (by omega)).2.2; omega
  · rcases h.now i with g | ⟨d, g1, g⟩
    · rw [← g]; exact hc
    · rw [g1] at hc; obtain rfl := Option.some.inj hc
      have a1 := g.ge; have a2 := g.turn hi; omega
  · rcases h.now i with g | ⟨d, g1, g⟩
    · have := hB.old i c (by rw [← g]; exact hc) he; omega
    · rw [g1] at hc; obtain rfl := Option.some.inj hc; exact g.le
  · have e : i = sf := by omega
    subst e
    rcases h.now i with g | ⟨d, g1, g⟩
    · have := hB.old i c (by rw [← g]; exact hc) he; omega
    · exact absurd rfl g.ne
theorem mid_len {F : List UInt8} {blkS : Nat → Option Chk} {E n n' sf : Nat} {bare : Bool} {M : DiskM} (hB : Bse F blkS E n sf bare) (h : Mid F blkS E n n' sf M) (hF : F.length ≤ 12000) (hn' : n' ≤ F.length) (hn2 : n' ≤ 8880) (hf : Full blkS (blkD M.now) E n n' (1 - sf)) :
    (openGo (blkD M.now) 152 0 op0).stream = F.take n' ∧ (n' % 60 ≠ 0 → (openGo (blkD M.now) 152 0 op0).safe = 1 - sf) :=
  full_go hB.cons (h.cons hB.cons hn') hF hn' hf 152 0 op0 op0 (by omega) (by omega) (by omega) (by simp [op0]) (by simp [op0]) rfl (Nat.zero_le _) hB.ge

/-! appending, as far as the disk goes -/
theorem wr_zero {M : DiskM} {a : Nat} {l : List UInt8} (h : M.wcode (a : Int) l.length = 0) : M.wr (a : Int) l = M.write a l := by
  rw [DiskM.wr, if_pos h, Int.toNat_natCast]
theorem wr_not {M : DiskM} {a : Int} {l : List UInt8} (h : M.wcode a l.length ≠ 0) : M.wr a l = M := by
  rw [DiskM.wr, if_neg h]
theorem take_len {F : List UInt8} {n : Nat} (h : n ≤ F.length) : (F.take n).length = n := by rw [List.length_take]; omega
theorem chunk_take {F : List UInt8} {n k u : Nat} (h : 60 * k + u ≤ n) : chunkOf (F.take n) k u = chunkOf F k u := by
  unfold chunkOf
  rw [List.drop_take, List.take_take, Nat.min_eq_left (by omega)]
/-- a chunk that is put -/
theorem put_wr {F : List UInt8} {E n n2 sf k : Nat} {L : LogS} (hs : L.stream = F.take n2) (hn2 : n2 ≤ F.length) (hr : n2 ≤ 8880) (hE : L.epoch = E) (hE2 : E < 65536) (hsf : L.safe = sf) (hsf2 : sf < 2) (hk : 60 * k < n2) (hnk : n / 60 ≤ k) (hn : n ≤ 60 * k + min 60 (n2 - 60 * k)) :
    0 + putAt L.stream (1 - L.safe) k < 150 ∧ ∃ c, chkOf (some (padTo (putBytes L.stream L.epoch k))) = some c ∧ c.epoch = E ∧ c.index = k ∧ c.used = min 60 (n2 - 60 * k) ∧ Wr F E n n2 sf (0 + putAt L.stream (1 - L.safe) k) c := by
  have hl : L.stream.length = n2 := by rw [hs]; exact take_len hn2
  have hc := chk_put (s := L.stream) (E := L.epoch) (k := k) (by omega) (by omega)
  rw [hl] at hc
  have hat : 0 + putAt L.stream (1 - L.safe) k = if n2 < 60 * k + 60 then 1 - sf else 2 + k := by unfold putAt; rw [hl, hsf, Nat.zero_add]
  refine ⟨by rw [hat]; split <;> omega, _, hc, hE, rfl, rfl, hE, hn, ?_, ?_, ?_, ?_, ?_, ?_⟩
  · show 60 * k + min 60 (n2 - 60 * k) ≤ n2
    omega
  · show chunkOf L.stream k 60 = chunkOf F k (min 60 (n2 - 60 * k))
    rw [chunkOf_min, hl, hs, chunk_take (by omega)]
  · show 0 < min 60 (n2 - 60 * k)
    omega
  · rw [hat]; split <;> omega
  · intro h
    rw [hat] at h
    show min 60 (n2 - 60 * k) < 60
    split at h <;> omega
  · intro h
    rw [hat] at h ⊢
    show k = _ ∧ min 60 (n2 - 60 * k) = 60 ∧ n / 60 ≤ _
    split at h <;> rename_i h'
    · omega
    · rw [if_neg h']; omega
theorem puts_mid {F : List UInt8} {blkS : Nat → Option Chk} {E n n1 n2 sf : Nat} {L : LogS} (hs : L.stream = F.take n2) (hn2 : n2 ≤ F.length) (hr : n2 ≤ 8880) (hE : L.epoch = E) (hE2 : E < 65536) (hsf : L.safe = sf) (hsf2 : sf < 2) (hn : n ≤ n1) (hn1 : n1 < n2) :
    ∀ m k M, n1 / 60 ≤ k → k + m = (n2 + 59) / 60 → Mid F blkS E n n2 sf M → (∀ j, n / 60 ≤ j → j < k → j < n2 / 60 → ∃ c, blkD M.now (2 + j) = some c ∧ c.epoch = E) →
      (n2 / 60 < k → n2 % 60 ≠ 0 → ∃ c, blkD M.now (1 - sf) = some c ∧ c.epoch = E ∧ c.index = n2 / 60 ∧ c.used = n2 % 60) →
      Mid F blkS E n n2 sf (putsR M 0 L k m).1 ∧ ((putsR M 0 L k m).2 = 0 → Grown (blkD (putsR M 0 L k m).1.now) E n n2 sf) ∧ (putsR M 0 L k m).1.stop = M.stop ∧ (Free M → (putsR M 0 L k m).2 = 0) := by
  intro m
  induction m with
  | zero =>
    intro k M h1 h2 h3 h4 h5
    exact ⟨h3, fun _ => ⟨fun j a b => h4 j a (by omega) b, fun a _ => h5 (by omega) a⟩, rfl, fun _ => rfl⟩
  | succ m ih =>
    intro k M h1 h2 h3 h4 h5
    obtain ⟨g1, c, g2, g3, g4, g5, g6⟩ := put_wr (n := n) hs hn2 hr hE hE2 hsf hsf2 (k := k) (by omega) (by omega) (by omega)
    simp only [putsR]
    by_cases hc : putC M 0 L k = 0
    · rw [if_pos hc]
      have hat : 0 + putAt L.stream (1 - L.safe) k = if n2 < 60 * k + 60 then 1 - sf else 2 + k := by unfold putAt; rw [hs, take_len hn2, hsf, Nat.zero_add]
      have e : putM M 0 L k = M.write (0 + putAt L.stream (1 - L.safe) k) (putBytes L.stream L.epoch k) := wr_zero hc
      have hm := h3.write g1 g2 g6
      have hb : ∀ i, blkD (putM M 0 L k).now i = if i = (if n2 < 60 * k + 60 then 1 - sf else 2 + k) then some c else blkD M.now i := by
        intro i
        rw [e, ← hat, ← g2]
        show blkD (M.now.set _ _) i = _
        rw [blkD_set g1 h3.lenN]
      rw [← e] at hm
      have hst : (putM M 0 L k).stop = M.stop := by rw [e]; rfl
      have := ih (k + 1) (putM M 0 L k) (by omega) (by omega) hm (fun j a b d => ?_) (fun a b => ?_)
      · exact ⟨this.1, this.2.1, this.2.2.1.trans hst, fun hf => this.2.2.2 (hst.trans hf)⟩
      · rw [hb]
        by_cases hj : j = k
        · subst hj
          rw [if_neg (show ¬ n2 < 60 * j + 60 by omega), if_pos rfl]
          exact ⟨c, rfl, g3⟩
        · rw [if_neg (by split <;> omega)]
          exact h4 j a (by omega) d
      · have hk : k = n2 / 60 := by omega
        rw [hb, if_pos (show n2 < 60 * k + 60 by omega), if_pos rfl]
        exact ⟨c, rfl, g3, by omega, by omega⟩
    · rw [if_neg hc]
      have e : putM M 0 L k = M := wr_not hc
      rw [e]
      exact ⟨h3, fun h => absurd h hc, rfl, fun hf => absurd (hf.wcode (by rw [h3.lenN]; exact g1) (putBytes_len _ _ _)) hc⟩

/-- the disk and the log between two records -/
structure App (F : List UInt8) (blkS : Nat → Option Chk) (E n n1 sf : Nat) (M : DiskM) (L : LogS) : Prop where
  bse : Bse F blkS E n sf L.bare
  mid : Mid F blkS E n n1 sf M
  grown : Grown (blkD M.now) E n n1 sf
  str : L.stream = F.take n1
  le : n ≤ n1 ∧ n1 ≤ F.length ∧ n1 ≤ 8880
  ep : L.epoch = E ∧ E < 65536
  saf : L.safe = sf ∧ sf < 2
  first : L.bare = true → n1 = n ∧ M.safe = M.now ∧ M.since = [] ∧ n % 60 ≠ 0
/-- an append failed, or the last flush -/
def Fell (F : List UInt8) (blkS : Nat → Option Chk) (E n N : Nat) (M : DiskM) : Prop :=
  ∃ blk1 sf1 bare1 n2, Bse F blk1 E n sf1 bare1 ∧ Mid F blk1 E n n2 sf1 M ∧ (bare1 = false ∨ n2 = n) ∧ n ≤ n2 ∧ n2 ≤ N ∧ (openGo blk1 152 0 op0).stream.length ≤ (openGo blkS 152 0 op0).stream.length
theorem Fell.more {F : List UInt8} {blkS blk0 : Nat → Option Chk} {E n N N' : Nat} {M : DiskM} (h : Fell F blkS E n N M) (hN : N ≤ N') (hl : (openGo blkS 152 0 op0).stream.length ≤ (openGo blk0 152 0 op0).stream.length) : Fell F blk0 E n N' M := by
  obtain ⟨a, b, c, d, h1, h2, h3, h4, h5, h6⟩ := h
  exact ⟨a, b, c, d, h1, h2, h3, h4, Nat.le_trans h5 hN, Nat.le_trans h6 hl⟩
theorem Mid.flushed {F : List UInt8} {blkS : Nat → Option Chk} {E n n' sf E2 m sf2 : Nat} {M : DiskM} (h : Mid F blkS E n n' sf M) : Mid F (blkD M.flush.now) E2 m m sf2 M.flush := Mid.start h.lenN rfl rfl
/-- what is safe is put where the last chunk belongs -/
theorem bare_app {F : List UInt8} {blkS : Nat → Option Chk} {E n n1 sf : Nat} {M : DiskM} {L : LogS} (hF : F.length ≤ 12000) (h : App F blkS E n n1 sf M L) :
    ((bareR M 0 L).2 = 0 → ∃ blk1 sf1, App F blk1 E n n1 sf1 (bareR M 0 L).1 L.bared ∧ L.bared.bare = false ∧ (openGo blk1 152 0 op0).stream.length ≤ (openGo blkS 152 0 op0).stream.length) ∧
      ((bareR M 0 L).2 ≠ 0 → Fell F blkS E n n1 (bareR M 0 L).1) ∧ (bareR M 0 L).1.stop = M.stop ∧ (Free M → (bareR M 0 L).2 = 0) := by
  cases hb : L.bare with
  | false =>
    have e1 : bareR M 0 L = (M, 0) := by unfold bareR; rw [hb, if_neg (by simp)]
    have e2 : L.bared = L := by unfold LogS.bared; rw [hb, if_neg (by simp)]
    rw [e1, e2]
    exact ⟨fun _ => ⟨blkS, sf, h, hb, Nat.le_refl _⟩, fun h => absurd rfl h, rfl, fun _ => rfl⟩
  | true =>
    obtain ⟨rfl, hsn, hsi, h60⟩ := h.first hb
    have hbse := h.bse
    rw [hb] at hbse
    obtain ⟨hle1, hle2, hle3⟩ := h.le
    obtain ⟨hE, hE2⟩ := h.ep
    obtain ⟨hsf, hsf2⟩ := h.saf
    have hl : L.stream.length = n1 := by rw [h.str]; exact take_len hle2
    have e2 : L.bared = { L with safe := 1 - L.safe, bare := false } := by unfold LogS.bared; rw [hb, if_pos rfl]
    have e1 : bareR M 0 L = if putC M 0 L (n1 / 60) = 0 then ((putM M 0 L (n1 / 60)).fl, (putM M 0 L (n1 / 60)).fcode) else (putM M 0 L (n1 / 60), putC M 0 L (n1 / 60)) := by
      unfold bareR; rw [hb, if_pos rfl, hl]
    have hmid := h.mid
    obtain ⟨g1, c, g2, g3, g4, g5, g6⟩ := put_wr (n := n1) h.str hle2 hle3 hE hE2 hsf hsf2 (k := n1 / 60) (by omega) (Nat.le_refl _) (by omega)
    by_cases hc : putC M 0 L (n1 / 60) = 0
    · rw [if_pos hc] at e1
      have hat : 0 + putAt L.stream (1 - L.safe) (n1 / 60) = 1 - sf := by unfold putAt; rw [hl, hsf, Nat.zero_add, if_pos (by omega)]
      have e : putM M 0 L (n1 / 60) = M.write (0 + putAt L.stream (1 - L.safe) (n1 / 60)) (putBytes L.stream L.epoch (n1 / 60)) := wr_zero hc
      have hm := hmid.write g1 g2 g6
      have hbk : blkD (putM M 0 L (n1 / 60)).now (1 - sf) = some c := by
        rw [e, ← hat, ← g2]
        show blkD (M.now.set _ _) _ = _
        rw [blkD_set g1 hmid.lenN]
        exact if_pos rfl
      rw [← e] at hm
      have hst : (putM M 0 L (n1 / 60)).stop = M.stop := by rw [e]; rfl
      generalize putM M 0 L (n1 / 60) = M2 at *
      rw [e1]
      simp only []
      by_cases hs : M2.stopped = true
      · have f1 : M2.fl = M2 := by rw [DiskM.fl, if_pos hs]
        have f2 : M2.fcode = 7 := by rw [DiskM.fcode, if_pos hs]
        rw [f1, f2]
        exact ⟨fun h => (by cases h), fun _ => ⟨blkS, sf, true, n1, hbse, hm, Or.inr rfl, Nat.le_refl _, Nat.le_refl _, Nat.le_refl _⟩, hst, fun hf => absurd hs (by rw [Free.stopped (M := M2) (hst.trans hf)]; simp)⟩
      · have f1 : M2.fl = M2.flush := by rw [DiskM.fl, if_neg hs]
        have f2 : M2.fcode = 0 := by rw [DiskM.fcode, if_neg hs]
        rw [f1, f2]
        refine ⟨fun _ => ?_, fun h => absurd rfl h, hst, fun _ => rfl⟩
        have hC' := hm.cons hbse.cons hle2
        have hfull : Full blkS (blkD M2.now) E n1 n1 (1 - sf) := by
          refine ⟨fun k hk => ?_, fun i d hi hd hk => ?_, fun k a b => by omega, fun i d hd he => ?_, fun h0 => ⟨by omega, ⟨c, hbk, g3, g4, by omega⟩, fun i d hi hne hd hdi he => ?_⟩, Nat.le_refl _, Or.inr h60⟩
          · rcases hm.now (2 + k) with g | ⟨d, _, g⟩
            · exact g
            · have := (g.own (by omega)).2.2; omega
          · rcases hm.now i with g | ⟨d', a1, g⟩
            · rw [← g]; exact hd
            · rw [a1] at hd; obtain rfl := Option.some.inj hd
              have a1 := g.ge; have a2 := g.turn hi; omega
          · rcases hm.now i with g | ⟨d', a1, g⟩
            · have := hbse.fresh rfl i d (by rw [← g]; exact hd); omega
            · rw [a1] at hd; obtain rfl := Option.some.inj hd; exact g.le
          · have ei : i = sf := by omega
            subst ei
            rcases hm.now i with g | ⟨d', a1, g⟩
            · have := hbse.fresh rfl i d (by rw [← g]; exact hd); omega
            · exact absurd rfl g.ne
        obtain ⟨q1, q2⟩ := mid_len hbse hm hF hle2 hle3 hfull
        have q3 := q2 h60
        have q4 : (openGo (blkD M2.now) 152 0 op0).stream.length = n1 := by rw [q1]; exact take_len hle2
        refine ⟨blkD M2.flush.now, 1 - sf, ⟨?_, Mid.flushed hm, Grown.start _ _ _ _, ?_, h.le, ?_, ?_, ?_⟩, by rw [e2], ?_⟩
        · rw [e2]
          exact ⟨hC', fun i d hd he => by
            rcases hm.now i with g | ⟨d', a1, g⟩
            · have hd' : blkS i = some d := by rw [← g]; exact hd
              have := hbse.fresh rfl i d hd'; omega
            · have hd' : blkD M2.now i = some d := hd
              rw [a1] at hd'; obtain rfl := Option.some.inj hd'; exact g.le, q3, Nat.le_of_eq q4.symm, fun _ _ => by show (openGo (blkD M2.now) 152 0 op0).stream.length / 60 = _; rw [q4], fun h => by cases h⟩
        · rw [e2]; exact h.str
        · rw [e2]; exact h.ep
        · rw [e2]; exact ⟨by show 1 - L.safe = _; rw [hsf], by omega⟩
        · rw [e2]; intro h; cases h
        · show (openGo (blkD M2.now) 152 0 op0).stream.length ≤ _
          rw [q4]; exact hbse.ge
    · rw [if_neg hc] at e1
      have e : putM M 0 L (n1 / 60) = M := wr_not hc
      rw [e] at e1
      rw [e1]
      exact ⟨fun h => absurd h hc, fun _ => ⟨blkS, sf, true, n1, hbse, hmid, Or.inr rfl, Nat.le_refl _, Nat.le_refl _, Nat.le_refl _⟩, rfl, fun hf => absurd (hf.wcode (by rw [hmid.lenN]; exact g1) (putBytes_len _ _ _)) hc⟩
theorem app_step {F : List UInt8} {blkS : Nat → Option Chk} {E n n1 n2 sf : Nat} {M : DiskM} {L : LogS} {b : List UInt8} (hF : F.length ≤ 12000) (h : App F blkS E n n1 sf M L) (hb : F.take n1 ++ enc1 b = F.take n2) (hn2 : n2 ≤ F.length) (hr : n2 ≤ 8880) :
    ((appR M 0 L b).2 = 0 → ∃ blk1 sf1, App F blk1 E n n2 sf1 (appR M 0 L b).1 (L.bared.add b) ∧ (openGo blk1 152 0 op0).stream.length ≤ (openGo blkS 152 0 op0).stream.length) ∧
      ((appR M 0 L b).2 ≠ 0 → Fell F blkS E n n2 (appR M 0 L b).1) ∧ (appR M 0 L b).1.stop = M.stop ∧ n1 < n2 ∧ (Free M → (appR M 0 L b).2 = 0) := by
  obtain ⟨k1, k2, k3, k4⟩ := bare_app hF h
  obtain ⟨hle1, hle2, hle3⟩ := h.le
  have hlen : n2 = n1 + (b.length + 2) := by
    have := congrArg List.length hb
    rw [List.length_append, take_len hle2, take_len hn2, enc1_len] at this
    exact this.symm
  have hbst : L.bared.stream = L.stream := by unfold LogS.bared; split <;> rfl
  by_cases hc : (bareR M 0 L).2 = 0
  · have e : appR M 0 L b = putsR (bareR M 0 L).1 0 (L.bared.add b) (L.stream.length / 60) (chunks L.stream (enc1 b)) := by unfold appR; rw [if_pos hc]
    obtain ⟨blk1, sf1, ha, hba, hl⟩ := k1 hc
    have hst : (L.bared.add b).stream = F.take n2 := by show L.bared.stream ++ enc1 b = _; rw [hbst, h.str, hb]
    have hl1 : L.stream.length = n1 := by rw [h.str]; exact take_len hle2
    have hch : n1 / 60 + chunks L.stream (enc1 b) = (n2 + 59) / 60 := by
      unfold chunks
      rw [List.length_append, hl1, enc1_len]; omega
    have hp := puts_mid (blkS := blk1) (E := E) (n := n) (n1 := n1) (n2 := n2) (sf := sf1) hst hn2 hr ha.ep.1 ha.ep.2 ha.saf.1 ha.saf.2 hle1 (by omega) (chunks L.stream (enc1 b)) (n1 / 60) (bareR M 0 L).1 (Nat.le_refl _) hch (ha.mid.mono (by omega)) (fun j a b' _ => ha.grown.new j a b') (fun a _ => by omega)
    rw [← hl1] at hp
    rw [← e] at hp
    obtain ⟨p1, p2, p3, p4⟩ := hp
    refine ⟨fun h0 => ⟨blk1, sf1, ⟨?_, p1, p2 h0, hst, ⟨by omega, hn2, hr⟩, ha.ep, ha.saf, ?_⟩, hl⟩, fun h0 => ⟨blk1, sf1, L.bared.bare, n2, ha.bse, p1, Or.inl hba, by omega, Nat.le_refl _, hl⟩, p3.trans k3, by omega, fun hf => p4 (k3.trans hf)⟩
    · show Bse F blk1 E n sf1 L.bared.bare
      exact ha.bse
    · intro h9
      have : L.bared.bare = true := h9
      rw [hba] at this; cases this
  · have e : appR M 0 L b = bareR M 0 L := by unfold appR; rw [if_neg hc]
    rw [e]
    exact ⟨fun h => absurd h hc, fun _ => (k2 hc).more (by omega) (Nat.le_refl _), k3, by omega, fun hf => absurd (k4 hf) hc⟩
/-- records are appended, and all is made safe -/
def saveR : List (List UInt8) → DiskM → LogS → DiskM × Int
  | [], M, _ => (M.fl, M.fcode)
  | b :: bs, M, L => if (appR M 0 L b).2 = 0 then saveR bs (appR M 0 L b).1 (L.bared.add b) else appR M 0 L b
structure Saved (F : List UInt8) (E N : Nat) (M : DiskM) : Prop where
  len : M.now.length = 150
  safe : M.safe = M.now
  since : M.since = []
  cons : Cons (blkD M.now) F E
  str : (openGo (blkD M.now) 152 0 op0).stream = F.take N
theorem save_all {F : List UInt8} {E n N : Nat} (hF : F.length ≤ 12000) (hN : N ≤ F.length) (hr : N ≤ 8880) : ∀ (bs : List (List UInt8)) (blkS : Nat → Option Chk) (n1 sf : Nat) (M : DiskM) (L : LogS), App F blkS E n n1 sf M L → F.take n1 ++ enc bs = F.take N → (n < n1 ∨ bs ≠ []) →
    ((saveR bs M L).2 = 0 → Saved F E N (saveR bs M L).1) ∧ ((saveR bs M L).2 ≠ 0 → Fell F blkS E n N (saveR bs M L).1) ∧ (saveR bs M L).1.stop = M.stop ∧ (Free M → (saveR bs M L).2 = 0) := by
  intro bs
  induction bs with
  | nil =>
    intro blkS n1 sf M L h hb hne
    have hn1 : n < n1 := hne.resolve_right (fun h => h rfl)
    obtain ⟨hle1, hle2, hle3⟩ := h.le
    have hnn : n1 = N := by
      have := congrArg List.length hb
      rw [show enc ([] : List (List UInt8)) = [] from rfl, List.append_nil, take_len hle2, take_len hN] at this
      exact this
    subst hnn
    have hba : L.bare = false := by
      cases hb : L.bare with
      | false => rfl
      | true => have := (h.first hb).1; omega
    simp only [saveR]
    by_cases hs : M.stopped = true
    · have f1 : M.fl = M := by rw [DiskM.fl, if_pos hs]
      have f2 : M.fcode = 7 := by rw [DiskM.fcode, if_pos hs]
      rw [f1, f2]
      exact ⟨fun h => (by cases h), fun _ => ⟨blkS, sf, L.bare, n1, h.bse, h.mid, Or.inl hba, hle1, Nat.le_refl _, Nat.le_refl _⟩, rfl, fun hf => absurd hs (by rw [Free.stopped hf]; simp)⟩
    · have f1 : M.fl = M.flush := by rw [DiskM.fl, if_neg hs]
      have f2 : M.fcode = 0 := by rw [DiskM.fcode, if_neg hs]
      rw [f1, f2]
      have hfull := mid_full h.bse h.mid hn1 h.saf.2 h.grown
      exact ⟨fun _ => ⟨h.mid.lenN, rfl, rfl, h.mid.cons h.bse.cons hle2, (mid_len h.bse h.mid hF hle2 hle3 hfull).1⟩, fun h => absurd rfl h, rfl, fun _ => rfl⟩
  | cons b bs ih =>
    intro blkS n1 sf M L h hb _
    obtain ⟨hle1, hle2, hle3⟩ := h.le
    rw [enc_cons, ← List.append_assoc] at hb
    have hlen := congrArg List.length hb
    rw [List.length_append, List.length_append, take_len hle2, take_len hN, enc1_len] at hlen
    have hb2 : F.take n1 ++ enc1 b = F.take (n1 + (b.length + 2)) := by
      have h1 : (F.take n1 ++ enc1 b).length = n1 + (b.length + 2) := by rw [List.length_append, take_len hle2, enc1_len]
      have h2 := congrArg (List.take (n1 + (b.length + 2))) hb
      rw [List.take_take, Nat.min_eq_left (by omega), ← h1, List.take_left, h1] at h2
      exact h2
    obtain ⟨s1, s2, s3, s4, s5⟩ := app_step hF h hb2 (by omega) (by omega)
    simp only [saveR]
    by_cases hc : (appR M 0 L b).2 = 0
    · rw [if_pos hc]
      obtain ⟨blk1, sf1, ha, hl⟩ := s1 hc
      obtain ⟨t1, t2, t3, t4⟩ := ih blk1 _ sf1 _ _ ha (by rw [← hb2]; exact hb) (Or.inl (by omega))
      exact ⟨t1, fun h0 => (t2 h0).more (Nat.le_refl _) hl, t3.trans s3, fun hf => t4 (s3.trans hf)⟩
    · rw [if_neg hc]
      exact ⟨fun h0 => absurd h0 hc, fun _ => (s2 hc).more (by omega) (Nat.le_refl _), s3, fun hf => absurd (s5 hf) hc⟩
end Go.Proofs.Ytldpflijgbcbhaa.lg
