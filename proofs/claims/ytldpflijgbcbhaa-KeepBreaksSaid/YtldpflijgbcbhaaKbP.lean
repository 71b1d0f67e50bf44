/- KeepBreaks, in plain terms: the records of one stream, and what an event leaves. No program here. -/
import Derived.Test.YtldpflijgbcbhaaKbL
namespace Go.Proofs.Ytldpflijgbcbhaa.lg
open Go.RowKit

/-- where record j begins -/
def posR (rs : List (List UInt8)) (j : Nat) : Nat := (enc (rs.take j)).length
theorem posR_succ {rs : List (List UInt8)} {j : Nat} {b : List UInt8} (h : rs[j]? = some b) : posR rs (j + 1) = posR rs j + (b.length + 2) := by
  obtain ⟨hj, he⟩ := List.getElem?_eq_some_iff.1 h
  unfold posR
  rw [List.take_succ_eq_append_getElem hj, he, enc_append, List.length_append]
  show _ + (enc1 b ++ []).length = _
  rw [List.append_nil, enc1_len]
theorem posR_step {rs : List (List UInt8)} {j : Nat} (h : j < rs.length) : posR rs j < posR rs (j + 1) := by
  rw [posR_succ (List.getElem?_eq_getElem h)]; omega
theorem posR_mono {rs : List (List UInt8)} {i j : Nat} (h : i ≤ j) : posR rs i ≤ posR rs j := by
  obtain ⟨k, rfl⟩ := Nat.exists_eq_add_of_le h
  clear h
  induction k with
  | zero => exact Nat.le_refl _
  | succ k ih =>
    by_cases hk : i + k < rs.length
    · have := posR_step hk
      show _ ≤ posR rs (i + k + 1)
      omega
    · unfold posR at *
      rw [List.take_of_length_le (show rs.length ≤ i + k by omega)] at ih
      rw [List.take_of_length_le (show rs.length ≤ i + (k + 1) by omega)]
      exact ih
theorem posR_le (rs : List (List UInt8)) (j : Nat) : posR rs j ≤ (enc rs).length := by
  by_cases h : j ≤ rs.length
  · have := posR_mono (rs := rs) h
    unfold posR at this ⊢
    rwa [List.take_length] at this
  · unfold posR; rw [List.take_of_length_le (by omega)]; exact Nat.le_refl _
theorem enc_pos (rs : List (List UInt8)) (j : Nat) : (enc rs).take (posR rs j) = enc (rs.take j) := by
  have e : enc rs = enc (rs.take j) ++ enc (rs.drop j) := by rw [← enc_append, List.take_append_drop]
  rw [e]
  exact List.take_left
theorem bAt_take {l : List UInt8} {m i : Nat} (h : i < m) : bAt (l.take m) i = bAt l i := by
  unfold bAt
  rw [List.getD_eq_getElem?_getD, List.getD_eq_getElem?_getD, List.getElem?_take_of_lt h]
theorem parse_take : ∀ (rs : List (List UInt8)), (∀ b ∈ rs, 1 ≤ b.length ∧ b.length ≤ 200) → ∀ (f m : Nat), m ≤ (enc rs).length → m ≤ f → ∃ j, j ≤ rs.length ∧ parse f ((enc rs).take m) = rs.take j ∧ posR rs j ≤ m ∧ (j < rs.length → m < posR rs (j + 1))
  | [], _, f, m, hm, _ => by
    refine ⟨0, Nat.le_refl _, ?_, Nat.zero_le _, fun h => absurd h (by simp)⟩
    cases f <;> simp [parse, enc]
  | b :: rs, hb, f, m, hm, hf => by
    have h1 := hb b (by simp)
    rw [enc_cons] at hm ⊢
    have hp1 : posR (b :: rs) 1 = b.length + 2 := by
      show (enc [b]).length = _
      rw [enc_cons, List.length_append, enc1_len]; rfl
    by_cases hlt : m < b.length + 2
    · refine ⟨0, Nat.zero_le _, ?_, Nat.zero_le _, fun _ => by rw [Nat.zero_add, hp1]; exact hlt⟩
      cases f with
      | zero => rfl
      | succ f =>
        have hl : ((enc1 b ++ enc rs).take m).length = m := by rw [List.length_take]; omega
        rw [parse, List.take_zero]
        by_cases h2 : m < 2
        · rw [if_pos (by omega)]
        · rw [if_neg (by omega), bAt_take (by omega), bAt_take (by omega), bAt_enc1 (by omega), if_pos (by omega)]
    · have e : (enc1 b ++ enc rs).take m = enc1 b ++ (enc rs).take (m - (b.length + 2)) := by
        rw [List.take_append, enc1_len, List.take_of_length_le (by rw [enc1_len]; omega)]
      rw [List.length_append, enc1_len] at hm
      obtain ⟨f, rfl⟩ : ∃ g, f = g + 1 := ⟨f - 1, by omega⟩
      obtain ⟨j, i1, i2, i3, i4⟩ := parse_take rs (fun c hc => hb c (by simp [hc])) f (m - (b.length + 2)) (by omega) (by omega)
      have hps : ∀ i, posR (b :: rs) (i + 1) = b.length + 2 + posR rs i := fun i => by
        show (enc (b :: rs.take i)).length = _
        rw [enc_cons, List.length_append, enc1_len]; rfl
      refine ⟨j + 1, by simpa using i1, ?_, by rw [hps]; omega, fun h => ?_⟩
      · rw [e]
        have hl : (enc1 b ++ (enc rs).take (m - (b.length + 2))).length = b.length + 2 + ((enc rs).take (m - (b.length + 2))).length := by rw [List.length_append, enc1_len]
        have hn := bAt_enc1 (b := b) (by omega) ((enc rs).take (m - (b.length + 2)))
        have e1 : (enc1 b ++ (enc rs).take (m - (b.length + 2))).drop 2 = b ++ (enc rs).take (m - (b.length + 2)) := rfl
        have e2 : (enc1 b ++ (enc rs).take (m - (b.length + 2))).drop (2 + b.length) = (enc rs).take (m - (b.length + 2)) := by
          rw [← List.drop_drop, e1, List.drop_left]
        rw [parse, if_neg (by omega), hn, if_neg (by omega), e1, e2, List.take_left, i2]
        rfl
      · have := i4 (by simpa using h)
        rw [hps]; omega
theorem go_ep {blk : Nat → Option Chk} {F : List UInt8} {E : Nat} (hC : Cons blk F E) : ∀ f k o, o.epoch ≤ E → (openGo blk f k o).epoch ≤ E := by
  intro f
  induction f with
  | zero => intro k o h; exact h
  | succ f ih =>
    intro k o h
    rw [openGo]
    have hk := epK_le (k := k) hC h
    split
    · exact hk
    · split
      · exact hk
      · exact ih _ _ hk
theorem go_safe {blk : Nat → Option Chk} : ∀ f k o, o.safe < 2 → (openGo blk f k o).safe < 2 := by
  intro f
  induction f with
  | zero => intro k o h; exact h
  | succ f ih =>
    intro k o h
    rw [openGo]
    split
    · exact h
    · rename_i p _
      have hn : (opNext o (epK blk k o.epoch) p).safe < 2 := by
        show (if p.2 < 2 then p.2 else o.safe) < 2
        split <;> omega
      split
      · exact hn
      · exact ih _ _ hn
theorem Cons.up {blk : Nat → Option Chk} {F : List UInt8} {E E' : Nat} (h : Cons blk F E) (hE : E ≤ E') : Cons blk F E' := ⟨h.len, h.bytes, fun i c hc => Nat.le_trans (h.ep i c hc) hE, h.pos, h.turn, h.own⟩
/-- the first j records are there -/
structure KB (rs : List (List UInt8)) (j E s : Nat) (M : DiskM) : Prop where
  len : M.now.length = 150
  safe : M.safe = M.now
  since : M.since = []
  steps : M.steps ≤ s
  cons : Cons (blkD M.now) (enc rs) E
  jle : j ≤ rs.length
  lo : posR rs j ≤ (openGo (blkD M.now) 152 0 op0).stream.length
  hi : j < rs.length → (openGo (blkD M.now) 152 0 op0).stream.length < posR rs (j + 1)
/-- how the records that are there are opened -/
theorem KB.opened {rs : List (List UInt8)} {j E s : Nat} {M : DiskM} (h : KB rs j E s M) (hrs : ∀ b ∈ rs, 1 ≤ b.length ∧ b.length ≤ 200) (hF : (enc rs).length ≤ 8880) (hE : E < 65000) (M1 : DiskM) (e1 : M1.now = M.now) (e2 : M1.safe = M.safe) (e3 : M1.since = M.since) :
    (openS (blkOf M.now 0 150) 150).recs = rs.take j ∧ (openS (blkOf M.now 0 150) 150).stream = enc (rs.take j) ∧ (openS (blkOf M.now 0 150) 150).epoch ≤ E + 1 ∧ (openS (blkOf M.now 0 150) 150).broken = false ∧
      App (enc rs) (blkD M.now) (openS (blkOf M.now 0 150) 150).epoch (posR rs j) (posR rs j) (openS (blkOf M.now 0 150) 150).safe M1 (openS (blkOf M.now 0 150) 150) := by
  have hC := h.cons
  obtain ⟨m, hm0, hm1, hm2⟩ := go_stream hC (by omega) 152 0 op0 (by omega) (by omega) (by simp [op0])
  have hlo := h.lo
  have hhi := h.hi
  rw [hm2, List.length_take, Nat.min_eq_left hm1] at hlo hhi
  have hep := go_ep hC 152 0 op0 (Nat.zero_le _)
  have hsf := go_safe (blk := blkD M.now) 152 0 op0 (by decide)
  obtain ⟨i, p1, p2, p3, p4⟩ := parse_take rs hrs m m hm1 (Nat.le_refl _)
  have hij : i = j := by
    have hjl := h.jle
    rcases Nat.lt_trichotomy i j with hlt | heq | hgt
    · have := p4 (by omega)
      have := posR_mono (rs := rs) (show i + 1 ≤ j by omega)
      omega
    · exact heq
    · have := hhi (by omega)
      have := posR_mono (rs := rs) (show j + 1 ≤ i by omega)
      omega
  subst hij
  obtain ⟨o, ho⟩ : ∃ o, o = openGo (blkD M.now) 152 0 op0 := ⟨_, rfl⟩
  have hol : o.stream = (enc rs).take m := by rw [ho]; exact hm2
  have hoe : o.epoch ≤ E := by rw [ho]; exact hep
  have hos : o.safe < 2 := by rw [ho]; exact hsf
  have hoL : o.stream.length = m := by rw [hol, List.length_take, Nat.min_eq_left hm1]
  have hL : openS (blkOf M.now 0 150) 150 = ⟨parse o.stream.length o.stream, enc (parse o.stream.length o.stream), epAll (blkD M.now) 150 o.epoch + 1, o.safe, false, bareOf o (enc (parse o.stream.length o.stream)).length, false⟩ := by rw [ho]; rfl
  rw [hoL] at hL
  have hrec : parse m o.stream = rs.take i := by rw [hol]; exact p2
  rw [hrec] at hL
  rw [hL]
  have hall := epAll_le hC o.epoch hoe 150
  have hpe : ∀ k c, blkD M.now k = some c → c.epoch < epAll (blkD M.now) 150 o.epoch + 1 := by
    intro k c hc
    have hi : k < 150 := by
      unfold blkD blkOf at hc
      split at hc
      · assumption
      · cases hc
    have := epAll_ge (blk := blkD M.now) (e := o.epoch) 150 hi
    rw [hc] at this
    simp only [epOf] at this
    omega
  have hp8 := posR_le rs i
  have hbare : bareOf o (enc (rs.take i)).length = ((o.bare || decide (posR rs i / 60 < m / 60)) && !decide (posR rs i % 60 = 0)) := by
    unfold bareOf; rw [hoL]; rfl
  refine ⟨rfl, rfl, by show epAll _ 150 _ + 1 ≤ _; omega, rfl, ⟨⟨?_, ?_, ?_, ?_, ?_, ?_⟩, ?_, Grown.start _ _ _ _, ?_, ⟨Nat.le_refl _, hp8, by omega⟩, ⟨rfl, by show epAll _ 150 _ + 1 < _; omega⟩, ⟨rfl, hos⟩, ?_⟩⟩
  · exact ⟨hC.len, hC.bytes, fun k c hc => Nat.le_of_lt (hpe k c hc), hC.pos, hC.turn, hC.own⟩
  · intro k c hc he
    have := hpe k c hc
    have he' : c.epoch = epAll (blkD M.now) 150 o.epoch + 1 := he
    omega
  · rw [← ho]
  · rw [← ho, hoL]; exact hlo
  · intro hb h0
    have hb' : bareOf o (enc (rs.take i)).length = false := hb
    rw [hbare] at hb'
    rw [← ho, hoL]
    simp only [h0, decide_false, Bool.not_false, Bool.and_true, Bool.or_eq_false_iff, decide_eq_false_iff_not] at hb'
    have := hb'.2
    omega
  · intro _; exact hpe
  · have := Mid.start (F := enc rs) (E := epAll (blkD M.now) 150 o.epoch + 1) (n := posR rs i) (sf := o.safe) (M := M1) (by rw [e1]; exact h.len) (by rw [e2, e1]; exact h.safe) (by rw [e3]; exact h.since)
    rw [e1] at this
    exact this
  · show enc (rs.take i) = _
    exact (enc_pos rs i).symm
  · intro hb
    have hb' : bareOf o (enc (rs.take i)).length = true := hb
    rw [hbare] at hb'
    simp only [Bool.and_eq_true, Bool.not_eq_true', decide_eq_false_iff_not] at hb'
    exact ⟨rfl, by rw [e2, e1]; exact h.safe, by rw [e3]; exact h.since, hb'.2⟩
/-- which records are there, by the length that is opened -/
theorem pos_ex (rs : List (List UInt8)) (n : Nat) : ∃ j, j ≤ rs.length ∧ posR rs j ≤ n ∧ (j < rs.length → n < posR rs (j + 1)) := by
  have : ∀ k, k ≤ rs.length → ∃ j, j ≤ k ∧ posR rs j ≤ n ∧ (j < k → n < posR rs (j + 1)) := by
    intro k
    induction k with
    | zero => intro _; exact ⟨0, Nat.le_refl _, Nat.zero_le _, fun h => absurd h (Nat.lt_irrefl _)⟩
    | succ k ih =>
      intro hk
      obtain ⟨j, h1, h2, h3⟩ := ih (by omega)
      by_cases hjk : j < k
      · exact ⟨j, by omega, h2, fun _ => h3 hjk⟩
      · obtain rfl : j = k := by omega
        by_cases hn : n < posR rs (j + 1)
        · exact ⟨j, by omega, h2, fun _ => hn⟩
        · exact ⟨j + 1, by omega, by omega, fun h => by omega⟩
  exact this rs.length (Nat.le_refl _)
/-- an event: q records more are saved -/
theorem event {rs : List (List UInt8)} {j E s q : Nat} {M M1 : DiskM} (h : KB rs j E s M) (hrs : ∀ b ∈ rs, 1 ≤ b.length ∧ b.length ≤ 200) (hF : (enc rs).length ≤ 8880) (hE : E < 65000) (e1 : M1.now = M.now) (e2 : M1.safe = M.safe) (e3 : M1.since = M.since) (hq : 1 ≤ q) (hjq : j + q ≤ rs.length) {R : DiskM × Int} (hR : R = saveR ((rs.drop j).take q) M1 (openS (blkOf M.now 0 150) 150)) :
    (R.2 = 0 → (∀ s', R.1.steps ≤ s' → KB rs (j + q) (E + 1) s' R.1) ∧ ∀ keep torn, KB rs (j + q) (E + 1) 0 (R.1.crash keep torn)) ∧
      (R.2 ≠ 0 → ∀ keep torn, ∃ j', j ≤ j' ∧ j' ≤ j + q ∧ KB rs j' (E + 1) 0 (R.1.crash keep torn)) ∧ R.1.stop = M1.stop ∧ (Free M1 → R.2 = 0) := by
  obtain ⟨o1, o2, o3, o4, hA⟩ := h.opened hrs hF hE M1 e1 e2 e3
  have hN := posR_le rs (j + q)
  have hcat : (enc rs).take (posR rs j) ++ enc ((rs.drop j).take q) = (enc rs).take (posR rs (j + q)) := by
    rw [enc_pos, enc_pos, ← enc_append, List.take_add]
  have hne : posR rs j < posR rs j ∨ (rs.drop j).take q ≠ [] := Or.inr (by
    intro e
    have := congrArg List.length e
    rw [List.length_take, List.length_drop, List.length_nil] at this
    omega)
  obtain ⟨s1, s2, s3, s4⟩ := save_all (by omega) hN (by omega) ((rs.drop j).take q) (blkD M.now) (posR rs j) _ M1 _ hA hcat hne
  rw [← hR] at s1 s2 s3 s4
  have hlt := h.hi (by omega)
  refine ⟨fun h0 => ?_, fun h0 keep torn => ?_, s3, s4⟩
  · obtain ⟨t1, t2, t3, t4, t5⟩ := s1 h0
    have hlen : (openGo (blkD R.1.now) 152 0 op0).stream.length = posR rs (j + q) := by rw [t5, take_len hN]
    have hlo : posR rs (j + q) ≤ (openGo (blkD R.1.now) 152 0 op0).stream.length := Nat.le_of_eq hlen.symm
    have hhi : j + q < rs.length → (openGo (blkD R.1.now) 152 0 op0).stream.length < posR rs (j + q + 1) := fun hl => by rw [hlen]; exact posR_step hl
    refine ⟨fun s' hs' => ⟨t1, t2, t3, hs', t4.up o3, hjq, hlo, hhi⟩, fun keep torn => ?_⟩
    have ec : (R.1.crash keep torn).now = R.1.now := by
      show crashTo R.1.since keep torn R.1.safe R.1.since.length = _
      rw [t3]; exact t2
    refine ⟨by rw [ec]; exact t1, rfl, rfl, Nat.le_refl _, ?_, hjq, ?_, ?_⟩
    · rw [ec]; exact t4.up o3
    · rw [ec]; exact hlo
    · rw [ec]; exact hhi
  · obtain ⟨blk1, sf1, bare1, n2, f1, f2, f3, f4, f5, f6⟩ := s2 h0
    obtain ⟨c1, c2, c3, c4⟩ := crashed_len f1 f2 (by omega) (by omega) f4 f3 keep torn
    obtain ⟨j', p1, p2, p3⟩ := pos_ex rs (openGo (blkD (R.1.crash keep torn).now) 152 0 op0).stream.length
    refine ⟨j', ?_, ?_, c1, rfl, rfl, Nat.le_refl _, c2.up o3, p1, p2, p3⟩
    · rcases Nat.lt_or_ge j' j with hl | hl
      · have := p3 (by omega)
        have := posR_mono (rs := rs) (show j' + 1 ≤ j by omega)
        omega
      · exact hl
    · rcases Nat.lt_or_ge (j + q) j' with hl | hl
      · have a1 := posR_mono (rs := rs) (show j + q + 1 ≤ j' by omega)
        have a2 := posR_mono (rs := rs) (show j + 1 ≤ j + q + 1 by omega)
        have a3 := posR_step (rs := rs) (j := j + q) (by omega)
        omega
      · exact hl
end Go.Proofs.Ytldpflijgbcbhaa.lg
