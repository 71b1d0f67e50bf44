/- The log and the disk, in plain terms: what appending, making safe and opening do to the blocks. No program here. -/
import Derived.Test.YtldpflijgbcbhaaLgP
import Derived.Test.YtldpflijgbcbhaaDisk
namespace Go.Proofs.Ytldpflijgbcbhaa.lg
open Go.RowKit

structure LogS where
  recs : List (List UInt8)
  stream : List UInt8
  epoch : Nat
  safe : Nat
  dirty : Bool
  bare : Bool
  broken : Bool
def blkOf (now : List (Option (List UInt8))) (fr mn i : Nat) : Option Chk := if i < mn then chkOf (now.getD (fr + i) none) else none
def op0 : OpS := ⟨[], 0, 0, false, 0⟩
def bareOf (o : OpS) (at_ : Nat) : Bool := (o.bare || decide (at_ / 60 < o.stream.length / 60)) && !decide (at_ % 60 = 0)
def openS (blk : Nat → Option Chk) (mn : Nat) : LogS :=
  ⟨parse (openGo blk (mn + 2) 0 op0).stream.length (openGo blk (mn + 2) 0 op0).stream, enc (parse (openGo blk (mn + 2) 0 op0).stream.length (openGo blk (mn + 2) 0 op0).stream), epAll blk mn (openGo blk (mn + 2) 0 op0).epoch + 1, (openGo blk (mn + 2) 0 op0).safe, false,
    bareOf (openGo blk (mn + 2) 0 op0) (enc (parse (openGo blk (mn + 2) 0 op0).stream.length (openGo blk (mn + 2) 0 op0).stream)).length, false⟩

def putBytes (s : List UInt8) (E k : Nat) : List UInt8 := UInt8.ofNat (64 + (chunkOf s k 60).length) :: UInt8.ofNat k :: UInt8.ofNat (E / 256) :: UInt8.ofNat E :: chunkOf s k 60
def putAt (s : List UInt8) (t k : Nat) : Nat := if s.length < 60 * k + 60 then t else 2 + k
theorem chunk60_len (s : List UInt8) (k : Nat) : (chunkOf s k 60).length = min 60 (s.length - 60 * k) := by simp [chunkOf]
theorem putBytes_len (s : List UInt8) (E k : Nat) : (putBytes s E k).length ≤ 64 := by
  simp only [putBytes, List.length_cons, chunk60_len]; omega
theorem bAt_padTo {l : List UInt8} {i : Nat} (h : i < l.length) : bAt (padTo l) i = bAt l i := by
  unfold bAt padTo
  rw [List.getD_eq_getElem?_getD, List.getD_eq_getElem?_getD, List.getElem?_append_left h]
theorem chk_put {s : List UInt8} {E k : Nat} (hk : k < 256) (hE : E < 65536) : chkOf (some (padTo (putBytes s E k))) = some ⟨min 60 (s.length - 60 * k), k, E, chunkOf s k 60⟩ := by
  have hl : 4 ≤ (putBytes s E k).length := by simp [putBytes]
  have hc := chunk60_len s k
  have b0 : bAt (padTo (putBytes s E k)) 0 = 64 + (chunkOf s k 60).length := by
    rw [bAt_padTo (by omega)]
    simp only [putBytes, bAt, List.getD_cons_zero, UInt8.toNat_ofNat']
    omega
  have b1 : bAt (padTo (putBytes s E k)) 1 = k := by
    rw [bAt_padTo (by omega)]
    simp only [putBytes, bAt, List.getD_cons_succ, List.getD_cons_zero, UInt8.toNat_ofNat']
    omega
  have b2 : bAt (padTo (putBytes s E k)) 2 = E / 256 := by
    rw [bAt_padTo (by omega)]
    simp only [putBytes, bAt, List.getD_cons_succ, List.getD_cons_zero, UInt8.toNat_ofNat']
    omega
  have b3 : bAt (padTo (putBytes s E k)) 3 = E % 256 := by
    rw [bAt_padTo (by omega)]
    simp only [putBytes, bAt, List.getD_cons_succ, List.getD_cons_zero, UInt8.toNat_ofNat']
  have hd : (padTo (putBytes s E k)).drop 4 = chunkOf s k 60 ++ List.replicate (64 - (putBytes s E k).length) 0 := rfl
  simp only [chkOf]
  rw [b0, b1, b2, b3, if_pos (by omega), hd, List.take_append_of_le_length (by omega), List.take_of_length_le (by omega)]
  congr 2 <;> omega

theorem blk_set {now : List (Option (List UInt8))} {fr mn at_ : Nat} {b : Option (List UInt8)} (h1 : at_ < mn) (h2 : fr + mn ≤ now.length) : blkOf (now.set (fr + at_) b) fr mn = fun i => if i = at_ then chkOf b else blkOf now fr mn i := by
  funext i
  unfold blkOf
  by_cases hi : i = at_
  · subst hi
    rw [if_pos h1, if_pos rfl, List.getD_eq_getElem?_getD, List.getElem?_set_self (by omega)]; rfl
  · rw [if_neg hi]
    by_cases hm : i < mn
    · rw [if_pos hm, if_pos hm, List.getD_eq_getElem?_getD, List.getElem?_set_ne (by omega), ← List.getD_eq_getElem?_getD]
    · rw [if_neg hm, if_neg hm]
theorem blk_apart {now : List (Option (List UInt8))} {fr mn at_ : Nat} {b : Option (List UInt8)} (h : at_ < fr ∨ fr + mn ≤ at_) : blkOf (now.set at_ b) fr mn = blkOf now fr mn := by
  funext i
  unfold blkOf
  by_cases hm : i < mn
  · rw [if_pos hm, if_pos hm, List.getD_eq_getElem?_getD, List.getElem?_set_ne (by omega), ← List.getD_eq_getElem?_getD]
  · rw [if_neg hm, if_neg hm]

/-- a disk that never stops -/
def Free (M : DiskM) : Prop := M.stop = -1
theorem Free.stopped {M : DiskM} (h : Free M) : M.stopped = false := by unfold DiskM.stopped; rw [h]; simp
theorem Free.wcode {M : DiskM} (h : Free M) {i n : Nat} (hi : i < M.now.length) (hn : n ≤ 64) : M.wcode (i : Int) n = 0 := by
  rw [DiskM.wcode, h.stopped, if_neg (by simp), if_neg (by omega), if_neg (by omega)]
theorem Free.wr {M : DiskM} (h : Free M) {i : Nat} {l : List UInt8} (hi : i < M.now.length) (hn : l.length ≤ 64) : M.wr (i : Int) l = M.write i l := by
  rw [DiskM.wr, h.wcode hi hn, if_pos rfl, Int.toNat_natCast]
theorem Free.write {M : DiskM} (h : Free M) (i : Nat) (l : List UInt8) : Free (M.write i l) := h
theorem Free.fcode {M : DiskM} (h : Free M) : M.fcode = 0 := by rw [DiskM.fcode, h.stopped]; simp
theorem Free.fl {M : DiskM} (h : Free M) : M.fl = M.flush := by rw [DiskM.fl, h.stopped]; simp

/-- chunks from a on are written, n of them -/
def puts (M : DiskM) (fr : Nat) (s : List UInt8) (E t a : Nat) : Nat → DiskM
  | 0 => M
  | n + 1 => (puts M fr s E t a n).write (fr + putAt s t (a + n)) (putBytes s E (a + n))
theorem puts_len (M : DiskM) (fr : Nat) (s : List UInt8) (E t a : Nat) : ∀ n, (puts M fr s E t a n).now.length = M.now.length ∧ (puts M fr s E t a n).steps = M.steps + n ∧ (puts M fr s E t a n).since.length = M.since.length + n ∧ (puts M fr s E t a n).stop = M.stop := by
  intro n
  induction n with
  | zero => exact ⟨rfl, rfl, rfl, rfl⟩
  | succ n ih =>
    obtain ⟨h1, h2, h3, h4⟩ := ih
    refine ⟨?_, ?_, ?_, h4⟩
    · simp [puts, DiskM.write, h1]
    · simp only [puts, DiskM.write, h2]; omega
    · simp only [puts, DiskM.write, List.length_append, h3, List.length_cons, List.length_nil]; omega
theorem puts_blk {M : DiskM} {fr mn : Nat} {s : List UInt8} {E t a : Nat} (h2 : fr + mn ≤ M.now.length) (hE : E < 65536) (ht : t < 2) (hm2 : 2 < mn) (hs : s.length ≤ 60 * (mn - 2)) (hmn : mn ≤ 200) :
    ∀ n, (∀ j, j < n → 60 * (a + j) < s.length) → blkOf (puts M fr s E t a n).now fr mn = wrAll (blkOf M.now fr mn) s E t a n := by
  intro n
  induction n with
  | zero => intro _; rfl
  | succ n ih =>
    intro hj
    have h := hj n (by omega)
    have hat : putAt s t (a + n) < mn := by unfold putAt; split <;> omega
    simp only [puts, wrAll, DiskM.write]
    rw [blk_set hat (by rw [(puts_len M fr s E t a n).1]; exact h2), ih (fun j h => hj j (by omega)), chk_put (by omega) hE]
    rfl
theorem puts_apart {M : DiskM} {fr mn fr' mn' : Nat} {s : List UInt8} {E t a : Nat} (hap : fr + mn ≤ fr' ∨ fr' + mn' ≤ fr) (ht : t < 2) (hm2 : 2 < mn) (hs : s.length ≤ 60 * (mn - 2)) :
    ∀ n, (∀ j, j < n → 60 * (a + j) < s.length) → blkOf (puts M fr s E t a n).now fr' mn' = blkOf M.now fr' mn' := by
  intro n
  induction n with
  | zero => intro _; rfl
  | succ n ih =>
    intro hj
    have h := hj n (by omega)
    have hat : putAt s t (a + n) < mn := by unfold putAt; split <;> omega
    simp only [puts, DiskM.write]
    rw [blk_apart (by omega), ih (fun j h => hj j (by omega))]

/-- without a crash: the blocks have the stream -/
structure LogOk (now : List (Option (List UInt8))) (fr mn : Nat) (L : LogS) : Prop where
  recs : L.stream = enc L.recs
  each : ∀ b ∈ L.recs, 1 ≤ b.length ∧ b.length ≤ 200
  room : L.stream.length ≤ 60 * (mn - 2)
  cons : Cons (blkOf now fr mn) L.stream L.epoch
  holds : Holds (blkOf now fr mn) L.stream (if L.dirty then 1 - L.safe else L.safe)
  safe : L.safe < 2
  bare : L.bare = false
  broken : L.broken = false
  many : mn ≤ 200

/-- how many chunks are written when a record is appended -/
def chunks (s : List UInt8) (x : List UInt8) : Nat := ((s ++ x).length + 59) / 60 - s.length / 60
def LogS.add (L : LogS) (b : List UInt8) : LogS := { L with recs := L.recs ++ [b], stream := L.stream ++ enc1 b, dirty := true }
def putsAdd (M : DiskM) (fr : Nat) (L : LogS) (b : List UInt8) : DiskM := puts M fr (L.stream ++ enc1 b) L.epoch (1 - L.safe) (L.stream.length / 60) (chunks L.stream (enc1 b))
theorem chunks_lt {s x : List UInt8} (j : Nat) (h : j < chunks s x) : 60 * (s.length / 60 + j) < (s ++ x).length := by unfold chunks at h; omega
theorem ok_append {M : DiskM} {fr mn : Nat} {L : LogS} {b : List UInt8} (h : LogOk M.now fr mn L) (hE : L.epoch < 65536) (hfr : fr + mn ≤ M.now.length) (h1 : 1 ≤ b.length) (h2 : b.length ≤ 200) (hr : L.stream.length + b.length + 2 ≤ 60 * (mn - 2)) : LogOk (putsAdd M fr L b).now fr mn (L.add b) := by
  have hm2 : 2 < mn := by omega
  have hs : (L.stream ++ enc1 b).length ≤ 60 * (mn - 2) := by rw [List.length_append, enc1_len]; omega
  have hsafe := h.safe
  have hb : blkOf (putsAdd M fr L b).now fr mn = _ := puts_blk (M := M) (E := L.epoch) (t := 1 - L.safe) (a := L.stream.length / 60) hfr hE (by omega) hm2 hs h.many _ (fun j hj => chunks_lt j hj)
  have ha := append_holds (t := 1 - L.safe) (n := chunks L.stream (enc1 b)) (x := enc1 b) h.cons ⟨_, h.holds, fun h0 => (h.holds.tail h0).1⟩ (by omega) (by rw [enc1_len]; omega) (by unfold chunks; have := @List.length_append _ L.stream (enc1 b); rw [enc1_len] at this; omega) (by unfold chunks; have := @List.length_append _ L.stream (enc1 b); rw [enc1_len] at this; omega)
  rw [← hb] at ha
  refine ⟨?_, ?_, hs, ha.1, ?_, h.safe, h.bare, h.broken, h.many⟩
  · show L.stream ++ enc1 b = enc (L.recs ++ [b])
    rw [enc_append, ← h.recs]; simp [enc]
  · intro c hc
    rcases List.mem_append.1 hc with hc | hc
    · exact h.each c hc
    · rw [List.mem_singleton.1 hc]; exact ⟨h1, h2⟩
  · exact ha.2
def LogS.sync (L : LogS) : LogS := { L with safe := if L.dirty && !decide (L.stream.length % 60 = 0) then 1 - L.safe else L.safe, dirty := false }
theorem Holds.any {blk : Nat → Option Chk} {s : List UInt8} {t t' : Nat} (h : Holds blk s t) (h0 : s.length % 60 = 0) : Holds blk s t' := ⟨h.full, h.mono, h.old, fun h1 => absurd h0 h1⟩
theorem ok_sync {now : List (Option (List UInt8))} {fr mn : Nat} {L : LogS} (h : LogOk now fr mn L) : LogOk now fr mn L.sync := by
  have hsafe := h.safe
  have hh := h.holds
  refine ⟨h.recs, h.each, h.room, h.cons, ?_, ?_, h.bare, h.broken, h.many⟩
  · show Holds _ L.stream (if L.dirty && !decide (L.stream.length % 60 = 0) then 1 - L.safe else L.safe)
    cases hd : L.dirty with
    | false => rw [hd] at hh; simpa using hh
    | true =>
      rw [hd] at hh
      by_cases h0 : L.stream.length % 60 = 0
      · exact hh.any h0
      · simpa [h0] using hh
  · show (if L.dirty && !decide (L.stream.length % 60 = 0) then 1 - L.safe else L.safe) < 2
    split <;> omega
theorem ok_open {now : List (Option (List UInt8))} {fr mn : Nat} {L : LogS} (h : LogOk now fr mn L) (hd : L.dirty = false) :
    (openS (blkOf now fr mn) mn).recs = L.recs ∧ (openS (blkOf now fr mn) mn).stream = L.stream ∧ (openS (blkOf now fr mn) mn).epoch ≤ L.epoch + 1 ∧ LogOk now fr mn (openS (blkOf now fr mn) mn) := by
  have hh := h.holds
  rw [hd] at hh
  simp only [Bool.false_eq_true, if_false] at hh
  have hroom := h.room
  have hmany := h.many
  have ho := open_holds h.cons hh (by omega) (L.stream.length / 60) (mn + 2) 0 op0 (by omega) (by omega) (by simp [op0]) (Nat.zero_le _) (fun c j hj => by omega) (fun _ => rfl)
  have hrs : parse L.stream.length L.stream = L.recs := by
    have hle := enc_len_ge L.recs
    rw [h.recs]
    exact parse_enc _ _ hle h.each
  unfold openS
  generalize openGo (blkOf now fr mn) (mn + 2) 0 op0 = o at *
  obtain ⟨h1, h2, h3, h4⟩ := ho
  rw [h1, hrs]
  have hall := epAll_le h.cons o.epoch h2 mn
  refine ⟨rfl, h.recs.symm, by simp only []; omega, rfl, h.each, ?_, ?_, ?_, ?_, ?_, rfl, hmany⟩
  · show (enc L.recs).length ≤ _
    rw [← h.recs]; exact hroom
  · show Cons _ (enc L.recs) _
    rw [← h.recs]
    refine ⟨h.cons.len, h.cons.bytes, fun i c hc => ?_, h.cons.pos, h.cons.turn, h.cons.own⟩
    show c.epoch ≤ epAll _ mn o.epoch + 1
    have hi : i < mn := by
      unfold blkOf at hc
      split at hc
      · assumption
      · cases hc
    have := epAll_ge (blk := blkOf now fr mn) (e := o.epoch) mn hi
    rw [hc] at this
    simp only [epOf] at this
    omega
  · show Holds _ (enc L.recs) (if false = true then 1 - o.safe else o.safe)
    rw [← h.recs]
    by_cases h0 : L.stream.length % 60 = 0
    · exact hh.any h0
    · rw [(h3 h0).1]; simpa using hh
  · show o.safe < 2
    by_cases h0 : L.stream.length % 60 = 0
    · rw [h4 h0]; show 0 < 2; omega
    · rw [(h3 h0).1]; exact h.safe
  · show bareOf o (enc L.recs).length = false
    unfold bareOf
    rw [← h.recs]
    by_cases h0 : L.stream.length % 60 = 0
    · simp [h0]
    · simp [h0, (h3 h0).2, h1]
/-- blocks without chunks -/
def emptyS : LogS := ⟨[], [], 1, 0, false, false, false⟩
theorem ok_empty {now : List (Option (List UInt8))} {fr mn : Nat} (hm : mn ≤ 200) (h : ∀ i, blkOf now fr mn i = none) : LogOk now fr mn emptyS :=
  ⟨rfl, fun b hb => (by cases hb), Nat.zero_le _, ⟨fun i c hc => (by rw [h i] at hc; cases hc), fun i c hc => (by rw [h i] at hc; cases hc), fun i c hc => (by rw [h i] at hc; cases hc), fun i c hc => (by rw [h i] at hc; cases hc), fun i c _ hc => (by rw [h i] at hc; cases hc), fun i c _ hc => (by rw [h i] at hc; cases hc)⟩,
    ⟨fun k hk => (by simp [emptyS] at hk), fun k c d hk => (by simp [emptyS] at hk), fun k c i d hk => (by simp [emptyS] at hk), fun h0 => (by simp [emptyS] at h0)⟩, by decide, rfl, rfl, hm⟩
theorem open_empty {blk : Nat → Option Chk} {mn : Nat} (h : ∀ i, blk i = none) : openS blk mn = emptyS := by
  have hl : ∀ k last acc i, look blk k last acc i = acc := fun k last acc i => by unfold look; rw [h i]
  have hp : pick blk 0 0 = none := by unfold pick; rw [hl, hl, hl]
  have hg : openGo blk (mn + 2) 0 op0 = op0 := by
    rw [openGo, show op0.last = 0 from rfl, hp]
    simp [op0, epK, h, epOf]
  have he : ∀ n, epAll blk n 0 = 0 := by
    intro n
    induction n with
    | zero => rfl
    | succ n ih => simp [epAll, ih, h, epOf]
  unfold openS
  rw [hg]
  simp [op0, parse, enc, he, bareOf, emptyS]
/-- a block that was written with nothing is none -/
theorem chk_nil : chkOf (some (padTo [])) = none := by decide
theorem chk_zeros : chkOf (some zeros64) = none := by decide
end Go.Proofs.Ytldpflijgbcbhaa.lg

/- Opening a log, in plain terms: one round of each loop. No program here. -/
namespace Go.Proofs.Ytldpflijgbcbhaa.lg
open Go.RowKit

def idx (k j : Nat) : Nat := if j = 0 then 0 else if j = 1 then 1 else 2 + k
def lookN (blk : Nat → Option Chk) (k last : Nat) : Nat → Option (Chk × Nat)
  | 0 => none
  | j + 1 => look blk k last (lookN blk k last j) (idx k j)
theorem pick_eq (blk : Nat → Option Chk) (k last : Nat) : pick blk k last = lookN blk k last 3 := rfl
def epN (blk : Nat → Option Chk) (k e : Nat) : Nat → Nat
  | 0 => e
  | j + 1 => max (epN blk k e j) (epOf (blk (idx k j)))
theorem epK_eq (blk : Nat → Option Chk) (k e : Nat) : epK blk k e = epN blk k e 3 := rfl
/-- the best so far, as numbers -/
def AccN (acc : Option (Chk × Nat)) (u x e a : Int) : Prop :=
  match acc with
  | none => u = 0 ∧ x = 0 ∧ e = -1 ∧ a = -1
  | some p => u = p.1.used ∧ x = p.1.index ∧ e = p.1.epoch ∧ a = p.2
theorem better_num {acc : Option (Chk × Nat)} {u x e a : Int} (h : AccN acc u x e a) (c : Chk) : better acc c = true ↔ (e < (c.epoch : Int) ∨ ((c.epoch : Int) = e ∧ u < (c.used : Int))) := by
  cases acc with
  | none =>
    obtain ⟨_, _, rfl, _⟩ := h
    exact ⟨fun _ => Or.inl (by omega), fun _ => rfl⟩
  | some p =>
    obtain ⟨rfl, _, rfl, _⟩ := h
    simp only [better, Bool.or_eq_true, Bool.and_eq_true, decide_eq_true_eq]
    omega
theorem look_no {blk : Nat → Option Chk} {k last i : Nat} {acc : Option (Chk × Nat)} (h : blk i = none) : look blk k last acc i = acc := by unfold look; rw [h]
theorem look_bad {blk : Nat → Option Chk} {k last i : Nat} {acc : Option (Chk × Nat)} {c : Chk} (h : blk i = some c) (hg : ¬ (c.index = k % 256 ∧ last ≤ c.epoch ∧ (i < 2 ∨ 60 ≤ c.used))) : look blk k last acc i = acc :=
  look_skip fun d hd hgd => by rw [h] at hd; obtain rfl := Option.some.inj hd; exact absurd (good_iff.1 hgd) hg
theorem look_less {blk : Nat → Option Chk} {k last i : Nat} {acc : Option (Chk × Nat)} {c : Chk} {u x e a : Int} (h : blk i = some c) (hn : AccN acc u x e a) (hb : ¬ (e < (c.epoch : Int) ∨ ((c.epoch : Int) = e ∧ u < (c.used : Int)))) : look blk k last acc i = acc :=
  look_skip fun d hd _ => by rw [h] at hd; obtain rfl := Option.some.inj hd; simpa using fun hbt => hb ((better_num hn c).1 hbt)
theorem look_take {blk : Nat → Option Chk} {k last i : Nat} {acc : Option (Chk × Nat)} {c : Chk} {u x e a : Int} (h : blk i = some c) (hg : c.index = k % 256 ∧ last ≤ c.epoch ∧ (i < 2 ∨ 60 ≤ c.used)) (hn : AccN acc u x e a) (hb : e < (c.epoch : Int) ∨ ((c.epoch : Int) = e ∧ u < (c.used : Int))) : look blk k last acc i = some (c, i) :=
  look_good h (good_iff.2 hg) ((better_num hn c).2 hb)
theorem look_of {blk : Nat → Option Chk} {k last i : Nat} {acc : Option (Chk × Nat)} (hp : ∀ p, acc = some p → p.2 ≤ 2 + k ∧ blk p.2 = some p.1 ∧ (p.2 < 2 ∨ p.2 = 2 + k)) (hi : i < 2 ∨ i = 2 + k) : ∀ p, look blk k last acc i = some p → p.2 ≤ 2 + k ∧ blk p.2 = some p.1 ∧ (p.2 < 2 ∨ p.2 = 2 + k) := by
  intro p h
  rcases look_mem h with h | ⟨h1, h2, _⟩
  · exact hp p h
  · rw [h1]; exact ⟨by omega, h2, hi⟩
theorem pick_of {blk : Nat → Option Chk} {k last : Nat} {p : Chk × Nat} (h : pick blk k last = some p) : p.2 ≤ 2 + k ∧ blk p.2 = some p.1 ∧ (p.2 < 2 ∨ p.2 = 2 + k) :=
  look_of (look_of (look_of (fun p hp => by cases hp) (Or.inl (by omega))) (Or.inl (by omega))) (Or.inr rfl) p h

/-! the chunks one behind the other -/
structure OG (blk : Nat → Option Chk) (mn k : Nat) (o : OpS) : Prop where
  le : k ≤ mn
  eq : openGo blk (mn + 2) 0 op0 = openGo blk (mn + 2 - k) k o
theorem OG.start (blk : Nat → Option Chk) (mn : Nat) : OG blk mn 0 op0 := ⟨Nat.zero_le _, rfl⟩
section
variable {blk : Nat → Option Chk} {mn k : Nat} {o : OpS}
theorem OG.none (h : OG blk mn k o) (hp : pick blk k o.last = none) : openGo blk (mn + 2) 0 op0 = { o with epoch := epK blk k o.epoch } := by
  have := h.le
  rw [h.eq, show mn + 2 - k = (mn + 1 - k) + 1 by omega, openGo, hp]
theorem OG.short (h : OG blk mn k o) {p : Chk × Nat} (hp : pick blk k o.last = some p) (hu : p.1.used < 60) : openGo blk (mn + 2) 0 op0 = opNext o (epK blk k o.epoch) p := by
  have := h.le
  rw [h.eq, show mn + 2 - k = (mn + 1 - k) + 1 by omega, openGo, hp]
  exact if_pos hu
theorem OG.more (h : OG blk mn k o) {p : Chk × Nat} (hp : pick blk k o.last = some p) (hu : ¬ p.1.used < 60) (ht : ∀ i c, i < 2 → blk i = some c → c.used < 60) (hn : ∀ i, mn ≤ i → blk i = Option.none) : k < mn ∧ OG blk mn (k + 1) (opNext o (epK blk k o.epoch) p) := by
  have := h.le
  obtain ⟨h1, h2, h3⟩ := pick_of hp
  have hk : k < mn := by
    rcases h3 with h3 | h3
    · exact absurd (ht _ _ h3 h2) hu
    · rcases Nat.lt_or_ge p.2 mn with h4 | h4
      · omega
      · rw [hn _ h4] at h2; cases h2
  refine ⟨hk, hk, ?_⟩
  rw [h.eq, show mn + 2 - k = (mn + 2 - (k + 1)) + 1 by omega, openGo, hp]
  exact if_neg hu
end

theorem chkOf_ep {m : Option (List UInt8)} {c : Chk} (h : chkOf m = some c) : c.epoch ≤ 65535 ∧ c.used ≤ 60 ∧ c.index ≤ 255 ∧ c.bytes.length ≤ 60 := by
  cases m with
  | none => cases h
  | some l =>
    unfold chkOf at h
    simp only [] at h
    split at h
    · rename_i hb
      obtain rfl := Option.some.inj h
      have hlt : ∀ i, bAt l i < 256 := fun i => (l.getD i 0).toNat_lt
      have := hlt 1; have := hlt 2; have := hlt 3
      refine ⟨by simp only []; omega, by simp only []; omega, by simp only []; omega, ?_⟩
      simp only [List.length_take, List.length_drop]
      omega
    · cases h
theorem blkOf_ep {now : List (Option (List UInt8))} {fr mn i : Nat} {c : Chk} (h : blkOf now fr mn i = some c) : c.epoch ≤ 65535 ∧ c.used ≤ 60 ∧ c.index ≤ 255 ∧ c.bytes.length ≤ 60 := by
  unfold blkOf at h
  split at h
  · exact chkOf_ep h
  · cases h
theorem epOf_le (now : List (Option (List UInt8))) (fr mn i : Nat) : epOf (blkOf now fr mn i) ≤ 65535 := by
  cases h : blkOf now fr mn i with
  | none => exact Nat.zero_le _
  | some c => exact (blkOf_ep h).1
theorem epN_le {now : List (Option (List UInt8))} {fr mn k e : Nat} (he : e ≤ 65535) : ∀ j, epN (blkOf now fr mn) k e j ≤ 65535 := by
  intro j
  induction j with
  | zero => exact he
  | succ j ih => have := epOf_le now fr mn (idx k j); simp only [epN]; omega
theorem epAll_le' {now : List (Option (List UInt8))} {fr mn e : Nat} (he : e ≤ 65535) : ∀ j, epAll (blkOf now fr mn) j e ≤ 65535 := by
  intro j
  induction j with
  | zero => exact he
  | succ j ih => have := epOf_le now fr mn j; simp only [epAll]; omega
end Go.Proofs.Ytldpflijgbcbhaa.lg
