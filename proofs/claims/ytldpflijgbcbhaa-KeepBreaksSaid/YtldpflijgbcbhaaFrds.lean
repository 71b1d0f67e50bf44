/- frame.ReadEntry: what is so behind each call of the reader. -/
import Derived.Test.YtldpflijgbcbhaaFrd2
import Derived.Test.YtldpflijgbcbhaaFent
import Derived.Deep.RegionHeld3
import Derived.Deep.RegionLaw
import Derived.Deep.AppendLies
namespace Go.Proofs.Ytldpflijgbcbhaa
open Go.RowKit

theorem num_step {l : List UInt8} {lo hi : Int} {at_ : Nat} {bad : Bool} {n : Int} {at' : Nat} {bad' : Bool} (h : NumRel l lo hi at_ bad n at' bad') :
    (if bad = true then none else rdNum lo hi (l.drop at_)) = if bad' = true then none else some (n, l.drop at') := by
  unfold NumRel at h
  cases bad with
  | true => simp only [if_true] at h ⊢; rw [if_pos h.1]
  | false =>
    simp only [Bool.false_eq_true, if_false] at h ⊢
    cases h1 : rdNum lo hi (l.drop at_) with
    | none => rw [h1] at h; simp only at h; rw [if_pos h]
    | some p =>
      obtain ⟨m, r⟩ := p
      rw [h1] at h
      obtain ⟨e1, e2, e3⟩ := h
      rw [e1, e2, e3]; rfl
theorem text_step {l : List UInt8} {at_ : Nat} {bad : Bool} {s : ByteArray} {at' : Nat} {bad' : Bool} (h : TextRel l at_ bad s at' bad') :
    (if bad = true then none else rdText (l.drop at_)) = if bad' = true then none else some (s, l.drop at') := by
  unfold TextRel at h
  cases bad with
  | true => simp only [if_true] at h ⊢; rw [if_pos h]
  | false =>
    simp only [Bool.false_eq_true, if_false] at h ⊢
    cases h1 : rdText (l.drop at_) with
    | none => rw [h1] at h; simp only at h; rw [if_pos h]
    | some p =>
      obtain ⟨m, r⟩ := p
      rw [h1] at h
      obtain ⟨e1, e2, e3⟩ := h
      rw [e1, e2, e3]; rfl
/-- what is read goes on where it stands -/
theorem bind_step {α β : Type} {bad bad' : Bool} {x : Option α} {a : α} {f : α → Option β} (h : (if bad = true then none else x) = if bad' = true then none else some a) :
    (if bad = true then none else x.bind f) = if bad' = true then none else f a := by
  cases bad with
  | true =>
    cases bad' with
    | true => rfl
    | false => simp at h
  | false =>
    simp only [Bool.false_eq_true, if_false] at h ⊢
    rw [h]
    cases bad' <;> rfl
theorem many_noChk {α : Type} (p : List UInt8 → Option (α × List UInt8)) : ∀ (k : Nat) (prev prev' : Option α) (l : List UInt8), many p noChk k prev l = many p noChk k prev' l
  | 0, _, _, _ => rfl
  | k + 1, prev, prev', l => by simp only [many, noChk]

def entK (l : List UInt8) (ref : ByteArray) (ent per : Int) (acc : List LineM) (k at_ : Nat) : Option (EntryM × List UInt8) :=
  (many rdLine noChk k none (l.drop at_)).bind fun t => some (⟨ref, ent, per, acc ++ t.1⟩, t.2)
/-- the head of an entry -/
theorem ent_head {l : List UInt8} {ref : ByteArray} {ent per n : Int} {a1 a2 a3 a4 : Nat} {b1 b2 b3 b4 : Bool} (h1 : TextRel l 0 false ref a1 b1) (h2 : NumRel l 0 200 a1 b1 ent a2 b2) (h3 : NumRel l 0 200 a2 b2 per a3 b3) (h4 : NumRel l 0 20 a3 b3 n a4 b4) :
    rdEntry l = if b4 = true then none else entK l ref ent per [] n.toNat a4 := by
  have e1 := bind_step (f := fun a => (rdNum 0 200 a.2).bind fun b => (rdNum 0 200 b.2).bind fun c => (rdNum 0 20 c.2).bind fun n => (many rdLine noChk n.1.toNat none n.2).bind fun t => some ((⟨a.1, b.1, c.1, t.1⟩ : EntryM), t.2)) (text_step h1)
  have e2 := bind_step (f := fun b => (rdNum 0 200 b.2).bind fun c => (rdNum 0 20 c.2).bind fun n => (many rdLine noChk n.1.toNat none n.2).bind fun t => some ((⟨ref, b.1, c.1, t.1⟩ : EntryM), t.2)) (num_step h2)
  have e3 := bind_step (f := fun c => (rdNum 0 20 c.2).bind fun n => (many rdLine noChk n.1.toNat none n.2).bind fun t => some ((⟨ref, ent, c.1, t.1⟩ : EntryM), t.2)) (num_step h3)
  have e4 := bind_step (f := fun n => (many rdLine noChk n.1.toNat none n.2).bind fun t => some ((⟨ref, ent, per, t.1⟩ : EntryM), t.2)) (num_step h4)
  simp only [Bool.false_eq_true, if_false, List.drop_zero] at e1
  exact e1.trans (e2.trans (e3.trans e4))
/-- a line of an entry -/
theorem ent_line {l : List UInt8} {ref acc cur : ByteArray} {ent per amt : Int} {t : List LineM} {k a0 a1 a2 a3 : Nat} {b1 b2 b3 : Bool} (h1 : TextRel l a0 false acc a1 b1) (h2 : TextRel l a1 b1 cur a2 b2) (h3 : NumRel l (-bigA) bigA a2 b2 amt a3 b3) :
    entK l ref ent per t (k + 1) a0 = if b3 = true then none else entK l ref ent per (t ++ [⟨acc, cur, amt⟩]) k a3 := by
  have hl : rdLine (l.drop a0) = if b3 = true then none else some (⟨acc, cur, amt⟩, l.drop a3) := by
    have e1 := bind_step (f := fun a => (rdText a.2).bind fun b => (rdNum (-bigA) bigA b.2).bind fun c => some ((⟨a.1, b.1, c.1⟩ : LineM), c.2)) (text_step h1)
    have e2 := bind_step (f := fun b => (rdNum (-bigA) bigA b.2).bind fun c => some ((⟨acc, b.1, c.1⟩ : LineM), c.2)) (text_step h2)
    have e3 := bind_step (f := fun c => some ((⟨acc, cur, c.1⟩ : LineM), c.2)) (num_step h3)
    simp only [Bool.false_eq_true, if_false] at e1
    exact e1.trans (e2.trans e3)
  unfold entK
  rw [many, hl]
  cases b3 with
  | true => rfl
  | false =>
    simp only [Bool.false_eq_true, if_false, Option.bind_some, noChk, if_true]
    rw [many_noChk rdLine k (some _) none]
    cases many rdLine noChk k none (l.drop a3) with
    | none => rfl
    | some p => simp [List.append_assoc]
theorem entK_end {l : List UInt8} {ref : ByteArray} {ent per : Int} {t : List LineM} {at_ : Nat} : entK l ref ent per t 0 at_ = some (⟨ref, ent, per, t⟩, l.drop at_) := by simp [entK, many]

def lineCells (x : LineM) : List Value := [.string x.acc, .string x.cur, .int .i64 x.amt]

/-- the bytes l are what a slice holds; of an empty slice nothing is said on where it lies -/
def SrcW (w : World) (sp : Option Addr) (l : List UInt8) : Prop :=
  0 < l.length → ∃ b o, sp = some ⟨b, o, none⟩ ∧ b < w.heap.size ∧ ∀ (j : Nat) (x : UInt8), l[j]? = some x → w.cell? ⟨b, o + j, none⟩ = some (byteV x)
def ReadPost' (B : Nat) (w : World) (l : List UInt8) (e : Ending) (w' : World) : Prop :=
  Below B w w' ∧ match rdEntry l with
    | some (x, r) => ∃ lao lc, e = .returned (.tuple #[entryV x lao lc, .int .i64 ((l.length - r.length : Nat) : Int), .nilIface]) ∧ LinesAt w' lao x.lines ∧ (∀ b off, lao = some ⟨b, off, none⟩ → B ≤ b)
    | none => e = .returned (.tuple #[entryV ⟨⟨#[]⟩, 0, 0, []⟩ none 0, .int .i64 0, errV 9])

theorem infoLn : (Try.prog.info? 82).map (fun i => (i.zero, i.size, i.bytes)) = some (some (.agg #[.string ⟨#[]⟩, .string ⟨#[]⟩, .int .i64 0]), 3, 40) := by kernel_rfl

theorem ownsRow_keep {w w' : World} {base : Nat} {e : TypeId} {sz : Nat} {v : Value} {n : Nat} {xs : List Value} (h : w.ownsRow base e sz v n xs) (hk : ∀ g, v.ownBlock = some g → w'.heap[g]? = w.heap[g]?) : w'.ownsRow base e sz v n xs := by
  obtain ⟨h1, h2⟩ := h
  refine ⟨h1, ?_⟩
  rcases h2 with h2 | ⟨g, cap, cur, hv, hg, hh, r⟩
  · exact Or.inl h2
  · exact Or.inr ⟨g, cap, cur, hv, hg, by rw [hk g (by rw [hv]; rfl)]; exact hh, r⟩
/-- what is so behind each call of the reader: the result's box, the entry's box, its lines, the reader -/
structure RdSt (w : World) (eb : Nat) (sp : Option Addr) (cap : Nat) (l : List UInt8) (ref : ByteArray) (ent per : Int) (lv : Value) (acc : List LineM) (at_ : Nat) (bad : Bool) (wi : World) : Prop where
  below : Below w.heap.size w wi
  size : w.heap.size + 2 ≤ eb ∧ eb < wi.heap.size
  res : wi.heap[w.heap.size]? = some (.cells #[.string ⟨#[]⟩, .int .i64 0, .int .i64 0, .slice none 0 0] 30 (0, 0))
  box : wi.heap[eb]? = some (.cells #[.string ref, .int .i64 ent, .int .i64 per, lv] 30 (0, 0))
  row : wi.ownsRow w.heap.size 82 3 lv acc.length (acc.flatMap lineCells)
  rd : ReaderIs wi (w.heap.size + 1) sp cap l at_ bad
  srcB : ∀ b o, 0 < l.length → sp = some ⟨b, o, none⟩ → b < w.heap.size
theorem RdSt.step {w : World} {eb : Nat} {sp : Option Addr} {cap : Nat} {l : List UInt8} {ref : ByteArray} {ent per : Int} {lv : Value} {acc : List LineM} {at_ at' : Nat} {bad bad' : Bool} {wi wj : World} (h : RdSt w eb sp cap l ref ent per lv acc at_ bad wi)
    (ho : Only (fun k => k = w.heap.size + 1) wi wj) (hr : ReaderIs wj (w.heap.size + 1) sp cap l at' bad') : RdSt w eb sp cap l ref ent per lv acc at' bad' wj := by
  have hs := h.size
  refine ⟨h.below.trans (ho.below (by omega) (fun k hk => by omega)), ⟨hs.1, Nat.lt_of_lt_of_le hs.2 ho.size⟩, ?_, ?_, ?_, hr, h.srcB⟩
  · rw [ho.block _ (by omega) (by omega)]; exact h.res
  · rw [ho.block _ hs.2 (by omega)]; exact h.box
  · refine ⟨h.row.1, ?_⟩
    rcases h.row.2 with h2 | ⟨k, c, cur, hv, hk, hh, r⟩
    · exact Or.inl h2
    · refine Or.inr ⟨k, c, cur, hv, hk, ?_, r⟩
      rw [ho.block k (lt_of_heap hh) (fun e => ?_)]
      · exact hh
      · have := h.rd.self
        rw [← e, hh] at this
        simp at this
theorem RdSt.drew {w : World} {eb : Nat} {sp : Option Addr} {cap : Nat} {l : List UInt8} {ref : ByteArray} {ent per : Int} {lv : Value} {acc : List LineM} {at_ : Nat} {bad : Bool} {wi : World} (h : RdSt w eb sp cap l ref ent per lv acc at_ bad wi) : RdSt w eb sp cap l ref ent per lv acc at_ bad wi.drew :=
  ⟨h.below.drew, h.size, h.res, h.box, h.row, ⟨h.rd.self, h.rd.src, h.rd.le, h.rd.cap, h.rd.max⟩, h.srcB⟩
theorem RdSt.c3 {w : World} {eb : Nat} {sp : Option Addr} {cap : Nat} {l : List UInt8} {ref : ByteArray} {ent per : Int} {lv : Value} {acc : List LineM} {at_ : Nat} {bad : Bool} {wi : World} (h : RdSt w eb sp cap l ref ent per lv acc at_ bad wi) : wi.cell? ⟨eb, 3, none⟩ = some lv := cell_of_heap h.box 3
theorem RdSt.rowne {w : World} {eb : Nat} {sp : Option Addr} {cap : Nat} {l : List UInt8} {ref : ByteArray} {ent per : Int} {lv : Value} {acc : List LineM} {at_ : Nat} {bad : Bool} {wi : World} (h : RdSt w eb sp cap l ref ent per lv acc at_ bad wi) :
    ∀ k, lv.ownBlock = some k → k ≠ eb ∧ k ≠ w.heap.size ∧ k ≠ w.heap.size + 1 ∧ w.heap.size ≤ k ∧ k < wi.heap.size := by
  intro k hk
  rcases h.row.2 with ⟨hv, _⟩ | ⟨g, c, cur, hv, hb, hh, _⟩
  · rw [hv] at hk; simp [Value.ownBlock] at hk
  · rw [hv] at hk
    simp only [Value.ownBlock, Option.some.injEq] at hk
    subst hk
    have h1 := h.box
    have h2 := h.res
    have h3 := h.rd.self
    refine ⟨fun e => ?_, fun e => ?_, fun e => ?_, hb, lt_of_heap hh⟩
    · rw [← e, hh] at h1; simp at h1
    · rw [← e, hh] at h2; simp at h2
    · rw [← e, hh] at h3; simp at h3
/-- a line more -/
theorem RdSt.push {w : World} {eb : Nat} {sp : Option Addr} {cap : Nat} {l : List UInt8} {ref : ByteArray} {ent per : Int} {lv : Value} {acc : List LineM} {at_ : Nat} {bad : Bool} {wi w9 : World} (h : RdSt w eb sp cap l ref ent per lv acc at_ bad wi) {x : LineM} {o : Obj} {g c : Nat}
    (hown : w9.ownsRow w.heap.size 82 3 (.slice (some ⟨g, 0, none⟩) (acc.length + 1) c) (acc.length + 1) (acc.flatMap lineCells ++ lineCells x)) (hgrow : (wi.alloc o).grownBy w9 lv.ownBlock) (hat : lv.ownBlock = some g ∨ g = wi.heap.size + 1) :
    w9.cell? ⟨eb, 3, none⟩ = some lv ∧ w9.frozen? ⟨eb, 3, none⟩ = false ∧ RdSt w eb sp cap l ref ent per (.slice (some ⟨g, 0, none⟩) (acc.length + 1) c) (acc ++ [x]) at_ bad (w9.setCell ⟨eb, 3, none⟩ (.slice (some ⟨g, 0, none⟩) (acc.length + 1) c)) := by
  have hs := h.size
  have hne := h.rowne
  have hk : ∀ k, k < wi.heap.size → lv.ownBlock ≠ some k → w9.heap[k]? = wi.heap[k]? := fun k hk hn => by
    rw [hgrow.block k (by simp; omega) (fun e => hn e.symm), Below.heap_alloc _ _ _ hk]
  have hbox9 : w9.heap[eb]? = some (.cells #[.string ref, .int .i64 ent, .int .i64 per, lv] 30 (0, 0)) := by
    rw [hk eb hs.2 (fun e => (hne _ e).1 rfl)]; exact h.box
  have hsz9 : wi.heap.size + 1 ≤ w9.heap.size := by have := hgrow.size; simpa using this
  have hge : g ≠ eb := by
    rcases hat with e | e
    · exact (hne _ e).1
    · omega
  have hbl : Below w.heap.size w w9 := h.below.trans (by
    refine ⟨hgrow.os, hgrow.tape, hgrow.output, by omega, fun k hk' => ?_⟩
    exact hk k (by omega) (fun e => by have := (hne _ e).2.2.2.1; omega))
  refine ⟨cell_of_heap hbox9 3, free_of_heap hbox9 3, hbl.setCell (by show w.heap.size ≤ eb; omega) _, ⟨hs.1, by simp; omega⟩, ?_, ?_, ?_, ?_, h.srcB⟩
  · rw [Below.heap_setCell _ _ _ _ (show w.heap.size ≠ eb by omega), hk _ (by omega) (fun e => (hne _ e).2.1 rfl)]; exact h.res
  · exact heap_setCell_same hbox9 _
  · have h1 : w9.ownsRow w.heap.size 82 3 (.slice (some ⟨g, 0, none⟩) (acc.length + 1) c) (acc ++ [x]).length ((acc ++ [x]).flatMap lineCells) := ownsRow_cast hown (by simp) (by simp)
    refine ⟨h1.1, ?_⟩
    rcases h1.2 with ⟨hv, _⟩ | ⟨g', c', cur, hv, hb, hh, r⟩
    · cases hv
    · injection hv with hv1 hv2 hv3
      injection hv1 with hv1
      injection hv1 with hv1 _ _
      subst hv1
      exact Or.inr ⟨g, c', cur, by rw [hv3]; simp, hb, by rw [Below.heap_setCell _ _ _ _ hge]; exact hh, r⟩
  · have hgg : ∀ k, lv.ownBlock ≠ some k → k < wi.heap.size → k ≠ eb → (w9.setCell ⟨eb, 3, none⟩ (.slice (some ⟨g, 0, none⟩) (acc.length + 1) c)).heap[k]? = wi.heap[k]? := fun k h1 h2 h3 => by
      rw [Below.heap_setCell _ _ _ _ h3, hk k h2 h1]
    refine ⟨by rw [hgg _ (fun e => (hne _ e).2.2.1 rfl) h.rd.lt (by omega)]; exact h.rd.self, fun h0 => ?_, h.rd.le, h.rd.cap, h.rd.max⟩
    obtain ⟨b, o', e, hlt, hbn, hc⟩ := h.rd.src h0
    refine ⟨b, o', e, by simp; omega, hbn, fun j y hj => ?_⟩
    have hcj := hc j y hj
    have hbw := h.srcB b o' h0 e
    have hb1 : b ≠ eb := by omega
    have hb2 : lv.ownBlock ≠ some b := fun e1 => by have := (hne _ e1).2.2.2.1; omega
    exact (World.cell?_of_block (a := ⟨b, o' + j, none⟩) (hgg b hb2 hlt hb1)).trans hcj
theorem RdSt.start {w wa w3 : World} {sp : Option Addr} {cap : Nat} {l : List UInt8} (ref : ByteArray) (ent per : Int) {at_ : Nat} {bad : Bool}
    (hwa : wa = (w.alloc (.cells #[.string ⟨#[]⟩, .int .i64 0, .int .i64 0, .slice none 0 0] 30)).alloc (.cells #[.slice sp l.length cap, .int .i64 0, .bool false] 85))
    (ho : Only (fun k => k = w.heap.size + 1) wa w3) (hr : ReaderIs w3 (w.heap.size + 1) sp cap l at_ bad) (hsb : ∀ b o, 0 < l.length → sp = some ⟨b, o, none⟩ → b < w.heap.size) :
    RdSt w w3.heap.size sp cap l ref ent per (.slice none 0 0) [] at_ bad (w3.alloc (.cells #[.string ref, .int .i64 ent, .int .i64 per, .slice none 0 0] 30)) := by
  have hsa : wa.heap.size = w.heap.size + 2 := by rw [hwa]; simp
  have h3 := ho.size
  have hbw : Below w.heap.size w w3 := by
    refine Below.trans ?_ (ho.below (by omega) (fun k hk => by omega))
    rw [hwa]
    exact ((Below.refl _ _).alloc (Nat.le_refl _) _).alloc (by simp) _
  have hb : Below w3.heap.size w3 (w3.alloc (.cells #[.string ref, .int .i64 ent, .int .i64 per, .slice none 0 0] 30)) := (Below.refl _ _).alloc (Nat.le_refl _) _
  refine ⟨hbw.trans (hb.mono (by omega)), ⟨by omega, by simp⟩, ?_, heap_new_at rfl _, World.ownsRow_nil _ _ _ _, ?_, hsb⟩
  · rw [hb.block _ (by omega), ho.block _ (by omega) (by omega), hwa, Below.heap_alloc _ _ _ (by simp)]
    exact heap_new_at rfl _
  · refine ⟨by rw [hb.block _ hr.lt]; exact hr.self, fun h0 => ?_, hr.le, hr.cap, hr.max⟩
    obtain ⟨b, o, e, hlt, hne, hc⟩ := hr.src h0
    exact ⟨b, o, e, by simp; omega, hne, fun j x hj => (hb.cell (p := ⟨b, o + j, none⟩) hlt).trans (hc j x hj)⟩


theorem RdSt.below' {w : World} {eb : Nat} {sp : Option Addr} {cap : Nat} {l : List UInt8} {ref : ByteArray} {ent per : Int} {lv : Value} {acc : List LineM} {at_ : Nat} {bad : Bool} {wi wj : World} (h : RdSt w eb sp cap l ref ent per lv acc at_ bad wi) (hb : Below wi.heap.size wi wj) : RdSt w eb sp cap l ref ent per lv acc at_ bad wj := by
  have hs := h.size
  refine ⟨h.below.trans (hb.mono (by omega)), ⟨hs.1, Nat.lt_of_lt_of_le hs.2 hb.size⟩, by rw [hb.block _ (by omega)]; exact h.res, by rw [hb.block _ hs.2]; exact h.box, ?_, ?_, h.srcB⟩
  · exact ownsRow_keep h.row (fun k hk => hb.block k (h.rowne k hk).2.2.2.2)
  · refine ⟨by rw [hb.block _ h.rd.lt]; exact h.rd.self, fun h0 => ?_, h.rd.le, h.rd.cap, h.rd.max⟩
    obtain ⟨b, o, e, hlt, hne, hc⟩ := h.rd.src h0
    exact ⟨b, o, e, Nat.lt_of_lt_of_le hlt hb.size, hne, fun j x hj => (hb.cell (p := ⟨b, o + j, none⟩) hlt).trans (hc j x hj)⟩
theorem flat3 : ∀ (t : List LineM) (i : Nat) (x : LineM), t[i]? = some x → (t.flatMap lineCells)[i * 3]? = some (.string x.acc) ∧ (t.flatMap lineCells)[i * 3 + 1]? = some (.string x.cur) ∧ (t.flatMap lineCells)[i * 3 + 2]? = some (.int .i64 x.amt)
  | [], i, x, h => by simp at h
  | y :: t, 0, x, h => by
    simp only [List.getElem?_cons_zero, Option.some.injEq] at h
    subst h
    exact ⟨rfl, rfl, rfl⟩
  | y :: t, i + 1, x, h => by
    simp only [List.getElem?_cons_succ] at h
    obtain ⟨h1, h2, h3⟩ := flat3 t i x h
    have e : ∀ j, ((y :: t).flatMap lineCells)[(i + 1) * 3 + j]? = (t.flatMap lineCells)[i * 3 + j]? := fun j => by
      rw [List.flatMap_cons, List.getElem?_append_right (by simp [lineCells]; omega)]
      congr 1
      simp [lineCells]
      omega
    exact ⟨(e 0).trans h1, (e 1).trans h2, (e 2).trans h3⟩
theorem lines_of_row {w : World} {B : Nat} {lv : Value} {t : List LineM} (h : w.ownsRow B 82 3 lv t.length (t.flatMap lineCells)) : ∃ lao lc, lv = .slice lao t.length lc ∧ LinesAt w lao t ∧ ∀ b off, lao = some ⟨b, off, none⟩ → B ≤ b := by
  rcases h.2 with ⟨hv, hx⟩ | ⟨g, c, cur, hv, hb, hh, r⟩
  · have ht : t = [] := List.length_eq_zero_iff.1 hx
    subst ht
    exact ⟨none, 0, hv, Or.inl rfl, fun b off e => by cases e⟩
  · refine ⟨some ⟨g, 0, none⟩, c, hv, Or.inr ⟨g, 0, rfl, lt_of_heap hh, fun i x hx => ?_⟩, fun b off e => by injection e with e; injection e with e _ _; omega⟩
    obtain ⟨h1, h2, h3⟩ := flat3 t i x hx
    have hc := h.cells (g := g) (by rw [hv]; rfl)
    have k1 := hc _ _ h1
    have k2 := hc _ _ h2
    have k3 := hc _ _ h3
    rw [addr_add] at k1 k2 k3
    exact ⟨k1, by rw [← k2]; congr 2, by rw [← k3]; congr 2⟩
theorem readPost_drew {B : Nat} {w w' : World} {l : List UInt8} {e : Ending} (h : ReadPost' B w l e w') : ReadPost' B w l e w'.drew := by
  obtain ⟨h1, h2⟩ := h
  refine ⟨h1.drew, ?_⟩
  cases hr : rdEntry l with
  | none => rw [hr] at h2; exact h2
  | some p =>
    rw [hr] at h2
    exact h2
/-- the entry is whole -/
theorem rd_done {w : World} {eb : Nat} {sp : Option Addr} {cap : Nat} {l : List UInt8} {ref : ByteArray} {ent per : Int} {lv : Value} {acc : List LineM} {at_ : Nat} {wi wx : World} (h : RdSt w eb sp cap l ref ent per lv acc at_ false wi) (hyes : rdEntry l = some (⟨ref, ent, per, acc⟩, l.drop at_)) (hb : Below wi.heap.size wi wx) :
    ReadPost' w.heap.size w l (.returned (.tuple #[.agg #[.string ref, .int .i64 ent, .int .i64 per, lv], .int .i64 (at_ : Int), .nilIface])) ((((wx.setCell ⟨w.heap.size, 0, none⟩ (.string ref)).setCell ⟨w.heap.size, 1, none⟩ (.int .i64 ent)).setCell ⟨w.heap.size, 2, none⟩ (.int .i64 per)).setCell ⟨w.heap.size, 3, none⟩ lv) := by
  have h' := h.below' hb
  refine ⟨(((h'.below.setCell (Nat.le_refl _) _).setCell (Nat.le_refl _) _).setCell (Nat.le_refl _) _).setCell (Nat.le_refl _) _, ?_⟩
  rw [hyes]
  have hrow : ((((wx.setCell ⟨w.heap.size, 0, none⟩ (.string ref)).setCell ⟨w.heap.size, 1, none⟩ (.int .i64 ent)).setCell ⟨w.heap.size, 2, none⟩ (.int .i64 per)).setCell ⟨w.heap.size, 3, none⟩ lv).ownsRow w.heap.size 82 3 lv acc.length (acc.flatMap lineCells) :=
    ownsRow_keep h'.row (fun k hk => by
      have hne := (h'.rowne k hk).2.1
      rw [Below.heap_setCell _ _ _ _ hne, Below.heap_setCell _ _ _ _ hne, Below.heap_setCell _ _ _ _ hne, Below.heap_setCell _ _ _ _ hne])
  obtain ⟨lao, lc, rfl, hl, hB⟩ := lines_of_row hrow
  have hle := h.rd.le
  have e : l.length - (l.drop at_).length = at_ := by rw [List.length_drop]; omega
  exact ⟨lao, lc, by show _ = _; rw [e]; rfl, hl, hB⟩
end Go.Proofs.Ytldpflijgbcbhaa
