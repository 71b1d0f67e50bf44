/- frame.ReadBalances: the plain law, and what is so behind each call of the reader. -/
import Derived.Test.YtldpflijgbcbhaaDoorFrds
import Derived.Test.YtldpflijgbcbhaaDoorFbal
namespace Go.Proofs.YtldpflijgbcbhaaDoor
open Go.RowKit

def balK (l : List UInt8) (acc : List BalM) (k at_ : Nat) : Option (List BalM × List UInt8) :=
  (many rdBal (rise balCmp) k acc.getLast? (l.drop at_)).bind fun t => some (acc ++ t.1, t.2)
theorem bals_head {l : List UInt8} {n : Int} {a : Nat} {b : Bool} (h : NumRel l 0 200 0 false n a b) : rdBals balCmp l = if b = true then none else balK l [] n.toNat a := by
  have e1 := bind_step (f := fun n => many rdBal (rise balCmp) n.1.toNat none n.2) (num_step h)
  simp only [Bool.false_eq_true, if_false, List.drop_zero] at e1
  refine e1.trans ?_
  cases b with
  | true => rfl
  | false =>
    simp only [Bool.false_eq_true, if_false, balK, List.getLast?_nil, List.nil_append]
    cases many rdBal (rise balCmp) n.toNat none (l.drop a) with
    | none => rfl
    | some p => rfl
theorem bal_line {l : List UInt8} {acc cur : ByteArray} {ent amt : Int} {t : List BalM} {k a0 a1 a2 a3 a4 : Nat} {b1 b2 b3 b4 : Bool} (h0 : NumRel l 0 200 a0 false ent a1 b1) (h1 : TextRel l a1 b1 acc a2 b2) (h2 : TextRel l a2 b2 cur a3 b3) (h3 : NumRel l (-bigA) bigA a3 b3 amt a4 b4) :
    balK l t (k + 1) a0 = if b4 = true then none else if rise balCmp t.getLast? ⟨ent, acc, cur, amt⟩ = true then balK l (t ++ [⟨ent, acc, cur, amt⟩]) k a4 else none := by
  have hl : rdBal (l.drop a0) = if b4 = true then none else some (⟨ent, acc, cur, amt⟩, l.drop a4) := by
    have e0 := bind_step (f := fun n => (rdText n.2).bind fun a => (rdText a.2).bind fun b => (rdNum (-bigA) bigA b.2).bind fun c => some ((⟨n.1, a.1, b.1, c.1⟩ : BalM), c.2)) (num_step h0)
    have e1 := bind_step (f := fun a => (rdText a.2).bind fun b => (rdNum (-bigA) bigA b.2).bind fun c => some ((⟨ent, a.1, b.1, c.1⟩ : BalM), c.2)) (text_step h1)
    have e2 := bind_step (f := fun b => (rdNum (-bigA) bigA b.2).bind fun c => some ((⟨ent, acc, b.1, c.1⟩ : BalM), c.2)) (text_step h2)
    have e3 := bind_step (f := fun c => some ((⟨ent, acc, cur, c.1⟩ : BalM), c.2)) (num_step h3)
    simp only [Bool.false_eq_true, if_false] at e0
    exact e0.trans (e1.trans (e2.trans e3))
  unfold balK
  rw [many, hl]
  cases b4 with
  | true => rfl
  | false =>
    simp only [Bool.false_eq_true, if_false, Option.bind_some]
    by_cases hr : rise balCmp t.getLast? ⟨ent, acc, cur, amt⟩ = true
    · rw [if_pos hr, if_pos hr]
      have hg : (t ++ [(⟨ent, acc, cur, amt⟩ : BalM)]).getLast? = some ⟨ent, acc, cur, amt⟩ := by simp
      rw [hg]
      cases many rdBal (rise balCmp) k (some ⟨ent, acc, cur, amt⟩) (l.drop a4) with
      | none => rfl
      | some p => simp [List.append_assoc]
    · rw [if_neg hr, if_neg hr]; rfl
theorem balK_end {l : List UInt8} {t : List BalM} {at_ : Nat} : balK l t 0 at_ = some (t, l.drop at_) := by simp [balK, many]

def balCells (x : BalM) : List Value := [.int .i64 x.ent, .string x.acc, .string x.cur, .int .i64 x.amt]
theorem infoBl : (Tryd.prog.info? 106).map (fun i => (i.zero, i.size, i.bytes)) = some (some (.agg #[.int .i64 0, .string ⟨#[]⟩, .string ⟨#[]⟩, .int .i64 0]), 4, 48) := by kernel_rfl
structure RbSt (w : World) (sp : Option Addr) (cap : Nat) (l : List UInt8) (lv : Value) (t : List BalM) (at_ : Nat) (bad : Bool) (wi : World) : Prop where
  below : Below w.heap.size w wi
  row : wi.ownsRow w.heap.size 106 4 lv t.length (t.flatMap balCells)
  rd : ReaderIs wi w.heap.size sp cap l at_ bad
  srcB : ∀ b o, 0 < l.length → sp = some ⟨b, o, none⟩ → b < w.heap.size
theorem RbSt.rowne {w : World} {sp : Option Addr} {cap : Nat} {l : List UInt8} {lv : Value} {t : List BalM} {at_ : Nat} {bad : Bool} {wi : World} (h : RbSt w sp cap l lv t at_ bad wi) :
    ∀ k, lv.ownBlock = some k → k ≠ w.heap.size ∧ w.heap.size ≤ k ∧ k < wi.heap.size := by
  intro k hk
  rcases h.row.2 with ⟨hv, _⟩ | ⟨g, c, cur, hv, hb, hh, _⟩
  · rw [hv] at hk; simp [Value.ownBlock] at hk
  · rw [hv] at hk
    simp only [Value.ownBlock, Option.some.injEq] at hk
    subst hk
    have h3 := h.rd.self
    exact ⟨fun e => by rw [← e, hh] at h3; simp at h3, hb, lt_of_heap hh⟩
theorem RbSt.step {w : World} {sp : Option Addr} {cap : Nat} {l : List UInt8} {lv : Value} {t : List BalM} {at_ at' : Nat} {bad bad' : Bool} {wi wj : World} (h : RbSt w sp cap l lv t at_ bad wi)
    (ho : Only (fun k => k = w.heap.size) wi wj) (hr : ReaderIs wj w.heap.size sp cap l at' bad') : RbSt w sp cap l lv t at' bad' wj :=
  ⟨h.below.trans (ho.below (B := w.heap.size) (by have := h.rd.lt; omega) (fun k hk => by omega)), ownsRow_keep h.row (fun k hk => ho.block k (h.rowne k hk).2.2 (h.rowne k hk).1), hr, h.srcB⟩
theorem RbSt.below' {w : World} {sp : Option Addr} {cap : Nat} {l : List UInt8} {lv : Value} {t : List BalM} {at_ : Nat} {bad : Bool} {wi wj : World} (h : RbSt w sp cap l lv t at_ bad wi) (hb : Below wi.heap.size wi wj) : RbSt w sp cap l lv t at_ bad wj := by
  refine ⟨h.below.trans (hb.mono (show w.heap.size ≤ wi.heap.size from Nat.le_of_lt h.rd.lt)), ownsRow_keep h.row (fun k hk => hb.block k (h.rowne k hk).2.2), ?_, h.srcB⟩
  refine ⟨by rw [hb.block _ h.rd.lt]; exact h.rd.self, fun h0 => ?_, h.rd.le, h.rd.cap, h.rd.max⟩
  obtain ⟨b, o, e, hlt, hne, hc⟩ := h.rd.src h0
  exact ⟨b, o, e, Nat.lt_of_lt_of_le hlt hb.size, hne, fun j x hj => (hb.cell (p := ⟨b, o + j, none⟩) hlt).trans (hc j x hj)⟩
theorem RbSt.setBad {w : World} {sp : Option Addr} {cap : Nat} {l : List UInt8} {lv : Value} {t : List BalM} {at_ : Nat} {bad : Bool} {wi : World} (h : RbSt w sp cap l lv t at_ bad wi) : RbSt w sp cap l lv t at_ true (wi.setCell ⟨w.heap.size, 2, none⟩ (.bool true)) :=
  h.step ((Only.refl (fun k => k = w.heap.size) wi).setCell (p := ⟨w.heap.size, 2, none⟩) rfl _) (h.rd.set2 true)
theorem RbSt.push {w : World} {sp : Option Addr} {cap : Nat} {l : List UInt8} {lv v9 : Value} {t : List BalM} {at_ : Nat} {bad : Bool} {wi w9 : World} (h : RbSt w sp cap l lv t at_ bad wi) {x : BalM}
    (hown : w9.ownsRow w.heap.size 106 4 v9 (t.length + 1) (t.flatMap balCells ++ balCells x)) (hgrow : wi.grownBy w9 lv.ownBlock) : RbSt w sp cap l v9 (t ++ [x]) at_ bad w9 := by
  have hne := h.rowne
  have hk : ∀ k, k < wi.heap.size → lv.ownBlock ≠ some k → w9.heap[k]? = wi.heap[k]? := fun k hk hn => hgrow.block k hk (fun e => hn e.symm)
  refine ⟨h.below.trans ⟨hgrow.os, hgrow.tape, hgrow.output, hgrow.size, fun k hk' => ?_⟩, ownsRow_cast hown (by simp) (by simp), ?_, h.srcB⟩
  · exact hk k (by have := h.rd.lt; omega) (fun e => by have := (hne _ e).2.1; omega)
  · refine ⟨by rw [hk _ h.rd.lt (fun e => (hne _ e).1 rfl)]; exact h.rd.self, fun h0 => ?_, h.rd.le, h.rd.cap, h.rd.max⟩
    obtain ⟨b, o, e, hlt, hbn, hc⟩ := h.rd.src h0
    have hbw := h.srcB b o h0 e
    exact ⟨b, o, e, Nat.lt_of_lt_of_le hlt hgrow.size, hbn, fun j y hj => (World.cell?_of_block (a := ⟨b, o + j, none⟩) (hk b hlt (fun e1 => by have := (hne _ e1).2.1; omega))).trans (hc j y hj)⟩
theorem flat4 : ∀ (t : List BalM) (i : Nat) (x : BalM), t[i]? = some x → (t.flatMap balCells)[i * 4]? = some (.int .i64 x.ent) ∧ (t.flatMap balCells)[i * 4 + 1]? = some (.string x.acc) ∧ (t.flatMap balCells)[i * 4 + 2]? = some (.string x.cur) ∧ (t.flatMap balCells)[i * 4 + 3]? = some (.int .i64 x.amt)
  | [], i, x, h => by simp at h
  | y :: t, 0, x, h => by
    simp only [List.getElem?_cons_zero, Option.some.injEq] at h
    subst h
    exact ⟨rfl, rfl, rfl, rfl⟩
  | y :: t, i + 1, x, h => by
    simp only [List.getElem?_cons_succ] at h
    obtain ⟨h1, h2, h3, h4⟩ := flat4 t i x h
    have e : ∀ j, ((y :: t).flatMap balCells)[(i + 1) * 4 + j]? = (t.flatMap balCells)[i * 4 + j]? := fun j => by
      rw [List.flatMap_cons, List.getElem?_append_right (by simp [balCells]; omega)]
      congr 1
      simp [balCells]
      omega
    exact ⟨(e 0).trans h1, (e 1).trans h2, (e 2).trans h3, (e 3).trans h4⟩
theorem bals_of_row {w : World} {B : Nat} {lv : Value} {t : List BalM} (h : w.ownsRow B 106 4 lv t.length (t.flatMap balCells)) : ∃ lao lc, lv = .slice lao t.length lc ∧ BalsAt w lao t := by
  rcases h.2 with ⟨hv, hx⟩ | ⟨g, c, cur, hv, hb, hh, r⟩
  · have ht : t = [] := List.length_eq_zero_iff.1 hx
    subst ht
    exact ⟨none, 0, hv, Or.inl rfl⟩
  · refine ⟨some ⟨g, 0, none⟩, c, hv, Or.inr ⟨g, 0, rfl, lt_of_heap hh, fun i x hx => ?_⟩⟩
    obtain ⟨h1, h2, h3, h4⟩ := flat4 t i x hx
    have hc := h.cells (g := g) (by rw [hv]; rfl)
    have k1 := hc _ _ h1
    have k2 := hc _ _ h2
    have k3 := hc _ _ h3
    have k4 := hc _ _ h4
    rw [addr_add] at k1 k2 k3 k4
    exact ⟨k1, by rw [← k2]; congr 2, by rw [← k3]; congr 2, by rw [← k4]; congr 2⟩
/-- what ReadBalances answers -/
def RBalPost (B : Nat) (w : World) (l : List UInt8) (e : Ending) (w' : World) : Prop :=
  Below B w w' ∧ match rdBals balCmp l with
    | some (t, r) => ∃ lao lc, e = .returned (.tuple #[.slice lao t.length lc, .int .i64 ((l.length - r.length : Nat) : Int), .nilIface]) ∧ BalsAt w' lao t
    | none => e = .returned (.tuple #[.slice none 0 0, .int .i64 0, errV 9])
end Go.Proofs.YtldpflijgbcbhaaDoor
