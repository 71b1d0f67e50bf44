/- The order of balances: by place; lists that rise. No program in sight. -/
import Derived.Test.YtbhndnjlplibmaaMp1
namespace Go.Proofs.Ytbhndnjlplibmaa.lg
open Go.RowKit

theorem bl_irrefl : ∀ l : List UInt8, Op.bytesLess l l = false
  | [] => rfl
  | a :: t => by simp [Op.bytesLess, bl_irrefl t]
theorem bl_trans : ∀ {x y z : List UInt8}, Op.bytesLess x y = true → Op.bytesLess y z = true → Op.bytesLess x z = true
  | _, _, [], _, h => by cases ‹List UInt8› <;> simp [Op.bytesLess] at h
  | _, [], _ :: _, h, _ => by cases ‹List UInt8› <;> simp [Op.bytesLess] at h
  | [], _ :: _, _ :: _, _, _ => rfl
  | a :: x, b :: y, c :: z, h, k => by
    simp only [Op.bytesLess, Bool.or_eq_true, Bool.and_eq_true, decide_eq_true_eq, beq_iff_eq] at h k ⊢
    rcases h with h | ⟨rfl, h⟩
    · rcases k with k | ⟨rfl, k⟩
      · exact Or.inl (UInt8.lt_trans h k)
      · exact Or.inl h
    · rcases k with k | ⟨rfl, k⟩
      · exact Or.inl k
      · exact Or.inr ⟨rfl, bl_trans h k⟩
theorem bl_total : ∀ {x y : List UInt8}, x ≠ y → Op.bytesLess x y = true ∨ Op.bytesLess y x = true
  | [], [], h => absurd rfl h
  | [], _ :: _, _ => Or.inl rfl
  | _ :: _, [], _ => Or.inr rfl
  | a :: x, b :: y, h => by
    simp only [Op.bytesLess, Bool.or_eq_true, Bool.and_eq_true, decide_eq_true_eq, beq_iff_eq]
    rcases Nat.lt_trichotomy a.toNat b.toNat with h1 | h1 | h1
    · exact Or.inl (Or.inl (UInt8.lt_iff_toNat_lt.2 h1))
    · have e : a = b := UInt8.toNat_inj.1 h1
      subst e
      rcases bl_total (x := x) (y := y) (fun e => h (by rw [e])) with k | k
      · exact Or.inl (Or.inr ⟨rfl, k⟩)
      · exact Or.inr (Or.inr ⟨rfl, k⟩)
    · exact Or.inr (Or.inl (UInt8.lt_iff_toNat_lt.2 h1))
theorem toList_inj {a b : ByteArray} (h : a.toList = b.toList) : a = b := by
  rw [ByteArray.toList_eq, ByteArray.toList_eq] at h
  cases a; cases b
  simpa using Array.toList_inj.1 h
theorem sameS_iff {a b : ByteArray} : sameS a b = true ↔ a = b := by
  unfold sameS
  rw [beq_iff_eq]
  exact ⟨toList_inj, fun h => by rw [h]⟩
def plOf (x : BalM) : PlM := ⟨x.ent, x.acc, x.cur⟩
def ltK (p q : PlM) : Prop := p.ent < q.ent ∨ (p.ent = q.ent ∧ (lessS p.acc q.acc = true ∨ (p.acc = q.acc ∧ lessS p.cur q.cur = true)))
theorem ltK_irrefl (p : PlM) : ¬ ltK p p := by
  rintro (h | ⟨_, h | ⟨_, h⟩⟩)
  · omega
  · unfold lessS at h; rw [bl_irrefl] at h; cases h
  · unfold lessS at h; rw [bl_irrefl] at h; cases h
theorem ltK_trans {p q r : PlM} (h : ltK p q) (k : ltK q r) : ltK p r := by
  rcases h with h | ⟨e, h⟩
  · rcases k with k | ⟨e', _⟩
    · exact Or.inl (by omega)
    · exact Or.inl (by omega)
  · rcases k with k | ⟨e', k⟩
    · exact Or.inl (by omega)
    · refine Or.inr ⟨by omega, ?_⟩
      rcases h with h | ⟨f, h⟩
      · rcases k with k | ⟨f', _⟩
        · exact Or.inl (bl_trans h k)
        · exact Or.inl (by rw [← f']; exact h)
      · rcases k with k | ⟨f', k⟩
        · exact Or.inl (by rw [f]; exact k)
        · exact Or.inr ⟨by rw [f, f'], bl_trans h k⟩
theorem ltK_total {p q : PlM} (h : p ≠ q) : ltK p q ∨ ltK q p := by
  rcases Int.lt_trichotomy p.ent q.ent with h1 | h1 | h1
  · exact Or.inl (Or.inl h1)
  · by_cases h2 : p.acc = q.acc
    · by_cases h3 : p.cur = q.cur
      · exact absurd (by cases p; cases q; simp_all) h
      · rcases bl_total (x := p.cur.toList) (y := q.cur.toList) (fun e => h3 (toList_inj e)) with k | k
        · exact Or.inl (Or.inr ⟨h1, Or.inr ⟨h2, k⟩⟩)
        · exact Or.inr (Or.inr ⟨h1.symm, Or.inr ⟨h2.symm, k⟩⟩)
    · rcases bl_total (x := p.acc.toList) (y := q.acc.toList) (fun e => h2 (toList_inj e)) with k | k
      · exact Or.inl (Or.inr ⟨h1, Or.inl k⟩)
      · exact Or.inr (Or.inr ⟨h1.symm, Or.inl k⟩)
  · exact Or.inr (Or.inl h1)
theorem cmpS_lt {a b : ByteArray} : cmpS a b < 0 ↔ lessS a b = true := by
  unfold cmpS
  split
  · rename_i h; simp [h]
  · rename_i h
    split <;> simp [h]
theorem cmpS_zero {a b : ByteArray} : cmpS a b = 0 ↔ a = b := by
  unfold cmpS
  split
  · rename_i h
    refine ⟨fun e => (by cases e), fun e => ?_⟩
    subst e
    unfold lessS at h; rw [bl_irrefl] at h; cases h
  · split
    · rename_i h; simp [sameS_iff.1 h]
    · rename_i h; exact ⟨fun e => (by cases e), fun e => absurd (sameS_iff.2 e) h⟩
theorem cmpI_lt {a b : Int} : cmpI a b < 0 ↔ a < b := by
  unfold cmpI
  split
  · rename_i h; simp [h]
  · split <;> (simp; omega)
theorem cmpI_zero {a b : Int} : cmpI a b = 0 ↔ a = b := by
  unfold cmpI
  split
  · rename_i h; simp; omega
  · split <;> (simp; omega)
theorem balCmp_lt {x y : BalM} : balCmp x y < 0 ↔ ltK (plOf x) (plOf y) := by
  unfold balCmp ltK plOf
  simp only [firstOf]
  by_cases h1 : cmpI x.ent y.ent = 0
  · rw [if_pos h1]
    have e1 := cmpI_zero.1 h1
    by_cases h2 : cmpS x.acc y.acc = 0
    · rw [if_pos h2]
      have e2 := cmpS_zero.1 h2
      have hn : lessS x.acc y.acc = false := by rw [e2]; exact bl_irrefl _
      by_cases h3 : cmpS x.cur y.cur = 0
      · rw [if_pos h3]
        have e3 := cmpS_zero.1 h3
        have hn3 : lessS x.cur y.cur = false := by rw [e3]; exact bl_irrefl _
        simp [e1, hn, hn3]
      · rw [if_neg h3, cmpS_lt]
        simp [e1, e2, bl_irrefl, lessS]
    · rw [if_neg h2, cmpS_lt]
      have : x.acc ≠ y.acc := fun e => h2 (cmpS_zero.2 e)
      simp [e1, this]
  · rw [if_neg h1, cmpI_lt]
    have : x.ent ≠ y.ent := fun e => h1 (cmpI_zero.2 e)
    simp [this]
theorem balCmp_ge {x y : BalM} : 0 ≤ balCmp x y ↔ ¬ ltK (plOf x) (plOf y) := by rw [← balCmp_lt]; omega

/-- it rises, place by place -/
def Rises (l : List BalM) : Prop := l.Pairwise fun x y => ltK (plOf x) (plOf y)
/-- what is at a place, all together -/
def sumAt (l : List BalM) (p : PlM) : Int := (l.map fun x => if plOf x = p then x.amt else 0).sum
theorem sumAt_append (l r : List BalM) (p : PlM) : sumAt (l ++ r) p = sumAt l p + sumAt r p := by unfold sumAt; rw [List.map_append, List.sum_append]
theorem sumAt_nil (p : PlM) : sumAt [] p = 0 := rfl
theorem sumAt_cons (x : BalM) (l : List BalM) (p : PlM) : sumAt (x :: l) p = (if plOf x = p then x.amt else 0) + sumAt l p := by unfold sumAt; rw [List.map_cons, List.sum_cons]
theorem sumAt_perm {l r : List BalM} (h : l.Perm r) (p : PlM) : sumAt l p = sumAt r p := by
  induction h with
  | nil => rfl
  | cons x _ ih => rw [sumAt_cons, sumAt_cons, ih]
  | swap x y l => rw [sumAt_cons, sumAt_cons, sumAt_cons, sumAt_cons]; omega
  | trans _ _ h1 h2 => rw [h1, h2]
theorem sumAt_none {l : List BalM} {p : PlM} (h : ∀ x ∈ l, plOf x ≠ p) : sumAt l p = 0 := by
  induction l with
  | nil => rfl
  | cons x l ih => rw [sumAt_cons, if_neg (h x (List.mem_cons_self ..)), ih (fun y hy => h y (List.mem_cons_of_mem _ hy))]; rfl
theorem Rises.nodup {l : List BalM} (h : Rises l) : l.Pairwise fun x y => plOf x ≠ plOf y := List.Pairwise.imp (fun {x y} (hlt : ltK (plOf x) (plOf y)) (e : plOf x = plOf y) => ltK_irrefl _ (by rw [e] at hlt; exact hlt)) h
theorem sumAt_mem : ∀ {l : List BalM}, (l.Pairwise fun x y => plOf x ≠ plOf y) → ∀ {x}, x ∈ l → sumAt l (plOf x) = x.amt
  | [], _, _, h => by cases h
  | y :: r, hp, x, h => by
    obtain ⟨h1, h2⟩ := List.pairwise_cons.1 hp
    rw [sumAt_cons]
    rcases List.mem_cons.1 h with rfl | h
    · rw [if_pos rfl, sumAt_none (fun z hz => (h1 z hz).symm)]; omega
    · rw [if_neg (h1 x h), sumAt_mem h2 h]; omega
/-- two that rise, with nothing of nought, and as much at each place, are one -/
theorem rises_ext : ∀ {x y : List BalM}, Rises x → Rises y → (∀ b ∈ x, b.amt ≠ 0) → (∀ b ∈ y, b.amt ≠ 0) → (∀ p, sumAt x p = sumAt y p) → x = y
  | [], [], _, _, _, _, _ => rfl
  | [], b :: s, _, hy, _, ny, h => by
    have := sumAt_mem hy.nodup (List.mem_cons_self (a := b) (l := s))
    rw [← h, sumAt_nil] at this
    exact absurd this.symm (ny b (List.mem_cons_self ..))
  | a :: r, [], hx, _, nx, _, h => by
    have := sumAt_mem hx.nodup (List.mem_cons_self (a := a) (l := r))
    rw [h, sumAt_nil] at this
    exact absurd this.symm (nx a (List.mem_cons_self ..))
  | a :: r, b :: s, hx, hy, nx, ny, h => by
    obtain ⟨hx1, hx2⟩ := List.pairwise_cons.1 hx
    obtain ⟨hy1, hy2⟩ := List.pairwise_cons.1 hy
    have mem_of : ∀ {l : List BalM} {p : PlM}, sumAt l p ≠ 0 → ∃ z ∈ l, plOf z = p := fun {l p} hn => by
      by_cases hc : ∃ z ∈ l, plOf z = p
      · exact hc
      · exact absurd (sumAt_none (fun z hz e => hc ⟨z, hz, e⟩)) hn
    have ha := sumAt_mem hx.nodup (List.mem_cons_self (a := a) (l := r))
    have hb := sumAt_mem hy.nodup (List.mem_cons_self (a := b) (l := s))
    have hpl : plOf a = plOf b := by
      obtain ⟨z, hz, ez⟩ := mem_of (l := b :: s) (p := plOf a) (by rw [← h, ha]; exact nx a (List.mem_cons_self ..))
      obtain ⟨u, hu, eu⟩ := mem_of (l := a :: r) (p := plOf b) (by rw [h, hb]; exact ny b (List.mem_cons_self ..))
      rcases List.mem_cons.1 hz with rfl | hz
      · exact ez.symm
      · rcases List.mem_cons.1 hu with rfl | hu
        · exact eu
        · have l1 := hy1 z hz
          have l2 := hx1 u hu
          rw [ez] at l1
          rw [eu] at l2
          exact absurd (ltK_trans l1 l2) (ltK_irrefl _)
    have hamt : a.amt = b.amt := by rw [← ha, ← hb, hpl, h]
    have hab : a = b := by
      cases a; cases b
      simp only [plOf, PlM.mk.injEq] at hpl
      simp only at hamt
      simp [hpl, hamt]
    subst hab
    rw [rises_ext hx2 hy2 (fun z hz => nx z (List.mem_cons_of_mem _ hz)) (fun z hz => ny z (List.mem_cons_of_mem _ hz)) (fun p => by
      have := h p
      rw [sumAt_cons, sumAt_cons] at this
      omega)]
def encB (x : BalM) : List Value := [.int .i64 x.ent, .string x.acc, .string x.cur, .int .i64 x.amt]
/-- what slices.SortFunc does at balances -/
def SortAll : Prop := ∀ (base : Nat) (v : Value) (l : List BalM) (w : World), w.ownsRow base 43 4 v l.length (l.flatMap encB) → (l.Pairwise fun x y => plOf x ≠ plOf y) → l.length ≤ 1000 →
    Calls Try.prog 61 #[v, .func (.func 59) #[] #[]] w fun e w' => e = .returned (.tuple #[]) ∧ ∃ ao cap L, v = .slice ao L.length cap ∧ L.Perm l ∧ Rises L ∧ BalsAt w' ao L ∧ Below base w w'
end Go.Proofs.Ytbhndnjlplibmaa.lg
