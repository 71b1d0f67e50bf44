/- LedgerOrder: the plain law: what Merge answers, as sums at places. -/
import Derived.Test.YtbhndnjlplibmaaMp5
import Derived.Test.YtbhndnjlplibmaaLoK
namespace Go.Proofs.Ytbhndnjlplibmaa.lg
open Go.RowKit

/- check -/
def chainP : Option BalM → List BalM → Prop
  | _, [] => True
  | p, x :: r => (notRise p x = false ∧ mayB x.amt = true ∧ x.amt ≠ 0) ∧ chainP (some x) r
theorem balOne_zero {p : Option BalM} {x : BalM} : balOne p x = 0 ↔ notRise p x = false ∧ mayB x.amt = true ∧ x.amt ≠ 0 := by
  unfold balOne
  cases h1 : notRise p x <;> cases h2 : mayB x.amt <;> by_cases h3 : x.amt = 0 <;> simp [h3]
theorem prevL_app (pre : List BalM) (r : List BalM) : prevL (pre ++ r) pre.length = pre.getLast? := by
  unfold prevL
  cases h : pre.length with
  | zero => rw [if_pos rfl, List.length_eq_zero_iff.1 h]; rfl
  | succ n => rw [if_neg (by omega), Nat.add_sub_cancel, List.getElem?_append_left (by omega), List.getLast?_eq_getElem?, h, Nat.add_sub_cancel]
theorem balFrom_chain : ∀ (r pre : List BalM), balFrom (pre ++ r) r pre.length = 0 ↔ chainP pre.getLast? r
  | [], pre => by simp [balFrom, chainP]
  | x :: r, pre => by
    unfold balFrom chainP
    rw [prevL_app, ← balOne_zero]
    have ih := balFrom_chain r (pre ++ [x])
    rw [List.append_assoc, List.singleton_append, List.length_append, List.length_singleton, List.getLast?_append, List.getLast?_singleton] at ih
    by_cases h : balOne pre.getLast? x = 0
    · rw [if_pos h]
      simp only [h, true_and]
      exact ih
    · rw [if_neg h]
      simp only [h, false_and]
theorem notRise_some {y x : BalM} : notRise (some y) x = false ↔ ltK (plOf y) (plOf x) := by
  unfold notRise
  rw [decide_eq_false_iff_not, balCmp_ge, Classical.not_not]
theorem chain_some : ∀ (r : List BalM) (y : BalM), chainP (some y) r ↔ Rises (y :: r) ∧ ∀ x ∈ r, mayB x.amt = true ∧ x.amt ≠ 0
  | [], y => by simp [chainP, Rises]
  | x :: r, y => by
    unfold chainP
    rw [chain_some r x, notRise_some]
    constructor
    · rintro ⟨⟨h1, h2, h3⟩, h4, h5⟩
      refine ⟨List.pairwise_cons.2 ⟨fun z hz => ?_, h4⟩, fun z hz => ?_⟩
      · rcases List.mem_cons.1 hz with rfl | hz
        · exact h1
        · exact ltK_trans h1 ((List.pairwise_cons.1 h4).1 z hz)
      · rcases List.mem_cons.1 hz with rfl | hz
        · exact ⟨h2, h3⟩
        · exact h5 z hz
    · rintro ⟨h1, h2⟩
      have h1' := List.pairwise_cons.1 h1
      exact ⟨⟨h1'.1 x (List.mem_cons_self ..), h2 x (List.mem_cons_self ..)⟩, h1'.2, fun z hz => h2 z (List.mem_cons_of_mem _ hz)⟩
theorem chk_iff {t : List BalM} : chkB t = 0 ↔ t.length ≤ 200 ∧ Rises t ∧ ∀ x ∈ t, mayB x.amt = true ∧ x.amt ≠ 0 := by
  unfold chkB
  by_cases hl : 200 < t.length
  · rw [if_pos hl]
    constructor
    · intro h; cases h
    · intro h; omega
  · rw [if_neg hl]
    have h0 := balFrom_chain t []
    rw [List.nil_append, List.length_nil, List.getLast?_nil] at h0
    rw [h0]
    cases t with
    | nil => simp [chainP, Rises]
    | cons x r =>
      unfold chainP
      rw [chain_some]
      constructor
      · rintro ⟨⟨_, h2⟩, h4, h5⟩
        refine ⟨by omega, h4, fun z hz => ?_⟩
        rcases List.mem_cons.1 hz with rfl | hz
        · exact h2
        · exact h5 z hz
      · rintro ⟨_, h1, h2⟩
        exact ⟨⟨rfl, h2 x (List.mem_cons_self ..)⟩, h1, fun z hz => h2 z (List.mem_cons_of_mem _ hz)⟩
theorem fold_get : ∀ (l : List BalM) (T : List (PlM × Int)), (∀ k p, -9223372036854775808 ≤ tabGet T p + sumAt (l.take k) p ∧ tabGet T p + sumAt (l.take k) p ≤ 9223372036854775807) → ∀ p, tabGet (foldT l T) p = tabGet T p + sumAt l p
  | [], T, _, p => by simp [foldT, sumAt_nil]
  | y :: r, T, h, p => by
    have h1 := h 1 (plOf y)
    rw [List.take_succ_cons, List.take_zero, sumAt_cons, if_pos rfl, sumAt_nil, Int.add_zero] at h1
    have hw : IntKind.i64.wrap (tabGet T (plOf y) + y.amt) = tabGet T (plOf y) + y.amt := IntWalk.i64_in _ h1
    have hg : ∀ q, tabGet (stepT T y) q = tabGet T q + if plOf y = q then y.amt else 0 := fun q => by
      unfold stepT
      rw [hw]
      by_cases e : plOf y = q
      · rw [← e, get_put, if_pos rfl]
      · rw [get_put_ne _ _ (fun e' => e e'.symm), if_neg e, Int.add_zero]
    have ih := fold_get r (stepT T y) (fun k q => by
      have := h (k + 1) q
      rw [List.take_succ_cons, sumAt_cons] at this
      rw [hg]
      omega) p
    show tabGet (foldT r (stepT T y)) p = _
    rw [ih, hg, sumAt_cons]
    omega
theorem two_sums {a b : List BalM} (ha : chkB a = 0) (hb : chkB b = 0) (p : PlM) : tabGet (foldT (a ++ b) []) p = sumAt a p + sumAt b p := by
  obtain ⟨_, ha1, ha2⟩ := chk_iff.1 ha
  obtain ⟨_, hb1, hb2⟩ := chk_iff.1 hb
  rw [fold_get (a ++ b) [] (fun k q => ?_) p, sumAt_append]
  · show 0 + _ = _
    omega
  · rw [List.take_append, sumAt_append]
    have h1 := mayB_iff.1 (sum_small (l := a.take k) (ha1.nodup.sublist (List.take_sublist _ _)) (fun x hx => (ha2 x (List.mem_of_mem_take hx)).1) q)
    have h2 := mayB_iff.1 (sum_small (l := b.take (k - a.length)) (hb1.nodup.sublist (List.take_sublist _ _)) (fun x hx => (hb2 x (List.mem_of_mem_take hx)).1) q)
    have h0 : tabGet [] q = 0 := rfl
    omega
/- Merge -/
def OkM (a b : List BalM) : Prop := chkB a = 0 ∧ chkB b = 0 ∧ (foldT (a ++ b) []).length ≤ 200 ∧ ∀ p, mayB (sumAt a p + sumAt b p) = true
structure MergeIs (a b : List BalM) (c : Int) (L : List BalM) : Prop where
  iff : c = 0 ↔ OkM a b
  nil : c ≠ 0 → L = []
  chk : c = 0 → chkB L = 0
  sum : c = 0 → ∀ p, sumAt L p = sumAt a p + sumAt b p
  pl : (∀ x ∈ a, plOk (plOf x)) → (∀ x ∈ b, plOk (plOf x)) → ∀ x ∈ L, plOk (plOf x)
def MergeOut (B : Nat) (w : World) (a b : List BalM) (e : Ending) (w' : World) : Prop :=
  Below B w w' ∧ ∃ (c : Int) (so : Option Addr) (sc : Nat) (L : List BalM), e = .returned (.tuple #[.slice so L.length sc, errV c]) ∧ BalsAt w' so L ∧ MergeIs a b c L
theorem merge_out {B : Nat} {w w' : World} {a b : List BalM} {e : Ending} (h : MergePost B w a b e w') : MergeOut B w a b e w' := by
  obtain ⟨hb, h⟩ := h
  refine ⟨hb, ?_⟩
  have empty : ∀ c, c ≠ 0 → ¬ OkM a b → e = .returned (.tuple #[.slice none 0 0, errV c]) → ∃ (c : Int) (so : Option Addr) (sc : Nat) (L : List BalM), e = .returned (.tuple #[.slice so L.length sc, errV c]) ∧ BalsAt w' so L ∧ MergeIs a b c L := fun c hc hn he =>
    ⟨c, none, 0, [], he, Or.inl rfl, ⟨⟨fun h => absurd h hc, fun h => absurd h hn⟩, fun _ => rfl, fun h => absurd h hc, fun h => absurd h hc, fun _ _ x hx => by cases hx⟩⟩
  rcases h with ⟨h1, he⟩ | ⟨_, h1, he⟩ | ⟨_, _, h1, he⟩ | ⟨ha, hb0, hlen, ao, cap, L, hL, hbl, hc⟩
  · exact empty _ h1 (fun h => h1 h.1) he
  · exact empty _ h1 (fun h => h1 h.2.1) he
  · exact empty 4 (by decide) (fun h => by have := h.2.2.1; omega) he
  · have hs : ∀ p, sumAt L p = sumAt a p + sumAt b p := fun p => by rw [hL.sum, two_sums ha hb0]
    rcases hc with ⟨hbad, he⟩ | ⟨hbad, he⟩
    · refine empty 10 (by decide) (fun h => ?_) he
      obtain ⟨x, hx, hm⟩ := List.any_eq_true.1 hbad
      have := h.2.2.2 (plOf x)
      rw [← hs, sumAt_mem hL.rises.nodup hx] at this
      rw [this] at hm
      cases hm
    · have hmy : ∀ x ∈ L, mayB x.amt = true := fun x hx => by
        cases hm : mayB x.amt with
        | true => rfl
        | false =>
          have : badM L = true := List.any_eq_true.2 ⟨x, hx, by rw [hm]; rfl⟩
          rw [hbad] at this
          cases this
      refine ⟨0, ao, cap, L, he, hbl, ⟨⟨fun _ => ⟨ha, hb0, hlen, fun p => by rw [← hs]; exact sum_small hL.rises.nodup hmy p⟩, fun _ => rfl⟩, fun h => absurd rfl h, fun _ => chk_iff.2 ⟨by have := hL.len; omega, hL.rises, fun x hx => ⟨hmy x hx, hL.ne x hx⟩⟩, fun _ => hs, fun h1 h2 x hx => ?_⟩⟩
      have hk : plOf x ∈ (foldT (a ++ b) []).map (·.1) := List.mem_map.2 ⟨_, hL.mem x hx, rfl⟩
      rcases (fold_keys _ _ _).1 hk with h | ⟨y, hy, e'⟩
      · cases h
      · rw [← e']
        rcases List.mem_append.1 hy with hy | hy
        · exact h1 y hy
        · exact h2 y hy
theorem OkM.swap {a b : List BalM} (h : OkM a b) : OkM b a := by
  obtain ⟨h1, h2, h3, h4⟩ := h
  refine ⟨h2, h1, Nat.le_trans (fold_len fun x hx => ⟨x, ?_, rfl⟩) h3, fun p => by rw [Int.add_comm]; exact h4 p⟩
  rcases List.mem_append.1 hx with h | h
  · exact List.mem_append_right _ h
  · exact List.mem_append_left _ h
theorem chk_ext {x y : List BalM} (hx : chkB x = 0) (hy : chkB y = 0) (h : ∀ p, sumAt x p = sumAt y p) : x = y := by
  obtain ⟨_, h1, h2⟩ := chk_iff.1 hx
  obtain ⟨_, h3, h4⟩ := chk_iff.1 hy
  exact rises_ext h1 h3 (fun b hb => (h2 b hb).2) (fun b hb => (h4 b hb).2) h
/-- in either order -/
theorem merge_swap {a b x y : List BalM} {c d : Int} (h : MergeIs a b c x) (k : MergeIs b a d y) : (c = 0 ↔ d = 0) ∧ (c = 0 → x = y) := by
  have e : c = 0 ↔ d = 0 := ⟨fun h0 => k.iff.2 (h.iff.1 h0).swap, fun h0 => h.iff.2 (k.iff.1 h0).swap⟩
  refine ⟨e, fun h0 => chk_ext (h.chk h0) (k.chk (e.1 h0)) fun p => ?_⟩
  rw [h.sum h0, k.sum (e.1 h0), Int.add_comm]
/-- with nothing -/
theorem merge_none {a x : List BalM} {c : Int} (ha : chkB a = 0) (h : MergeIs a [] c x) : c = 0 ∧ x = a := by
  obtain ⟨h1, h2, h3⟩ := chk_iff.1 ha
  have h0 : c = 0 := h.iff.2 ⟨ha, by decide, by rw [List.append_nil]; exact Nat.le_trans (fold_le (fun x hx => ⟨x, hx, rfl⟩)) h1, fun p => by rw [sumAt_nil, Int.add_zero]; exact sum_small h2.nodup (fun x hx => (h3 x hx).1) p⟩
  refine ⟨h0, chk_ext (h.chk h0) ha fun p => ?_⟩
  rw [h.sum h0, sumAt_nil, Int.add_zero]
def negB (x : BalM) : BalM := { x with amt := -x.amt }
theorem sum_neg (a : List BalM) (p : PlM) : sumAt (a.map negB) p = - sumAt a p := by
  induction a with
  | nil => rfl
  | cons x r ih =>
    rw [List.map_cons, sumAt_cons, sumAt_cons, ih]
    show (if plOf x = p then -x.amt else 0) + _ = _
    split <;> omega
theorem chk_neg {a : List BalM} (ha : chkB a = 0) : chkB (a.map negB) = 0 := by
  obtain ⟨h1, h2, h3⟩ := chk_iff.1 ha
  refine chk_iff.2 ⟨by rw [List.length_map]; exact h1, List.pairwise_map.2 h2, fun x hx => ?_⟩
  obtain ⟨y, hy, rfl⟩ := List.mem_map.1 hx
  have h4 := h3 y hy
  have h5 := mayB_iff.1 h4.1
  exact ⟨mayB_iff.2 (by show _ ≤ -y.amt ∧ -y.amt ≤ _; omega), by show -y.amt ≠ 0; have := h4.2; omega⟩
/-- with its contrary -/
theorem merge_neg {a x : List BalM} {c : Int} (ha : chkB a = 0) (h : MergeIs a (a.map negB) c x) : c = 0 ∧ x = [] := by
  obtain ⟨h1, h2, h3⟩ := chk_iff.1 ha
  have hz : ∀ p, sumAt a p + sumAt (a.map negB) p = 0 := fun p => by rw [sum_neg]; omega
  have h0 : c = 0 := h.iff.2 ⟨ha, chk_neg ha, Nat.le_trans (fold_le (m := a) (fun x hx => by
    rcases List.mem_append.1 hx with h | h
    · exact ⟨x, h, rfl⟩
    · obtain ⟨y, hy, rfl⟩ := List.mem_map.1 h
      exact ⟨y, hy, rfl⟩)) h1, fun p => by rw [hz]; rfl⟩
  refine ⟨h0, chk_ext (h.chk h0) (by decide) fun p => ?_⟩
  rw [h.sum h0, hz, sumAt_nil]
/-- of three, however they are taken -/
theorem merge_three {a b c x p q r : List BalM} {i j k l : Int} (hx : MergeIs a b i x) (hp : MergeIs x c j p) (hq : MergeIs b c k q) (hr : MergeIs a q l r) (i0 : i = 0) (j0 : j = 0) (k0 : k = 0) (l0 : l = 0) : p = r := by
  refine chk_ext (hp.chk j0) (hr.chk l0) fun z => ?_
  rw [hp.sum j0, hx.sum i0, hr.sum l0, hq.sum k0]
  omega
/-- 2 and 3 are 5 -/
theorem merge_fact {ac cu : ByteArray} {c : Int} {L : List BalM} (h : MergeIs [⟨1, ac, cu, 2⟩] [⟨1, ac, cu, 3⟩] c L) : c = 0 ∧ L = [⟨1, ac, cu, 5⟩] := by
  have one : ∀ n : Int, mayB n = true → n ≠ 0 → chkB [⟨1, ac, cu, n⟩] = 0 := fun n h1 h2 => chk_iff.2 ⟨by simp, by simp [Rises], fun x hx => by rw [List.mem_singleton.1 hx]; exact ⟨h1, h2⟩⟩
  have hs : ∀ p, sumAt [⟨1, ac, cu, 2⟩] p + sumAt [⟨1, ac, cu, 3⟩] p = sumAt [⟨1, ac, cu, 5⟩] p := fun p => by
    simp only [sumAt_cons, sumAt_nil]
    show (if (⟨1, ac, cu⟩ : PlM) = p then (2 : Int) else 0) + 0 + ((if (⟨1, ac, cu⟩ : PlM) = p then (3 : Int) else 0) + 0) = (if (⟨1, ac, cu⟩ : PlM) = p then (5 : Int) else 0) + 0
    split <;> rfl
  have h0 : c = 0 := h.iff.2 ⟨one 2 (by decide) (by decide), one 3 (by decide) (by decide), Nat.le_trans (fold_le (m := [⟨1, ac, cu, 2⟩, ⟨1, ac, cu, 3⟩]) (fun x hx => ⟨x, hx, rfl⟩)) (by simp), fun p => by rw [hs]; exact sum_small (by simp) (fun x hx => by rw [List.mem_singleton.1 hx]; rfl) p⟩
  refine ⟨h0, chk_ext (h.chk h0) (one 5 (by decide) (by decide)) fun p => ?_⟩
  rw [h.sum h0, hs]
end Go.Proofs.Ytbhndnjlplibmaa.lg
