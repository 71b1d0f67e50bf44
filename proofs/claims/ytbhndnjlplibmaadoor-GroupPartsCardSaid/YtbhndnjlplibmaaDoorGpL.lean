/- Holdings that lead back: what group.order finds is what dayref3.Holdings finds; and what a top has of each, by either road. -/
import Derived.Test.YtbhndnjlplibmaaDoorGroup5
namespace Go.Proofs.YtbhndnjlplibmaaDoor
open Go.RowKit
namespace gp

/-- a has a part of b, or of one that has .. -/
inductive Reach (hs : List Hold) (a : Int) : Int → Prop
  | here : Reach hs a a
  | on {x : Int} {h : Hold} : Reach hs a x → h ∈ hs → h.e = x → Reach hs a h.o
/-- e has a part of itself -/
def cyc (hs : List Hold) (e : Int) : Prop := ∃ h ∈ hs, Reach hs e h.e ∧ h.o = e
theorem Reach.trans {hs : List Hold} {a b c : Int} (h : Reach hs a b) (k : Reach hs b c) : Reach hs a c := by
  induction k with
  | here => exact h
  | on _ hm he ih => exact Reach.on ih hm he

/-- whole numbers of 1 .. n, each once, are no more than n -/
theorem nodup_len : ∀ (n : Nat) (l : List Int), l.Nodup → (∀ e ∈ l, 1 ≤ e ∧ e ≤ (n : Int)) → l.length ≤ n
  | 0, [], _, _ => Nat.le_refl _
  | 0, a :: l, _, h => by have := h a (by simp); omega
  | n + 1, l, hn, h => by
    have h1 := nodup_len n (l.filter fun e => decide (e ≠ ((n + 1 : Nat) : Int))) (hn.filter _) (fun e he => by
      rw [List.mem_filter] at he
      have := h e he.1
      have := of_decide_eq_true he.2
      omega)
    have h2 : l.length ≤ (l.filter fun e => decide (e ≠ ((n + 1 : Nat) : Int))).length + 1 := by
      clear h1 h
      generalize ((n + 1 : Nat) : Int) = m
      induction l with
      | nil => simp
      | cons a l ih =>
        rw [List.nodup_cons] at hn
        by_cases ha : a = m
        · subst ha
          have : l.filter (fun e => decide (e ≠ a)) = l := by
            rw [List.filter_eq_self]
            intro e he
            have : e ≠ a := fun e2 => hn.1 (e2 ▸ he)
            simpa using this
          rw [List.filter_cons, if_neg (by simp), this, List.length_cons]
          exact Nat.le_refl _
        · have := ih hn.2
          rw [List.filter_cons, if_pos (by simpa using ha), List.length_cons, List.length_cons]
          omega
    omega

/-- each stands behind those that have a part of it, and once -/
def TopO (hs : List Hold) (out : List Int) : Prop := ∀ (i : Nat) (e : Int), out[i]? = some e → e ∉ out.take i ∧ ∀ h ∈ hs, h.o = e → h.e ∈ out.take i
theorem TopO.nil (hs : List Hold) : TopO hs [] := fun i e h => by simp at h
theorem TopO.snoc {hs : List Hold} {out : List Int} (h : TopO hs out) {e : Int} (h1 : e ∉ out) (h2 : ∀ x ∈ hs, x.o = e → x.e ∈ out) : TopO hs (out ++ [e]) := by
  intro i a ha
  by_cases hi : i < out.length
  · rw [List.getElem?_append_left hi] at ha
    rw [List.take_append_of_le_length (by omega)]
    exact h i a ha
  · rw [List.getElem?_append_right (by omega)] at ha
    have hi2 : i = out.length := by
      rcases Nat.lt_or_ge (i - out.length) 1 with h' | h'
      · omega
      · rw [List.getElem?_eq_none (by simpa using h')] at ha; cases ha
    subst hi2
    simp at ha
    subst ha
    rw [List.take_left]
    exact ⟨h1, h2⟩
theorem ordOk_iff {hs : List Hold} {out : List Int} {e : Int} : ordOk hs out e = true ↔ e ∉ out ∧ ∀ h ∈ hs, h.o = e → h.e ∈ out := by
  unfold ordOk memB
  rw [Bool.and_eq_true, Bool.not_eq_true', Bool.not_eq_true', List.any_eq_false]
  constructor
  · rintro ⟨h1, h2⟩
    refine ⟨by simpa using h1, fun h hm he => ?_⟩
    have h3 := h2 h hm
    exact Classical.byContradiction fun hx => h3 (by simp [he, hx])
  · rintro ⟨h1, h2⟩
    refine ⟨by simpa using h1, fun h hm h3 => ?_⟩
    rw [Bool.and_eq_true] at h3
    have h4 := h2 h hm (by simpa using h3.1)
    have h5 := h3.2
    simp [h4] at h5
theorem ordPass_top {hs : List Hold} {out : List Int} (h : TopO hs out) : ∀ k, TopO hs (ordPass hs out k)
  | 0 => h
  | k + 1 => by
    have ih := ordPass_top h k
    rw [ordPass]
    split
    · rename_i ho
      rw [ordOk_iff] at ho
      exact ih.snoc ho.1 ho.2
    · exact ih
theorem ord_top {hs : List Hold} : ∀ {f : Nat} {l out : List Int}, ord hs f l = some out → TopO hs l → TopO hs out
  | 0, _, _, h, _ => by cases h
  | f + 1, l, out, h, hl => by
    rw [ord] at h
    split at h
    · split at h
      · cases h
      · exact ord_top h (ordPass_top hl 12)
    · injection h with h; subst h; exact hl
theorem TopO.nodup {hs : List Hold} {out : List Int} (h : TopO hs out) : out.Nodup := by
  rw [List.Nodup, List.pairwise_iff_getElem]
  intro i j hi hj hij e
  have := (h j out[j] (List.getElem?_eq_getElem hj)).1
  exact this (e ▸ List.mem_take_iff_getElem.2 ⟨i, by omega, rfl⟩)

/-- all that leads to one of out is in out, ahead of it -/
theorem TopO.reach {hs : List Hold} {out : List Int} (h : TopO hs out) {a b : Int} (hr : Reach hs a b) : ∀ (i : Nat), out[i]? = some b → a = b ∨ ∃ j : Nat, j < i ∧ out[j]? = some a := by
  induction hr with
  | here => exact fun i _ => Or.inl rfl
  | @on x hh _ hm he ih =>
    intro i hi
    have h1 := (h i _ hi).2 hh hm rfl
    rw [List.mem_take_iff_getElem] at h1
    obtain ⟨j, hj, hj2⟩ := h1
    have hjl : j < out.length := by omega
    rcases ih j (by rw [List.getElem?_eq_getElem hjl, hj2, he]) with e | ⟨m, hm1, hm2⟩
    · exact Or.inr ⟨j, by omega, by rw [List.getElem?_eq_getElem hjl, hj2, e, he]⟩
    · exact Or.inr ⟨m, by omega, hm2⟩
theorem TopO.not_cyc {hs : List Hold} {out : List Int} (h : TopO hs out) {e : Int} (he : e ∈ out) : ¬ cyc hs e := by
  rintro ⟨hh, hm, hr, ho⟩
  obtain ⟨i, hi, rfl⟩ := List.getElem_of_mem he
  have h1 := (h i _ (List.getElem?_eq_getElem hi)).2 hh hm ho
  rw [List.mem_take_iff_getElem] at h1
  obtain ⟨j, hj, hj2⟩ := h1
  have hjl : j < out.length := by omega
  have hno := (h i _ (List.getElem?_eq_getElem hi)).1
  rcases h.reach hr j (by rw [List.getElem?_eq_getElem hjl, hj2]) with e2 | ⟨m, hm1, hm2⟩
  · exact hno (by rw [e2, ← hj2]; exact List.mem_take_iff_getElem.2 ⟨j, by omega, rfl⟩)
  · have hml : m < out.length := by omega
    rw [List.getElem?_eq_getElem hml] at hm2
    injection hm2 with hm2
    exact hno (by rw [← hm2]; exact List.mem_take_iff_getElem.2 ⟨m, by omega, rfl⟩)

theorem ordPass_sub (hs : List Hold) (out : List Int) : ∀ k e, e ∈ out → e ∈ ordPass hs out k
  | 0, _, h => h
  | k + 1, e, h => by
    have ih := ordPass_sub hs out k e h
    rw [ordPass]
    split
    · exact List.mem_append_left _ ih
    · exact ih
theorem ordPass_same {hs : List Hold} {out : List Int} : ∀ k, (ordPass hs out k).length = out.length → ordPass hs out k = out ∧ ∀ j, j < k → ordOk hs out ((j : Int) + 1) = false
  | 0, _ => ⟨rfl, fun j h => absurd h (by omega)⟩
  | k + 1, h => by
    have hl := ordPass_len hs out k
    rw [ordPass] at h ⊢
    split at h
    · rw [List.length_append] at h; simp at h; omega
    · rename_i hno
      obtain ⟨h1, h2⟩ := ordPass_same k h
      rw [if_neg hno]
      refine ⟨h1, fun j hj => ?_⟩
      by_cases hjk : j = k
      · subst hjk; rw [h1] at hno; simpa using hno
      · exact h2 j (by omega)

/-- where each has one ahead of it there is one that has a part of itself -/
theorem back_cyc {hs : List Hold} (R : Int → Prop) (hR : ∀ e, R e → 1 ≤ e ∧ e ≤ 12) (hp : ∀ e, R e → ∃ h ∈ hs, h.o = e ∧ R h.e) (e0 : Int) (h0 : R e0) : ∃ e, 1 ≤ e ∧ e ≤ 12 ∧ cyc hs e := by
  classical
  have hch : ∀ e, ∃ p, R e → ∃ h ∈ hs, h.o = e ∧ h.e = p ∧ R p := fun e => by
    by_cases hr : R e
    · obtain ⟨h, hm, ho, hre⟩ := hp e hr
      exact ⟨h.e, fun _ => ⟨h, hm, ho, rfl, hre⟩⟩
    · exact ⟨0, fun h => absurd h hr⟩
  let pd : Int → Int := fun e => Classical.choose (hch e)
  have hpd : ∀ e, R e → ∃ h ∈ hs, h.o = e ∧ h.e = pd e ∧ R (pd e) := fun e => Classical.choose_spec (hch e)
  let it : Nat → Int := fun n => Nat.rec e0 (fun _ x => pd x) n
  have hit : ∀ n, R (it n) := fun n => by
    induction n with
    | zero => exact h0
    | succ n ih => obtain ⟨_, _, _, _, h⟩ := hpd _ ih; exact h
  have hreach : ∀ n m, Reach hs (it (n + m)) (it n) := fun n m => by
    induction m with
    | zero => exact Reach.here
    | succ m ih =>
      obtain ⟨h, hm, ho, he, _⟩ := hpd _ (hit (n + m))
      have h1 : Reach hs (it (n + (m + 1))) (it (n + m)) := by
        rw [← ho]
        exact Reach.on Reach.here hm he
      exact h1.trans ih
  have hrep : ∃ n m, it (n + m + 1) = it n := by
    refine Classical.byContradiction fun hc => ?_
    have hnd : ((List.range 13).map it).Nodup := by
      rw [List.Nodup, List.pairwise_map, List.pairwise_iff_getElem]
      intro i j hi hj hij e
      simp only [List.getElem_range] at e
      exact hc ⟨i, j - i - 1, by rw [show i + (j - i - 1) + 1 = j by omega]; exact e.symm⟩
    have := nodup_len 12 _ hnd (fun e he => by
      obtain ⟨n, _, rfl⟩ := List.mem_map.1 he
      exact hR _ (hit n))
    simp at this
  obtain ⟨n, m, hnm⟩ := hrep
  refine ⟨it n, (hR _ (hit n)).1, (hR _ (hit n)).2, ?_⟩
  -- it (n+m+1) = it n has a part of it (n+m), which reaches it n
  obtain ⟨h, hm, ho, he, _⟩ := hpd _ (hit n)
  have h1 : it (n + 1) = h.e := he.symm
  refine ⟨h, hm, ?_, ho⟩
  rw [← h1, ← hnm, show n + m + 1 = (n + 1) + m by omega]
  exact hreach (n + 1) m
theorem ord_none {hs : List Hold} (hg : ∀ h ∈ hs, 1 ≤ h.e ∧ h.e ≤ 12) : ∀ {f : Nat} {l : List Int}, ord hs f l = none → 13 ≤ f + l.length → (∀ e ∈ l, 1 ≤ e ∧ e ≤ 12) → TopO hs l → ∃ e, 1 ≤ e ∧ e ≤ 12 ∧ cyc hs e
  | 0, l, _, hf, hl, ht => by
    have := nodup_len 12 l ht.nodup hl
    omega
  | f + 1, l, h, hf, hl, ht => by
    rw [ord] at h
    split at h
    · rename_i h12
      split at h
      · rename_i hs12
        obtain ⟨_, h2⟩ := ordPass_same 12 hs12
        have hstuck : ∀ e, 1 ≤ e → e ≤ 12 → e ∉ l → ∃ h ∈ hs, h.o = e ∧ (h.e ∉ l) := fun e h1 h3 hn => by
          have h4 := h2 (e - 1).toNat (by omega)
          rw [show ((e - 1).toNat : Int) + 1 = e by omega] at h4
          refine Classical.byContradiction fun hc => ?_
          have : ordOk hs l e = true := ordOk_iff.2 ⟨hn, fun h hm ho => Classical.byContradiction fun hx => hc ⟨h, hm, ho, hx⟩⟩
          rw [this] at h4; cases h4
        have hex : ∃ e, 1 ≤ e ∧ e ≤ 12 ∧ e ∉ l := by
          refine Classical.byContradiction fun hc => ?_
          have hall : ∀ e, 1 ≤ e → e ≤ 12 → e ∈ l := fun e h1 h3 => Classical.byContradiction fun hx => hc ⟨e, h1, h3, hx⟩
          have hsub : ((List.range 12).map fun i : Nat => (i : Int) + 1).length ≤ l.length := by
            have key : ∀ (a b : List Int), a.Nodup → (∀ x ∈ a, x ∈ b) → a.length ≤ b.length := by
              intro a
              induction a with
              | nil => intro b _ _; simp
              | cons x a ih =>
                intro b hn hsub
                rw [List.nodup_cons] at hn
                have hxb : x ∈ b := hsub x (by simp)
                have h5 := ih (b.erase x) hn.2 (fun y hy => (List.mem_erase_of_ne (fun (e : y = x) => hn.1 (by rw [← e]; exact hy))).2 (hsub y (by simp [hy])))
                rw [List.length_erase_of_mem hxb] at h5
                have := List.length_pos_of_mem hxb
                rw [List.length_cons]; omega
            refine key _ _ ?_ (fun x hx => ?_)
            · rw [List.Nodup, List.pairwise_map, List.pairwise_iff_getElem]
              intro i j hi hj hij e
              simp only [List.getElem_range] at e
              omega
            · obtain ⟨i, hi, rfl⟩ := List.mem_map.1 hx
              rw [List.mem_range] at hi
              exact hall _ (by omega) (by omega)
          simp at hsub
          omega
        obtain ⟨e0, a1, a2, a3⟩ := hex
        exact back_cyc (fun e => (1 ≤ e ∧ e ≤ 12) ∧ e ∉ l) (fun e h => h.1) (fun e h => by
          obtain ⟨x, hx, ho, hn⟩ := hstuck e h.1.1 h.1.2 h.2
          exact ⟨x, hx, ho, hg x hx, hn⟩) e0 ⟨⟨a1, a2⟩, a3⟩
      · rename_i hne
        have hlen := ordPass_len hs l 12
        exact ord_none hg h (by omega) (ordPass_in hl 12 (by omega)) (ordPass_top ht 12)
    · cases h
theorem ord_iff {hs : List Hold} (hg : ∀ h ∈ hs, 1 ≤ h.e ∧ h.e ≤ 12) : ord hs 13 [] = none ↔ ∃ e, 1 ≤ e ∧ e ≤ 12 ∧ cyc hs e := by
  constructor
  · intro h
    exact ord_none hg h (by simp) (fun e he => by cases he) (TopO.nil hs)
  · rintro ⟨e, h1, h2, hc⟩
    cases ho : ord hs 13 [] with
    | none => rfl
    | some out =>
      exfalso
      have ht := ord_top ho (TopO.nil hs)
      have hin := ord_in ho (fun e he => by cases he)
      have hl := ord_len ho
      have he : e ∈ out := by
        refine Classical.byContradiction fun hx => ?_
        have := nodup_len 12 (out ++ [e]) (by
          rw [List.nodup_append]
          exact ⟨ht.nodup, by simp, fun a ha b hb => by simp at hb; subst hb; exact fun e => hx (e ▸ ha)⟩) (fun x hx' => by
          rcases List.mem_append.1 hx' with h | h
          · exact hin x h
          · simp at h; subst h; exact ⟨h1, h2⟩)
        rw [List.length_append] at this
        simp at this
        omega
      exact ht.not_cyc he hc

/-! the sums -/
theorem chk2_val (hs : List Hold) : ∀ (l : List Hold) (k : Nat), chk2From hs l k = 0 ∨ chk2From hs l k = 11
  | [], _ => Or.inl rfl
  | h :: r, k => by
    rw [chk2From]
    split
    · exact chk2_val hs r (k + 1)
    · exact Or.inr rfl
theorem chk2_of {hs : List Hold} (hp : ∀ h ∈ hs, 1 ≤ h.p) (h : ∀ h ∈ hs, hadSum hs h.o ≤ 1000) : chk2From hs hs 0 = 0 := by
  have key : ∀ m k, m + k = hs.length → chk2From hs (hs.drop k) k = 0 := by
    intro m
    induction m with
    | zero => intro k hk; rw [List.drop_eq_nil_of_le (by omega)]; rfl
    | succ m ih =>
      intro k hk
      obtain ⟨x, hx⟩ := getElem?_ex (show k < hs.length by omega)
      rw [chk2From_drop hs k x hx, if_pos (Int.le_trans (hadSum_take_le hs hp x.o (k + 1)) (h x (List.mem_of_getElem? hx)))]
      exact ih (k + 1) (by omega)
  exact key hs.length 0 (by omega)
theorem hadSum_zero {hs : List Hold} {o : Int} (h : ∀ x ∈ hs, x.o ≠ o) : hadSum hs o = 0 := by
  unfold hadSum
  induction hs with
  | nil => rfl
  | cons x hs ih =>
    rw [List.map_cons, List.sum_cons, if_neg (h x (by simp)), ih (fun y hy => h y (by simp [hy]))]
    rfl
theorem hadSum_nn {hs : List Hold} (hp : ∀ h ∈ hs, 1 ≤ h.p ∧ h.p ≤ 1000) (o : Int) : 0 ≤ hadSum hs o ∧ hadSum hs o ≤ 1000 * hs.length := by
  unfold hadSum
  induction hs with
  | nil => simp
  | cons x hs ih =>
    have h1 := ih (fun y hy => hp y (by simp [hy]))
    have h2 := hp x (by simp)
    rw [List.map_cons, List.sum_cons, List.length_cons]
    split <;> omega
/-- what dayref3.Holdings finds is what group.Check finds -/
theorem check_sum {hs : List Hold} (hl : ¬ 20 < hs.length) (h0 : chkFrom hs hs 0 = 0) {e : Int} (he : 1000 < hadSum hs e) : checkF hs = 11 := by
  have hg := chkFrom_zero h0
  have hp : ∀ x ∈ hs, 1 ≤ x.p := fun x hx => (hg x hx).2.2.1
  have h1 : chk2From hs hs 0 ≠ 0 := fun h => by
    have h2 := chk2From_zero hp hs.length 0 (by omega) h (fun o => by simp [hadSum]) e
    omega
  rw [checkF, if_neg hl, if_neg (by simpa using h0), if_pos h1]
  rcases chk2_val hs hs 0 with h | h
  · exact absurd h h1
  · exact h
theorem check_cyc {hs : List Hold} (hl : ¬ 20 < hs.length) (h0 : chkFrom hs hs 0 = 0) (hsum : ∀ e : Nat, e < 12 → hadSum hs ((e : Int) + 1) ≤ 1000) {e : Int} (h1 : 1 ≤ e) (h2 : e ≤ 12) (hc : cyc hs e) : checkF hs = 5 := by
  have hg := chkFrom_zero h0
  have hp : ∀ x ∈ hs, 1 ≤ x.p := fun x hx => (hg x hx).2.2.1
  have hgood : ∀ h ∈ hs, 1 ≤ h.e ∧ h.e ≤ 12 := fun x hx => entB_true (hg x hx).1
  have hs2 : chk2From hs hs 0 = 0 := chk2_of hp (fun x hx => by
    have := entB_true (hg x hx).2.1
    have h3 := hsum (x.o - 1).toNat (by omega)
    rwa [show ((x.o - 1).toNat : Int) + 1 = x.o by omega] at h3)
  rw [checkF, if_neg hl, if_neg (by simpa using h0), if_neg (by simpa using hs2), if_pos ((ord_iff hgood).2 ⟨e, h1, h2, hc⟩)]
theorem check_fine {hs : List Hold} (hl : ¬ 20 < hs.length) (h0 : chkFrom hs hs 0 = 0) (hsum : ∀ e : Nat, e < 12 → hadSum hs ((e : Int) + 1) ≤ 1000) (hc : ∀ e : Nat, e < 12 → ¬ cyc hs ((e : Int) + 1)) : checkF hs = 0 := by
  have hg := chkFrom_zero h0
  have hp : ∀ x ∈ hs, 1 ≤ x.p := fun x hx => (hg x hx).2.2.1
  have hgood : ∀ h ∈ hs, 1 ≤ h.e ∧ h.e ≤ 12 := fun x hx => entB_true (hg x hx).1
  have hs2 : chk2From hs hs 0 = 0 := chk2_of hp (fun x hx => by
    have := entB_true (hg x hx).2.1
    have h3 := hsum (x.o - 1).toNat (by omega)
    rwa [show ((x.o - 1).toNat : Int) + 1 = x.o by omega] at h3)
  have ho : ¬ ord hs 13 [] = none := fun h => by
    obtain ⟨e, h1, h2, h3⟩ := (ord_iff hgood).1 h
    have h4 := hc (e - 1).toNat (by omega)
    rw [show ((e - 1).toNat : Int) + 1 = e by omega] at h4
    exact h4 h3
  rw [checkF, if_neg hl, if_neg (by simpa using h0), if_neg (by simpa using hs2), if_neg ho]

/-! the closure of one -/
/-- what is so at k, i: all that the first k lead to, and what the k-th leads to by the first i -/
structure SeenIs (hs : List Hold) (e : Int) (seen : List Int) (k i : Nat) : Prop where
  here : e ∈ seen
  reach : ∀ x ∈ seen, Reach hs e x
  nodup : seen.Nodup
  range : ∀ x ∈ seen, 1 ≤ x ∧ x ≤ 12
  done : ∀ (j : Nat) (x : Int), seen[j]? = some x → ∀ (m : Nat) (h : Hold), hs[m]? = some h → h.e = x → (j < k ∨ (j = k ∧ m < i)) → h.o ≠ e ∧ h.o ∈ seen
theorem SeenIs.start {hs : List Hold} {e : Int} (h1 : 1 ≤ e) (h2 : e ≤ 12) : SeenIs hs e [e] 0 0 :=
  ⟨by simp, fun x hx => by simp at hx; subst hx; exact Reach.here, by simp, fun x hx => by simp at hx; subst hx; exact ⟨h1, h2⟩, fun j x _ m h _ _ hc => by omega⟩
theorem SeenIs.skip {hs : List Hold} {e : Int} {seen : List Int} {k i : Nat} {x : Int} {h : Hold} (hS : SeenIs hs e seen k i) (hx : seen[k]? = some x) (hh : hs[i]? = some h) (hne : h.e ≠ x) : SeenIs hs e seen k (i + 1) :=
  ⟨hS.here, hS.reach, hS.nodup, hS.range, fun j y hy m h' hh' he hc => by
    by_cases hm : j = k ∧ m = i
    · obtain ⟨rfl, rfl⟩ := hm
      rw [hx] at hy; rw [hh] at hh'
      injection hy with hy; injection hh' with hh'
      subst hy hh'
      exact absurd he hne
    · exact hS.done j y hy m h' hh' he (by omega)⟩
theorem SeenIs.found {hs : List Hold} {e : Int} {seen : List Int} {k i : Nat} {x : Int} {h : Hold} (hS : SeenIs hs e seen k i) (hx : seen[k]? = some x) (hh : hs[i]? = some h) (he : h.e = x) (ho : h.o = e) : cyc hs e :=
  ⟨h, List.mem_of_getElem? hh, by rw [he]; exact hS.reach x (List.mem_of_getElem? hx), ho⟩
theorem SeenIs.old {hs : List Hold} {e : Int} {seen : List Int} {k i : Nat} {x : Int} {h : Hold} (hS : SeenIs hs e seen k i) (hx : seen[k]? = some x) (hh : hs[i]? = some h) (ho : h.o ≠ e) (hin : h.o ∈ seen) : SeenIs hs e seen k (i + 1) :=
  ⟨hS.here, hS.reach, hS.nodup, hS.range, fun j y hy m h' hh' he hc => by
    by_cases hm : j = k ∧ m = i
    · obtain ⟨rfl, rfl⟩ := hm
      rw [hh] at hh'
      injection hh' with hh'
      subst hh'
      exact ⟨ho, hin⟩
    · exact hS.done j y hy m h' hh' he (by omega)⟩
theorem SeenIs.new {hs : List Hold} {e : Int} {seen : List Int} {k i : Nat} {x : Int} {h : Hold} (hS : SeenIs hs e seen k i) (hx : seen[k]? = some x) (hh : hs[i]? = some h) (he : h.e = x) (ho : h.o ≠ e) (hin : h.o ∉ seen) (hr : 1 ≤ h.o ∧ h.o ≤ 12) : SeenIs hs e (seen ++ [h.o]) k (i + 1) := by
  have hk : k < seen.length := by
    rcases Nat.lt_or_ge k seen.length with h' | h'
    · exact h'
    · rw [List.getElem?_eq_none h'] at hx; cases hx
  refine ⟨by simp [hS.here], fun y hy => ?_, ?_, fun y hy => ?_, fun j y hy m h' hh' he' hc => ?_⟩
  · rcases List.mem_append.1 hy with hy | hy
    · exact hS.reach y hy
    · simp at hy; subst hy
      exact Reach.on (hS.reach x (List.mem_of_getElem? hx)) (List.mem_of_getElem? hh) he
  · rw [List.nodup_append]
    exact ⟨hS.nodup, by simp, fun a ha b hb => by simp at hb; subst hb; exact fun e2 => hin (e2 ▸ ha)⟩
  · rcases List.mem_append.1 hy with hy | hy
    · exact hS.range y hy
    · simp at hy; subst hy; exact hr
  · rw [List.getElem?_append_left (by omega)] at hy
    by_cases hm : j = k ∧ m = i
    · obtain ⟨rfl, rfl⟩ := hm
      rw [hh] at hh'
      injection hh' with hh'
      subst hh'
      exact ⟨ho, by simp⟩
    · have := hS.done j y hy m h' hh' he' (by omega)
      exact ⟨this.1, by simp [this.2]⟩
theorem SeenIs.next {hs : List Hold} {e : Int} {seen : List Int} {k : Nat} (hS : SeenIs hs e seen k hs.length) : SeenIs hs e seen (k + 1) 0 :=
  ⟨hS.here, hS.reach, hS.nodup, hS.range, fun j y hy m h' hh' he hc => by
    have hm : m < hs.length := by
      rcases Nat.lt_or_ge m hs.length with h | h
      · exact h
      · rw [List.getElem?_eq_none h] at hh'; cases hh'
    exact hS.done j y hy m h' hh' he (by omega)⟩
theorem SeenIs.len {hs : List Hold} {e : Int} {seen : List Int} {k i : Nat} (hS : SeenIs hs e seen k i) : seen.length ≤ 12 := nodup_len 12 seen hS.nodup hS.range
theorem SeenIs.end_ {hs : List Hold} {e : Int} {seen : List Int} {k : Nat} (hS : SeenIs hs e seen k 0) (hk : seen.length ≤ k) : ¬ cyc hs e := by
  have hcl : ∀ x, Reach hs e x → x ∈ seen := fun x hx => by
    induction hx with
    | here => exact hS.here
    | on _ hm he ih =>
      obtain ⟨j, hj, hj2⟩ := List.getElem_of_mem ih
      obtain ⟨m, hm2, hm3⟩ := List.getElem_of_mem hm
      exact (hS.done j _ (List.getElem?_eq_getElem hj) m _ (List.getElem?_eq_getElem hm2) (by rw [hm3, hj2]; exact he) (by omega) |> fun h => by rw [hm3] at h; exact h.2)
  rintro ⟨h, hm, hr, ho⟩
  obtain ⟨j, hj, hj2⟩ := List.getElem_of_mem (hcl _ hr)
  obtain ⟨m, hm2, hm3⟩ := List.getElem_of_mem hm
  have := (hS.done j _ (List.getElem?_eq_getElem hj) m _ (List.getElem?_eq_getElem hm2) (by rw [hm3, hj2]) (by omega)).1
  rw [hm3] at this
  exact this ho

/-! what the top has, by a part of a part -/
theorem psum_congr {f g : Nat → Int} {e : Int} : ∀ {l : List Hold}, (∀ h ∈ l, h.o = e → f (h.e - 1).toNat = g (h.e - 1).toNat) → psum l f e = psum l g e
  | [], _ => rfl
  | h :: l, hh => by
    have ih := psum_congr (l := l) (f := f) (g := g) (e := e) (fun x hx => hh x (by simp [hx]))
    unfold psum at ih ⊢
    rw [List.map_cons, List.map_cons, List.sum_cons, List.sum_cons, ih]
    by_cases ho : h.o = e
    · rw [if_pos ho, if_pos ho, hh h (by simp) ho]
    · rw [if_neg ho, if_neg ho]
theorem partsF_later {hs : List Hold} {top : Int} : ∀ (l : List Int) (f : Nat → Int) (j : Nat), (∀ e ∈ l, (e - 1).toNat ≠ j) → l.foldl (partsStep hs top) f j = f j
  | [], _, _, _ => rfl
  | e :: l, f, j, h => by
    rw [List.foldl_cons, partsF_later l _ j (fun x hx => h x (by simp [hx]))]
    unfold partsStep
    rw [if_neg (fun e2 => h e (by simp) e2.symm)]
/-- what is found of one is by those that have a part of it -/
theorem partsF_fix {hs : List Hold} {top : Int} {out : List Int} (ht : TopO hs out) (hin : ∀ e ∈ out, 1 ≤ e ∧ e ≤ 12) {i : Nat} {e : Int} (hi : out[i]? = some e) :
    partsF hs top out (e - 1).toNat = if e = top then 1000 else psum hs (partsF hs top out) e / 1000 := by
  obtain ⟨hil, hie⟩ := List.getElem?_eq_some_iff.1 hi
  have hnd := ht.nodup
  have hsame : ∀ x ∈ out.take (i + 1), partsF hs top out (x - 1).toNat = partsF hs top (out.take (i + 1)) (x - 1).toNat := fun x hx => by
    have e1 : partsF hs top out = (out.drop (i + 1)).foldl (partsStep hs top) (partsF hs top (out.take (i + 1))) := by
      unfold partsF
      rw [← List.foldl_append, List.take_append_drop]
    rw [e1]
    refine partsF_later _ _ _ (fun y hy e2 => ?_)
    have hx2 := hin x (List.mem_of_mem_take hx)
    have hy2 := hin y (List.mem_of_mem_drop hy)
    have hxy : y = x := by omega
    rw [← List.take_append_drop (i + 1) out, List.nodup_append] at hnd
    exact hnd.2.2 x hx y hy hxy.symm
  have hstep := partsF_step hs top out i e hi
  have he : e ∈ out.take (i + 1) := by rw [List.mem_take_iff_getElem]; exact ⟨i, by omega, hie⟩
  rw [hsame e he, hstep]
  unfold partsStep
  rw [if_pos rfl]
  split
  · rfl
  · congr 1
    refine psum_congr (fun h hm ho => ?_)
    have h1 := (ht i e hi).2 h hm ho
    have h2 : h.e ∈ out.take (i + 1) := by
      rw [List.mem_take_iff_getElem] at h1 ⊢
      obtain ⟨j, hj, hj2⟩ := h1
      exact ⟨j, by omega, hj2⟩
    rw [hsame _ h2, hstep]
    unfold partsStep
    have hne : (h.e - 1).toNat ≠ (e - 1).toNat := fun e2 => by
      have a := hin h.e (List.mem_of_mem_take h2)
      have b := hin e (List.mem_of_mem_take he)
      have : h.e = e := by omega
      exact (ht i e hi).1 (this ▸ h1)
    rw [if_neg hne]
theorem all_in {hs : List Hold} {out : List Int} (h : ord hs 13 [] = some out) {e : Int} (h1 : 1 ≤ e) (h2 : e ≤ 12) : ∃ i : Nat, out[i]? = some e := by
  have ht := ord_top h (TopO.nil hs)
  have hin := ord_in h (fun e he => by cases he)
  have hl := ord_len h
  have he : e ∈ out := by
    refine Classical.byContradiction fun hx => ?_
    have := nodup_len 12 (out ++ [e]) (by
      rw [List.nodup_append]
      exact ⟨ht.nodup, by simp, fun a ha b hb => by simp at hb; subst hb; exact fun e => hx (e ▸ ha)⟩) (fun x hx' => by
      rcases List.mem_append.1 hx' with h | h
      · exact hin x h
      · simp at h; subst h; exact ⟨h1, h2⟩)
    rw [List.length_append] at this
    simp at this
    omega
  obtain ⟨i, hi, rfl⟩ := List.getElem_of_mem he
  exact ⟨i, List.getElem?_eq_getElem hi⟩
end gp
end Go.Proofs.YtbhndnjlplibmaaDoor
