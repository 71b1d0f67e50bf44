/- group.Parts at any holdings: what it answers. -/
import Derived.Test.YtbhndnjlplibmaaDoorGroup4
namespace Go.Proofs.YtbhndnjlplibmaaDoor
open Go.RowKit

/-- N integers in a block of the call's own, as a function of the place -/
def FnAt (N : Nat) (wr : World) (b : Nat) (f : Nat → Int) : Prop := ∀ j : Nat, j < N → wr.cell? ⟨b, j, none⟩ = some (.int .i64 (f j)) ∧ wr.frozen? ⟨b, j, none⟩ = false

theorem FnAt.lt {N : Nat} {wr : World} {b : Nat} {f : Nat → Int} (h : FnAt N wr b f) (hN : 0 < N) : b < wr.heap.size := by
  obtain ⟨h1, _⟩ := h 0 hN
  rcases Nat.lt_or_ge b wr.heap.size with h | h
  · exact h
  · simp [World.cell?, Array.getElem?_eq_none h] at h1

theorem FnAt.later {N : Nat} {wr w' : World} {b : Nat} {f : Nat → Int} (h : FnAt N wr b f) (hb : Below wr.heap.size wr w') : FnAt N w' b f := by
  intro j hj
  obtain ⟨h1, h2⟩ := h j hj
  have hlt := h.lt (by omega)
  exact ⟨(hb.cell (p := ⟨b, j, none⟩) hlt).trans h1, (hb.frozen (p := ⟨b, j, none⟩) hlt).trans h2⟩

theorem FnAt.set {N : Nat} {wr : World} {b : Nat} {f g : Nat → Int} {n : Nat} {v : Int} (h : FnAt N wr b f) (hg : ∀ j : Nat, j < N → g j = if j = n then v else f j) : FnAt N (wr.setCell ⟨b, n, none⟩ (.int .i64 v)) b g := by
  intro j hj
  obtain ⟨h1, h2⟩ := h j hj
  refine ⟨?_, by rw [World.frozen?_setCell]; exact h2⟩
  rw [hg j hj]
  by_cases e : j = n
  · subst e
    rw [if_pos rfl]
    exact World.cell?_setCell_same wr _ _ h1
  · rw [World.cell?_setCell_other wr _ _ _ (by intro he; injection he with _ he _; exact e he.symm), if_neg e]
    exact h1

theorem fn_start12 (w : World) (t : TypeId) : FnAt 12 (w.alloc (.cells #[.int .i64 0, .int .i64 0, .int .i64 0, .int .i64 0, .int .i64 0, .int .i64 0, .int .i64 0, .int .i64 0, .int .i64 0, .int .i64 0, .int .i64 0, .int .i64 0] t)) w.heap.size (fun _ => 0) := by
  intro j hj
  refine ⟨?_, by simp⟩
  rw [World.cell?_alloc_at _ _ _ _ rfl]
  match j, hj with
  | 0, _ | 1, _ | 2, _ | 3, _ | 4, _ | 5, _ | 6, _ | 7, _ | 8, _ | 9, _ | 10, _ | 11, _ => rfl

/-- what the top has of e by those of l, in thousandths of thousandths -/
def psum (l : List Hold) (f : Nat → Int) (e : Int) : Int := (l.map fun h => if h.o = e then f (h.e - 1).toNat * h.p else 0).sum
def partsStep (hs : List Hold) (top : Int) (f : Nat → Int) (e : Int) : Nat → Int :=
  fun j => if j = (e - 1).toNat then (if e = top then 1000 else psum hs f e / 1000) else f j
def partsF (hs : List Hold) (top : Int) (outs : List Int) : Nat → Int := outs.foldl (partsStep hs top) (fun _ => 0)

theorem psum_step (hs : List Hold) (f : Nat → Int) (e : Int) (k : Nat) (h : Hold) (hk : hs[k]? = some h) : psum (hs.take (k + 1)) f e = psum (hs.take k) f e + if h.o = e then f (h.e - 1).toNat * h.p else 0 := by
  obtain ⟨hk', rfl⟩ := List.getElem?_eq_some_iff.1 hk
  rw [List.take_succ_eq_append_getElem hk', psum, List.map_append, List.sum_append]
  simp [psum]

theorem partsF_step (hs : List Hold) (top : Int) (outs : List Int) (k : Nat) (e : Int) (hk : outs[k]? = some e) : partsF hs top (outs.take (k + 1)) = partsStep hs top (partsF hs top (outs.take k)) e := by
  obtain ⟨hk', rfl⟩ := List.getElem?_eq_some_iff.1 hk
  rw [List.take_succ_eq_append_getElem hk', partsF, List.foldl_append]
  rfl

/-- parts are 0 .. 1000 -/
def inRange (f : Nat → Int) : Prop := ∀ j, 0 ≤ f j ∧ f j ≤ 1000

theorem psum_bounds {f : Nat → Int} (hf : inRange f) (e : Int) : ∀ (l : List Hold), (∀ h ∈ l, 1 ≤ h.p) → 0 ≤ psum l f e ∧ psum l f e ≤ 1000 * hadSum l e
  | [], _ => by simp [psum, hadSum]
  | h :: r, hp => by
    obtain ⟨i1, i2⟩ := psum_bounds hf e r (fun x hx => hp x (List.mem_cons_of_mem _ hx))
    have h1 := hp h (List.mem_cons_self)
    obtain ⟨f1, f2⟩ := hf (h.e - 1).toNat
    have e1 : psum (h :: r) f e = (if h.o = e then f (h.e - 1).toNat * h.p else 0) + psum r f e := by simp [psum]
    have e2 : hadSum (h :: r) e = (if h.o = e then h.p else 0) + hadSum r e := by simp [hadSum]
    rw [e1, e2]
    split
    · have a : 0 ≤ f (h.e - 1).toNat * h.p := Int.mul_nonneg f1 (by omega)
      have b : f (h.e - 1).toNat * h.p ≤ 1000 * h.p := Int.mul_le_mul_of_nonneg_right f2 (by omega)
      omega
    · omega

theorem hadSum_take_le (hs : List Hold) (hp : ∀ h ∈ hs, 1 ≤ h.p) (e : Int) (k : Nat) : hadSum (hs.take k) e ≤ hadSum hs e := by
  have h1 : hadSum hs e = hadSum (hs.take k) e + hadSum (hs.drop k) e := by
    conv => lhs; rw [← List.take_append_drop k hs]
    simp only [hadSum, List.map_append, List.sum_append]
  have h2 : ∀ (l : List Hold), (∀ h ∈ l, 1 ≤ h.p) → 0 ≤ hadSum l e := by
    intro l
    induction l with
    | nil => intro _; simp [hadSum]
    | cons x r ih =>
      intro hx
      have := ih (fun y hy => hx y (List.mem_cons_of_mem _ hy))
      have h1 := hx x (List.mem_cons_self)
      have e2 : hadSum (x :: r) e = (if x.o = e then x.p else 0) + hadSum r e := by simp [hadSum]
      rw [e2]
      split <;> omega
  have := h2 (hs.drop k) (fun h hh => hp h (List.mem_of_mem_drop hh))
  omega

theorem partsStep_range {hs : List Hold} {top e : Int} {f : Nat → Int} (hf : inRange f) (hp : ∀ h ∈ hs, 1 ≤ h.p) (hh : hadSum hs e ≤ 1000) : inRange (partsStep hs top f e) := by
  intro j
  unfold partsStep
  have := psum_bounds hf e hs hp
  split
  · split
    · omega
    · omega
  · exact hf j

theorem chk2From_zero {hs : List Hold} (hp : ∀ h ∈ hs, 1 ≤ h.p) : ∀ (m k : Nat), m + k = hs.length → chk2From hs (hs.drop k) k = 0 → (∀ o, hadSum (hs.take k) o ≤ 1000) → ∀ o, hadSum hs o ≤ 1000
  | 0, k, hk, _, hb => by
    intro o
    have := hb o
    rwa [List.take_of_length_le (by omega)] at this
  | m + 1, k, hk, hz, hb => by
    obtain ⟨x, hx⟩ := getElem?_ex (l := hs) (k := k) (by omega)
    rw [chk2From_drop hs k x hx] at hz
    split at hz
    · rename_i hle
      refine chk2From_zero hp m (k + 1) (by omega) hz (fun o => ?_)
      rw [hadSum_step hs k x hx]
      by_cases e : x.o = o
      · subst e
        rw [hadSum_step hs k x hx] at hle
        exact hle
      · rw [if_neg e]; have := hb o; omega
    · cases hz

theorem ordPass_in {hs : List Hold} {out : List Int} (h : ∀ e ∈ out, 1 ≤ e ∧ e ≤ 12) : ∀ k, k ≤ 12 → ∀ e ∈ ordPass hs out k, 1 ≤ e ∧ e ≤ 12
  | 0, _ => h
  | k + 1, hk => by
    have ih := ordPass_in (hs := hs) h k (by omega)
    unfold ordPass
    split
    · intro e he
      rcases List.mem_append.1 he with he | he
      · exact ih e he
      · simp at he; omega
    · exact ih
theorem ord_in {hs : List Hold} : ∀ {f : Nat} {l out : List Int}, ord hs f l = some out → (∀ e ∈ l, 1 ≤ e ∧ e ≤ 12) → ∀ e ∈ out, 1 ≤ e ∧ e ≤ 12
  | 0, _, _, h, _ => by cases h
  | f + 1, l, out, h, hl => by
    rw [ord] at h
    split at h
    · split at h
      · cases h
      · exact ord_in h (ordPass_in hl 12 (by omega))
    · injection h with h; subst h; exact hl

theorem checkF_zero {hs : List Hold} (h : checkF hs = 0) : hs.length ≤ 20 ∧ (∀ x ∈ hs, entB x.e = true ∧ entB x.o = true ∧ 1 ≤ x.p ∧ x.p ≤ 1000) ∧ (∀ o, hadSum hs o ≤ 1000) ∧ ∃ out, ord hs 13 [] = some out := by
  unfold checkF at h
  split at h
  · cases h
  · split at h
    · rename_i hn; exact absurd h hn
    · split at h
      · rename_i hn; exact absurd h hn
      · rename_i hn1 h1 h2
        have h1' : chkFrom hs hs 0 = 0 := by simpa using h1
        have h2' : chk2From hs hs 0 = 0 := by simpa using h2
        have hg := chkFrom_zero h1'
        refine ⟨by omega, hg, chk2From_zero (fun x hx => (hg x hx).2.2.1) hs.length 0 (by omega) h2' (fun o => by simp [hadSum]), ?_⟩
        cases ho : ord hs 13 [] with
        | none => rw [if_pos ho] at h; cases h
        | some out => exact ⟨out, rfl⟩
end Go.Proofs.YtbhndnjlplibmaaDoor
