/- Entries in memory; what ledger.some goes by. -/
import Derived.Test.YtbhndnjlplibmaaLoK
namespace Go.Proofs.Ytbhndnjlplibmaa.lg
open Go.RowKit

/-- may it be an amount? -/
def mayA (n : Int) : Bool := decide (-1000000000000000 ≤ n) && decide (n ≤ 1000000000000000)
theorem mayA_iff {n : Int} : mayA n = true ↔ -1000000000000000 ≤ n ∧ n ≤ 1000000000000000 := by simp [mayA]
theorem amount_any (n : Int) (w : World) : Calls Try.prog 63 #[.int .i64 n] w fun e w' => e = .returned (.bool (mayA n)) ∧ w = w' := by
  by_cases h1 : -1000000000000000 ≤ n
  · by_cases h2 : n ≤ 1000000000000000
    · have hb : Hid (mayA n = true) := by show _ = _; simp [mayA, h1, h2]
      go_enter Try.func63, Try.ntmps63
      go_wp2
      go_ret
      exact ⟨ret_bool hb.out.symm, rfl⟩
    · have hb : Hid (mayA n = false) := by show _ = _; simp [mayA, h2]
      go_enter Try.func63, Try.ntmps63
      go_wp2
      go_ret
      exact ⟨ret_bool hb.out.symm, rfl⟩
  · have hb : Hid (mayA n = false) := by show _ = _; simp [mayA, h1]
    go_enter Try.func63, Try.ntmps63
    go_wp2
    go_ret
    exact ⟨ret_bool hb.out.symm, rfl⟩
instance : Inhabited LineM := ⟨⟨⟨#[]⟩, ⟨#[]⟩, 0⟩⟩
instance : Inhabited EntryM := ⟨⟨⟨#[]⟩, 0, 0, []⟩⟩
def LinesAt (w : World) (ao : Option Addr) (t : List LineM) : Prop :=
  t = [] ∨ ∃ b off, ao = some ⟨b, off, none⟩ ∧ b < w.heap.size ∧ ∀ (i : Nat) (x : LineM), t[i]? = some x →
    w.cell? ⟨b, off + i * 3, none⟩ = some (.string x.acc) ∧ w.cell? ⟨b, off + i * 3 + 1, none⟩ = some (.string x.cur) ∧ w.cell? ⟨b, off + i * 3 + 2, none⟩ = some (.int .i64 x.amt)
theorem LinesAt.below {w w' : World} {ao : Option Addr} {t : List LineM} (h : LinesAt w ao t) (hb : Below w.heap.size w w') : LinesAt w' ao t := by
  rcases h with h | ⟨b, off, e, hlt, hc⟩
  · exact Or.inl h
  · refine Or.inr ⟨b, off, e, Nat.lt_of_lt_of_le hlt hb.size, fun i y hy => ?_⟩
    obtain ⟨h1, h2, h3⟩ := hc i y hy
    exact ⟨(hb.cell (p := ⟨b, off + i * 3, none⟩) hlt).trans h1, (hb.cell (p := ⟨b, off + i * 3 + 1, none⟩) hlt).trans h2, (hb.cell (p := ⟨b, off + i * 3 + 2, none⟩) hlt).trans h3⟩
def EntsAt (w : World) (ao : Option Addr) (t : List EntryM) : Prop :=
  t = [] ∨ ∃ b off, ao = some ⟨b, off, none⟩ ∧ b < w.heap.size ∧ ∀ (i : Nat) (x : EntryM), t[i]? = some x → ∃ lao lc,
    w.cell? ⟨b, off + i * 4, none⟩ = some (.string x.ref) ∧ w.cell? ⟨b, off + i * 4 + 1, none⟩ = some (.int .i64 x.ent) ∧ w.cell? ⟨b, off + i * 4 + 2, none⟩ = some (.int .i64 x.per) ∧ w.cell? ⟨b, off + i * 4 + 3, none⟩ = some (.slice lao x.lines.length lc) ∧ LinesAt w lao x.lines
theorem EntsAt.below {w w' : World} {ao : Option Addr} {t : List EntryM} (h : EntsAt w ao t) (hb : Below w.heap.size w w') : EntsAt w' ao t := by
  rcases h with h | ⟨b, off, e, hlt, hc⟩
  · exact Or.inl h
  · refine Or.inr ⟨b, off, e, Nat.lt_of_lt_of_le hlt hb.size, fun i y hy => ?_⟩
    obtain ⟨lao, lc, h1, h2, h3, h4, h5⟩ := hc i y hy
    exact ⟨lao, lc, (hb.cell (p := ⟨b, off + i * 4, none⟩) hlt).trans h1, (hb.cell (p := ⟨b, off + i * 4 + 1, none⟩) hlt).trans h2, (hb.cell (p := ⟨b, off + i * 4 + 2, none⟩) hlt).trans h3, (hb.cell (p := ⟨b, off + i * 4 + 3, none⟩) hlt).trans h4, h5.below hb⟩
def lineB (e : EntryM) (l : LineM) : BalM := ⟨e.ent, l.acc, l.cur, l.amt⟩
/-- an entry's lines as balances -/
def entB (e : EntryM) : List BalM := e.lines.map (lineB e)
def someB (pick : EntryM → Bool) (t : List EntryM) : List BalM := (t.filter pick).flatMap entB
def badL (l : List LineM) : Bool := l.any fun x => !mayA x.amt
def badAll (t : List EntryM) : Bool := t.any fun e => badL e.lines
/-- what is left to be added -/
def restB (pick : EntryM → Bool) (e : EntryM) (l : List LineM) : List BalM := if pick e = true then l.map (lineB e) else []
theorem someB_drop {pick : EntryM → Bool} {t : List EntryM} {k : Nat} {x : EntryM} (h : t[k]? = some x) : someB pick (t.drop k) = restB pick x x.lines ++ someB pick (t.drop (k + 1)) := by
  obtain ⟨hk, rfl⟩ := List.getElem?_eq_some_iff.1 h
  rw [List.drop_eq_getElem_cons hk]
  unfold someB restB
  by_cases hp : pick t[k] = true
  · rw [List.filter_cons_of_pos hp, if_pos hp, List.flatMap_cons]; rfl
  · rw [List.filter_cons_of_neg hp, if_neg hp, List.nil_append]
theorem badAll_drop {t : List EntryM} {k : Nat} {x : EntryM} (h : t[k]? = some x) : badAll (t.drop k) = (badL x.lines || badAll (t.drop (k + 1))) := by
  obtain ⟨hk, rfl⟩ := List.getElem?_eq_some_iff.1 h
  rw [List.drop_eq_getElem_cons hk]
  rfl
theorem badL_drop {l : List LineM} {k : Nat} {x : LineM} (h : l[k]? = some x) : badL (l.drop k) = (!mayA x.amt || badL (l.drop (k + 1))) := by
  obtain ⟨hk, rfl⟩ := List.getElem?_eq_some_iff.1 h
  rw [List.drop_eq_getElem_cons hk]
  rfl
theorem restB_drop {pick : EntryM → Bool} {e : EntryM} {l : List LineM} {k : Nat} {x : LineM} (h : l[k]? = some x) : restB pick e (l.drop k) = (if pick e = true then [lineB e x] else []) ++ restB pick e (l.drop (k + 1)) := by
  obtain ⟨hk, rfl⟩ := List.getElem?_eq_some_iff.1 h
  rw [List.drop_eq_getElem_cons hk]
  unfold restB
  by_cases hp : pick e = true
  · rw [if_pos hp, if_pos hp, if_pos hp]; rfl
  · rw [if_neg hp, if_neg hp, if_neg hp]; rfl
def entOk (e : EntryM) : Prop := ∀ l ∈ e.lines, plOk (plOf (lineB e l))
def SomePost (B : Nat) (w : World) (pick : EntryM → Bool) (t : List EntryM) (e : Ending) (w' : World) : Prop :=
  Below B w w' ∧ ((200 < t.length ∧ e = .returned (.tuple #[.slice none 0 0, errV 4])) ∨
    (t.length ≤ 200 ∧ badAll t = true ∧ e = .returned (.tuple #[.slice none 0 0, errV 1])) ∨
    (t.length ≤ 200 ∧ badAll t = false ∧ 200 < (foldT (someB pick t) []).length ∧ e = .returned (.tuple #[.slice none 0 0, errV 4])) ∨
    (t.length ≤ 200 ∧ badAll t = false ∧ (foldT (someB pick t) []).length ≤ 200 ∧ ∃ ao cap L, IsList (foldT (someB pick t) []) L ∧ BalsAt w' ao L ∧ e = .returned (.tuple #[.slice ao L.length cap, .nilIface])))
def pickBal (period : Int) (e : EntryM) : Bool := decide (e.per ≤ period)
def pickTrial (entity period : Int) (e : EntryM) : Bool := decide (e.ent = entity) && decide (e.per = period)
end Go.Proofs.Ytbhndnjlplibmaa.lg
