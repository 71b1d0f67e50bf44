/- The sums, one by one; lookup, entry, store in one round. -/
import Derived.Test.YtbhndnjlplibmaaSort
import Derived.Test.YtbhndnjlplibmaaMp3
import Derived.Test.YtbhndnjlplibmaaErrV
import Derived.BigRegion
import Derived.Carry
namespace Go.Proofs.Ytbhndnjlplibmaa.lg
open Go.RowKit
open Go.ChangeMaps (setBlock)

/-- the sums, balance by balance -/
def stepT (T : List (PlM × Int)) (x : BalM) : List (PlM × Int) := tabPut T (plOf x) (IntKind.i64.wrap (tabGet T (plOf x) + x.amt))
def foldT (l : List BalM) (T : List (PlM × Int)) : List (PlM × Int) := l.foldl stepT T
theorem foldT_drop {l : List BalM} {k : Nat} {x : BalM} {T : List (PlM × Int)} (h : l[k]? = some x) : foldT (l.drop k) T = foldT (l.drop (k + 1)) (stepT T x) := by
  obtain ⟨hk, rfl⟩ := List.getElem?_eq_some_iff.1 h
  rw [List.drop_eq_getElem_cons hk]
  rfl
theorem MapT.undrew {w : World} {b : Nat} {T : List (PlM × Int)} (h : MapT w.drew b T) : MapT w b T := h.later rfl
theorem only_undrew {S : Nat → Prop} {w w' : World} (h : Only S w.drew w') : Only S w w' := ⟨h.os, h.tape, h.output, h.size, h.block⟩
theorem only_set (w : World) (b : Nat) (o : Obj) : Only (fun k => k = b) w (setBlock w b o) := ⟨rfl, rfl, rfl, by simp [setBlock], fun k _ hn => by simp [setBlock, Ne.symm hn]⟩
/-- what is off the map stays, whatever the map turns to -/
theorem BalsAt.off {w w' : World} {ro : Option Addr} {l : List BalM} {bm : Nat} {T : List (PlM × Int)} (h : BalsAt w ro l) (hm : MapT w bm T) (ho : Only (fun k => k = bm) w w') : BalsAt w' ro l := by
  rcases h with h | ⟨b, off, e, hlt, hc⟩
  · exact Or.inl h
  · cases l with
    | nil => exact Or.inl rfl
    | cons y r =>
      have hne : b ≠ bm := fun e' => by
        subst e'
        obtain ⟨es, clock, h1, _⟩ := hm.ex
        have := (hc 0 y rfl).1
        simp [World.cell?, h1] at this
      have hk := ho.block b hlt hne
      refine Or.inr ⟨b, off, e, Nat.lt_of_lt_of_le hlt ho.size, fun i x hx => ?_⟩
      obtain ⟨h1, h2, h3, h4⟩ := hc i x hx
      exact ⟨(World.cell?_of_block (w := w) (a := ⟨b, off + i * 4, none⟩) hk).trans h1, (World.cell?_of_block (w := w) (a := ⟨b, off + i * 4 + 1, none⟩) hk).trans h2, (World.cell?_of_block (w := w) (a := ⟨b, off + i * 4 + 2, none⟩) hk).trans h3, (World.cell?_of_block (w := w) (a := ⟨b, off + i * 4 + 3, none⟩) hk).trans h4⟩
set_option maxRecDepth 100000 in
/-- lookup, entry, store: the three runs of one round -/
theorem round_runs {W : World} {bm : Nat} {T : List (PlM × Int)} (hm : MapT W bm T) {x : BalM} (hp : plOk (plOf x)) :
    ∃ (g st : Int) (V V2 : World), (Instr.lookup 71 (.map (some bm)) (.agg #[.int .i64 x.ent, .string x.acc, .string x.cur]) false).run Try.prog W = .ok (.int .i64 g) W ∧
      (Instr.lookup 71 (.map (some bm)) (.agg #[.int .i64 x.ent, .string x.acc, .string x.cur]) false).run Try.prog V = .ok (.int .i64 g) V ∧
      (Instr.mapEntry 71 (.map (some bm)) (.agg #[.int .i64 x.ent, .string x.acc, .string x.cur])).run Try.prog W = .ok (.tuple #[.int .i64 g, .int .i64 st]) V ∧
      (Instr.entryStore 71 (.map (some bm)) (.int .i64 st) (.int .i64 (IntKind.i64.wrap (g + x.amt)))).run Try.prog V = .ok () V2 ∧
      Only (fun k => k = bm) W V ∧ Only (fun k => k = bm) W V2 ∧ V.heap.size = W.heap.size ∧ V2.heap.size = W.heap.size ∧ MapT V2 bm (stepT T x) := by
  obtain ⟨st, o1, hmid, he, hs⟩ := entry_run hm hp
  obtain ⟨es, clock, hb, _⟩ := hm.ex
  have hV := (MapKept.heap_set (o' := o1) hb).1
  obtain ⟨o2, hs2, hs3⟩ := hs (setBlock W bm o1) (IntKind.i64.wrap (tabGet T (plOf x) + x.amt)) hV
  have hV2 : (setBlock (setBlock W bm o1) bm o2).heap[bm]? = some o2 := (MapKept.heap_set (o' := o2) hV).1
  refine ⟨tabGet T (plOf x), st, setBlock W bm o1, setBlock (setBlock W bm o1) bm o2, lookup_run hm hp, ?_, he, hs2, only_set _ _ _, ?_, by simp [setBlock], by simp [setBlock], hs3 _ hV2⟩
  · have := lookup_run (hmid (setBlock W bm o1) hV) hp
    rw [get_put] at this
    exact this
  · exact (only_set W bm o1).trans (only_set _ bm o2) (fun _ _ h => h)

end Go.Proofs.Ytbhndnjlplibmaa.lg
