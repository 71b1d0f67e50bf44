/- What of others stays ('Stays'); an append of a text's bytes, and where it lies then. -/
import Derived.Test.YtldpflijgbcbhaaFnum
import Derived.Lib.AppendStr
namespace Go.Proofs.Ytldpflijgbcbhaa
open Go.RowKit

/-- below B, and at F's blocks, nothing has turned -/
structure Stays (B : Nat) (F : Nat → Prop) (w w' : World) : Prop where
  below : Below B w w'
  blk : ∀ k, F k → w'.heap[k]? = w.heap[k]?
theorem Stays.refl (B : Nat) (F : Nat → Prop) (w : World) : Stays B F w w := ⟨Below.refl _ _, fun _ _ => rfl⟩
theorem Stays.trans {B : Nat} {F : Nat → Prop} {a b c : World} (h : Stays B F a b) (k : Stays B F b c) : Stays B F a c := ⟨h.below.trans k.below, fun i hi => (k.blk i hi).trans (h.blk i hi)⟩
theorem Stays.of_below {B : Nat} {F : Nat → Prop} {w w' : World} (h : Below w.heap.size w w') (hB : B ≤ w.heap.size) (hF : ∀ k, F k → k < w.heap.size) : Stays B F w w' := ⟨h.mono hB, fun k hk => h.block k (hF k hk)⟩
theorem Stays.mono {B : Nat} {F G : Nat → Prop} {w w' : World} (h : Stays B F w w') (hG : ∀ k, G k → F k) : Stays B G w w' := ⟨h.below, fun k hk => h.blk k (hG k hk)⟩
theorem Stays.of_only {B : Nat} {F S : Nat → Prop} {w w' : World} (h : Only S w w') (hB : B ≤ w.heap.size) (hS : ∀ k, S k → B ≤ k ∧ ¬ F k) (hF : ∀ k, F k → k < w.heap.size) : Stays B F w w' :=
  ⟨h.below hB (fun k hk => (hS k hk).1), fun k hk => h.block k (hF k hk) (fun hs => (hS k hs).2 hk)⟩
theorem Stays.cell {B : Nat} {F : Nat → Prop} {w w' : World} (h : Stays B F w w') {b : Nat} (hb : b < B ∨ F b) (o : Nat) : w'.cell? ⟨b, o, none⟩ = w.cell? ⟨b, o, none⟩ := by
  rcases hb with hb | hb
  · exact h.below.cell (p := ⟨b, o, none⟩) hb
  · exact World.cell?_of_block (a := ⟨b, o, none⟩) (h.blk b hb)

theorem heap_new_at {w : World} {n : Nat} (h : w.heap.size = n) (o : Obj) : (w.alloc o).heap[n]? = some o := by
  subst h
  rw [show (w.alloc o).heap = w.heap.push o from rfl]
  simp

theorem run_append_str_at {P : Program} (w : World) (base : Nat) (t u ty e : TypeId) (i : TypeInfo) (ht : P.underlying t = some (.slice e)) (hu : P.underlying u = some .string) (hi : P.info? e = some i) (hz : i.zero = some (.int .u8 0))
    (hsize : i.size = 1) (hby : i.bytes = 1) (v : Value) (n : Nat) (xs : List Value) (hown : w.ownsRow base e 1 v n xs) (s : ByteArray)
    (h63 : n + s.size ≤ maxLen) (hbytes : n + s.size ≤ 140737488355328) (hbase : base ≤ w.heap.size) :
    ∃ v' w', (Builtin.append_ #[t, u] ty #[v, .string s]).run P w = .ok v' w' ∧ w'.ownsRow base e 1 v' (n + s.size) (xs ++ Lib.strCells s) ∧ w.grownBy w' v.ownBlock ∧
      (v'.ownBlock = v.ownBlock ∨ v'.ownBlock = some w.heap.size) := by
  obtain ⟨v', w', hr, h1, h2, h3⟩ := Lib.run_append_own_string (P := P) w base t u ty e i ht hu hi hz hsize hby v n xs hown s h63 hbytes hbase
  refine ⟨v', w', hr, h1, h2, ?_⟩
  have hsmall : n + s.size ≤ 9223372036854775807 := by simp only [maxLen] at h63; omega
  have hxl : xs.length = n := by simpa using hown.1
  rcases hown.2 with ⟨rfl, rfl⟩ | ⟨g, cap, cur, rfl, _, hg, hnc, hcm, hcs, _⟩
  · by_cases hm : s.size = 0
    · exact Or.inl (by rw [h3.2 ⟨rfl, hm⟩])
    · rw [run_append_nil_string (P := P) w t u ty e i (.int .u8 0) ht hu hi hz s (by omega) (by omega) (by rw [hby]; omega)] at hr
      injection hr with hr _
      exact Or.inr (by rw [← hr]; rfl)
  · by_cases hroom : n + s.size ≤ cap
    · rw [Lib.run_append_room_string (P := P) w t u ty e i ht hu hi hsize g n cap cur hg s hroom (by simp at hcs; omega)] at hr
      injection hr with hr _
      exact Or.inl (by rw [← hr]; rfl)
    · rw [Lib.run_append_grow_string (P := P) w t u ty e i (.int .u8 0) ht hu hi hz ⟨g, 0, none⟩ n cap xs (by rw [hsize]; simpa using hxl) (hown.cells (g := g) rfl) s (by omega) (by omega) (by rw [hby]; exact growslice_fits (by omega) (by omega))] at hr
      injection hr with hr _
      exact Or.inr (by rw [← hr]; rfl)

theorem wpList_append_str_at {P : Program} (w : World) {ops : Array Oper} {rest : List Oper} {o : Oper} {a : Act} {Q : Exit → Act → World → Prop} (hgd : o.guard = none) (sl x : Operand) (t u : TypeId)
    (ho : o.op = .call { callee := .builtin .append, args := #[sl, x], argTypes := #[t, u] })
    (base : Nat) (e : TypeId) (i : TypeInfo) (ht : P.underlying t = some (.slice e)) (hu : P.underlying u = some .string) (hi : P.info? e = some i) (hz : i.zero = some (.int .u8 0))
    (hsize : i.size = 1) (hby : i.bytes = 1)
    (v : Value) (n : Nat) (xs : List Value) (hs : a.eval sl = v) (hown : w.ownsRow base e 1 v n xs) (s : ByteArray) (hx : a.eval x = .string s)
    (h63 : n + s.size ≤ maxLen) (hbytes : n + s.size ≤ 140737488355328) (hbase : base ≤ w.heap.size)
    (h : ∀ v' w', w'.ownsRow base e 1 v' (n + s.size) (xs ++ Lib.strCells s) → w.grownBy w' v.ownBlock → (v'.ownBlock = v.ownBlock ∨ v'.ownBlock = some w.heap.size) → wpList P ops Q rest (a.put o.dst v') w') : wpList P ops Q (o :: rest) a w := by
  refine wpList_plain hgd fun K hK => ?_
  obtain ⟨v', w', hr, h2, h3, h4⟩ := run_append_str_at (P := P) w base t u o.type e i ht hu hi hz hsize hby v n xs hown s h63 hbytes hbase
  unfold Oper.wp execOp
  simp only [ho, resolve, invoke, builtin, Sem.run_bind, Sem.run_pure, Result.andThen_ok, List.map_toArray, List.map_cons, List.map_nil, hs, hx, hr]
  exact hK _ _ (h v' w' h2 h3 h4)

theorem Moved.append0 {w w1 : World} {v v1 : Value} (hg : w.grownBy w1 v.ownBlock) (hat : v1.ownBlock = v.ownBlock ∨ v1.ownBlock = some w.heap.size) : Moved w w1 v v1 :=
  ⟨Only.of_grown hg, hat.imp id (fun e => ⟨_, e, Nat.le_refl _⟩)⟩
theorem strCells_eq (s : ByteArray) : Lib.strCells s = s.data.toList.map byteV := rfl
end Go.Proofs.Ytldpflijgbcbhaa
