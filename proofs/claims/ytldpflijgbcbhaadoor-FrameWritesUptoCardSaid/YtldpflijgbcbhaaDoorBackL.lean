/- FrameBack: the plain law; what an append of bytes that came in leaves; slices cut. -/
import Derived.Test.YtldpflijgbcbhaaDoorRowB
import Derived.Test.YtldpflijgbcbhaaDoorFrdbw
import Derived.Test.YtldpflijgbcbhaaDoorSameB
import Derived.Maps.AppendAt
namespace Go.Proofs.YtldpflijgbcbhaaDoor
open Go.RowKit

/-! an append of bytes, an empty slice of them too -/
theorem run_append_nil_src {P : Program} (w : World) (base : Nat) (t ty e : TypeId) (i : TypeInfo) (size : Nat) (ht : P.underlying t = some (.slice e)) (hi : P.info? e = some i)
    (v : Value) (n : Nat) (xs : List Value) (hown : w.ownsRow base e size v n xs) (c : Nat) : (Builtin.append_ #[t, t] ty #[v, .slice none 0 c]).run P w = .ok v w := by
  rcases hown.2 with ⟨rfl, rfl⟩ | ⟨g, cap, cur, rfl, _, _, hnc, _⟩
  · simp [Builtin.append_, run_underlying ht, sizeOf, typeInfo, hi, Builtin.lenOf, Builtin.firstCells]
  · simp [Builtin.append_, run_underlying ht, sizeOf, typeInfo, hi, Builtin.lenOf, Builtin.firstCells, hnc, storeCells]
theorem wpList_append_src (w : World) {ops : Array Oper} {rest : List Oper} {o : Oper} {a : Act} {Q : Exit → Act → World → Prop} (hgd : o.guard = none) (s x : Operand) (t : TypeId)
    (ho : o.op = .call { callee := .builtin .append, args := #[s, x], argTypes := #[t, t] })
    (base : Nat) (i : TypeInfo) (ht : Tryd.prog.underlying t = some (.slice 5)) (hi : Tryd.prog.info? 5 = some i) (hz : i.zero = some (.int .u8 0)) (hsize : i.size = 1) (hby : i.bytes = 1)
    (v : Value) (n : Nat) (xs : List Value) (hs : a.eval s = v) (hown : w.ownsRow base 5 1 v n xs)
    (A : Option Addr) (l : List UInt8) (c : Nat) (hx : a.eval x = .slice A l.length c) (hr : SrcW w A l)
    (hbytes : n + l.length ≤ 140737488355328) (hbase : base ≤ w.heap.size)
    (h : ∀ v' w', w'.ownsRow base 5 1 v' (n + l.length) (xs ++ l.map byteV) → w.grownBy w' v.ownBlock → (v'.ownBlock = v.ownBlock ∨ v'.ownBlock = some w.heap.size) → wpList Tryd.prog ops Q rest (a.put o.dst v') w') :
    wpList Tryd.prog ops Q (o :: rest) a w := by
  refine wpList_plain hgd fun K hK => ?_
  have hrun : ∃ v' w', (Builtin.append_ #[t, t] o.type #[v, .slice A l.length c]).run Tryd.prog w = .ok v' w' ∧ w'.ownsRow base 5 1 v' (n + l.length) (xs ++ l.map byteV) ∧ w.grownBy w' v.ownBlock ∧
      (v'.ownBlock = v.ownBlock ∨ v'.ownBlock = some w.heap.size) := by
    rcases A with _ | ad
    · have hl : l = [] := by
        rcases Nat.eq_zero_or_pos l.length with h0 | h0
        · exact List.length_eq_zero_iff.1 h0
        · obtain ⟨b, o', h, _⟩ := hr h0
          cases h
      subst hl
      exact ⟨v, w, run_append_nil_src w base t o.type _ i 1 ht hi v n xs hown c, by simpa using hown, World.grownBy.refl w _, .inl rfl⟩
    · have hcells : ∀ j u, (l.map byteV)[j]? = some u → w.cell? (ad.add j) = some u := by
        intro j u hu
        rcases Nat.eq_zero_or_pos l.length with h0 | h0
        · have hl := List.length_eq_zero_iff.1 h0
          subst hl
          simp at hu
        · obtain ⟨b, o', h, _, hc⟩ := hr h0
          have h' := Option.some.inj h
          subst h'
          rw [List.getElem?_map] at hu
          cases hj : l[j]? with
          | none => rw [hj] at hu; cases hu
          | some y =>
            rw [hj] at hu
            simp only [Option.map_some, Option.some.injEq] at hu
            subst hu
            rw [addr_add]
            exact hc j y hj
      obtain ⟨v', w', hrun, h2, h3, _, h5⟩ := run_append_own_at (P := Tryd.prog) w base t o.type 5 i (.int .u8 0) 1 1 ht hi hz hsize hby rfl (by decide) v n xs hown ad l.length c (l.map byteV) (by simp) hcells (byteV_one l) (by unfold maxLen; omega) (by omega) hbase
      exact ⟨v', w', hrun, h2, h3, h5⟩
  obtain ⟨v', w', hrun, h2, h3, h4⟩ := hrun
  unfold Oper.wp execOp
  simp only [ho, resolve, invoke, builtin, Sem.run_bind, Sem.run_pure, Result.andThen_ok, List.map_toArray, List.map_cons, List.map_nil, hs, hx, hrun]
  exact hK _ _ (h v' w' h2 h3 h4)

/-- a slice that owns bytes, cut at a place, as a source -/
theorem src_take {w : World} {base g c : Nat} {l : List UInt8} (h : w.ownsRow base 5 1 (.slice (some ⟨g, 0, none⟩) l.length c) l.length (l.map byteV)) (k : List UInt8) (hp : k <+: l) : SrcW w (some ⟨g, 0, none⟩) k := by
  intro h0
  have hlt : g < w.heap.size := by
    rcases h.2 with ⟨hv, _⟩ | ⟨g', c', cur, hv, _, hh, hc, _⟩
    · cases hv
    · injection hv with hv1 _ hv3
      injection hv1 with hv1
      injection hv1 with hv1 _ _
      subst hv1
      exact lt_of_heap hh
  refine ⟨g, 0, rfl, hlt, fun j x hj => ?_⟩
  obtain ⟨r, rfl⟩ := hp
  have hj' : (k ++ r)[j]? = some x := by
    have hlt' := (List.getElem?_eq_some_iff.1 hj).1
    rw [List.getElem?_append_left hlt']; exact hj
  have hc := h.cells (g := g) rfl j (byteV x) (by rw [List.getElem?_map, hj']; rfl)
  rwa [addr_add] at hc
theorem SrcW.below {w w' : World} {sp : Option Addr} {l : List UInt8} (h : SrcW w sp l) {B : Nat} (hb : Below B w w') (hB : w.heap.size ≤ B) : SrcW w' sp l := by
  intro h0
  obtain ⟨b, o, e, hlt, hc⟩ := h h0
  exact ⟨b, o, e, Nat.lt_of_lt_of_le hlt hb.size, fun j x hj => (hb.cell (p := ⟨b, o + j, none⟩) (show b < B by omega)).trans (hc j x hj)⟩

def M1 : EntryM := ⟨⟨#[97]⟩, 1, 2, []⟩
theorem M1_ok : M1.ok := by
  refine ⟨by show (⟨#[97]⟩ : ByteArray).size ≤ 24; rw [sz1]; omega, ⟨by show (0 : Int) ≤ 1; omega, by show (1 : Int) ≤ 200; omega⟩, ⟨by show (0 : Int) ≤ 2; omega, by show (2 : Int) ≤ 200; omega⟩, by show 0 ≤ 20; omega, fun x hx => by cases hx⟩
theorem M1_fair : M1.fair := fair_of_ok M1_ok
theorem numB1 {n : Int} (h0 : 0 ≤ n) (h1 : n ≤ 63) : (numB n).length = 1 := by
  unfold numB
  rw [varint_small (by unfold zig; rw [if_pos h0]; omega)]
  rfl
theorem M1_len : M1.bytes.length = 5 := by
  show (numB ((1 : Nat) : Int) ++ [97] ++ (numB 1 ++ (numB 2 ++ (numB 0 ++ [])))).length = 5
  simp only [List.length_append, numB1 (n := ((1 : Nat) : Int)) (by omega) (by omega), numB1 (n := 1) (by omega) (by omega), numB1 (n := 2) (by omega) (by omega), numB1 (n := 0) (by omega) (by omega), List.length_nil]
  rfl
theorem dropLast_prefix (l : List UInt8) : l.dropLast <+: l := List.dropLast_prefix l
theorem bals_fair {t : List BalM} (h : balsOk balCmp t) : ∀ x ∈ t, x.fair := fun x hx => by
  obtain ⟨h0, h1, h2, h3, h4⟩ := h.2.1 x hx
  unfold bigA at h3 h4
  exact ⟨by omega, by omega, by omega, by omega, by omega⟩
theorem balsB_le {t : List BalM} (h : balsOk balCmp t) : (balsB t).length ≤ 900000000 := by
  have h1 := balsLen t (bals_fair h)
  have h2 := h.1
  have h3 := numB_len (n := (t.length : Int)) (by omega) (by omega)
  unfold balsB
  rw [List.length_append]
  omega
theorem balsB_len (t : List BalM) : 1 ≤ (balsB t).length := List.length_pos_iff.2 (balsB_ne t)

/-- bytes as a text -/
theorem conv_src {w : World} {sp : Option Addr} {l : List UInt8} (h : SrcW w sp l) (cap m : Nat) : (convert 22 9 (.slice sp l.length cap)).run Tryd.prog (w.drewN m) = .ok (.string ⟨l.toArray⟩) (w.drewN m) := by
  rcases Nat.eq_zero_or_pos l.length with h0 | h0
  · obtain rfl := List.length_eq_zero_iff.1 h0
    cases sp with
    | none => exact run_convert_bytes_nil _ _ _ Tryd.underlying22 Tryd.underlying5 0 cap _ Tryd.underlying9
    | some a => exact run_convert_bytes_back (w.drewN m) _ _ _ a cap [] Tryd.underlying22 Tryd.underlying5 Tryd.underlying9 (fun j hj => by simp at hj)
  · obtain ⟨b, off, rfl, hlt, hx⟩ := h h0
    exact run_convert_bytes_back (w.drewN m) _ _ _ ⟨b, off, none⟩ cap l Tryd.underlying22 Tryd.underlying5 Tryd.underlying9 (fun j hj => by
      rw [addr_add]
      exact hx j l[j] (by simp [hj]))
theorem SrcW.pre {w : World} {sp : Option Addr} {l k : List UInt8} (h : SrcW w sp l) (hp : k <+: l) : SrcW w sp k := by
  intro h0
  obtain ⟨r, rfl⟩ := hp
  obtain ⟨b, o, e, hlt, hc⟩ := h (by rw [List.length_append]; omega)
  refine ⟨b, o, e, hlt, fun j x hj => hc j x ?_⟩
  rw [List.getElem?_append_left (List.getElem?_eq_some_iff.1 hj).1]
  exact hj
end Go.Proofs.YtldpflijgbcbhaaDoor
