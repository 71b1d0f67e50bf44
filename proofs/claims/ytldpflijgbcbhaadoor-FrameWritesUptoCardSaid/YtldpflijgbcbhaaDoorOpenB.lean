/- Arguments opened: bytes, and balances, with what their bulk gives. -/
import Derived.Test.YtldpflijgbcbhaaDoorOpenE
import Derived.Test.YtldpflijgbcbhaaDoorBackL
namespace Go.Proofs.YtldpflijgbcbhaaDoor
open Go.ChangeShapes Go.WideShapes Go.ChangeAt Go.RowKit Go.Deep

theorem cellsU8' : Tryd.prog.cellsOf 5 = 1 := by kernel_rfl
theorem cellsBl : Tryd.prog.cellsOf 106 = 4 := by kernel_rfl
theorem bulk_pos {H : Type} (d : DataW H) : 1 ≤ Rows.uptoBulk d := by
  cases d with
  | lit l => cases l <;> simp only [Rows.uptoBulk] <;> omega
  | _ => simp only [Rows.uptoBulk] <;> omega
theorem bulk_len {H : Type} : ∀ (l : List (DataW H)), l.length ≤ Rows.uptoBulkAll l
  | [] => Nat.zero_le _
  | d :: r => by
    have h1 := bulk_pos d
    have h2 := bulk_len r
    simp only [Rows.uptoBulkAll, List.length_cons]
    omega
section
variable {H : Type} {enc : TypeId × Value → H} {w : World} {base : Nat} {spare : Nat → Bool} {held : Bool}
/-- bytes -/
theorem open_src {fuel : Nat} {cs : List Value} {x : DataW H × List MemPlace} (h : DataW.trod enc Tryd.prog w base spare held fuel 22 cs = some x) :
    ∃ (ao : Option Addr) (cap : Nat) (l : List UInt8), cs = [.slice ao l.length cap] ∧ SrcW w ao l ∧ l.length ≤ cap ∧ l.length ≤ Rows.uptoBulk x.1 := by
  rcases open_ints Tryd.underlying22 Tryd.underlying5 cellsU8' h with ⟨rfl, rfl⟩ | ⟨a, len, cap, zs, rfl, _, hl, hm, hz, rfl, hcell, hwz⟩
  · exact ⟨none, 0, [], rfl, fun h0 => by simp at h0, Nat.zero_le _, Nat.zero_le _⟩
  · have hlz : len ≤ zs.length := by rw [hz]; split <;> omega
    have hll : ((zs.take len).map fun z => UInt8.ofNat z.toNat).length = len := by simp; omega
    refine ⟨some a, cap, (zs.take len).map fun z => UInt8.ofNat z.toNat, by rw [hll], fun h0 => ?_, by rw [hll]; exact hl, ?_⟩
    · rw [hll] at h0
      have h00 := hcell 0 (by omega)
      obtain ⟨b, off, spot⟩ := a
      have hspot : spot = none := by simpa [Addr.add] using World.cell?_spot h00
      subst hspot
      refine ⟨b, off, rfl, ?_, fun j u hj => ?_⟩
      · rcases Nat.lt_or_ge b w.heap.size with h1 | h1
        · exact h1
        · simp [World.cell?, Addr.add, Array.getElem?_eq_none h1] at h00
      · rw [List.getElem?_map] at hj
        cases hzj : (zs.take len)[j]? with
        | none => rw [hzj] at hj; cases hj
        | some z =>
          rw [hzj] at hj
          simp only [Option.map_some, Option.some.injEq] at hj
          rw [List.getElem?_take] at hzj
          split at hzj
          · obtain ⟨hjl, hze⟩ := List.getElem?_eq_some_iff.1 hzj
            have hc := hcell j hjl
            rw [addr_add] at hc
            rw [hc, ← hj]
            have hw := hwz z (List.mem_of_getElem? hzj)
            have hw2 : 0 ≤ z ∧ z ≤ 255 := by simpa [Lit.wf, IntKind.min, IntKind.max, IntKind.signed, IntKind.bits] using hw
            simp only [byteV, List.getD, hzj, Option.getD_some]
            congr 2
            rw [UInt8.toNat_ofNat']
            omega
          · cases hzj
    · rw [hll]
      have h1 := bulk_len (lits (H := H) .u8 (zs.take len))
      have h2 : (lits (H := H) .u8 (zs.take len)).length = len := by simp [lits]; omega
      simp only [Rows.uptoBulk]
      omega
/-- bytes -/
theorem open_srcD {fuel : Nat} {cs : List Value} {x : DataW H × List MemPlace} (h : DataW.trod enc Tryd.prog w base spare held fuel 22 cs = some x) :
    ∃ (ao : Option Addr) (cap : Nat) (l : List UInt8), cs = [.slice ao l.length cap] ∧ SrcW w ao l ∧ l.length ≤ cap ∧ (l = [] ∨ ∃ es sp, x.1 = .slice es sp ∧ l.length = es.length) := by
  rcases open_ints Tryd.underlying22 Tryd.underlying5 cellsU8' h with ⟨rfl, rfl⟩ | ⟨a, len, cap, zs, rfl, _, hl, hm, hz, rfl, hcell, hwz⟩
  · exact ⟨none, 0, [], rfl, fun h0 => by simp at h0, Nat.zero_le _, Or.inl rfl⟩
  · have hlz : len ≤ zs.length := by rw [hz]; split <;> omega
    have hll : ((zs.take len).map fun z => UInt8.ofNat z.toNat).length = len := by simp; omega
    refine ⟨some a, cap, (zs.take len).map fun z => UInt8.ofNat z.toNat, by rw [hll], fun h0 => ?_, by rw [hll]; exact hl, ?_⟩
    · rw [hll] at h0
      have h00 := hcell 0 (by omega)
      obtain ⟨b, off, spot⟩ := a
      have hspot : spot = none := by simpa [Addr.add] using World.cell?_spot h00
      subst hspot
      refine ⟨b, off, rfl, ?_, fun j u hj => ?_⟩
      · rcases Nat.lt_or_ge b w.heap.size with h1 | h1
        · exact h1
        · simp [World.cell?, Addr.add, Array.getElem?_eq_none h1] at h00
      · rw [List.getElem?_map] at hj
        cases hzj : (zs.take len)[j]? with
        | none => rw [hzj] at hj; cases hj
        | some z =>
          rw [hzj] at hj
          simp only [Option.map_some, Option.some.injEq] at hj
          rw [List.getElem?_take] at hzj
          split at hzj
          · obtain ⟨hjl, hze⟩ := List.getElem?_eq_some_iff.1 hzj
            have hc := hcell j hjl
            rw [addr_add] at hc
            rw [hc, ← hj]
            have hw := hwz z (List.mem_of_getElem? hzj)
            have hw2 : 0 ≤ z ∧ z ≤ 255 := by simpa [Lit.wf, IntKind.min, IntKind.max, IntKind.signed, IntKind.bits] using hw
            simp only [byteV, List.getD, hzj, Option.getD_some]
            congr 2
            rw [UInt8.toNat_ofNat']
            omega
          · cases hzj
    · exact Or.inr ⟨_, _, rfl, by rw [hll]; simp [lits]; omega⟩
def BalM.good (x : BalM) (m : Nat) : Prop := (-9223372036854775808 ≤ x.ent ∧ x.ent ≤ 9223372036854775807) ∧ x.acc.size ≤ m ∧ x.cur.size ≤ m ∧ -9223372036854775808 ≤ x.amt ∧ x.amt ≤ 9223372036854775807
/-- one balance -/
theorem open_bal {fuel : Nat} {cs : List Value} {x : DataW H × List MemPlace} (h : DataW.trod enc Tryd.prog w base spare held fuel 106 cs = some x) :
    ∃ y : BalM, cs = [.int .i64 y.ent, .string y.acc, .string y.cur, .int .i64 y.amt] ∧ y.good (Rows.uptoBulk x.1) := by
  obtain ⟨xs, n, _, rfl, hl, hxl, hf⟩ := DataW.trod_struct Tryd.underlying106 h
  rw [cellsBl] at hl
  obtain ⟨c0, c1, c2, c3, rfl⟩ := list4 hl
  obtain ⟨y0, y1, y2, y3, rfl⟩ := list4 (hxl.trans (show _ = 4 from rfl))
  have k0 := hf 0 _ rfl
  have k1 := hf 1 _ rfl
  have k2 := hf 2 _ rfl
  have k3 := hf 3 _ rfl
  simp [cellsI] at k0
  simp [cellsStr] at k1
  simp [cellsStr] at k2
  simp [cellsI] at k3
  obtain ⟨n0, e0, rfl, w0⟩ := DataW.trod_int Tryd.underlying3 k0
  obtain ⟨s1, e1, rfl, _⟩ := DataW.trod_string Tryd.underlying9 k1
  obtain ⟨s2, e2, rfl, _⟩ := DataW.trod_string Tryd.underlying9 k2
  obtain ⟨n3, e3, rfl, w3⟩ := DataW.trod_int Tryd.underlying3 k3
  simp only [List.cons.injEq, and_true] at e0 e1 e2 e3
  subst e0 e1 e2 e3
  refine ⟨⟨n0, s1, s2, n3⟩, rfl, int_of_wf w0, ?_, ?_, int_of_wf w3⟩
  · simp only [Rows.uptoBulk, Rows.uptoBulkAll, List.map_cons, List.map_nil]
    show s1.size ≤ _
    have e : s1.data.toList.length = s1.size := rfl
    omega
  · simp only [Rows.uptoBulk, Rows.uptoBulkAll, List.map_cons, List.map_nil]
    show s2.size ≤ _
    have e : s2.data.toList.length = s2.size := rfl
    omega
instance : Inhabited BalM := ⟨⟨0, ⟨#[]⟩, ⟨#[]⟩, 0⟩⟩
/-- balances -/
theorem open_bals {fuel : Nat} {cs : List Value} {x : DataW H × List MemPlace} (h : DataW.trod enc Tryd.prog w base spare held fuel 34 cs = some x) :
    ∃ (lao : Option Addr) (lc : Nat) (T : List BalM), cs = [.slice lao T.length lc] ∧ BalsAt w lao T ∧ T.length ≤ maxLen ∧ T.length ≤ lc ∧ ∀ y ∈ T, y.good (Rows.uptoBulk x.1) := by
  rcases open_slice Tryd.underlying34 h with ⟨rfl, rfl⟩ | ⟨a, len, cap, m, n, D, Pl, rfl, _, hl, hm, hmm, rfl, hi⟩
  · exact ⟨none, 0, [], rfl, Or.inl rfl, Nat.zero_le _, Nat.zero_le _, fun y hy => by cases hy⟩
  · have hlm : len ≤ m := by rw [hmm]; split <;> omega
    rw [cellsBl] at hi
    have hone : ∀ i, i < len → ∃ y : BalM, w.cells? base (a.add (i * 4)) 4 = some [.int .i64 y.ent, .string y.acc, .string y.cur, .int .i64 y.amt] ∧ y.good (Rows.uptoBulk (D i)) := fun i h' => by
      obtain ⟨cs', h1, h2⟩ := hi i (by omega)
      obtain ⟨y, rfl, hy⟩ := open_bal h2
      exact ⟨y, h1, hy⟩
    obtain ⟨f, hf⟩ := choose_lt hone
    have hlen : ((List.range len).map f).length = len := by simp
    refine ⟨some a, cap, (List.range len).map f, by rw [hlen], ?_, by rw [hlen]; omega, by rw [hlen]; exact hl, fun y hy => ?_⟩
    · rcases Nat.eq_zero_or_pos len with h0 | h0
      · subst h0; exact Or.inl rfl
      · have h00 := (hf 0 h0).1
        rw [Nat.zero_mul] at h00
        obtain ⟨b, off, rfl, hb⟩ := spot_none h00 (by omega)
        refine Or.inr ⟨b, off, rfl, hb, fun i y hy => ?_⟩
        obtain ⟨hlt, rfl⟩ := range_get f len i y hy
        obtain ⟨_, hc⟩ := place_cells (hf i hlt).1
        exact ⟨hc 0 (by omega), hc 1 (by omega), hc 2 (by omega), hc 3 (by omega)⟩
    · obtain ⟨i, hi', rfl⟩ := List.mem_map.1 hy
      have hlt := List.mem_range.1 hi'
      obtain ⟨g0, g1, g2, g3⟩ := (hf i hlt).2
      have hb : Rows.uptoBulk (D i) ≤ Rows.uptoBulk (DataW.slice ((List.range len).map D) ((List.range (m - len)).map fun j => D (len + j))) := by
        have := bulk_mem (d := D i) (l := (List.range len).map D) (List.mem_map.2 ⟨i, hi', rfl⟩)
        simp only [Rows.uptoBulk]
        omega
      exact ⟨g0, by simp only; omega, by simp only; omega, g3⟩
end
end Go.Proofs.YtldpflijgbcbhaaDoor
