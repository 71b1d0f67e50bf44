/- Read, Fail, Steps, Blocks of a disk, and Flush where it has stopped. -/
import Derived.Test.YtldpflijgbcbhaaDoorBlk3
namespace Go.Proofs.YtldpflijgbcbhaaDoor
open Go.RowKit

set_option maxHeartbeats 2000000 in
theorem flush_stop (w : World) (S : Nat → Prop) (d : Nat) (M : DiskM) (h : DiskAt w S d M) (hs : M.steps ≤ 1000000000000) (hst : M.stopped = true) :
    Calls Tryd.prog 27 #[.pointer (some ⟨d, 0, none⟩)] w fun e w' => e = .returned (errV 7) ∧ Below w.heap.size w w' := by
  have hstop := stopped_any w S d M h hs
  rw [hst] at hstop
  clear h hst
  go_enter Tryd.func27, Tryd.ntmps27
  go_wp2_with fail
  refine hstop.mono ?_
  rintro e w1 ⟨rfl, hb1⟩
  clear hstop
  go_wp2_with fail
  go_ret
  exact ⟨rfl, hb1⟩

theorem steps_any (w : World) (S : Nat → Prop) (d : Nat) (M : DiskM) (h : DiskAt w S d M) :
    Calls Tryd.prog 28 #[.pointer (some ⟨d, 0, none⟩)] w fun e w' => e = .returned (.int .i64 M.steps) ∧ w = w' := by
  obtain ⟨bn, cn, bs, cs, sv, ns, ss, xs, h⟩ := h
  have c3 := (⟨h.self⟩ : Own w d _ _ _ _ _).c3
  clear h
  go_enter Tryd.func28, Tryd.ntmps28
  go_wp2_with fail
  go_ret
  exact ⟨rfl, rfl⟩

theorem blocks_any (w : World) (S : Nat → Prop) (d : Nat) (M : DiskM) (h : DiskAt w S d M) :
    Calls Tryd.prog 34 #[.pointer (some ⟨d, 0, none⟩)] w fun e w' => e = .returned (.int .i64 M.now.length) ∧ w = w' := by
  obtain ⟨bn, cn, bs, cs, sv, ns, ss, xs, h⟩ := h
  have c0 := (⟨h.self⟩ : Own w d _ _ _ _ _).c0
  clear h
  go_enter Tryd.func34, Tryd.ntmps34
  go_wp2_with fail
  go_ret
  exact ⟨rfl, rfl⟩

set_option maxHeartbeats 2000000 in
/-- no such block -/
theorem read_range (i : Int) (w : World) (S : Nat → Prop) (d : Nat) (M : DiskM) (h : DiskAt w S d M) (hi : i < 0 ∨ (M.now.length : Int) ≤ i) :
    Calls Tryd.prog 25 #[.pointer (some ⟨d, 0, none⟩), .int .i64 i] w fun e w' => e = .returned (.tuple #[.slice none 0 0, errV 1]) ∧ w = w' := by
  obtain ⟨bn, cn, bs, cs, sv, ns, ss, xs, h⟩ := h
  have c0 := (⟨h.self⟩ : Own w d _ _ _ _ _).c0
  clear h
  rcases hi with hi | hi
  · go_enter Tryd.func25, Tryd.ntmps25
    go_wp2_with fail
    go_ret2
    exact ⟨rfl, rfl⟩
  · have h0 : ¬ i < 0 := by omega
    go_enter Tryd.func25, Tryd.ntmps25
    go_wp2_with fail
    go_ret2
    exact ⟨rfl, rfl⟩

set_option maxHeartbeats 2000000 in
/-- the block was torn -/
theorem read_torn (i : Nat) (w : World) (S : Nat → Prop) (d : Nat) (M : DiskM) (h : DiskAt w S d M) (hi : M.now[i]? = some none) :
    Calls Tryd.prog 25 #[.pointer (some ⟨d, 0, none⟩), .int .i64 i] w fun e w' => e = .returned (.tuple #[.slice none 0 0, errV 9]) ∧ w = w' := by
  obtain ⟨bn, cn, bs, cs, sv, ns, ss, xs, h⟩ := h
  have c0 := (⟨h.self⟩ : Own w d _ _ _ _ _).c0
  obtain ⟨hlt, _⟩ := List.getElem?_eq_some_iff.1 hi
  obtain ⟨x, hx, hb⟩ := h.now.blk i _ hi
  have hx2 : x = .slice none 0 0 := hb
  have cx := h.now.own.cellAt i (by omega)
  rw [hx, hx2] at cx
  have hle := h.le
  have hnil := fun wx => Lib.run_eql_slice_nil (P := Tryd.prog) wx 22 5 none 0 0 0 0 Tryd.underlying22
  clear h hb hx hx2 hi
  go_enter Tryd.func25, Tryd.ntmps25
  go_wp2_with fail
  go_ret2
  exact ⟨rfl, rfl⟩

set_option maxHeartbeats 2000000 in
/-- a copy of the block -/
theorem read_ok (i : Nat) (l : List UInt8) (w : World) (S : Nat → Prop) (d : Nat) (M : DiskM) (h : DiskAt w S d M) (hi : M.now[i]? = some (some l)) :
    Calls Tryd.prog 25 #[.pointer (some ⟨d, 0, none⟩), .int .i64 i] w fun e w' =>
      ∃ g c, e = .returned (.tuple #[.slice (some ⟨g, 0, none⟩) 64 c, .nilIface]) ∧ w'.ownsRow w.heap.size 5 1 (.slice (some ⟨g, 0, none⟩) 64 c) 64 (l.map byteV) ∧ l.length = 64 ∧ Below w.heap.size w w' := by
  obtain ⟨bn, cn, bs, cs, sv, ns, ss, xs, h⟩ := h
  have c0 := (⟨h.self⟩ : Own w d _ _ _ _ _).c0
  obtain ⟨hlt, _⟩ := List.getElem?_eq_some_iff.1 hi
  obtain ⟨x, hx, hl, g, rfl, hg, hh⟩ := h.now.blk i _ hi
  have cx := h.now.own.cellAt i (by omega)
  rw [hx] at cx
  have hle := h.le
  have hin : BytesIn w (.slice (some ⟨g, 0, none⟩) 64 64) l := Or.inr ⟨g, 0, 64, by rw [hl], by omega, lt_of_heap hh, fun j y hj => by
    rw [Nat.zero_add, cell_of_heap hh]; simp [bytesArr, hj]⟩
  have hcl := clone_bytes _ l w hin (by omega)
  have HL := Lib.hid hl
  have hnil := fun wx => Lib.run_eql_slice_nil (P := Tryd.prog) wx 22 5 (some ⟨g, 0, none⟩) 64 64 0 0 Tryd.underlying22
  clear h hx hi hin hh hg hl
  go_enter Tryd.func25, Tryd.ntmps25
  go_wp2_with fail
  refine hcl.mono ?_
  rintro e w1 ⟨v', rfl, hown, _, hb1⟩
  rw [HL.out] at hown
  obtain ⟨g', c', rfl, hg', _, _⟩ := ownsRow_some hown (by decide)
  clear hcl
  go_wp2_with fail
  go_ret2
  exact ⟨g', c', rfl, hown, HL.out, hb1⟩

def DiskM.fail (M : DiskM) (n : Int) : DiskM := { M with stop := if n ≤ -1 then -1 else n }
end Go.Proofs.YtldpflijgbcbhaaDoor
