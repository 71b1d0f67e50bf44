/- frame.num: the bytes of a number behind bytes. -/
import Derived.Test.YtldpflijgbcbhaaBlk1
import Derived.Test.YtldpflijgbcbhaaBits
namespace Go.Proofs.Ytldpflijgbcbhaa
open Go.RowKit

/-- v's own block, and new ones, may have turned; v' lies in v's or in a new one -/
structure Moved (w w' : World) (v v' : Value) : Prop where
  only : Only (fun k => v.ownBlock = some k) w w'
  blk : v'.ownBlock = v.ownBlock ∨ ∃ g, v'.ownBlock = some g ∧ w.heap.size ≤ g
theorem Moved.refl (w : World) (v : Value) : Moved w w v v := ⟨Only.refl _ _, Or.inl rfl⟩
theorem Moved.trans {a b c : World} {u v x : Value} (h : Moved a b u v) (k : Moved b c v x) : Moved a c u x := by
  refine ⟨h.only.trans k.only (fun i hi hv => ?_), ?_⟩
  · rcases h.blk with e | ⟨g, e, hg⟩
    · exact e ▸ hv
    · have hv' : v.ownBlock = some i := hv
      rw [e] at hv'
      injection hv' with hv'
      omega
  · rcases k.blk with e | ⟨g, e, hg⟩
    · rw [e]; exact h.blk
    · exact Or.inr ⟨g, e, Nat.le_trans h.only.size hg⟩
theorem Moved.of_below {w w' : World} (v : Value) (h : Below w.heap.size w w') : Moved w w' v v := ⟨Only.of_below h, Or.inl rfl⟩
theorem Only.of_grown {w w' : World} {row : Option Nat} (h : w.grownBy w' row) : Only (fun k => row = some k) w w' := ⟨h.os, h.tape, h.output, h.size, fun k hk hn => h.block k hk (fun e => hn e.symm)⟩
/-- an append behind a new block -/
theorem Moved.append {w w1 : World} {v v1 : Value} {o : Obj} (hg : (w.alloc o).grownBy w1 v.ownBlock) (hat : v1.ownBlock = v.ownBlock ∨ v1.ownBlock = some (w.heap.size + 1)) : Moved w w1 v v1 :=
  ⟨((Only.refl _ w).alloc o).trans (Only.of_grown hg) (fun _ _ h => h), hat.imp id (fun e => ⟨_, e, by omega⟩)⟩
theorem row_snoc {BASE : Nat} {w : World} {v : Value} {l : List UInt8} {b : UInt8} {x : Value} (h : w.ownsRow BASE 5 1 v (l.length + 1) (l.map byteV ++ [x])) (hx : x = byteV b) : w.ownsRow BASE 5 1 v (l ++ [b]).length ((l ++ [b]).map byteV) := by
  subst hx
  simpa using h

/-- v: l is there; v': l' is there -/
def NumPost (BASE : Nat) (w : World) (v : Value) (l' : List UInt8) (e : Ending) (w' : World) : Prop :=
  ∃ v', e = .returned v' ∧ w'.ownsRow BASE 5 1 v' l'.length (l'.map byteV) ∧ Moved w w' v v'

set_option maxRecDepth 100000 in
set_option maxHeartbeats 1000000 in
theorem num_any (BASE : Nat) (v : Value) (l : List UInt8) (n : Int) (w : World) (h : w.ownsRow BASE 5 1 v l.length (l.map byteV)) (hB : BASE ≤ w.heap.size) (hl : l.length ≤ 1000000000) (h1 : -9223372036854775808 ≤ n) (h2 : n ≤ 9223372036854775807) :
    Calls Try.prog 70 #[v, .int .i64 n] w (NumPost BASE w v (l ++ numB n)) := by
  have H := Lib.hid h
  obtain ⟨i0, hi, hz0, hz1, hz2⟩ := info_parts infoU8
  have HI := Lib.hid hi
  have HZ0 := Lib.hid hz0
  have HZ1 := Lib.hid hz1
  have HZ2 := Lib.hid hz2
  clear hi hz0 hz1 hz2 h
  go_enter Try.func70, Try.ntmps70
  go_wp2_with fail
  rw [bits_zig n h1 h2]
  have hz64 := zig_lt h1 h2
  have hN : Hid (numB n = varint (zig n)) := rfl
  generalize zig n = X at hz64 hN
  obtain ⟨L, hL⟩ : ∃ L, L = numB n := ⟨_, rfl⟩
  rw [← hL] at hN
  have HL := Lib.hid hL
  clear hL
  go_loopw [0, 5] (fun b x wr => ∃ (l' : List UInt8) (y : Nat), x = .int .u64 (y : Int) ∧ y < 18446744073709551616 ∧ Hid (l ++ L = l' ++ varint y) ∧ wr.ownsRow BASE 5 1 b l'.length (l'.map byteV) ∧ Moved w wr v b)
    (fun _ x _ => (intOf x).toNat)
  case atStart => exact ⟨l, X, rfl, hz64, by show _ = _; rw [hN.out], H.out, Moved.refl _ _⟩
  case round =>
    obtain ⟨l', y, rfl, hy, he, hown, hmv⟩ := hrel
    have hlen : l'.length ≤ 1000000010 := by
      have h3 := congrArg List.length he.out
      rw [List.length_append, List.length_append] at h3
      have h4 : L.length ≤ 10 := by rw [hN.out]; exact varint_len10 hz64
      omega
    have hBr : BASE ≤ wr.heap.size := Nat.le_trans hB hmv.only.size
    have HOWN := Lib.hid hown
    have HMV := Lib.hid hmv
    have HY := Lib.hid hy
    have HZ := Lib.hid hz64
    clear hown hmv hy hz64 h1 h2
    by_cases hbig : 128 ≤ y
    · have hor := or128 y
      have hcase : 128 ≤ (y : Int) := by omega
      have hB1 : BASE ≤ wr.heap.size + 1 := by omega
      go_wp2_with (first
        | (at_builtin; refine wpList_append_own_at _ rfl (.tmp 15) (.tmp 19) 23 rfl BASE 5 i0 (.int .u8 0) 1 1 Try.underlying23 HI.out HZ0.out HZ1.out HZ2.out rfl (by decide) u0 l'.length (l'.map byteV) rfl (HOWN.out.alloc _) ⟨wr.heap.size, 0, none⟩ 1 1 [.int .u8 ((y % 128 + 128 : Nat) : Int)] rfl rfl ?c1 (by intro u hu; simp at hu; subst hu; rfl) (by unfold maxLen; omega) (by omega) (by simpa using hB1) ?_))
      case c1 =>
        intro j u hj
        match j, hj with
        | 0, hj =>
          simp only [List.getElem?_cons_zero, Option.some.injEq] at hj
          subst hj
          rw [addr_add, World.cell?_alloc_at _ _ _ _ rfl]
          simp
      intro v1 w1 hown1 hgrow1 _ hblk1
      have hmv1 := HMV.out.trans (Moved.append hgrow1 hblk1)
      have hown2 := row_snoc (b := UInt8.ofNat (y % 128 + 128)) hown1 (by rw [byteV, ofNat_toNat (by omega)]; first | done | (simp; done))
      have he1 : Hid (l ++ L = (l' ++ [UInt8.ofNat (y % 128 + 128)]) ++ varint (y / 128)) := by
        show _ = _
        rw [he.out, varint_big hbig]; simp
      have hy1 : y / 128 < 18446744073709551616 := by have := HY.out; omega
      have HR : Hid (∃ (l'' : List UInt8) (z : Nat), Value.int .u64 ((y / 128 : Nat) : Int) = .int .u64 (z : Int) ∧ z < 18446744073709551616 ∧ Hid (l ++ L = l'' ++ varint z) ∧ w1.ownsRow BASE 5 1 v1 l''.length (l''.map byteV) ∧ Moved w w1 v v1) := ⟨_, _, rfl, hy1, he1, hown2, hmv1⟩
      clear hown1 hgrow1 hblk1 hmv1 hown2 he1 hy1 hor
      go_wp2_with fail
      go_roundw
      case rel => exact HR.out
      case measure => simp [intOf]; omega
    · have hcase : (y : Int) < 128 := by omega
      have hmod : (y : Int) % 256 = (y : Int) := by omega
      have hB1 : BASE ≤ wr.heap.size + 1 := by omega
      go_wp2_with (first
        | (at_builtin; refine wpList_append_own_at _ rfl (.tmp 23) (.tmp 26) 23 rfl BASE 5 i0 (.int .u8 0) 1 1 Try.underlying23 HI.out HZ0.out HZ1.out HZ2.out rfl (by decide) u0 l'.length (l'.map byteV) rfl (HOWN.out.alloc _) ⟨wr.heap.size, 0, none⟩ 1 1 [.int .u8 (y : Int)] rfl rfl ?c2 (by intro u hu; simp at hu; subst hu; rfl) (by unfold maxLen; omega) (by omega) (by simpa using hB1) ?_))
      case c2 =>
        intro j u hj
        match j, hj with
        | 0, hj =>
          simp only [List.getElem?_cons_zero, Option.some.injEq] at hj
          subst hj
          rw [addr_add, World.cell?_alloc_at _ _ _ _ rfl]
          first | rfl | (rw [hmod]; rfl)
      intro v1 w1 hown1 hgrow1 _ hblk1
      have hmv1 := HMV.out.trans (Moved.append hgrow1 hblk1)
      have hown2 := row_snoc (b := UInt8.ofNat y) hown1 (by rw [byteV, ofNat_toNat (by omega)])
      have he1 : Hid (l ++ L = l' ++ [UInt8.ofNat y]) := by
        show _ = _
        rw [he.out, varint_small (by omega)]
      have HOUT : Hid (NumPost BASE w v (l ++ L) (.returned v1) w1) := by
        refine ⟨v1, rfl, ?_, hmv1⟩
        rw [he1.out]; exact hown2
      clear hown1 hgrow1 hblk1 hmv1 hown2 he1
      obtain ⟨ao, n1, c1, rfl⟩ : ∃ ao n1 c1, v1 = .slice ao n1 c1 := by
        obtain ⟨v', hv, hrow, _⟩ := HOUT.out
        injection hv with hv
        subst hv
        rcases hrow.2 with ⟨hv, _⟩ | ⟨g, cap, cur, hv, _⟩
        · exact ⟨_, _, _, hv⟩
        · exact ⟨_, _, _, hv⟩
      go_wp2_with fail
      go_ret
      have hout := HOUT.out
      rw [HL.out] at hout
      exact hout
end Go.Proofs.Ytldpflijgbcbhaa
