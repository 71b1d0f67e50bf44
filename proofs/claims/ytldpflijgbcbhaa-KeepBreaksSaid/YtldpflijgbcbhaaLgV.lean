/- (*log.Log).read walked: the chunk of a block. -/
import Derived.Test.YtldpflijgbcbhaaLgO
import Derived.Test.YtldpflijgbcbhaaLgW
import Derived.Deep.RegionHeld3
import Derived.RegionTactic
import Derived.WalkSpells
import Derived.IntWalk
import Derived.BigQuiet
import Derived.Deep.QuietTactic
namespace Go.Proofs.Ytldpflijgbcbhaa.lg
open Go.RowKit

/-- what the log's own block must tell -/
structure HeadL (w : World) (p d fr mn : Nat) : Prop where
  c0 : w.cell? ⟨p, 0, none⟩ = some (.pointer (some ⟨d, 0, none⟩))
  c1 : w.cell? ⟨p, 1, none⟩ = some (.int .i64 fr)
  c2 : w.cell? ⟨p, 2, none⟩ = some (.int .i64 mn)
  lt : p < w.heap.size
theorem OwnL.head {w : World} {p d fr mn : Nat} {rv sv : Value} {ep sf : Nat} {di ba br : Bool} (h : OwnL w p d fr mn rv sv ep sf di ba br) : HeadL w p d fr mn := ⟨h.c0, h.c1, h.c2, h.lt⟩
theorem HeadL.later {w w' : World} {p d fr mn : Nat} (h : HeadL w p d fr mn) (hb : Below w.heap.size w w') : HeadL w' p d fr mn :=
  ⟨(hb.cell (p := ⟨p, 0, none⟩) h.lt).trans h.c0, (hb.cell (p := ⟨p, 1, none⟩) h.lt).trans h.c1, (hb.cell (p := ⟨p, 2, none⟩) h.lt).trans h.c2, Nat.lt_of_lt_of_le h.lt hb.size⟩
/-- a chunk as a value -/
def chkV (u x e : Int) (bv : Value) : Value := .agg #[.int .i64 u, .int .i64 x, .int .i64 e, bv]
def ReadPostL (w : World) (c : Option Chk) (e : Ending) (w' : World) : Prop :=
  Below w.heap.size w w' ∧ (match c with
  | none => e = .returned (.tuple #[chkV 0 0 0 (.slice none 0 0), .bool false])
  | some c => ∃ bv, e = .returned (.tuple #[chkV c.used c.index c.epoch bv, .bool true]) ∧ BytesW w' bv c.bytes ∧ ∀ b, bv.ownBlock = some b → w.heap.size ≤ b)
theorem blkOf_no {now : List (Option (List UInt8))} {fr mn i : Nat} (h : ¬ i < mn) : blkOf now fr mn i = none := by unfold blkOf; rw [if_neg h]
theorem blkOf_at {now : List (Option (List UInt8))} {fr mn i : Nat} {m : Option (List UInt8)} (h : i < mn) (hm : now[fr + i]? = some m) : blkOf now fr mn i = chkOf m := by
  unfold blkOf; rw [if_pos h, List.getD_eq_getElem?_getD, hm]; rfl
theorem chkOf_bad {l : List UInt8} (h : ¬ (bAt l 0 / 64 = 1 ∧ bAt l 0 % 64 ≤ 60)) : chkOf (some l) = none := if_neg h
theorem chkOf_ok {l : List UInt8} (h : bAt l 0 / 64 = 1 ∧ bAt l 0 % 64 ≤ 60) : chkOf (some l) = some ⟨bAt l 0 % 64, bAt l 1, bAt l 2 * 256 + bAt l 3, (l.drop 4).take (bAt l 0 % 64)⟩ := if_pos h
theorem bAt_lt (l : List UInt8) (i : Nat) : bAt l i < 256 := (l.getD i 0).toNat_lt
theorem row_bAt {BASE : Nat} {w : World} {g c : Nat} {l : List UInt8} (h : w.ownsRow BASE 5 1 (.slice (some ⟨g, 0, none⟩) 64 c) 64 (l.map byteV)) (hl : l.length = 64) {i : Nat} (hi : i < 64) : w.cell? ⟨g, i, none⟩ = some (.int .u8 (bAt l i : Nat)) := by
  have h1 := h.cellAt i (by omega)
  rw [h1, List.getElem?_map, List.getElem?_eq_getElem (by omega)]
  simp [byteV, bAt, List.getD_eq_getElem?_getD, List.getElem?_eq_getElem (show i < l.length by omega)]
theorem read_bytes {BASE : Nat} {w w' : World} {g c u : Nat} {l : List UInt8} (h : w.ownsRow BASE 5 1 (.slice (some ⟨g, 0, none⟩) 64 c) 64 (l.map byteV)) (hl : l.length = 64) (hu : u ≤ 60) (hw : w'.heap[g]? = w.heap[g]?) (hs : w.heap.size ≤ w'.heap.size) : BytesW w' (.slice (some ⟨g, 4, none⟩) u (c - 4)) ((l.drop 4).take u) := by
  have hlen : ((l.drop 4).take u).length = u := by simp; omega
  refine ⟨some ⟨g, 4, none⟩, c - 4, by rw [hlen], fun _ => ?_⟩
  obtain ⟨g', cap', hv, _, hlt, _⟩ := ownsRow_some h (by omega)
  have hgg : g = g' := by
    injection hv with hv _ _
    injection hv with hv
    injection hv
  subst hgg
  refine ⟨g, 4, rfl, by omega, fun j x hj => ?_⟩
  obtain ⟨hj1, _⟩ := List.getElem?_eq_some_iff.1 hj
  rw [List.length_map, hlen] at hj1
  rw [World.cell?_of_block hw, h.cellAt (4 + j) (by omega), ← hj, List.getElem?_map, List.getElem?_map, List.getElem?_take, if_pos hj1, List.getElem?_drop]

def set4 (w : World) (r : Nat) (a b c v : Value) : World := (((w.setCell ⟨r, 0, none⟩ a).setCell ⟨r, 1, none⟩ b).setCell ⟨r, 2, none⟩ c).setCell ⟨r, 3, none⟩ v
theorem set4_below {B r : Nat} {w w' : World} {a b c v : Value} (h : Below B w w') (hr : B ≤ r) : Below B w (set4 w' r a b c v) := (((h.setCell hr a).setCell hr b).setCell hr c).setCell hr v
theorem set4_heap {r g : Nat} {w : World} {a b c v : Value} (h : g ≠ r) : (set4 w r a b c v).heap[g]? = w.heap[g]? := by
  unfold set4; rw [setCell_heap_ne h, setCell_heap_ne h, setCell_heap_ne h, setCell_heap_ne h]
def ck0 : Array Value := #[.int .i64 0, .int .i64 0, .int .i64 0, .slice none 0 0]
set_option maxRecDepth 100000 in
set_option maxHeartbeats 4000000 in
theorem read_log (B : Nat) (F : Nat → Prop) (i : Nat) (w : World) (p d fr mn : Nat) (M : DiskM) (h : DiskF B F w d M) (hp : HeadL w p d fr mn) (hm : fr + mn ≤ M.now.length) (hi : i ≤ 1000) :
    Calls Try.prog 54 #[.pointer (some ⟨p, 0, none⟩), .int .i64 i] w (ReadPostL w (blkOf M.now fr mn i)) := by
  have hlen := (diskF_len h).1
  obtain ⟨W, hW⟩ : ∃ W, W = w.alloc (.cells #[.int .i64 0, .int .i64 0, .int .i64 0, .slice none 0 0] 99) := ⟨_, rfl⟩
  obtain ⟨r, hr⟩ : ∃ r, r = w.heap.size := ⟨_, rfl⟩
  have HB : Hid (Below w.heap.size w W) := by show Below _ _ _; rw [hW]; exact (Below.refl _ _).alloc (Nat.le_refl _) _
  have hp1 := hp.later HB.out
  have HD1 := Lib.hid (h.later HB.out)
  have hrb : W.heap[r]? = some (.cells #[.int .i64 0, .int .i64 0, .int .i64 0, .slice none 0 0] 99 (0, 0)) := by rw [hW, hr]; exact heap_new_at rfl _
  obtain ⟨c0, c1, c2, hlt⟩ := hp1
  have HBQ : Hid (∀ w', Below w.heap.size W w' → Below w.heap.size w w') := fun w' h' => HB.out.trans h'
  have HR := Lib.hid hr
  have HRB := Lib.hid hrb
  have HP := Lib.hid hp
  have hpr : p < r := by rw [hr]; exact hp.lt
  have q0 : W.cell? ⟨r, 0, none⟩ = some (.int .i64 0) := cell_of_heap hrb 0
  have q1 : W.cell? ⟨r, 1, none⟩ = some (.int .i64 0) := cell_of_heap hrb 1
  have q2 : W.cell? ⟨r, 2, none⟩ = some (.int .i64 0) := cell_of_heap hrb 2
  have q3 : W.cell? ⟨r, 3, none⟩ = some (.slice none 0 0) := cell_of_heap hrb 3
  have HW := Lib.hid hW
  have hrW : r < W.heap.size := lt_of_heap hrb
  have c2w := hp.c2
  have hltw := hp.lt
  clear hW hrb hp h
  by_cases him : i < mn
  · obtain ⟨m, hm'⟩ : ∃ m, M.now[fr + i]? = some m := ⟨M.now[fr + i]'(by omega), by simp [show fr + i < M.now.length by omega]⟩
    have hblk := blkOf_at (mn := mn) him hm'
    have hrd := readF B F (fr + i) m W.drew d M (HD1.out.later (Below.refl _ _).drew) hm'
    rw [hblk]
    rw [Int.natCast_add] at hrd
    have hfi : fr + i ≤ 200 := by omega
    have hwi : IntKind.i64.wrap ((fr : Int) + (i : Int)) = (fr : Int) + (i : Int) := IntWalk.i64_in _ (by omega)
    have hltWd : p < W.drew.heap.size := hlt
    have hc0w := HP.out.c0
    have hc1w := HP.out.c1
    clear hm hm' hblk HD1
    have dlt : decide ((mn : Int) ≤ (i : Int)) = false := decide_eq_false (by omega)
    have HKEEP : Hid (∀ w', Below W.drew.heap.size W.drew w' → w'.cell? ⟨p, 0, none⟩ = some (.pointer (some ⟨d, 0, none⟩)) ∧ w'.cell? ⟨p, 1, none⟩ = some (.int .i64 fr)) := fun w' h' => ⟨(h'.cell (p := ⟨p, 0, none⟩) hlt).trans c0, (h'.cell (p := ⟨p, 1, none⟩) hlt).trans c1⟩
    cases m with
    | none =>
      go_enter Try.func54, Try.ntmps54
      go_wp2_with fail
      rw [← HW.out]
      rw [← HR.out]
      go_region_held3 (fun w' => w'.cell? ⟨p, 0, none⟩ = some (.pointer (some ⟨d, 0, none⟩)) ∧ w'.cell? ⟨p, 1, none⟩ = some (.int .i64 fr))
        (first | exact HKEEP.out _ hb9 | exact ⟨c0, c1⟩ | go_keep)
        (first | (go_at_call 69; refine hrd.mono ?_; rintro e w9 ⟨he9, hb9⟩; rw [errV_some (show (9 : Int) ≠ 0 by decide)] at he9; subst he9))
      have HOUT : Hid (ReadPostL w (chkOf none) (.returned (.tuple #[chkV 0 0 0 (.slice none 0 0), .bool false])) (set4 w9 r (.int .i64 0) (.int .i64 0) (.int .i64 0) (.slice none 0 0))) := ⟨set4_below (HB.out.drew.trans (hb9.mono (show w.heap.size ≤ W.drew.heap.size from HB.out.size))) (by rw [hr]; exact Nat.le_refl _), rfl⟩
      have k0 := (hb9.cell (p := ⟨r, 0, none⟩) (show r < W.drew.heap.size from hrW)).trans (show W.drew.cell? ⟨r, 0, none⟩ = _ from q0)
      have k1 := (hb9.cell (p := ⟨r, 1, none⟩) (show r < W.drew.heap.size from hrW)).trans (show W.drew.cell? ⟨r, 1, none⟩ = _ from q1)
      have k2 := (hb9.cell (p := ⟨r, 2, none⟩) (show r < W.drew.heap.size from hrW)).trans (show W.drew.cell? ⟨r, 2, none⟩ = _ from q2)
      have k3 := (hb9.cell (p := ⟨r, 3, none⟩) (show r < W.drew.heap.size from hrW)).trans (show W.drew.cell? ⟨r, 3, none⟩ = _ from q3)
      clear hrd HKEEP c0 c1 c2 q0 q1 q2 q3
      have x9 : w9.heap[r]? = W.heap[r]? := hb9.block r hrW
      have y0 : w9.frozen? ⟨r, 0, none⟩ = false := free_of_heap (x9.trans HRB.out) 0
      have y1 : w9.frozen? ⟨r, 1, none⟩ = false := free_of_heap (x9.trans HRB.out) 1
      have y2 : w9.frozen? ⟨r, 2, none⟩ = false := free_of_heap (x9.trans HRB.out) 2
      have y3 : w9.frozen? ⟨r, 3, none⟩ = false := free_of_heap (x9.trans HRB.out) 3
      have z9 : r < w9.heap.size := lt_of_heap (x9.trans HRB.out)
      clear x9 hb9
      have hrr := HR.out
      subst hrr
      go_wp2_with fail
      exact bodyPost_ret (v := .tuple #[chkV 0 0 0 (.slice none 0 0), .bool false]) (by simp [results, Try.results54, go_sem, chkV, k0, k1, k2, k3]) rfl HOUT.out
    | some l =>
      go_enter Try.func54, Try.ntmps54
      go_wp2_with fail
      rw [← HW.out]
      rw [← HR.out]
      go_region_held3 (fun w' => w'.cell? ⟨p, 0, none⟩ = some (.pointer (some ⟨d, 0, none⟩)) ∧ w'.cell? ⟨p, 1, none⟩ = some (.int .i64 fr))
        (first | exact HKEEP.out _ hb9 | exact ⟨c0, c1⟩ | go_keep)
        (first | (go_at_call 69; refine hrd.mono ?_; rintro e w9 ⟨⟨g, cp, rfl, hrow9, hl9⟩, hb9⟩))
      have HB9 := Lib.hid (HB.out.drew.trans (hb9.mono (show w.heap.size ≤ W.drew.heap.size from HB.out.size)))
      have k0 := (hb9.cell (p := ⟨r, 0, none⟩) (show r < W.drew.heap.size from hrW)).trans (show W.drew.cell? ⟨r, 0, none⟩ = _ from q0)
      have k1 := (hb9.cell (p := ⟨r, 1, none⟩) (show r < W.drew.heap.size from hrW)).trans (show W.drew.cell? ⟨r, 1, none⟩ = _ from q1)
      have k2 := (hb9.cell (p := ⟨r, 2, none⟩) (show r < W.drew.heap.size from hrW)).trans (show W.drew.cell? ⟨r, 2, none⟩ = _ from q2)
      have k3 := (hb9.cell (p := ⟨r, 3, none⟩) (show r < W.drew.heap.size from hrW)).trans (show W.drew.cell? ⟨r, 3, none⟩ = _ from q3)
      have f0 := row_bAt hrow9 hl9 (show 0 < 64 by omega)
      have f1 := row_bAt hrow9 hl9 (show 1 < 64 by omega)
      have f2 := row_bAt hrow9 hl9 (show 2 < 64 by omega)
      have f3 := row_bAt hrow9 hl9 (show 3 < 64 by omega)
      have HROW9 := Lib.hid hrow9
      have HL9 := Lib.hid hl9
      have a0 := bAt_lt l 0
      have a1 := bAt_lt l 1
      have a2 := bAt_lt l 2
      have a3 := bAt_lt l 3
      have e192 := and192 a0
      have e63 := and63 a0
      have HNO := Lib.hid (@chkOf_bad l)
      have HYES := Lib.hid (@chkOf_ok l)
      generalize bAt l 0 = n0 at *
      generalize bAt l 1 = n1 at *
      generalize bAt l 2 = n2 at *
      generalize bAt l 3 = n3 at *
      have hgp : r < w9.heap.size := Nat.lt_of_lt_of_le (show r < W.drew.heap.size from hrW) hb9.size
      have x9 : w9.heap[r]? = W.heap[r]? := hb9.block r hrW
      have y0 : w9.frozen? ⟨r, 0, none⟩ = false := free_of_heap (x9.trans HRB.out) 0
      have y1 : w9.frozen? ⟨r, 1, none⟩ = false := free_of_heap (x9.trans HRB.out) 1
      have y2 : w9.frozen? ⟨r, 2, none⟩ = false := free_of_heap (x9.trans HRB.out) 2
      have y3 : w9.frozen? ⟨r, 3, none⟩ = false := free_of_heap (x9.trans HRB.out) 3
      have X9 := Lib.hid (x9.trans HRB.out)
      clear x9
      clear hrd HKEEP c0 c1 c2 q0 q1 q2 q3 hb9 hrow9 hl9 hwi hltWd hc0w hc1w hltw c2w hlt dlt
      by_cases hA : n0 / 64 = 1
      · by_cases hB : n0 % 64 ≤ 60
        · have HC := Lib.hid (HYES.out ⟨hA, hB⟩)
          rw [hA] at e192
          have hu : decide ((60 : Int) < ((n0 % 64 : Nat) : Int)) = false := decide_eq_false (by omega)
          have hrr := HR.out
          subst hrr
          obtain ⟨U, hU⟩ : ∃ U, U = n0 % 64 := ⟨_, rfl⟩
          obtain ⟨E, hE⟩ : ∃ E, E = n2 * 256 + n3 := ⟨_, rfl⟩
          rw [← hU] at e63 hB hu
          have hE2 : E ≤ 65535 := by omega
          have u5 : bits .or .i64 ((n2 : Int) * 256) ((n3 : Nat) : Int) = (E : Int) := by rw [hE]; have := or256 a2 a3; rwa [Int.natCast_mul] at this
          have HC2 : Hid (chkOf (some l) = some ⟨U, n1, E, (l.drop 4).take U⟩) := by rw [hU, hE]; exact HC.out
          clear HC hU hE HYES HNO hA
          have x9 : w9.heap[w.heap.size]? = some (.cells #[.int .i64 0, .int .i64 0, .int .i64 0, .slice none 0 0] 99 (0, 0)) := X9.out
          have v1 := heap_setCell_same (j := 0) x9 (.int .i64 U)
          have v2 := heap_setCell_same (j := 1) v1 (.int .i64 n1)
          have v3 := heap_setCell_same (j := 2) v2 (.int .i64 E)
          have v4 := heap_setCell_same (j := 3) v3 (.slice none 0 0)
          obtain ⟨V, hV⟩ : ∃ V, V = (set4 w9 w.heap.size (.int .i64 U) (.int .i64 n1) (.int .i64 E) (.slice none 0 0)).drew := ⟨_, rfl⟩
          have t0 : V.cell? ⟨w.heap.size, 0, none⟩ = some (.int .i64 U) := by rw [hV]; exact cell_of_heap v4 0
          have t1 : V.cell? ⟨w.heap.size, 1, none⟩ = some (.int .i64 n1) := by rw [hV]; exact cell_of_heap v4 1
          have t2 : V.cell? ⟨w.heap.size, 2, none⟩ = some (.int .i64 E) := by rw [hV]; exact cell_of_heap v4 2
          have t3 : V.cell? ⟨w.heap.size, 3, none⟩ = some (.slice none 0 0) := by rw [hV]; exact cell_of_heap v4 3
          have s0 : V.frozen? ⟨w.heap.size, 0, none⟩ = false := by rw [hV]; exact free_of_heap v4 0
          have s1 : V.frozen? ⟨w.heap.size, 1, none⟩ = false := by rw [hV]; exact free_of_heap v4 1
          have s2 : V.frozen? ⟨w.heap.size, 2, none⟩ = false := by rw [hV]; exact free_of_heap v4 2
          have s3 : V.frozen? ⟨w.heap.size, 3, none⟩ = false := by rw [hV]; exact free_of_heap v4 3
          have HV := Lib.hid hV
          clear x9 v1 v2 v3 v4 hV
          obtain ⟨_, _, ecp, hg0, hg1, hcp⟩ := ownsRow_some HROW9.out (by omega)
          injection ecp with ecp1 ecp2 ecp3
          subst ecp3
          injection ecp1 with ecp1
          injection ecp1 with ecp1
          subst ecp1
          have hgr : w.heap.size < g := Nat.lt_of_lt_of_le hrW hg0
          have HVB : Hid (Below w.heap.size w V) := by show Below _ _ _; rw [HV.out]; exact (set4_below HB9.out (Nat.le_refl _)).drew
          have HVG : Hid (V.heap[g]? = w9.heap[g]?) := by show _ = _; rw [HV.out]; exact set4_heap (by omega)
          have hVg : g < V.heap.size := by
            obtain ⟨cur, hcur⟩ := row_block HROW9.out rfl
            exact lt_of_heap (HVG.out.trans hcur)
          have HOUT : ∀ V', Below w.heap.size V V' → V'.heap[g]? = V.heap[g]? → V.heap.size ≤ V'.heap.size → Hid (ReadPostL w (chkOf (some l)) (.returned (.tuple #[chkV U n1 E (.slice (some ⟨g, 4, none⟩) U (cp - 4)), .bool true])) V') := fun V' hb1 hb2 hb3 => by
            show ReadPostL _ _ _ _
            rw [HC2.out]
            refine ⟨HVB.out.trans hb1, _, rfl, read_bytes HROW9.out HL9.out hB (hb2.trans HVG.out) ?_, fun b hb => ?_⟩
            · have : w9.heap.size ≤ V.heap.size := by rw [HV.out]; simp [set4]
              omega
            · have : g = b := Option.some.inj hb
              omega
          have HOUT := Lib.hid HOUT
          go_wp2_with fail
          go_big_region
          all_goals clear u5 e63 e192
          all_goals rw [show (((w9.setCell ⟨w.heap.size, 0, none⟩ (.int .i64 (U : Int))).setCell ⟨w.heap.size, 1, none⟩ (.int .i64 (n1 : Int))).setCell ⟨w.heap.size, 2, none⟩ (.int .i64 (E : Int))).setCell ⟨w.heap.size, 3, none⟩ (.slice none 0 0) = set4 w9 w.heap.size (.int .i64 U) (.int .i64 n1) (.int .i64 E) (.slice none 0 0) from rfl, ← HV.out]
          all_goals clear k0 k1 k2 k3 y0 y1 y2 y3
          go_wp2_with fail
          exact bodyPost_ret (v := .tuple #[chkV U n1 E (.slice (some ⟨g, 4, none⟩) U (cp - 4)), .bool true]) (by simp [results, Try.results54, go_sem, chkV, t0, t1, t2, t3]) rfl
            (HOUT.out (set4 (V.setCell ⟨w.heap.size, 3, none⟩ (.slice (some ⟨g, 4, none⟩) U (cp - 4))) w.heap.size (.int .i64 U) (.int .i64 n1) (.int .i64 E) (.slice (some ⟨g, 4, none⟩) U (cp - 4)))
              (set4_below ((Below.refl _ _).setCell (p := ⟨w.heap.size, 3, none⟩) (Nat.le_refl _) _) (Nat.le_refl _)) ((set4_heap (by omega)).trans (setCell_heap_ne (by omega))) (by simp [set4])).out
        · have HC := Lib.hid (HNO.out (fun h => hB h.2))
          have HOUT : Hid (ReadPostL w (chkOf (some l)) (.returned (.tuple #[chkV 0 0 0 (.slice none 0 0), .bool false])) (set4 w9 r (.int .i64 0) (.int .i64 0) (.int .i64 0) (.slice none 0 0))) := by
            show ReadPostL _ _ _ _
            rw [HC.out]
            exact ⟨set4_below HB9.out (by rw [hr]; exact Nat.le_refl _), rfl⟩
          rw [hA] at e192
          have hu : decide ((60 : Int) < ((n0 % 64 : Nat) : Int)) = true := decide_eq_true (by omega)
          clear HC
          have hrr := HR.out
          subst hrr
          go_wp2_with fail
          exact bodyPost_ret (v := .tuple #[chkV 0 0 0 (.slice none 0 0), .bool false]) (by simp [results, Try.results54, go_sem, chkV, k0, k1, k2, k3]) rfl HOUT.out
      · have HC := Lib.hid (HNO.out (fun h => hA h.1))
        have HOUT : Hid (ReadPostL w (chkOf (some l)) (.returned (.tuple #[chkV 0 0 0 (.slice none 0 0), .bool false])) (set4 w9 r (.int .i64 0) (.int .i64 0) (.int .i64 0) (.slice none 0 0))) := by
          show ReadPostL _ _ _ _
          rw [HC.out]
          exact ⟨set4_below HB9.out (by rw [hr]; exact Nat.le_refl _), rfl⟩
        clear HC
        have hu : decide (((n0 / 64 * 64 : Nat) : Int) = 64) = false := decide_eq_false (by omega)
        have hrr := HR.out
        subst hrr
        go_wp2_with fail
        exact bodyPost_ret (v := .tuple #[chkV 0 0 0 (.slice none 0 0), .bool false]) (by simp [results, Try.results54, go_sem, chkV, k0, k1, k2, k3]) rfl HOUT.out
  · have hno := blkOf_no (now := M.now) (fr := fr) him
    have HOUT : Hid (ReadPostL w (blkOf M.now fr mn i) (.returned (.tuple #[chkV 0 0 0 (.slice none 0 0), .bool false])) W) := by
      show ReadPostL _ _ _ _
      rw [hno]
      exact ⟨HB.out, rfl⟩
    clear hno hm
    go_enter Try.func54, Try.ntmps54
    go_wp2_with fail
    rw [← HW.out]
    rw [← HR.out]
    exact bodyPost_ret (v := .tuple #[chkV 0 0 0 (.slice none 0 0), .bool false]) (by simp [results, Try.results54, go_sem, chkV, q0, q1, q2, q3]) rfl HOUT.out
end Go.Proofs.Ytldpflijgbcbhaa.lg
