/- dayref1.Amount, dayref1.Sums (as in XEt1, XEt2, XEt5; for the plain seat, which has no entry.small). -/
import Derived.Test.YtbhndnjlplibmaaGd2
import Derived.Deep.AppendLies
import Derived.Deep.RegionHeldLaw
namespace Go.Proofs.Ytbhndnjlplibmaa.lg
open Go.RowKit

theorem ramount_any (n : Int) (w : World) : Calls Try.prog 41 #[.int .i64 n] w fun e w' => e = .returned (.bool (mayA n)) ∧ w = w' := by
  by_cases h1 : -1000000000000000 ≤ n
  · by_cases h2 : n ≤ 1000000000000000
    · have hb : Hid (mayA n = true) := by show _ = _; simp [mayA, h1, h2]
      go_enter Try.func41, Try.ntmps41
      go_wp2
      go_ret
      exact ⟨ret_bool hb.out.symm, rfl⟩
    · have hb : Hid (mayA n = false) := by show _ = _; simp [mayA, h2]
      go_enter Try.func41, Try.ntmps41
      go_wp2
      go_ret
      exact ⟨ret_bool hb.out.symm, rfl⟩
  · have hb : Hid (mayA n = false) := by show _ = _; simp [mayA, h1]
    go_enter Try.func41, Try.ntmps41
    go_wp2
    go_ret
    exact ⟨ret_bool hb.out.symm, rfl⟩
theorem lines_row_of {w : World} {B : Nat} {v : Value} {l : List LineM} (h : w.ownsRow B 81 3 v l.length (l.flatMap encL)) : ∃ ao cap, v = .slice ao l.length cap := by
  obtain ⟨ao, cap, h1, _⟩ := lines_of_row_cap h rfl
  exact ⟨ao, cap, h1⟩
/-- an append whose run is known, at a step of a region that draws its order -/
theorem step_append_run {P : Program} {w : World} {ops : Array Oper} {o : Oper} {a : Act} {K : Act → World → Prop} {Q : Exit → Act → World → Prop} {E : Prop} (hgd : o.guard = none) (s x : Operand) (t tn : TypeId)
    (ho : o.op = .call { callee := .builtin .append, args := #[s, x], argTypes := #[t, tn] }) (vs vx : Value) (hs : a.eval s = vs) (hx : a.eval x = vx)
    (v' : Value) (w' : World) (hr : (Builtin.append_ #[t, tn] o.type #[vs, vx]).run P w = .ok v' w') (h : K (a.put o.dst v') w') :
    if Region.wanted o (yielded ops a.tmps) = true then Oper.wp P o a w K Q else E := by
  have hw : Region.wanted o (yielded ops a.tmps) = true := by simp [Region.wanted, hgd]
  rw [if_pos hw]
  exact Lib.wp_append_run w s x t tn ho vs vx hs hx v' w' hr h
def bare (x : LineM) : LineM := { x with acc := ⟨#[]⟩ }
def sumsB (l : List LineM) : List BalM := ((l.map bare).map toB).foldl putB []
set_option maxRecDepth 100000 in
set_option maxHeartbeats 600000 in
theorem rsums_any (lo : Option Addr) (lc : Nat) (x : EntryM) (w : World) (hl : LinesAt w lo x.lines) (hn : x.lines.length ≤ 1000) :
    Calls Try.prog 42 #[.agg #[.string x.ref, .int .i64 x.ent, .int .i64 x.per, .slice lo x.lines.length lc]] w (GrdPost w.heap.size w (sumsB x.lines)) := by
  obtain ⟨l, hle⟩ : ∃ l, l = x.lines := ⟨_, rfl⟩
  rw [← hle] at hl hn ⊢
  obtain ⟨be, hbe⟩ : ∃ be, be = w.heap.size := ⟨_, rfl⟩
  obtain ⟨W, hW⟩ : ∃ W, W = w.alloc (.cells #[.string x.ref, .int .i64 x.ent, .int .i64 x.per, .slice lo l.length lc] 50) := ⟨_, rfl⟩
  have hb0 : Below w.heap.size w W := by rw [hW]; exact (Below.refl _ _).alloc (Nat.le_refl _) _
  have hbx : W.heap[be]? = some (.cells #[.string x.ref, .int .i64 x.ent, .int .i64 x.per, .slice lo l.length lc] 50 (0, 0)) := by rw [hW, hbe]; exact heap_new_at rfl _
  have hbl : be < W.heap.size := lt_of_heap hbx
  have z3 : W.cell? ⟨be, 3, none⟩ = some (.slice lo l.length lc) := cell_of_heap hbx 3
  have HW := Lib.hid hW
  have HBE := Lib.hid hbe
  have HB0 := Lib.hid hb0
  have HL := Lib.hid (hl.below hb0)
  clear hW hbe hb0 hl hle hbx
  go_enter Try.func42, Try.ntmps42
  go_wp2_with fail
  rw [← HW.out, ← HBE.out]
  go_loopw [3, 4] (fun v i wr => ∃ k : Nat, k ≤ l.length ∧ i = .int .i64 (k : Int) ∧ Hid (wr.ownsRow W.heap.size 81 3 v k (((l.take k).map bare).flatMap encL)) ∧ Hid (Below W.heap.size W wr)) (fun _ i _ => l.length - (intOf i).toNat)
  case atStart => exact ⟨0, Nat.zero_le _, rfl, World.ownsRow_nil _ _ _ _, Below.refl _ _⟩
  case round =>
    obtain ⟨k, hk, rfl, HI, HBW⟩ := hrel
    have hi0 : (0 : Int) ≤ (k : Int) := by omega
    have q3 : wr.cell? ⟨be, 3, none⟩ = some (.slice lo l.length lc) := (HBW.out.cell (p := ⟨be, 3, none⟩) hbl).trans z3
    by_cases hlt : k < l.length
    · obtain ⟨y, hy⟩ := getElem?_ex hlt
      have hHL : LinesAt wr lo l := HL.out.below HBW.out
      obtain ⟨b9, off, rfl, hb9, hcc⟩ := hHL.resolve_left (fun e => by rw [e] at hlt; simp at hlt)
      obtain ⟨x0, x1, x2⟩ := hcc k y hy
      have hi1 : (k : Int) < (l.length : Int) := by omega
      have hd1 : decide ((k : Int) < (l.length : Int)) = true := decide_eq_true hi1
      have hkl : ((l.take k).map bare).length = k := by simp; omega
      obtain ⟨ao, cap, rfl⟩ : ∃ ao cap, u3 = .slice ao k cap := by
        obtain ⟨ao, cap, h1, _⟩ := lines_of_row_cap HI.out hkl.symm
        exact ⟨ao, cap, by rw [h1, hkl]⟩
      have hsn : (l.take (k + 1)).map bare = (l.take k).map bare ++ [bare y] := by
        obtain ⟨hk', rfl⟩ := List.getElem?_eq_some_iff.1 hy
        rw [List.take_succ_eq_append_getElem hk', List.map_append]; rfl
      have happ : ∀ W2, Below wr.heap.size wr W2 → ∃ v3 w3, (Builtin.append_ #[48, 48] 48 #[.slice ao k cap, .slice (some ⟨W2.heap.size, 0, none⟩) 1 1]).run Try.prog (W2.alloc (.cells #[.string ⟨#[]⟩, .string y.cur, .int .i64 y.amt] 81)) = .ok v3 w3 ∧
          w3.ownsRow W.heap.size 81 3 v3 (k + 1) (((l.take (k + 1)).map bare).flatMap encL) ∧ Below W.heap.size W w3 := fun W2 hW2 => by
        obtain ⟨V, hV⟩ : ∃ V, V = W2.alloc (.cells #[.string ⟨#[]⟩, .string y.cur, .int .i64 y.amt] 81) := ⟨_, rfl⟩
        have hbV : Below W2.heap.size W2 V := by rw [hV]; exact (Below.refl _ _).alloc (Nat.le_refl _) _
        have hbWV : Below wr.heap.size wr V := hW2.trans (hbV.mono hW2.size)
        have hnew : V.heap[W2.heap.size]? = some (.cells #[.string ⟨#[]⟩, .string y.cur, .int .i64 y.amt] 81 (0, 0)) := by rw [hV]; exact heap_new_at rfl _
        obtain ⟨v3, w3, hr3, hown3, hgrow3, hblk3⟩ := run_append_lines (sc := 1) (row_keep HI.out (fun k hk => hbWV.block k (row_lt HI.out k hk).2)) (l := [bare y]) (so := some ⟨W2.heap.size, 0, none⟩) (lines_one hnew) (by simp; omega) (Nat.le_trans HBW.out.size hbWV.size) 48
        rw [hV] at hr3
        refine ⟨v3, w3, hr3, ownsRow_cast hown3 (by simp) (by rw [hsn]; simp), (HBW.out.trans (hbWV.mono HBW.out.size)).trans ((Only.of_grown hgrow3).below (Nat.le_trans HBW.out.size hbWV.size) (fun k hk => (row_lt HI.out k hk).1))⟩
      obtain ⟨v3, w3, hr3, hown3, hb3⟩ := happ wr.drew ⟨rfl, rfl, rfl, Nat.le_refl _, fun _ _ => rfl⟩
      rw [show wr.drew.heap.size = wr.heap.size from rfl, show wr.drew.alloc (.cells #[.string ⟨#[]⟩, .string y.cur, .int .i64 y.amt] 81) = (wr.alloc (.cells #[.string ⟨#[]⟩, .string y.cur, .int .i64 y.amt] 81)).drew from rfl] at hr3
      have HREL := Lib.hid hown3
      have HBN := Lib.hid hb3
      obtain ⟨b7, off7, e7, hb7, hc7⟩ := HL.out.resolve_left (fun e => by rw [e] at hlt; simp at hlt)
      simp only [Option.some.injEq, Addr.mk.injEq, and_true] at e7
      obtain ⟨rfl, rfl⟩ := e7
      obtain ⟨y0, y1, y2⟩ := hc7 k y hy
      have HS3 : Hid (w3.cell? ⟨be, 3, none⟩ = some (.slice (some ⟨b9, off, none⟩) l.length lc) ∧ w3.cell? ⟨b9, off + k * 3 + 1, none⟩ = some (.string y.cur) ∧ w3.cell? ⟨b9, off + k * 3 + 2, none⟩ = some (.int .i64 y.amt)) :=
        ⟨(hb3.cell (p := ⟨be, 3, none⟩) hbl).trans z3, (hb3.cell (p := ⟨b9, off + k * 3 + 1, none⟩) hb7).trans y1, (hb3.cell (p := ⟨b9, off + k * 3 + 2, none⟩) hb7).trans y2⟩
      clear hc7 y0 y1 y2 hb7
      clear happ hsn hcc hy hHL hkl hown3 hb3 HI
      go_wp2_with fail
      go_region_held_law (fun w' => w'.cell? ⟨be, 3, none⟩ = some (.slice (some ⟨b9, off, none⟩) l.length lc) ∧ w'.cell? ⟨b9, off + k * 3 + 1, none⟩ = some (.string y.cur) ∧ w'.cell? ⟨b9, off + k * 3 + 2, none⟩ = some (.int .i64 y.amt))
        (first | exact HS3.out | go_keep)
        ((refine step_append_run (by rfl) _ _ _ _ (by rfl) _ _ (by rfl) (by rfl) _ _ hr3 ?_))
      all_goals go_wp2_with fail
      all_goals go_roundw
      case rel => exact ⟨k + 1, by omega, by go_num, HREL, HBN⟩
      case measure => simp [intOf]; omega
    · obtain rfl : k = l.length := by omega
      have hd1 : decide ((l.length : Int) < (l.length : Int)) = false := decide_eq_false (by omega)
      obtain ⟨ao, cap, h1, h2, h3, h4, h5⟩ := lines_of_row_cap HI.out (by simp)
      rw [List.take_length] at h1 h2
      rw [List.length_map] at h1
      subst h1
      have hcall := grouped_ref ao cap (l.map bare) wr h2 (by simpa using hn)
      rw [List.length_map] at hcall
      have HZ : Hid (Below w.heap.size w wr) := HB0.out.trans (HBW.out.mono HB0.out.size)
      clear h2 h3 h4 h5 HI
      go_wp2_with fail
      refine hcall.mono ?_
      rintro e w2 ⟨hb2, v, O, rfl, ho1, ho2⟩
      have HR : Hid (GrdPost w.heap.size w (sumsB l) (.returned v) w2) := ⟨HZ.out.trans (hb2.mono HZ.out.size), v, O, rfl, row_base ho1 HZ.out.size, ho2⟩
      clear hcall hb2 ho1 ho2
      go_wp2_with fail
      go_ret
      exact HR.out
end Go.Proofs.Ytbhndnjlplibmaa.lg
