/- dayref1.Account, Chart: they answer some number. -/
import Derived.Test.YtbhndnjlplibmaaEv2
import Derived.StillTailTactics
namespace Go.Proofs.Ytbhndnjlplibmaa.lg
open Go.RowKit

theorem AccsAt.take {w : World} {lo : Option Addr} {l : List AccM} (h : AccsAt w lo l) (k : Nat) : AccsAt w lo (l.take k) := by
  rcases h with h | ⟨b, off, e, hlt, hc⟩
  · exact Or.inl (by rw [h]; simp)
  · refine Or.inr ⟨b, off, e, hlt, fun i x hx => hc i x ?_⟩
    rw [List.getElem?_take] at hx
    split at hx
    · exact hx
    · cases hx
set_option maxRecDepth 100000 in
set_option maxHeartbeats 4000000 in
theorem account_any (ao : Option Addr) (ca : Nat) (t : List AccM) (i : Nat) (w : World) (ha : AccsAt w ao t) (hm : t.length ≤ 9223372036854775807) (hi : i < t.length) (hca : t.length ≤ ca) (hnm : ∀ a ∈ t, a.code.size ≤ 9223372036854775807 ∧ a.name.size ≤ 9223372036854775807) :
    Calls Try.prog 64 #[.slice ao t.length ca, .int .i64 (i : Int)] w (SomeInt (fun _ => True) w) := by
  obtain ⟨x, hx⟩ := getElem?_ex hi
  obtain ⟨hcs, hns⟩ := hnm x (List.mem_of_getElem? hx)
  obtain ⟨b, off, rfl, hb, hcc⟩ := (show AccsAt w ao t from ha).resolve_left (fun e => by rw [e] at hi; simp at hi)
  obtain ⟨x0, x1, x2, x3, x4⟩ := hcc i x hx
  have HCC := Lib.hid hcc
  obtain ⟨g, hg⟩ : ∃ g, g = w.heap.size := ⟨_, rfl⟩
  obtain ⟨W, hW⟩ : ∃ W, W = w.alloc (.cells #[.string x.code, .string x.name, .int .i64 x.kind, .string x.parent, .bool x.money] 100) := ⟨_, rfl⟩
  have hbW : Below w.heap.size w W := by rw [hW]; exact (Below.refl _ _).alloc (Nat.le_refl _) _
  have hgb : W.heap[g]? = some (.cells #[.string x.code, .string x.name, .int .i64 x.kind, .string x.parent, .bool x.money] 100 (0, 0)) := by rw [hW, hg]; exact heap_new_at rfl _
  have z0 : W.cell? ⟨g, 0, none⟩ = some (.string x.code) := cell_of_heap hgb 0
  have z1 : W.cell? ⟨g, 1, none⟩ = some (.string x.name) := cell_of_heap hgb 1
  have z2 : W.cell? ⟨g, 2, none⟩ = some (.int .i64 x.kind) := cell_of_heap hgb 2
  have z3 : W.cell? ⟨g, 3, none⟩ = some (.string x.parent) := cell_of_heap hgb 3
  have hdg := digits_any x.code 6 W hcs
  have HA := Lib.hid (ha.below hbW)
  have HW := Lib.hid hW
  have HG := Lib.hid hg
  have HBW := Lib.hid hbW
  have hi0 : (0 : Int) ≤ (i : Int) := by omega
  have hi1 : (i : Int) < (t.length : Int) := by omega
  have hbl : b < W.heap.size := Nat.lt_of_lt_of_le hb hbW.size
  have hBcells : ∀ (i : Nat) (x : AccM), t[i]? = some x → W.cell? ⟨b, off + i * 5, none⟩ = some (.string x.code) ∧ W.cell? ⟨b, off + i * 5 + 2, none⟩ = some (.int .i64 x.kind) := fun j y hy => by
    obtain ⟨y0, _, y2, _, _⟩ := hcc j y hy
    exact ⟨(hbW.cell (p := ⟨b, off + j * 5, none⟩) hb).trans y0, (hbW.cell (p := ⟨b, off + j * 5 + 2, none⟩) hb).trans y2⟩
  have HBC := Lib.hid hBcells
  have hdraw : ∀ n, Below w.heap.size w (W.drewN n) := fun n => ⟨HBW.out.os, HBW.out.tape, HBW.out.output, HBW.out.size, HBW.out.block⟩
  have HDR := Lib.hid hdraw
  clear hcc hW hg hbW hgb ha hx hnm hBcells hdraw
  go_enter Try.func64, Try.ntmps64
  go_wp2_with fail
  rw [← HW.out, ← HG.out]
  clear x0 x1 x2 x3 x4
  go_wp2_with fail
  refine hdg.mono ?_
  rintro e w' ⟨d, rfl, rfl⟩
  clear hdg HW HG
  cases d with
  | false =>
    go_wp2_with fail
    go_ret
    exact ⟨_, trivial, rfl, HBW.out⟩
  | true =>
    cases he : x.name.toList.isEmpty with
    | true =>
      have he2 : x.name.toList = [] := List.isEmpty_iff.1 he
      go_wp2_with fail
      go_ret
      exact ⟨_, trivial, rfl, HBW.out⟩
    | false =>
      by_cases h24 : (24 : Int) < (x.name.size : Int)
      · have hd24 : decide ((24 : Int) < (x.name.size : Int)) = true := decide_eq_true h24
        go_wp2_with fail
        go_ret
        exact ⟨_, trivial, rfl, HBW.out⟩
      have hd24 : decide ((24 : Int) < (x.name.size : Int)) = false := decide_eq_false h24
      go_wp2_with fail
      go_loop [7] (fun q => ∃ k : Nat, k ≤ x.name.size ∧ q = .int .i64 (k : Int)) (fun q => x.name.size - (intOf q).toNat)
      case atStart => exact ⟨0, Nat.zero_le _, rfl⟩
      case round =>
        clear he hd24 h24
        obtain ⟨k, hk, rfl⟩ := hrel
        have hk0 : (0 : Int) ≤ (k : Int) := by omega
        by_cases hlt : k < x.name.size
        · have hkI : (k : Int) < (x.name.size : Int) := by omega
          have hbyte : (x.name[k]'hlt).toNat < 256 := (x.name[k]'hlt).toNat_lt
          have hclass : ((x.name[k]'hlt).toNat = 45) ∨ ((x.name[k]'hlt).toNat < 48 ∧ (x.name[k]'hlt).toNat ≠ 45) ∨ (48 ≤ (x.name[k]'hlt).toNat ∧ (x.name[k]'hlt).toNat ≤ 57) ∨ (58 ≤ (x.name[k]'hlt).toNat ∧ (x.name[k]'hlt).toNat ≤ 64) ∨ (65 ≤ (x.name[k]'hlt).toNat ∧ (x.name[k]'hlt).toNat ≤ 90) ∨ (91 ≤ (x.name[k]'hlt).toNat ∧ (x.name[k]'hlt).toNat ≤ 96) ∨ (97 ≤ (x.name[k]'hlt).toNat ∧ (x.name[k]'hlt).toNat ≤ 122) ∨ (123 ≤ (x.name[k]'hlt).toNat) := by omega
          rcases hclass with hc | hc | hc | hc | hc | hc | hc | hc
          · have q0 : (((x.name[k]'hlt).toNat : Int) != 45) = false := by simp; omega
            have q1 : decide (((x.name[k]'hlt).toNat : Int) < 48) = true := by first | exact decide_eq_true (by omega) | exact decide_eq_false (by omega)
            have q2 : decide ((57 : Int) < ((x.name[k]'hlt).toNat : Int)) = false := by first | exact decide_eq_true (by omega) | exact decide_eq_false (by omega)
            have q3 : decide (((x.name[k]'hlt).toNat : Int) < 65) = true := by first | exact decide_eq_true (by omega) | exact decide_eq_false (by omega)
            have q4 : decide ((90 : Int) < ((x.name[k]'hlt).toNat : Int)) = false := by first | exact decide_eq_true (by omega) | exact decide_eq_false (by omega)
            have q5 : decide (((x.name[k]'hlt).toNat : Int) < 97) = true := by first | exact decide_eq_true (by omega) | exact decide_eq_false (by omega)
            have q6 : decide ((122 : Int) < ((x.name[k]'hlt).toNat : Int)) = false := by first | exact decide_eq_true (by omega) | exact decide_eq_false (by omega)
            clear hc hbyte
            go_wp2_with fail
            go_round
            case rel => exact ⟨k + 1, by omega, by go_num⟩
            case measure => simp [intOf]; omega
          · have q0 : (((x.name[k]'hlt).toNat : Int) != 45) = true := by simp; omega
            have q1 : decide (((x.name[k]'hlt).toNat : Int) < 48) = true := by first | exact decide_eq_true (by omega) | exact decide_eq_false (by omega)
            have q2 : decide ((57 : Int) < ((x.name[k]'hlt).toNat : Int)) = false := by first | exact decide_eq_true (by omega) | exact decide_eq_false (by omega)
            have q3 : decide (((x.name[k]'hlt).toNat : Int) < 65) = true := by first | exact decide_eq_true (by omega) | exact decide_eq_false (by omega)
            have q4 : decide ((90 : Int) < ((x.name[k]'hlt).toNat : Int)) = false := by first | exact decide_eq_true (by omega) | exact decide_eq_false (by omega)
            have q5 : decide (((x.name[k]'hlt).toNat : Int) < 97) = true := by first | exact decide_eq_true (by omega) | exact decide_eq_false (by omega)
            have q6 : decide ((122 : Int) < ((x.name[k]'hlt).toNat : Int)) = false := by first | exact decide_eq_true (by omega) | exact decide_eq_false (by omega)
            clear hc hbyte
            go_wp2_with fail
            go_ret
            exact ⟨_, trivial, rfl, HBW.out⟩
          · have q0 : (((x.name[k]'hlt).toNat : Int) != 45) = true := by simp; omega
            have q1 : decide (((x.name[k]'hlt).toNat : Int) < 48) = false := by first | exact decide_eq_true (by omega) | exact decide_eq_false (by omega)
            have q2 : decide ((57 : Int) < ((x.name[k]'hlt).toNat : Int)) = false := by first | exact decide_eq_true (by omega) | exact decide_eq_false (by omega)
            have q3 : decide (((x.name[k]'hlt).toNat : Int) < 65) = true := by first | exact decide_eq_true (by omega) | exact decide_eq_false (by omega)
            have q4 : decide ((90 : Int) < ((x.name[k]'hlt).toNat : Int)) = false := by first | exact decide_eq_true (by omega) | exact decide_eq_false (by omega)
            have q5 : decide (((x.name[k]'hlt).toNat : Int) < 97) = true := by first | exact decide_eq_true (by omega) | exact decide_eq_false (by omega)
            have q6 : decide ((122 : Int) < ((x.name[k]'hlt).toNat : Int)) = false := by first | exact decide_eq_true (by omega) | exact decide_eq_false (by omega)
            clear hc hbyte
            go_wp2_with fail
            go_round
            case rel => exact ⟨k + 1, by omega, by go_num⟩
            case measure => simp [intOf]; omega
          · have q0 : (((x.name[k]'hlt).toNat : Int) != 45) = true := by simp; omega
            have q1 : decide (((x.name[k]'hlt).toNat : Int) < 48) = false := by first | exact decide_eq_true (by omega) | exact decide_eq_false (by omega)
            have q2 : decide ((57 : Int) < ((x.name[k]'hlt).toNat : Int)) = true := by first | exact decide_eq_true (by omega) | exact decide_eq_false (by omega)
            have q3 : decide (((x.name[k]'hlt).toNat : Int) < 65) = true := by first | exact decide_eq_true (by omega) | exact decide_eq_false (by omega)
            have q4 : decide ((90 : Int) < ((x.name[k]'hlt).toNat : Int)) = false := by first | exact decide_eq_true (by omega) | exact decide_eq_false (by omega)
            have q5 : decide (((x.name[k]'hlt).toNat : Int) < 97) = true := by first | exact decide_eq_true (by omega) | exact decide_eq_false (by omega)
            have q6 : decide ((122 : Int) < ((x.name[k]'hlt).toNat : Int)) = false := by first | exact decide_eq_true (by omega) | exact decide_eq_false (by omega)
            clear hc hbyte
            go_wp2_with fail
            go_ret
            exact ⟨_, trivial, rfl, HBW.out⟩
          · have q0 : (((x.name[k]'hlt).toNat : Int) != 45) = true := by simp; omega
            have q1 : decide (((x.name[k]'hlt).toNat : Int) < 48) = false := by first | exact decide_eq_true (by omega) | exact decide_eq_false (by omega)
            have q2 : decide ((57 : Int) < ((x.name[k]'hlt).toNat : Int)) = true := by first | exact decide_eq_true (by omega) | exact decide_eq_false (by omega)
            have q3 : decide (((x.name[k]'hlt).toNat : Int) < 65) = false := by first | exact decide_eq_true (by omega) | exact decide_eq_false (by omega)
            have q4 : decide ((90 : Int) < ((x.name[k]'hlt).toNat : Int)) = false := by first | exact decide_eq_true (by omega) | exact decide_eq_false (by omega)
            have q5 : decide (((x.name[k]'hlt).toNat : Int) < 97) = true := by first | exact decide_eq_true (by omega) | exact decide_eq_false (by omega)
            have q6 : decide ((122 : Int) < ((x.name[k]'hlt).toNat : Int)) = false := by first | exact decide_eq_true (by omega) | exact decide_eq_false (by omega)
            clear hc hbyte
            go_wp2_with fail
            go_round
            case rel => exact ⟨k + 1, by omega, by go_num⟩
            case measure => simp [intOf]; omega
          · have q0 : (((x.name[k]'hlt).toNat : Int) != 45) = true := by simp; omega
            have q1 : decide (((x.name[k]'hlt).toNat : Int) < 48) = false := by first | exact decide_eq_true (by omega) | exact decide_eq_false (by omega)
            have q2 : decide ((57 : Int) < ((x.name[k]'hlt).toNat : Int)) = true := by first | exact decide_eq_true (by omega) | exact decide_eq_false (by omega)
            have q3 : decide (((x.name[k]'hlt).toNat : Int) < 65) = false := by first | exact decide_eq_true (by omega) | exact decide_eq_false (by omega)
            have q4 : decide ((90 : Int) < ((x.name[k]'hlt).toNat : Int)) = true := by first | exact decide_eq_true (by omega) | exact decide_eq_false (by omega)
            have q5 : decide (((x.name[k]'hlt).toNat : Int) < 97) = true := by first | exact decide_eq_true (by omega) | exact decide_eq_false (by omega)
            have q6 : decide ((122 : Int) < ((x.name[k]'hlt).toNat : Int)) = false := by first | exact decide_eq_true (by omega) | exact decide_eq_false (by omega)
            clear hc hbyte
            go_wp2_with fail
            go_ret
            exact ⟨_, trivial, rfl, HBW.out⟩
          · have q0 : (((x.name[k]'hlt).toNat : Int) != 45) = true := by simp; omega
            have q1 : decide (((x.name[k]'hlt).toNat : Int) < 48) = false := by first | exact decide_eq_true (by omega) | exact decide_eq_false (by omega)
            have q2 : decide ((57 : Int) < ((x.name[k]'hlt).toNat : Int)) = true := by first | exact decide_eq_true (by omega) | exact decide_eq_false (by omega)
            have q3 : decide (((x.name[k]'hlt).toNat : Int) < 65) = false := by first | exact decide_eq_true (by omega) | exact decide_eq_false (by omega)
            have q4 : decide ((90 : Int) < ((x.name[k]'hlt).toNat : Int)) = true := by first | exact decide_eq_true (by omega) | exact decide_eq_false (by omega)
            have q5 : decide (((x.name[k]'hlt).toNat : Int) < 97) = false := by first | exact decide_eq_true (by omega) | exact decide_eq_false (by omega)
            have q6 : decide ((122 : Int) < ((x.name[k]'hlt).toNat : Int)) = false := by first | exact decide_eq_true (by omega) | exact decide_eq_false (by omega)
            clear hc hbyte
            go_wp2_with fail
            go_round
            case rel => exact ⟨k + 1, by omega, by go_num⟩
            case measure => simp [intOf]; omega
          · have q0 : (((x.name[k]'hlt).toNat : Int) != 45) = true := by simp; omega
            have q1 : decide (((x.name[k]'hlt).toNat : Int) < 48) = false := by first | exact decide_eq_true (by omega) | exact decide_eq_false (by omega)
            have q2 : decide ((57 : Int) < ((x.name[k]'hlt).toNat : Int)) = true := by first | exact decide_eq_true (by omega) | exact decide_eq_false (by omega)
            have q3 : decide (((x.name[k]'hlt).toNat : Int) < 65) = false := by first | exact decide_eq_true (by omega) | exact decide_eq_false (by omega)
            have q4 : decide ((90 : Int) < ((x.name[k]'hlt).toNat : Int)) = true := by first | exact decide_eq_true (by omega) | exact decide_eq_false (by omega)
            have q5 : decide (((x.name[k]'hlt).toNat : Int) < 97) = false := by first | exact decide_eq_true (by omega) | exact decide_eq_false (by omega)
            have q6 : decide ((122 : Int) < ((x.name[k]'hlt).toNat : Int)) = true := by first | exact decide_eq_true (by omega) | exact decide_eq_false (by omega)
            clear hc hbyte
            go_wp2_with fail
            go_ret
            exact ⟨_, trivial, rfl, HBW.out⟩
        · obtain rfl : k = x.name.size := by omega
          by_cases hk1 : x.kind < 1
          · have e1 : decide (x.kind < 1) = true := decide_eq_true hk1
            go_wp2_with fail
            go_ret
            exact ⟨_, trivial, rfl, HBW.out⟩
          have e1 : decide (x.kind < 1) = false := decide_eq_false hk1
          by_cases hk5 : 5 < x.kind
          · have e5 : decide (5 < x.kind) = true := decide_eq_true hk5
            go_wp2_with fail
            go_ret
            exact ⟨_, trivial, rfl, HBW.out⟩
          have e5 : decide (5 < x.kind) = false := decide_eq_false hk5
          rcases Nat.eq_zero_or_pos i with hz | hz
          · have hdi : decide ((0 : Int) < (i : Int)) = false := decide_eq_false (by omega)
            have hdi2 : decide (0 < i) = false := decide_eq_false (by omega)
            clear hz
            go_wp2_with fail
            go_quiet (fail)
            obtain ⟨w9, hw9⟩ : ∃ w9, w9 = W.drewN nq := ⟨_, rfl⟩
            rw [← hw9]
            have HB9 : Hid (Below w.heap.size w w9) := by show Below _ _ _; rw [hw9]; exact HDR.out nq
            have y2 : w9.cell? ⟨g, 2, none⟩ = some (.int .i64 x.kind) := by rw [hw9]; exact z2
            have y3 : w9.cell? ⟨g, 3, none⟩ = some (.string x.parent) := by rw [hw9]; exact z3
            have HBC9 : Hid (∀ (i : Nat) (x : AccM), t[i]? = some x → w9.cell? ⟨b, off + i * 5 + 2, none⟩ = some (.int .i64 x.kind)) := fun i' x' h' => by rw [hw9]; exact (HBC.out i' x' h').2
            have HA9 : Hid (AccsAt w9 (some ⟨b, off, none⟩) t) := by show AccsAt _ _ _; rw [hw9]; exact HA.out.below ⟨rfl, rfl, rfl, Nat.le_refl _, fun _ _ => rfl⟩
            clear hw9 nq z0 z1 z2 z3
            cases hp : x.parent.toList.isEmpty with
            | true =>
              have hp2 : x.parent.toList = [] := List.isEmpty_iff.1 hp
              have hp3 : (!x.parent.toList.isEmpty) = false := by rw [hp]; rfl
              go_wp2_with fail
              go_ret
              exact ⟨_, trivial, rfl, HB9.out⟩
            | false =>
              have hp3 : (!x.parent.toList.isEmpty) = true := by rw [hp]; rfl
              have hic : (i : Int) ≤ (ca : Int) := by omega
              have hic2 : i ≤ ca := by omega
              have htk : (t.take i).length = i := by rw [List.length_take]; omega
              go_wp2_with fail
              go_still_tail 5, (by kernel_rfl)
              change wpList _ _ _ _ _ w9.drew
              have HBD : Hid (Below w.heap.size w w9.drew) := HB9.out.drew
              have hat := at_any (some ⟨b, off, none⟩) ca (t.take i) x.parent w9.drew (HA9.out.below ⟨rfl, rfl, rfl, Nat.le_refl _, fun _ _ => rfl⟩ |>.take i) (by omega)
              rw [htk] at hat
              have q2 : w9.drew.cell? ⟨g, 2, none⟩ = some (.int .i64 x.kind) := y2
              have HBC10 : Hid (∀ (i : Nat) (x : AccM), t[i]? = some x → w9.drew.cell? ⟨b, off + i * 5 + 2, none⟩ = some (.int .i64 x.kind)) := HBC9.out
              clear y2 y3 HBC9 HA9 htk
              generalize w9.drew = w10 at *
              go_wp2_with fail
              refine hat.mono ?_
              rintro e w' ⟨n, ⟨hn1, hn2⟩, rfl, rfl⟩
              clear hat
              by_cases hn : n < 0
              · have hdn : decide (n < 0) = true := decide_eq_true hn
                go_wp2_with fail
                go_ret
                exact ⟨_, trivial, rfl, HBD.out⟩
              · have hdn : decide (n < 0) = false := decide_eq_false hn
                obtain ⟨j9, rfl⟩ : ∃ j9 : Nat, n = (j9 : Int) := ⟨n.toNat, by omega⟩
                obtain ⟨y, hy⟩ := getElem?_ex (show j9 < t.length by omega)
                have k2 := HBC10.out j9 y hy
                have hj0 : (0 : Int) ≤ (j9 : Int) := by omega
                have hj1 : (j9 : Int) < (t.length : Int) := by omega
                have HBE : ∀ m, Hid (Below w.heap.size w (w10.drewN m)) := fun m => ⟨HBD.out.os, HBD.out.tape, HBD.out.output, HBD.out.size, HBD.out.block⟩
                clear hn hn1 hn2 hy
                cases hke : (y.kind != x.kind) with
                | true =>
                  go_wp2_with fail
                  go_quiet (fail)
                  go_wp2_with fail
                  go_ret
                  exact ⟨_, trivial, rfl, (HBE _).out⟩
                | false =>
                  go_wp2_with fail
                  go_quiet (fail)
                  go_wp2_with fail
                  go_ret
                  exact ⟨_, trivial, rfl, (HBE _).out⟩
          · have hdi : decide ((0 : Int) < (i : Int)) = true := decide_eq_true (by omega)
            have hdi2 : decide (0 < i) = true := decide_eq_true (by omega)
            obtain ⟨j, hj⟩ : ∃ j, i = j + 1 := ⟨i - 1, by omega⟩
            obtain ⟨z, hzz⟩ := getElem?_ex (show j < t.length by omega)
            have hcz := (HBC.out j z hzz).1
            have hij : (i : Int) - 1 = (j : Int) := by omega
            have hj0' : (0 : Int) ≤ (j : Int) := by omega
            have hj1' : (j : Int) < (t.length : Int) := by omega
            clear hz hj hzz
            cases hls : Op.bytesLess z.code.toList x.code.toList with
            | false =>
              go_wp2_with fail
              go_quiet (fail)
              go_wp2_with fail
              go_ret
              exact ⟨_, trivial, rfl, HDR.out _⟩
            | true =>
              go_wp2_with fail
              go_quiet (fail)
              obtain ⟨w9, hw9⟩ : ∃ w9, w9 = W.drewN nq := ⟨_, rfl⟩
              rw [← hw9]
              have HB9 : Hid (Below w.heap.size w w9) := by show Below _ _ _; rw [hw9]; exact HDR.out nq
              have y2 : w9.cell? ⟨g, 2, none⟩ = some (.int .i64 x.kind) := by rw [hw9]; exact z2
              have y3 : w9.cell? ⟨g, 3, none⟩ = some (.string x.parent) := by rw [hw9]; exact z3
              have HBC9 : Hid (∀ (i : Nat) (x : AccM), t[i]? = some x → w9.cell? ⟨b, off + i * 5 + 2, none⟩ = some (.int .i64 x.kind)) := fun i' x' h' => by rw [hw9]; exact (HBC.out i' x' h').2
              have HA9 : Hid (AccsAt w9 (some ⟨b, off, none⟩) t) := by show AccsAt _ _ _; rw [hw9]; exact HA.out.below ⟨rfl, rfl, rfl, Nat.le_refl _, fun _ _ => rfl⟩
              clear hw9 nq z0 z1 z2 z3
              cases hp : x.parent.toList.isEmpty with
              | true =>
                have hp2 : x.parent.toList = [] := List.isEmpty_iff.1 hp
                have hp3 : (!x.parent.toList.isEmpty) = false := by rw [hp]; rfl
                go_wp2_with fail
                go_ret
                exact ⟨_, trivial, rfl, HB9.out⟩
              | false =>
                have hp3 : (!x.parent.toList.isEmpty) = true := by rw [hp]; rfl
                have hic : (i : Int) ≤ (ca : Int) := by omega
                have hic2 : i ≤ ca := by omega
                have htk : (t.take i).length = i := by rw [List.length_take]; omega
                go_wp2_with fail
                go_still_tail 5, (by kernel_rfl)
                change wpList _ _ _ _ _ w9.drew
                have HBD : Hid (Below w.heap.size w w9.drew) := HB9.out.drew
                have hat := at_any (some ⟨b, off, none⟩) ca (t.take i) x.parent w9.drew (HA9.out.below ⟨rfl, rfl, rfl, Nat.le_refl _, fun _ _ => rfl⟩ |>.take i) (by omega)
                rw [htk] at hat
                have q2 : w9.drew.cell? ⟨g, 2, none⟩ = some (.int .i64 x.kind) := y2
                have HBC10 : Hid (∀ (i : Nat) (x : AccM), t[i]? = some x → w9.drew.cell? ⟨b, off + i * 5 + 2, none⟩ = some (.int .i64 x.kind)) := HBC9.out
                clear y2 y3 HBC9 HA9 htk
                generalize w9.drew = w10 at *
                go_wp2_with fail
                refine hat.mono ?_
                rintro e w' ⟨n, ⟨hn1, hn2⟩, rfl, rfl⟩
                clear hat
                by_cases hn : n < 0
                · have hdn : decide (n < 0) = true := decide_eq_true hn
                  go_wp2_with fail
                  go_ret
                  exact ⟨_, trivial, rfl, HBD.out⟩
                · have hdn : decide (n < 0) = false := decide_eq_false hn
                  obtain ⟨j9, rfl⟩ : ∃ j9 : Nat, n = (j9 : Int) := ⟨n.toNat, by omega⟩
                  obtain ⟨y, hy⟩ := getElem?_ex (show j9 < t.length by omega)
                  have k2 := HBC10.out j9 y hy
                  have hj0 : (0 : Int) ≤ (j9 : Int) := by omega
                  have hj1 : (j9 : Int) < (t.length : Int) := by omega
                  have HBE : ∀ m, Hid (Below w.heap.size w (w10.drewN m)) := fun m => ⟨HBD.out.os, HBD.out.tape, HBD.out.output, HBD.out.size, HBD.out.block⟩
                  clear hn hn1 hn2 hy
                  cases hke : (y.kind != x.kind) with
                  | true =>
                    go_wp2_with fail
                    go_quiet (fail)
                    go_wp2_with fail
                    go_ret
                    exact ⟨_, trivial, rfl, (HBE _).out⟩
                  | false =>
                    go_wp2_with fail
                    go_quiet (fail)
                    go_wp2_with fail
                    go_ret
                    exact ⟨_, trivial, rfl, (HBE _).out⟩
end Go.Proofs.Ytbhndnjlplibmaa.lg
