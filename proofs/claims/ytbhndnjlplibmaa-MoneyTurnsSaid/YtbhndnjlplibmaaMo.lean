/- MoneyTurns: what is added is added in any order. -/
import Derived.Test.YtbhndnjlplibmaaMoL
import Derived.Deep.OwnRows
import Derived.OwnWalk
import Derived.Deep.AppendLies
import Derived.Deep.DeepMust
namespace Go.Proofs.Ytbhndnjlplibmaa.big
open Go.RowKit

theorem infoI : (Try.prog.info? 3).map (fun i => (i.zero, i.size, i.bytes)) = some (some (.int .i64 0), 1, 8) := by kernel_rfl
theorem row_ints {w : World} {base : Nat} {e : TypeId} {v : Value} {zs : List Int} (h : w.ownsRow base e 1 v zs.length (zs.map (Value.int .i64))) :
    ∃ ao cap, v = .slice ao zs.length cap ∧ IntsAt w ao zs ∧ (∀ b off, ao = some ⟨b, off, none⟩ → b < w.heap.size) ∧ cap ≤ 9223372036854775807 := by
  obtain ⟨h1, h2⟩ := h
  rcases h2 with ⟨rfl, hn⟩ | ⟨g, cap, cur, rfl, hg, hh, hc, hm, hsz, htk⟩
  · exact ⟨none, 0, by rw [hn], Or.inl (List.length_eq_zero_iff.1 hn), (fun b off h => by cases h), by decide⟩
  · refine ⟨some ⟨g, 0, none⟩, cap, rfl, Or.inr ⟨g, 0, rfl, fun i hi => ?_⟩, fun b off h => ?_, hm⟩
    · have hsz' : cur.size = cap := by omega
      have hi2 : i < cur.size := by omega
      have : cur[i]? = some (.int .i64 (zs.getD i 0)) := by
        have h3 : (cur.toList.take (zs.length * 1))[i]? = (zs.map (Value.int .i64))[i]? := by rw [htk]
        rw [List.getElem?_take, if_pos (by omega), List.getElem?_map] at h3
        simp only [Array.getElem?_toList] at h3
        rw [h3]
        simp [List.getD, hi]
      simp only [World.cell?, hh, Nat.zero_add]
      simpa using this
    · injection h with h
      injection h with h1 _ _
      subst h1
      rcases Nat.lt_or_ge g w.heap.size with hlt | hge
      · exact hlt
      · rw [Array.getElem?_eq_none hge] at hh; cases hh
theorem ints_keep {u u' : World} {xo : Option Addr} {xs : List Int} (h : IntsAt u xo xs) (hb : Below u.heap.size u u') : IntsAt u' xo xs := by
  rcases h with h | ⟨b, off, e, hc⟩
  · exact Or.inl h
  · refine Or.inr ⟨b, off, e, fun i hi => (hb.cell (p := ⟨b, off + i, none⟩) ?_).trans (hc i hi)⟩
    have h0 := hc i hi
    rcases Nat.lt_or_ge b u.heap.size with h1 | h1
    · exact h1
    · simp [World.cell?, Array.getElem?_eq_none h1] at h0
/-- a sum's two answers -/
theorem smallV_two (V : Int) : ∃ v e, smallV V = .tuple #[.int .i64 v, e] ∧ ((fits V = true ∧ v = V ∧ e = .nilIface) ∨ (fits V = false ∧ v = 0 ∧ e = .iface 23 (.int .i64 10))) := by
  by_cases h : fits V = true
  · exact ⟨V, .nilIface, smallV_fit h, Or.inl ⟨h, rfl, rfl⟩⟩
  · have h' : fits V = false := by simpa using h
    exact ⟨0, _, smallV_not h', Or.inr ⟨h', rfl, rfl⟩⟩

set_option maxRecDepth 100000 in
set_option maxHeartbeats 4000000 in
theorem back_loop (ao : Option Addr) (cap : Nat) (l : List Int) (cut : Int) (w : World) (hz : IntsAt w ao l) (hl : In64 l) (hm : l.length ≤ 17592186043904) (hlc : l.length ≤ cap) :
    Calls Try.prog 5 #[.slice ao l.length cap, .int .i64 cut] w fun e w' => e = .returned (.bool true) ∧ Below w.heap.size w w' := by
  obtain ⟨wa, hwa⟩ : ∃ wa, wa = w.alloc (.cells #[.int .i64 2, .int .i64 3] 3) := ⟨_, rfl⟩
  have hba : Below w.heap.size w wa := by rw [hwa]; exact (Below.refl _ _).alloc (Nat.le_refl _) _
  have hia : IntsAt wa (some ⟨w.heap.size, 0, none⟩) [2, 3] := by
    refine Or.inr ⟨w.heap.size, 0, rfl, fun i hi => ?_⟩
    subst hwa
    match i, hi with
    | 0, _ | 1, _ => simp
  have hc1 := sum_any (some ⟨w.heap.size, 0, none⟩) 2 [2, 3] wa hia (fun x hx => by
    simp only [List.mem_cons, List.not_mem_nil, or_false] at hx
    rcases hx with rfl | rfl <;> omega) (by simp)
  have hc1' : Calls Try.prog 11 #[.slice (some ⟨w.heap.size, 0, none⟩) 2 2] wa fun e w' => e = .returned (.tuple #[.int .i64 5, .nilIface]) ∧ Below wa.heap.size wa w' := hc1
  have HWA := Lib.hid hwa
  have HBA := Lib.hid hba
  have HZ := Lib.hid hz
  have HL := Lib.hid hl
  clear hwa hba hia hc1 hz hl
  go_enter Try.func5, Try.ntmps5
  go_wp2_with fail
  rw [← HWA.out]
  refine hc1'.mono ?_
  rintro e w1 ⟨rfl, hb1⟩
  have HB1 := Lib.hid (HBA.out.trans (hb1.mono HBA.out.size))
  have S0 : Hid (RowSt w [] 3 1 (.slice none 0 0) 0 ((l.reverse.take 0).map (Value.int .i64)) w1) := RowSt.start ⟨HB1.out, fun p hp => by cases hp⟩
  clear hc1' hb1 HBA HWA
  go_wp2_with fail
  go_loopw [7, 8] (fun v i wr => ∃ k : Nat, k ≤ l.length ∧ i = .int .i64 ((l.length : Int) - 1 - (k : Int)) ∧ Hid (RowSt w [] 3 1 v k ((l.reverse.take k).map (Value.int .i64)) wr)) (fun _ i _ => (intOf i + 1).toNat)
  case atStart => exact ⟨0, Nat.zero_le _, by simp, S0⟩
  case round =>
    clear S0
    obtain ⟨k, hk, rfl, hS⟩ := hrel
    by_cases hlt : k < l.length
    · obtain ⟨b, off, rfl, hc⟩ := HZ.out.resolve_left (fun e => by rw [e] at hlt; simp at hlt)
      obtain ⟨m, hm1⟩ : ∃ m : Nat, m + k + 1 = l.length := ⟨l.length - 1 - k, by omega⟩
      have hmi : (l.length : Int) - 1 - (k : Int) = (m : Int) := by omega
      have c0' := hc m (by omega)
      have hb0 : b < w.heap.size := by
        rcases Nat.lt_or_ge b w.heap.size with h1 | h1
        · exact h1
        · simp [World.cell?, Array.getElem?_eq_none h1] at c0'
      have c0 := (hS.out.fr.old hb0 _).trans c0'
      have hrt := Lib.hid (rev_take l hlt)
      have hrl : (l.reverse.take k).length = k := by simp; omega
      rw [show l.length - 1 - k = m by omega] at hrt
      rw [hmi]
      generalize l.getD m 0 = x at *
      obtain ⟨i0, hi0, hz0, hz1, hz2⟩ := info_parts infoI
      have HI0 := Lib.hid hi0
      have HZ0 := Lib.hid hz0
      have HZ1 := Lib.hid hz1
      have HZ2 := Lib.hid hz2
      have hsz := hS.out.fr.below.size
      have j0 : (0 : Int) ≤ (m : Int) := by omega
      have j1 : (m : Int) < (l.length : Int) := by omega
      obtain ⟨uo, um, uc, rfl⟩ := ownsRow_form hS.out.row
      clear hc c0' hi0 hz0 hz1 hz2 hrl hmi
      go_wp2_with (at_builtin; go_must (refine wpList_append_own_at (o := ⟨some 43, _, _, _, _, _⟩) _ rfl (.tmp 37) (.tmp 42) 29 rfl w.heap.size 3 i0 (.int .i64 0) 1 8 Try.underlying29 HI0.out HZ0.out HZ1.out HZ2.out rfl (by decide) (.slice uo um uc) k ((l.reverse.take k).map (Value.int .i64)) rfl (World.ownsRow.alloc hS.out.row _) ⟨wr.heap.size, 0, none⟩ 1 1 [.int .i64 x] rfl rfl (World.news_of_block (cs := #[.int .i64 x]) (t := 3) (fr := (0, 0)) (by exact heap_new_at (by simp) _)) (by simp [Value.oneCell']) (by unfold maxLen; omega) (by omega) (by simp at hsz ⊢; omega) ?_); intro v1 w2 hown1 hgrow1 _ hblk1)
      have HS5 : Hid (RowSt w [] 3 1 v1 (k + 1) ((l.reverse.take (k + 1)).map (Value.int .i64)) w2) := hS.out.moved (ownsRow_cast hown1 rfl (by rw [hrt.out]; simp)) (Moved.append hgrow1 (by simpa using hblk1))
      clear hown1 hgrow1 hblk1 hS hrt hsz
      go_wp2_with fail
      go_roundw
      case rel => exact ⟨k + 1, by omega, by congr 1 <;> omega, HS5⟩
      case measure => first | (simp [intOf]; done) | (simp [intOf]; omega)
    · obtain rfl : k = l.length := by omega
      have hrow := hS.out.row
      rw [List.take_of_length_le (by simp)] at hrow
      obtain ⟨bo, bc, hbv, hbi, _⟩ := row_ints (zs := l.reverse) (by rw [List.length_reverse]; exact hrow)
      rw [List.length_reverse] at hbv
      subst hbv
      have HBI := Lib.hid hbi
      have HB := Lib.hid hS.out.fr.below
      obtain ⟨v, er, hv, hcase⟩ := smallV_two l.sum
      have hc2 := sum_any ao cap l wr (ints_keep HZ.out HB.out) HL.out (by omega)
      rw [hv] at hc2
      clear hS hrow hbi hlt
      go_wp2_with fail
      refine hc2.mono ?_
      rintro e w2 ⟨rfl, hb2⟩
      have hc3 := sum_any bo bc l.reverse w2 (ints_keep HBI.out hb2) HL.out.rev (by rw [List.length_reverse]; omega)
      rw [rev_sum, hv, List.length_reverse] at hc3
      have HB2 := Lib.hid (HB.out.trans (hb2.mono HB.out.size))
      clear hc2 hb2 HBI HB
      go_wp2_with fail
      refine hc3.mono ?_
      rintro e w3 ⟨rfl, hb3⟩
      have HB3 := Lib.hid (HB2.out.trans (hb3.mono HB2.out.size))
      have hvv : (v != v) = false := by simp
      have HV := Lib.hid hv
      clear hc3 hb3 HB2 hv
      have HN := fun n => Lib.hid (show Below w.heap.size w (w3.drewN n) from belowN _ _ n |> HB3.out.trans)
      have hcc : (decide (cut < 0) = true) ∨ (decide (cut < 0) = false ∧ decide ((l.length : Int) < cut) = true) ∨ (decide (cut < 0) = false ∧ decide ((l.length : Int) < cut) = false ∧ 0 ≤ cut ∧ cut ≤ (l.length : Int)) := by
        simp only [decide_eq_true_eq, decide_eq_false_iff_not]; omega
      rcases hcase with ⟨hfit, hve, rfl⟩ | ⟨hfit, hve, rfl⟩
      all_goals
        rcases hcc with q1 | ⟨q1, q2⟩ | ⟨q1, q2, q3, q4⟩
        · go_wp2_with fail
          go_quiet (fail)
          go_wp2_with fail
          go_ret
          exact ⟨rfl, (HN _).out⟩
        · go_wp2_with fail
          go_quiet (fail)
          go_wp2_with fail
          go_ret
          exact ⟨rfl, (HN _).out⟩
        · obtain ⟨c, rfl⟩ := Int.eq_ofNat_of_zero_le q3
          have r1 : (c : Int) ≤ (cap : Int) := by omega
          have htl : (l.take c).length = c := by simp; omega
          obtain ⟨v4, e4, hv4, hcase4⟩ := smallV_two (l.take c).sum
          have hs4 := fun n => sum_any ao cap (l.take c) (w3.drewN n) (ints_take (ints_keep HZ.out (HN n).out) c) (HL.out.take c) (by omega)
          rw [htl, hv4] at hs4
          go_wp2_with fail
          go_quiet (fail)
          go_wp2_with fail
          refine (hs4 _).mono ?_
          rintro e w5 ⟨rfl, hb5⟩
          obtain ⟨v6, e6, hv6, hcase6⟩ := smallV_two (l.drop c).sum
          have HB5 := Lib.hid ((HN _).out.trans (hb5.mono (HN _).out.size))
          have hs6 : Hid (∀ cap', (cap' = cap - c) → Calls Try.prog 11 #[.slice (if cap = c then ao else ao.map fun x => x.add c) (l.length - c) cap'] w5 fun e w' => e = .returned (.tuple #[.int .i64 v6, e6]) ∧ Below w5.heap.size w5 w') := fun cap' _ => by
            have h0 := sum_any (if cap = c then ao else ao.map fun x => x.add c) cap' (l.drop c) w5 ?_ (HL.out.drop c) (by rw [List.length_drop]; omega)
            · rw [hv6, List.length_drop] at h0
              exact h0
            · have hz5 := ints_keep HZ.out HB5.out
              by_cases h : cap = c
              · exact Or.inl (List.drop_of_length_le (by omega))
              · rw [if_neg h]
                rcases hz5 with h0 | ⟨b, off, rfl, hc⟩
                · exact Or.inl (by rw [h0]; simp)
                · rw [Option.map_some, show (⟨b, off, none⟩ : Addr).add c = ⟨b, off + c, none⟩ by unfold Addr.add; split <;> simp_all]
                  exact ints_drop hc c
          have hs7 : Hid (∀ ao' cap', (ao' = if cap = c then ao else ao.map fun x => x.add c) → cap' = cap - c → Calls Try.prog 11 #[.slice ao' (l.length - c) cap'] w5 fun e w' => e = .returned (.tuple #[.int .i64 v6, e6]) ∧ Below w5.heap.size w5 w') := fun ao' cap' h1 h2 => h1 ▸ hs6.out cap' h2
          clear hs4 hb5 hs6
          have hadd : -9223372036854775808 ≤ v4 ∧ v4 ≤ 9223372036854775807 ∧ -9223372036854775808 ≤ v6 ∧ v6 ≤ 9223372036854775807 := by
            rcases hcase4 with ⟨h1, rfl, _⟩ | ⟨_, rfl, _⟩ <;> rcases hcase6 with ⟨h2, rfl, _⟩ | ⟨_, rfl, _⟩ <;> (try have := fits_iff.1 h1) <;> (try have := fits_iff.1 h2) <;> omega
          obtain ⟨d1, d2, d3, d4⟩ := hadd
          have HB6 := fun (w6 : World) (h : Below w5.heap.size w5 w6) => Lib.hid (HB5.out.trans (h.mono HB5.out.size))
          go_wp2_with fail
          all_goals
            refine (hs7.out _ _ (by simp [*]) (by simp [*])).mono ?_
            rintro e w6 ⟨rfl, hb6⟩
            have HB7 := HB6 w6 hb6
            have hz7 := fun a b h1 h2 => madd_any a b w6 h1 h2
            clear hs7 HB6 hb6
            rcases hcase4 with ⟨f4, rfl, rfl⟩ | ⟨f4, rfl, rfl⟩
            · rcases hcase6 with ⟨f6, rfl, rfl⟩ | ⟨f6, rfl, rfl⟩
              · have hz8 := hz7 _ _ ⟨d1, d2⟩ ⟨d3, d4⟩
                rw [cut_sum, HV.out] at hz8
                clear hz7
                go_wp2_with fail
                refine hz8.mono ?_
                rintro e w8 ⟨rfl, hb8⟩
                have HN8 := fun n => Lib.hid (show Below w.heap.size w (w8.drewN n) from belowN _ _ n |> (HB7.out.trans (hb8.mono HB7.out.size)).trans)
                clear hz8 hb8
                go_wp2_with fail
                go_quiet (fail)
                go_wp2_with fail
                go_ret
                exact ⟨by simp, (HN8 _).out⟩
              · clear hz7
                go_wp2_with fail
                go_ret
                exact ⟨rfl, HB7.out⟩
            · clear hz7
              go_wp2_with fail
              go_ret
              exact ⟨rfl, HB7.out⟩
end Go.Proofs.Ytbhndnjlplibmaa.big
