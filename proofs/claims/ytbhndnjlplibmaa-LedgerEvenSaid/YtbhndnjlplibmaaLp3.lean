/- LedgerParts walked: true, at any entries. -/
import Derived.Test.YtbhndnjlplibmaaLp2
namespace Go.Proofs.Ytbhndnjlplibmaa.lg
open Go.RowKit

abbrev GEnt := EntryM × Option Addr × Nat
def encG (g : GEnt) : List Value := [.string g.1.ref, .int .i64 g.1.ent, .int .i64 g.1.per, .slice g.2.1 g.1.lines.length g.2.2]
theorem infoEnt : (Try.prog.info? 50).map (fun i => (i.zero, i.size, i.bytes)) = some (some (.agg #[.string ⟨#[]⟩, .int .i64 0, .int .i64 0, .slice none 0 0]), 4, 56) := by kernel_rfl
theorem flat4g : ∀ (l : List GEnt) (i j : Nat) (x : GEnt), l[i]? = some x → j < 4 → (l.flatMap encG)[i * 4 + j]? = (encG x)[j]?
  | [], i, _, _, h, _ => by simp at h
  | y :: r, 0, j, x, h, hj => by
    simp only [List.getElem?_cons_zero, Option.some.injEq] at h
    subst h
    rw [List.flatMap_cons, List.getElem?_append_left (by simp [encG]; omega)]
    simp
  | y :: r, i + 1, j, x, h, hj => by
    rw [List.flatMap_cons, List.getElem?_append_right (by simp [encG]; omega)]
    have := flat4g r i j x (by simpa using h) hj
    rw [← this]
    congr 1
    simp [encG]
    omega
theorem ents_of_row {w : World} {base : Nat} {e : TypeId} {v : Value} {n : Nat} {G : List GEnt} (h : w.ownsRow base e 4 v n (G.flatMap encG)) (hn : n = G.length) (hl : ∀ g ∈ G, LinesAt w g.2.1 g.1.lines) : ∃ ao cap, v = .slice ao (G.map (·.1)).length cap ∧ EntsAt w ao (G.map (·.1)) := by
  subst hn
  obtain ⟨h1, h2⟩ := h
  rw [List.length_map]
  rcases h2 with ⟨rfl, hn⟩ | ⟨g, cap, cur, rfl, hg, hh, hc, hm, hsz, htk⟩
  · exact ⟨none, 0, by rw [hn], Or.inl (by rw [List.length_eq_zero_iff.1 hn]; rfl)⟩
  · refine ⟨some ⟨g, 0, none⟩, cap, rfl, Or.inr ⟨g, 0, rfl, lt_of_heap hh, fun i x hx => ?_⟩⟩
    rw [List.getElem?_map] at hx
    cases hy : G[i]? with
    | none => rw [hy] at hx; cases hx
    | some y =>
      rw [hy] at hx
      simp only [Option.map_some, Option.some.injEq] at hx
      subst hx
      have hi : i < G.length := (List.getElem?_eq_some_iff.1 hy).1
      have hcell : ∀ j, j < 4 → w.cell? ⟨g, 0 + i * 4 + j, none⟩ = (encG y)[j]? := fun j hj => by
        have h3 : (cur.toList.take (G.length * 4))[i * 4 + j]? = (G.flatMap encG)[i * 4 + j]? := by rw [htk]
        rw [List.getElem?_take, if_pos (by omega), flat4g G i j y hy hj] at h3
        simp only [Array.getElem?_toList] at h3
        simp only [World.cell?, hh, Nat.zero_add]
        simpa using h3
      exact ⟨y.2.1, y.2.2, hcell 0 (by omega), hcell 1 (by omega), hcell 2 (by omega), hcell 3 (by omega), hl y (List.mem_of_getElem? hy)⟩
def factE : EntryM := ⟨tA, 2, 3, [⟨t10, tE, 5⟩, ⟨t20, tE, -5⟩]⟩
theorem okFactE : ∀ e ∈ [factE], entOk e := fun e he l hl => by
  rw [List.mem_singleton.1 he] at hl ⊢
  simp only [factE, List.mem_cons, List.not_mem_nil, or_false] at hl
  rcases hl with rfl | rfl
  · exact ⟨⟨by show (-9223372036854775808 : Int) ≤ 2; decide, by show (2 : Int) ≤ 9223372036854775807; decide⟩, by show t10.size ≤ maxLen; decide, by show tE.size ≤ maxLen; decide⟩
  · exact ⟨⟨by show (-9223372036854775808 : Int) ≤ 2; decide, by show (2 : Int) ≤ 9223372036854775807; decide⟩, by show t20.size ≤ maxLen; decide, by show tE.size ≤ maxLen; decide⟩
theorem ents_fact {w : World} {g b : Nat} (h1 : w.heap[g]? = some (.cells #[.string t10, .string tE, .int .i64 5, .string t20, .string tE, .int .i64 (-5)] 81 (0, 0)))
    (h2 : w.heap[b]? = some (.cells #[.string tA, .int .i64 2, .int .i64 3, .slice (some ⟨g, 0, none⟩) 2 2] 50 (0, 0))) : EntsAt w (some ⟨b, 0, none⟩) [factE] := by
  refine Or.inr ⟨b, 0, rfl, lt_of_heap h2, fun i x hx => ?_⟩
  have hi : i = 0 := by
    have := (List.getElem?_eq_some_iff.1 hx).1
    simp at this
    exact this
  subst hi
  simp only [List.getElem?_cons_zero, Option.some.injEq] at hx
  subst hx
  refine ⟨some ⟨g, 0, none⟩, 2, cell_of_heap h2 0, cell_of_heap h2 1, cell_of_heap h2 2, cell_of_heap h2 3, Or.inr ⟨g, 0, rfl, lt_of_heap h1, fun i x hx => ?_⟩⟩
  match i, hx with
  | 0, hx =>
    simp only [factE, List.getElem?_cons_zero, Option.some.injEq] at hx
    subst hx
    exact ⟨cell_of_heap h1 0, cell_of_heap h1 1, cell_of_heap h1 2⟩
  | 1, hx =>
    simp only [factE, List.getElem?_cons_succ, List.getElem?_cons_zero, Option.some.injEq] at hx
    subst hx
    exact ⟨cell_of_heap h1 3, cell_of_heap h1 4, cell_of_heap h1 5⟩
  | i + 2, hx => simp [factE] at hx

set_option maxRecDepth 100000 in
set_option maxHeartbeats 16000000 in
theorem parts_any (ao : Option Addr) (ca : Nat) (t : List EntryM) (w : World) (ha : EntsAt w ao t) (hok : ∀ e ∈ t, entOk e) (hm : t.length ≤ 9223372036854775807) (hlm : ∀ e ∈ t, e.lines.length ≤ 9223372036854775807) :
    Calls Try.prog 7 #[.slice ao t.length ca] w fun e w' => e = .returned (.bool true) ∧ Below w.heap.size w w' := by
  have HA := Lib.hid ha
  have HK := Lib.hid hok
  have HLM := Lib.hid hlm
  have htwo := two_any w
  obtain ⟨i0, hi0, hz0, hz1, hz2⟩ := info_parts infoEnt
  have HI0 := Lib.hid hi0
  have HZ0 := Lib.hid hz0
  have HZ1 := Lib.hid hz1
  have HZ2 := Lib.hid hz2
  unfold tA t10 t20 at htwo
  clear ha hok hlm hi0 hz0 hz1 hz2
  go_enter Try.func7, Try.ntmps7
  go_wp2_with fail
  refine htwo.mono ?_
  rintro e w1 ⟨hb1, g, rfl, hg⟩
  obtain ⟨W1, hW1⟩ : ∃ W1, W1 = w1.alloc (.cells #[.string ⟨#[97]⟩, .int .i64 2, .int .i64 3, .slice (some ⟨g, 0, none⟩) 2 2] 50) := ⟨_, rfl⟩
  have HB1 : Hid (Below w.heap.size w W1) := by show Below _ _ _; rw [hW1]; exact hb1.alloc hb1.size _
  have hg0 : W1.heap[g]? = w1.heap[g]? := by rw [hW1]; exact (MapKept.heap_alloc w1 _).2 g (lt_of_heap hg)
  have hg1 := hg0.trans hg
  have hg2 : W1.heap[w1.heap.size]? = some (.cells #[.string ⟨#[97]⟩, .int .i64 2, .int .i64 3, .slice (some ⟨g, 0, none⟩) 2 2] 50 (0, 0)) := by rw [hW1]; exact heap_new_at rfl _
  have hcall := trial_c 2 3 (some ⟨w1.heap.size, 0, none⟩) 1 [factE] W1 (ents_fact hg1 hg2) okFactE (by decide) (fun e he => by rw [List.mem_singleton.1 he]; decide)
  have HW1 := Lib.hid hW1
  clear htwo hb1 hg hg0 hg1 hg2 hW1
  go_wp2_with fail
  rw [← HW1.out]
  refine hcall.mono ?_
  rintro e w2 ⟨hb2, c1, so, sc, L, rfl, _, hL⟩
  obtain ⟨rfl, hL2⟩ := fact_len (show t10 ≠ t20 by decide) hL
  rw [errV_zero, hL2]
  have HB2 : Hid (Below w.heap.size w w2) := HB1.out.trans (hb2.mono HB1.out.size)
  have S0 : Hid (RowSt w2 [] 50 4 (.slice none 0 0) ([] : List GEnt).length (([] : List GEnt).flatMap encG) w2) := RowSt.start ⟨Below.refl _ _, fun p hp => by cases hp⟩
  clear hcall hb2 hL hL2 HW1 HB1
  go_wp2_with fail
  go_loopw [5, 6] (fun v i wr => ∃ (k : Nat) (G : List GEnt), k ≤ t.length ∧ k ≤ 30 ∧ i = .int .i64 (k : Int) ∧ G.length ≤ k ∧ Hid (RowSt w2 [] 50 4 v G.length (G.flatMap encG) wr) ∧ Hid (∀ g ∈ G, LinesAt w g.2.1 g.1.lines ∧ g.1 ∈ t ∧ inB g.1)) (fun _ i _ => t.length - (intOf i).toNat)
  case atStart => exact ⟨0, [], Nat.zero_le _, Nat.zero_le _, rfl, Nat.le_refl _, S0, fun g hg => by cases hg⟩
  case round =>
    clear S0
    obtain ⟨k, G, hk, hk30, rfl, hGk, HS, HG⟩ := hrel
    have HBW : Hid (Below w.heap.size w wr) := HB2.out.trans (HS.out.fr.below.mono HB2.out.size)
    by_cases hlt : k < t.length ∧ k < 30
    · obtain ⟨hlt, hl30⟩ := hlt
      obtain ⟨x, hx⟩ := getElem?_ex hlt
      have hxm := List.mem_of_getElem? hx
      obtain ⟨b9, off, rfl, hb9, hcc⟩ := HA.out.resolve_left (fun e => by rw [e] at hlt; simp at hlt)
      obtain ⟨lao, lc, z0, z1, z2, z3, hln⟩ := hcc k x hx
      have x0 := (HBW.out.cell (p := ⟨b9, _, none⟩) hb9).trans z0
      have x1 := (HBW.out.cell (p := ⟨b9, _, none⟩) hb9).trans z1
      have x2 := (HBW.out.cell (p := ⟨b9, _, none⟩) hb9).trans z2
      have x3 := (HBW.out.cell (p := ⟨b9, _, none⟩) hb9).trans z3
      have hi1 : (k : Int) < (t.length : Int) := by omega
      have hi0 : (0 : Int) ≤ (k : Int) := by omega
      have hi3 : (k : Int) < 30 := by omega
      clear hcc z0 z1 z2 z3 hx
      by_cases h1 : 1 ≤ x.ent
      · by_cases h2 : x.ent ≤ 3
        · by_cases h3 : 1 ≤ x.per
          · by_cases h4 : x.per ≤ 4
            · obtain ⟨W8, hW8⟩ : ∃ W8, W8 = wr.alloc (.cells #[.string x.ref, .int .i64 x.ent, .int .i64 x.per, .slice lao x.lines.length lc] 50) := ⟨_, rfl⟩
              have S2 : Hid (RowSt w2 [] 50 4 u5 G.length (G.flatMap encG) W8) := by
                show RowSt _ _ _ _ _ _ _ _
                rw [hW8]
                exact HS.out.later ((Below.refl _ _).alloc (Nat.le_refl _) _)
              have hnew : W8.heap[wr.heap.size]? = some (.cells #[.string x.ref, .int .i64 x.ent, .int .i64 x.per, .slice lao x.lines.length lc] 50 (0, 0)) := by rw [hW8]; exact heap_new_at rfl _
              have hszW : W8.heap.size = wr.heap.size + 1 := by rw [hW8]; simp
              have hsz6 := HS.out.fr.below.size
              have HW8 := Lib.hid hW8
              have HG2 : Hid (∀ g ∈ G ++ [(x, lao, lc)], LinesAt w g.2.1 g.1.lines ∧ g.1 ∈ t ∧ inB g.1) := fun g hg => by
                rcases List.mem_append.1 hg with hg | hg
                · exact HG.out g hg
                · rw [List.mem_singleton.1 hg]; exact ⟨hln, hxm, ⟨h1, h2⟩, h3, h4⟩
              obtain ⟨uo, um, uc, rfl⟩ := ownsRow_form S2.out.row
              clear hW8 HS HG hln hxm
              go_wp2_with (at_builtin; rw [← HW8.out]; go_must (refine wpList_append_own_at (o := ⟨some 77, _, _, _, _, _⟩) _ rfl (.tmp 71) (.tmp 76) 46 rfl w2.heap.size 50 i0 (.agg #[.string ⟨#[]⟩, .int .i64 0, .int .i64 0, .slice none 0 0]) 4 56 Try.underlying46 HI0.out HZ0.out HZ1.out HZ2.out rfl (by decide) (.slice uo um uc) G.length (G.flatMap encG) rfl S2.out.row ⟨wr.heap.size, 0, none⟩ 1 1 [.string x.ref, .int .i64 x.ent, .int .i64 x.per, .slice lao x.lines.length lc] rfl rfl (World.news_of_block (cs := #[.string x.ref, .int .i64 x.ent, .int .i64 x.per, .slice lao x.lines.length lc]) (t := 50) (fr := (0, 0)) hnew) (by simp [Value.oneCell']) (by unfold maxLen; omega) (by omega) (by omega) ?_); intro v1 wn hown1 hgrow1 _ hblk1)
              have HMV : Moved W8 wn (.slice uo um uc) v1 := ⟨Only.of_grown hgrow1, hblk1.imp id (fun e => ⟨_, e, Nat.le_refl _⟩)⟩
              have HS5 : Hid (RowSt w2 [] 50 4 v1 (G ++ [(x, lao, lc)]).length ((G ++ [(x, lao, lc)]).flatMap encG) wn) := S2.out.moved (ownsRow_cast hown1 (by simp) (by simp [encG])) HMV
              have hgl : (G ++ [(x, lao, lc)]).length ≤ k + 1 := by simp; omega
              clear hown1 hgrow1 hblk1 HMV S2 HW8 hnew hszW x0 x1 x2 x3
              go_wp2_with fail
              go_roundw
              case rel => exact ⟨k + 1, _, by omega, by omega, by go_num, hgl, HS5, HG2⟩
              case measure => simp [intOf]; omega
            · go_wp2_with fail
              go_roundw
              case rel => exact ⟨k + 1, G, by omega, by omega, by go_num, by omega, HS, HG⟩
              case measure => simp [intOf]; omega
          · go_wp2_with fail
            go_roundw
            case rel => exact ⟨k + 1, G, by omega, by omega, by go_num, by omega, HS, HG⟩
            case measure => simp [intOf]; omega
        · go_wp2_with fail
          go_roundw
          case rel => exact ⟨k + 1, G, by omega, by omega, by go_num, by omega, HS, HG⟩
          case measure => simp [intOf]; omega
      · go_wp2_with fail
        go_roundw
        case rel => exact ⟨k + 1, G, by omega, by omega, by go_num, by omega, HS, HG⟩
        case measure => simp [intOf]; omega
    · have HGL := Lib.hid HS.out.row
      have HBW2 := Lib.hid HS.out.fr.below
      by_cases hlt2 : k < t.length
      · have hi2 : (k : Int) < (t.length : Int) := by omega
        have hi30 : ¬ (k : Int) < 30 := by omega
        obtain ⟨go, gc, rfl, hgo⟩ := ents_of_row HGL.out rfl (fun g hg => (HG.out g hg).1.below HBW.out)
        obtain ⟨GL, hGL⟩ : ∃ GL, GL = G.map (·.1) := ⟨_, rfl⟩
        have hin0 : ∀ x ∈ GL, x ∈ t ∧ inB x := fun x hx => by
          rw [hGL] at hx
          obtain ⟨y, hy, rfl⟩ := List.mem_map.1 hx
          exact (HG.out y hy).2
        have hgl : GL.length ≤ 30 := by rw [hGL, List.length_map]; omega
        rw [← hGL] at hgo ⊢
        have HGO := Lib.hid hgo
        have HIN : Hid (∀ x ∈ GL, inB x) := fun x hx => (hin0 x hx).2
        have HKG : Hid (∀ e ∈ GL, entOk e) := fun x hx => HK.out x (hin0 x hx).1
        have HLG : Hid (∀ e ∈ GL, e.lines.length ≤ 9223372036854775807) := fun x hx => HLM.out x (hin0 x hx).1
        have hcall := balances_c 4 go gc GL wr HGO.out HKG.out (by omega) HLG.out
        clear hgo hin0 hGL HGL HG HS HBW2
        go_wp2_with fail
        refine hcall.mono ?_
        rintro e w3 ⟨hb3, cw, wo, wc, Wt, rfl, hW, hMW⟩
        have HB3 : Hid (Below w.heap.size w w3) := HBW.out.trans (hb3.mono HBW.out.size)
        have HGO3 := Lib.hid (HGO.out.below hb3)
        have HW3 := Lib.hid hW
        have HMW := Lib.hid hMW
        clear hcall hb3 HBW HGO hW hMW
        have hcall := balances_c 0 go gc GL w3 HGO3.out HKG.out (by omega) HLG.out
        go_wp2_with fail
        refine hcall.mono ?_
        rintro e w4 ⟨hb4, cn, no, nc, N, rfl, hN, hMN⟩
        have HB4 : Hid (Below w.heap.size w w4) := HB3.out.trans (hb4.mono HB3.out.size)
        have HGO4 := Lib.hid (HGO3.out.below hb4)
        have HW4 := Lib.hid (HW3.out.below hb4)
        clear hcall hb4 HB3 HGO3 HW3 hN
        by_cases c0 : cw = 0
        · obtain ⟨rfl, rfl⟩ := none_is HIN.out HMW.out hMN c0
          subst c0
          rw [errV_zero, List.length_nil]
          have hwl := HMW.out.len
          clear hMN
          go_wp2_with fail
          go_loopw [11, 12] (fun v i wr => ∃ (so : Option Addr) (sc : Nat) (A : List BalM) (m : Nat), v = .slice so A.length sc ∧ m ≤ 3 ∧ i = .int .i64 ((m : Int) + 1) ∧ Hid (AllIs GL (4 * m) A) ∧ Hid (∀ x ∈ A, plOk (plOf x)) ∧ Hid (BalsAt wr so A) ∧ Hid (Below w4.heap.size w4 wr)) (fun _ i _ => (4 - intOf i).toNat)
          case atStart => exact ⟨none, 0, [], 0, rfl, Nat.zero_le _, rfl, all_start GL, fun x hx => (by cases hx), Or.inl rfl, Below.refl _ _⟩
          case round =>
            obtain ⟨so, sc, A, m, rfl, hm3, rfl, HAL, HPL, HAT, HBW⟩ := hrel
            have HBB : Hid (Below w.heap.size w wr) := HB4.out.trans (HBW.out.mono HB4.out.size)
            by_cases hlt3 : m < 3
            · have hd : (m : Int) + 1 ≤ 3 := by omega
              go_wp2_with fail
              go_loopw [11, 13] (fun v i wr => ∃ (so : Option Addr) (sc : Nat) (A : List BalM) (n : Nat), v = .slice so A.length sc ∧ n ≤ 4 ∧ i = .int .i64 ((n : Int) + 1) ∧ Hid (AllIs GL (4 * m + n) A) ∧ Hid (∀ x ∈ A, plOk (plOf x)) ∧ Hid (BalsAt wr so A) ∧ Hid (Below w4.heap.size w4 wr)) (fun _ i _ => (5 - intOf i).toNat)
              case atStart => exact ⟨so, sc, A, 0, rfl, Nat.zero_le _, rfl, HAL, HPL, HAT, HBW⟩
              case round =>
                clear HAL HPL HAT HBW HBB
                obtain ⟨so, sc, A, n, rfl, hn4, rfl, HAL, HPL, HAT, HBW⟩ := hrel
                have HBB : Hid (Below w.heap.size w wr) := HB4.out.trans (HBW.out.mono HB4.out.size)
                have hal := (chk_iff.1 HAL.out.1).1
                by_cases hlt4 : n < 4
                · have hd4 : (n : Int) + 1 ≤ 4 := by omega
                  have hcall := trial_c ((m : Int) + 1) ((n : Int) + 1) go gc GL wr (HGO4.out.below HBW.out) HKG.out (by omega) HLG.out
                  have E1 : Hid ((((4 * m + n) / 4 + 1 : Nat) : Int) = (m : Int) + 1) := by show _ = _; omega
                  have E2 : Hid ((((4 * m + n) % 4 + 1 : Nat) : Int) = (n : Int) + 1) := by show _ = _; omega
                  go_wp2_with fail
                  refine hcall.mono ?_
                  rintro e w5 ⟨hb5, ct, to, tc, TT, rfl, hT, hMT⟩
                  have HB5 : Hid (Below w4.heap.size w4 w5) := HBW.out.trans (hb5.mono HBW.out.size)
                  have HA5 := Lib.hid (HAT.out.below hb5)
                  have HT5 := Lib.hid hT
                  have HMT := Lib.hid hMT
                  have htl := hMT.len
                  clear hcall hb5 hT hMT HAT HBW
                  have hcall := merge_c so sc A to tc TT w5 HA5.out HT5.out HPL.out (HMT.out.pl HKG.out) (by omega) (by omega)
                  go_wp2_with fail
                  refine hcall.mono ?_
                  rintro e w6 ⟨hb6, cm, mo, mc, M, rfl, hM, hMM⟩
                  have HB6 : Hid (Below w4.heap.size w4 w6) := HB5.out.trans (hb6.mono HB5.out.size)
                  have HBB6 : Hid (Below w.heap.size w w6) := HB4.out.trans (HB6.out.mono HB4.out.size)
                  have HM6 := Lib.hid hM
                  have HMM := Lib.hid hMM
                  clear hcall hb6 hM hMM HA5 HT5 HB5
                  by_cases ct0 : ct = 0
                  · have y1 := zeroC_yes ct0
                    by_cases cm0 : cm = 0
                    · have y2 := zeroC_yes cm0
                      have HAL2 : Hid (AllIs GL (4 * m + (n + 1)) M) := all_next (k := 4 * m + n) HAL.out (show SomeIs (pickTrial (((4 * m + n) / 4 + 1 : Nat) : Int) (((4 * m + n) % 4 + 1 : Nat) : Int)) GL ct TT from by rw [E1.out, E2.out]; exact HMT.out) HMM.out ct0 cm0
                      have HPL2 : Hid (∀ x ∈ M, plOk (plOf x)) := HMM.out.pl HPL.out (HMT.out.pl HKG.out)
                      clear ct0 cm0
                      go_wp2_with fail
                      go_roundw
                      case rel => exact ⟨mo, mc, M, n + 1, rfl, by omega, by go_num, HAL2, HPL2, HM6, HB6⟩
                      case measure => simp [intOf]; omega
                    · have y2 := zeroC_no cm0
                      clear ct0 cm0
                      go_wp2_with fail
                      go_ret
                      exact ⟨rfl, HBB6.out⟩
                  · have y1 := zeroC_no ct0
                    clear ct0
                    go_wp2_with fail
                    go_ret
                    exact ⟨rfl, HBB6.out⟩
                · obtain rfl : n = 4 := by omega
                  have HAL2 : Hid (AllIs GL (4 * (m + 1)) A) := by show AllIs _ _ _; rw [show 4 * (m + 1) = 4 * m + 4 by omega]; exact HAL.out
                  go_wp2_with fail
                  go_roundw
                  case rel => exact ⟨so, sc, A, m + 1, rfl, by omega, by go_num, HAL2, HPL, HAT, HBW⟩
                  case measure => simp [intOf]; omega
            · obtain rfl : m = 3 := by omega
              obtain rfl := all_end HIN.out HAL.out HMW.out rfl
              have hsame := same_b A wr so wo sc wc HAT.out (HW4.out.below HBW.out) (by omega)
              go_wp2_with fail
              refine hsame.mono ?_
              rintro e w7 ⟨rfl, hb7⟩
              have HB7 : Hid (Below w.heap.size w w7) := HBB.out.trans (hb7.mono HBB.out.size)
              clear hsame hb7
              go_wp2_with fail
              go_ret
              exact ⟨rfl, HB7.out⟩
        · have z1 := zeroC_no c0
          clear c0 hMN
          go_wp2_with fail
          go_ret
          exact ⟨rfl, HB4.out⟩
      · have hi2 : ¬ (k : Int) < (t.length : Int) := by omega
        obtain ⟨go, gc, rfl, hgo⟩ := ents_of_row HGL.out rfl (fun g hg => (HG.out g hg).1.below HBW.out)
        obtain ⟨GL, hGL⟩ : ∃ GL, GL = G.map (·.1) := ⟨_, rfl⟩
        have hin0 : ∀ x ∈ GL, x ∈ t ∧ inB x := fun x hx => by
          rw [hGL] at hx
          obtain ⟨y, hy, rfl⟩ := List.mem_map.1 hx
          exact (HG.out y hy).2
        have hgl : GL.length ≤ 30 := by rw [hGL, List.length_map]; omega
        rw [← hGL] at hgo ⊢
        have HGO := Lib.hid hgo
        have HIN : Hid (∀ x ∈ GL, inB x) := fun x hx => (hin0 x hx).2
        have HKG : Hid (∀ e ∈ GL, entOk e) := fun x hx => HK.out x (hin0 x hx).1
        have HLG : Hid (∀ e ∈ GL, e.lines.length ≤ 9223372036854775807) := fun x hx => HLM.out x (hin0 x hx).1
        have hcall := balances_c 4 go gc GL wr HGO.out HKG.out (by omega) HLG.out
        clear hgo hin0 hGL HGL HG HS HBW2
        go_wp2_with fail
        refine hcall.mono ?_
        rintro e w3 ⟨hb3, cw, wo, wc, Wt, rfl, hW, hMW⟩
        have HB3 : Hid (Below w.heap.size w w3) := HBW.out.trans (hb3.mono HBW.out.size)
        have HGO3 := Lib.hid (HGO.out.below hb3)
        have HW3 := Lib.hid hW
        have HMW := Lib.hid hMW
        clear hcall hb3 HBW HGO hW hMW
        have hcall := balances_c 0 go gc GL w3 HGO3.out HKG.out (by omega) HLG.out
        go_wp2_with fail
        refine hcall.mono ?_
        rintro e w4 ⟨hb4, cn, no, nc, N, rfl, hN, hMN⟩
        have HB4 : Hid (Below w.heap.size w w4) := HB3.out.trans (hb4.mono HB3.out.size)
        have HGO4 := Lib.hid (HGO3.out.below hb4)
        have HW4 := Lib.hid (HW3.out.below hb4)
        clear hcall hb4 HB3 HGO3 HW3 hN
        by_cases c0 : cw = 0
        · obtain ⟨rfl, rfl⟩ := none_is HIN.out HMW.out hMN c0
          subst c0
          rw [errV_zero, List.length_nil]
          have hwl := HMW.out.len
          clear hMN
          go_wp2_with fail
          go_loopw [11, 12] (fun v i wr => ∃ (so : Option Addr) (sc : Nat) (A : List BalM) (m : Nat), v = .slice so A.length sc ∧ m ≤ 3 ∧ i = .int .i64 ((m : Int) + 1) ∧ Hid (AllIs GL (4 * m) A) ∧ Hid (∀ x ∈ A, plOk (plOf x)) ∧ Hid (BalsAt wr so A) ∧ Hid (Below w4.heap.size w4 wr)) (fun _ i _ => (4 - intOf i).toNat)
          case atStart => exact ⟨none, 0, [], 0, rfl, Nat.zero_le _, rfl, all_start GL, fun x hx => (by cases hx), Or.inl rfl, Below.refl _ _⟩
          case round =>
            obtain ⟨so, sc, A, m, rfl, hm3, rfl, HAL, HPL, HAT, HBW⟩ := hrel
            have HBB : Hid (Below w.heap.size w wr) := HB4.out.trans (HBW.out.mono HB4.out.size)
            by_cases hlt3 : m < 3
            · have hd : (m : Int) + 1 ≤ 3 := by omega
              go_wp2_with fail
              go_loopw [11, 13] (fun v i wr => ∃ (so : Option Addr) (sc : Nat) (A : List BalM) (n : Nat), v = .slice so A.length sc ∧ n ≤ 4 ∧ i = .int .i64 ((n : Int) + 1) ∧ Hid (AllIs GL (4 * m + n) A) ∧ Hid (∀ x ∈ A, plOk (plOf x)) ∧ Hid (BalsAt wr so A) ∧ Hid (Below w4.heap.size w4 wr)) (fun _ i _ => (5 - intOf i).toNat)
              case atStart => exact ⟨so, sc, A, 0, rfl, Nat.zero_le _, rfl, HAL, HPL, HAT, HBW⟩
              case round =>
                clear HAL HPL HAT HBW HBB
                obtain ⟨so, sc, A, n, rfl, hn4, rfl, HAL, HPL, HAT, HBW⟩ := hrel
                have HBB : Hid (Below w.heap.size w wr) := HB4.out.trans (HBW.out.mono HB4.out.size)
                have hal := (chk_iff.1 HAL.out.1).1
                by_cases hlt4 : n < 4
                · have hd4 : (n : Int) + 1 ≤ 4 := by omega
                  have hcall := trial_c ((m : Int) + 1) ((n : Int) + 1) go gc GL wr (HGO4.out.below HBW.out) HKG.out (by omega) HLG.out
                  have E1 : Hid ((((4 * m + n) / 4 + 1 : Nat) : Int) = (m : Int) + 1) := by show _ = _; omega
                  have E2 : Hid ((((4 * m + n) % 4 + 1 : Nat) : Int) = (n : Int) + 1) := by show _ = _; omega
                  go_wp2_with fail
                  refine hcall.mono ?_
                  rintro e w5 ⟨hb5, ct, to, tc, TT, rfl, hT, hMT⟩
                  have HB5 : Hid (Below w4.heap.size w4 w5) := HBW.out.trans (hb5.mono HBW.out.size)
                  have HA5 := Lib.hid (HAT.out.below hb5)
                  have HT5 := Lib.hid hT
                  have HMT := Lib.hid hMT
                  have htl := hMT.len
                  clear hcall hb5 hT hMT HAT HBW
                  have hcall := merge_c so sc A to tc TT w5 HA5.out HT5.out HPL.out (HMT.out.pl HKG.out) (by omega) (by omega)
                  go_wp2_with fail
                  refine hcall.mono ?_
                  rintro e w6 ⟨hb6, cm, mo, mc, M, rfl, hM, hMM⟩
                  have HB6 : Hid (Below w4.heap.size w4 w6) := HB5.out.trans (hb6.mono HB5.out.size)
                  have HBB6 : Hid (Below w.heap.size w w6) := HB4.out.trans (HB6.out.mono HB4.out.size)
                  have HM6 := Lib.hid hM
                  have HMM := Lib.hid hMM
                  clear hcall hb6 hM hMM HA5 HT5 HB5
                  by_cases ct0 : ct = 0
                  · have y1 := zeroC_yes ct0
                    by_cases cm0 : cm = 0
                    · have y2 := zeroC_yes cm0
                      have HAL2 : Hid (AllIs GL (4 * m + (n + 1)) M) := all_next (k := 4 * m + n) HAL.out (show SomeIs (pickTrial (((4 * m + n) / 4 + 1 : Nat) : Int) (((4 * m + n) % 4 + 1 : Nat) : Int)) GL ct TT from by rw [E1.out, E2.out]; exact HMT.out) HMM.out ct0 cm0
                      have HPL2 : Hid (∀ x ∈ M, plOk (plOf x)) := HMM.out.pl HPL.out (HMT.out.pl HKG.out)
                      clear ct0 cm0
                      go_wp2_with fail
                      go_roundw
                      case rel => exact ⟨mo, mc, M, n + 1, rfl, by omega, by go_num, HAL2, HPL2, HM6, HB6⟩
                      case measure => simp [intOf]; omega
                    · have y2 := zeroC_no cm0
                      clear ct0 cm0
                      go_wp2_with fail
                      go_ret
                      exact ⟨rfl, HBB6.out⟩
                  · have y1 := zeroC_no ct0
                    clear ct0
                    go_wp2_with fail
                    go_ret
                    exact ⟨rfl, HBB6.out⟩
                · obtain rfl : n = 4 := by omega
                  have HAL2 : Hid (AllIs GL (4 * (m + 1)) A) := by show AllIs _ _ _; rw [show 4 * (m + 1) = 4 * m + 4 by omega]; exact HAL.out
                  go_wp2_with fail
                  go_roundw
                  case rel => exact ⟨so, sc, A, m + 1, rfl, by omega, by go_num, HAL2, HPL, HAT, HBW⟩
                  case measure => simp [intOf]; omega
            · obtain rfl : m = 3 := by omega
              obtain rfl := all_end HIN.out HAL.out HMW.out rfl
              have hsame := same_b A wr so wo sc wc HAT.out (HW4.out.below HBW.out) (by omega)
              go_wp2_with fail
              refine hsame.mono ?_
              rintro e w7 ⟨rfl, hb7⟩
              have HB7 : Hid (Below w.heap.size w w7) := HBB.out.trans (hb7.mono HBB.out.size)
              clear hsame hb7
              go_wp2_with fail
              go_ret
              exact ⟨rfl, HB7.out⟩
        · have z1 := zeroC_no c0
          clear c0 hMN
          go_wp2_with fail
          go_ret
          exact ⟨rfl, HB4.out⟩
end Go.Proofs.Ytbhndnjlplibmaa.lg
