/- LedgerEven walked. -/
import Derived.Test.YtbhndnjlplibmaaEv5
import Derived.Test.YtbhndnjlplibmaaLp3
import Derived.Deep.CutBlock
import Derived.Deep.DeepCutAuto
namespace Go.Proofs.Ytbhndnjlplibmaa.lg
open Go.RowKit

def t40 : ByteArray := ⟨#[52, 48]⟩
set_option maxRecDepth 100000 in
theorem entryF_any (w : World) : Calls Try.prog 18 #[.string tA, .int .i64 1, .int .i64 1, .string t10, .string t40, .string tE, .int .i64 5] w fun e w' => Below w.heap.size w w' ∧ ∃ g, e = .returned (.agg #[.string tA, .int .i64 1, .int .i64 1, .slice (some ⟨g, 0, none⟩) 2 2]) ∧ w'.heap[g]? = some (.cells #[.string t10, .string tE, .int .i64 5, .string t40, .string tE, .int .i64 (-5)] 81 (0, 0)) := by
  unfold tA t10 t40 tE
  obtain ⟨W, hW⟩ : ∃ W, W = (w.alloc (.cells #[.string ⟨#[97]⟩, .int .i64 1, .int .i64 1, .slice (some ⟨w.heap.size + 1, 0, none⟩) 2 2] 50)).alloc (.cells #[.string ⟨#[49, 48]⟩, .string ⟨#[69, 85, 82]⟩, .int .i64 5, .string ⟨#[52, 48]⟩, .string ⟨#[69, 85, 82]⟩, .int .i64 (-5)] 81) := ⟨_, rfl⟩
  have HB : Hid (Below w.heap.size w W) := by show Below _ _ _; rw [hW]; exact ((Below.refl _ _).alloc (Nat.le_refl _) _).alloc (by simp) _
  have h1 : W.heap[w.heap.size]? = some (.cells #[.string ⟨#[97]⟩, .int .i64 1, .int .i64 1, .slice (some ⟨w.heap.size + 1, 0, none⟩) 2 2] 50 (0, 0)) := by rw [hW]; exact ((MapKept.heap_alloc _ _).2 _ (by simp)).trans (heap_new_at rfl _)
  have H2 : Hid (W.heap[w.heap.size + 1]? = some (.cells #[.string ⟨#[49, 48]⟩, .string ⟨#[69, 85, 82]⟩, .int .i64 5, .string ⟨#[52, 48]⟩, .string ⟨#[69, 85, 82]⟩, .int .i64 (-5)] 81 (0, 0))) := by show _ = _; rw [hW]; exact heap_new_at (by simp) _
  have k0 : W.cell? ⟨w.heap.size, 0, none⟩ = some (.string ⟨#[97]⟩) := cell_of_heap h1 0
  have k1 : W.cell? ⟨w.heap.size, 1, none⟩ = some (.int .i64 1) := cell_of_heap h1 1
  have k2 : W.cell? ⟨w.heap.size, 2, none⟩ = some (.int .i64 1) := cell_of_heap h1 2
  have k3 : W.cell? ⟨w.heap.size, 3, none⟩ = some (.slice (some ⟨w.heap.size + 1, 0, none⟩) 2 2) := cell_of_heap h1 3
  have HW := Lib.hid hW
  have H1 := Lib.hid h1
  clear hW h1
  go_enter Try.func18, Try.ntmps18
  go_wp2_with fail
  rw [← HW.out]
  (try simp only [Exit.inBlock, Exit.then])
  refine bodyPost_ret (results_cell_row rfl _ W w.heap.size 50 #[.string ⟨#[97]⟩, .int .i64 1, .int .i64 1, .slice (some ⟨w.heap.size + 1, 0, none⟩) 2 2] (0, 0) _ rfl H1.out Try.underlying50 rfl (by kernel_rfl)) rfl ?_
  exact ⟨HB.out, _, rfl, H2.out⟩
def factE1 : EntryM := ⟨tA, 1, 1, [⟨t10, tE, 5⟩, ⟨t40, tE, -5⟩]⟩
theorem okFactE1 : ∀ e ∈ [factE1], entOk e := fun e he l hl => by
  rw [List.mem_singleton.1 he] at hl ⊢
  simp only [factE1, List.mem_cons, List.not_mem_nil, or_false] at hl
  rcases hl with rfl | rfl
  · exact ⟨⟨by show (-9223372036854775808 : Int) ≤ 1; decide, by show (1 : Int) ≤ 9223372036854775807; decide⟩, by show t10.size ≤ maxLen; decide, by show tE.size ≤ maxLen; decide⟩
  · exact ⟨⟨by show (-9223372036854775808 : Int) ≤ 1; decide, by show (1 : Int) ≤ 9223372036854775807; decide⟩, by show t40.size ≤ maxLen; decide, by show tE.size ≤ maxLen; decide⟩
theorem ents_fact1 {w : World} {g b : Nat} (h1 : w.heap[g]? = some (.cells #[.string t10, .string tE, .int .i64 5, .string t40, .string tE, .int .i64 (-5)] 81 (0, 0)))
    (h2 : w.heap[b]? = some (.cells #[.string tA, .int .i64 1, .int .i64 1, .slice (some ⟨g, 0, none⟩) 2 2] 50 (0, 0))) : EntsAt w (some ⟨b, 0, none⟩) [factE1] := by
  refine Or.inr ⟨b, 0, rfl, lt_of_heap h2, fun i x hx => ?_⟩
  have hi : i = 0 := by
    have := (List.getElem?_eq_some_iff.1 hx).1
    simp at this
    exact this
  subst hi
  simp only [List.getElem?_cons_zero, Option.some.injEq] at hx
  subst hx
  refine ⟨some ⟨g, 0, none⟩, 2, cell_of_heap h2 0, cell_of_heap h2 1, cell_of_heap h2 2, cell_of_heap h2 3, Or.inr ⟨g, 0, rfl, lt_of_heap h1, fun i x hx => ?_⟩⟩
  match i, hx with
  | 0, hx =>
    simp only [factE1, List.getElem?_cons_zero, Option.some.injEq] at hx
    subst hx
    exact ⟨cell_of_heap h1 0, cell_of_heap h1 1, cell_of_heap h1 2⟩
  | 1, hx =>
    simp only [factE1, List.getElem?_cons_succ, List.getElem?_cons_zero, Option.some.injEq] at hx
    subst hx
    exact ⟨cell_of_heap h1 3, cell_of_heap h1 4, cell_of_heap h1 5⟩
  | i + 2, hx => simp [factE1] at hx
theorem less_fact : lessS t10 t40 = true := by unfold lessS; rw [ByteArray.toList_eq, ByteArray.toList_eq]; rfl
/-- the entries that are good -/
def GoodSt (w : World) (wr : World) (v : Value) (G : List GEnt) : Prop := RowSt w [] 50 4 v G.length (G.flatMap encG) wr

set_option maxRecDepth 100000 in
set_option maxHeartbeats 4000000 in
theorem even_any (co : Option Addr) (cc : Nat) (cs : List AccM) (ao : Option Addr) (ca : Nat) (t : List EntryM) (ent per : Int) (cur : ByteArray) (w : World) (hcs : AccsAt w co cs) (hcm : cs.length ≤ 9223372036854775807) (hcc : cs.length ≤ cc) (hcn : ∀ a ∈ cs, a.code.size ≤ 9223372036854775807 ∧ a.name.size ≤ 9223372036854775807)
    (ha : EntsAt w ao t) (hok : ∀ e ∈ t, entOk e) (hm : t.length ≤ 9223372036854775807) (hlm : ∀ e ∈ t, e.lines.length ≤ 9223372036854775807) :
    Calls Try.prog 8 #[.slice co cs.length cc, .slice ao t.length ca, .int .i64 ent, .int .i64 per, .string cur] w fun e w' => e = .returned (.bool true) ∧ Below w.heap.size w w' := by
  have HA := Lib.hid ha
  have HK := Lib.hid hok
  have HLM := Lib.hid hlm
  have hentry := fun (x : EntryM) (lao : Option Addr) (lc : Nat) (hx : x ∈ t) (W : World) (hW : Below w.heap.size w W) (hl : LinesAt w lao x.lines) => entry_any co cc cs x lao lc W (hcs.below hW) hcm hcc hcn (hl.below hW) (hlm x hx)
  have HENT := Lib.hid hentry
  have htwo := entryF_any w
  obtain ⟨i0, hi0, hz0, hz1, hz2⟩ := info_parts infoEnt
  have HI0 := Lib.hid hi0
  have HZ0 := Lib.hid hz0
  have HZ1 := Lib.hid hz1
  have HZ2 := Lib.hid hz2
  unfold tA t10 t40 tE at htwo
  clear ha hok hlm hi0 hz0 hz1 hz2 hcs hcc hcn hentry
  go_enter Try.func8, Try.ntmps8
  go_wp2_with fail
  refine htwo.mono ?_
  rintro e w1 ⟨hb1, g, rfl, hg⟩
  obtain ⟨W1, hW1⟩ : ∃ W1, W1 = w1.alloc (.cells #[.string ⟨#[97]⟩, .int .i64 1, .int .i64 1, .slice (some ⟨g, 0, none⟩) 2 2] 50) := ⟨_, rfl⟩
  have HB1 : Hid (Below w.heap.size w W1) := by show Below _ _ _; rw [hW1]; exact hb1.alloc hb1.size _
  have hg0 : W1.heap[g]? = w1.heap[g]? := by rw [hW1]; exact (MapKept.heap_alloc w1 _).2 g (lt_of_heap hg)
  have hg1 := hg0.trans hg
  have hg2 : W1.heap[w1.heap.size]? = some (.cells #[.string ⟨#[97]⟩, .int .i64 1, .int .i64 1, .slice (some ⟨g, 0, none⟩) 2 2] 50 (0, 0)) := by rw [hW1]; exact heap_new_at rfl _
  have hcall := balances_c 1 (some ⟨w1.heap.size, 0, none⟩) 1 [factE1] W1 (ents_fact1 hg1 hg2) okFactE1 (by decide) (fun e he => by rw [List.mem_singleton.1 he]; decide)
  have HW1 := Lib.hid hW1
  clear htwo hb1 hg hg0 hg1 hg2 hW1
  go_wp2_with fail
  rw [← HW1.out]
  refine hcall.mono ?_
  rintro e w2 ⟨hb2, c1, so, sc, L, rfl, hLA, hL⟩
  obtain ⟨rfl, rfl⟩ := factE_is less_fact hL
  rw [errV_zero]
  obtain ⟨b9, off, rfl, _, hcell⟩ := hLA.resolve_left (by simp)
  have k3 := (hcell 0 ⟨1, t10, tE, 5⟩ rfl).2.2.2
  rw [Nat.zero_mul, Nat.add_zero] at k3
  have HB2 : Hid (Below w.heap.size w w2) := HB1.out.trans (hb2.mono HB1.out.size)
  have S0 : Hid (GoodSt w2 w2 (.slice none 0 0) []) := RowSt.start ⟨Below.refl _ _, fun p hp => by cases hp⟩
  clear hcall hb2 hL HW1 HB1 hcell hLA
  go_upto_block 0 with (fail)
  clear k3
  go_cut [13] (fun v wx => ∃ G : List GEnt, G.length ≤ 60 ∧ Hid (GoodSt w2 wx v G) ∧ Hid (∀ g ∈ G, LinesAt w g.2.1 g.1.lines ∧ g.1 ∈ t ∧ Good g.1))
  case first =>
    go_wp2_with fail
    go_loopw [13, 14] (fun v i wr => ∃ (k : Nat) (G : List GEnt), k ≤ t.length ∧ k ≤ 60 ∧ i = .int .i64 (k : Int) ∧ G.length ≤ k ∧ Hid (GoodSt w2 wr v G) ∧ Hid (∀ g ∈ G, LinesAt w g.2.1 g.1.lines ∧ g.1 ∈ t ∧ Good g.1)) (fun _ i _ => t.length - (intOf i).toNat)
    case atStart => exact ⟨0, [], Nat.zero_le _, Nat.zero_le _, rfl, Nat.le_refl _, S0, fun g hg => by cases hg⟩
    case round =>
      clear S0
      obtain ⟨k, G, hk, hk60, rfl, hGk, HS, HG⟩ := hrel
      have HBW : Hid (Below w.heap.size w wr) := HB2.out.trans (HS.out.fr.below.mono HB2.out.size)
      by_cases hlt : k < t.length
      · have hi1 : (k : Int) < (t.length : Int) := by omega
        have hi0 : (0 : Int) ≤ (k : Int) := by omega
        by_cases hl60 : k < 60
        · have hi60 : (k : Int) < 60 := by omega
          obtain ⟨x, hx⟩ := getElem?_ex hlt
          have hxm := List.mem_of_getElem? hx
          obtain ⟨b9, off, rfl, hb9, hcc⟩ := HA.out.resolve_left (fun e => by rw [e] at hlt; simp at hlt)
          obtain ⟨lao, lc, z0, z1, z2, z3, hln⟩ := hcc k x hx
          have x0 := (HBW.out.cell (p := ⟨b9, _, none⟩) hb9).trans z0
          have x1 := (HBW.out.cell (p := ⟨b9, _, none⟩) hb9).trans z1
          have x2 := (HBW.out.cell (p := ⟨b9, _, none⟩) hb9).trans z2
          have x3 := (HBW.out.cell (p := ⟨b9, _, none⟩) hb9).trans z3
          have hcall := HENT.out x lao lc hxm wr HBW.out hln
          have HLN := Lib.hid hln
          have HXM := Lib.hid hxm
          have HZ : Hid (∀ W, Below w.heap.size w W → W.cell? ⟨b9, off + k * 4, none⟩ = some (.string x.ref) ∧ W.cell? ⟨b9, off + k * 4 + 1, none⟩ = some (.int .i64 x.ent) ∧ W.cell? ⟨b9, off + k * 4 + 2, none⟩ = some (.int .i64 x.per) ∧ W.cell? ⟨b9, off + k * 4 + 3, none⟩ = some (.slice lao x.lines.length lc)) := fun W hW =>
            ⟨(hW.cell (p := ⟨b9, _, none⟩) hb9).trans z0, (hW.cell (p := ⟨b9, _, none⟩) hb9).trans z1, (hW.cell (p := ⟨b9, _, none⟩) hb9).trans z2, (hW.cell (p := ⟨b9, _, none⟩) hb9).trans z3⟩
          clear hcc z0 z1 z2 z3 hx hln hxm
          go_wp2_with fail
          refine hcall.mono ?_
          rintro e w3 ⟨n, hn, rfl, hb3⟩
          have HN := Lib.hid hn
          have HB3 : Hid (Below w.heap.size w w3) := HBW.out.trans (hb3.mono HBW.out.size)
          have HS3 : Hid (GoodSt w2 w3 u13 G) := HS.out.later hb3
          clear hcall hb3 hn x0 x1 x2 x3 HS
          cases hz : (n == 0) with
          | false =>
            go_wp2_with fail
            go_roundw
            case rel => exact ⟨k + 1, G, by omega, by omega, by go_num, by omega, HS3, HG⟩
            case measure => simp [intOf]; omega
          | true =>
            have HGX : Hid (Good x) := HN.out (by simpa using hz)
            obtain ⟨x0, x1, x2, x3⟩ := HZ.out w3 HB3.out
            obtain ⟨W8, hW8⟩ : ∃ W8, W8 = w3.alloc (.cells #[.string x.ref, .int .i64 x.ent, .int .i64 x.per, .slice lao x.lines.length lc] 50) := ⟨_, rfl⟩
            have S2 : Hid (RowSt w2 [] 50 4 u13 G.length (G.flatMap encG) W8) := by
              show RowSt _ _ _ _ _ _ _ _
              rw [hW8]
              exact RowSt.later HS3.out ((Below.refl _ _).alloc (Nat.le_refl _) _)
            have hnew : W8.heap[w3.heap.size]? = some (.cells #[.string x.ref, .int .i64 x.ent, .int .i64 x.per, .slice lao x.lines.length lc] 50 (0, 0)) := by rw [hW8]; exact heap_new_at rfl _
            have hszW : W8.heap.size = w3.heap.size + 1 := by rw [hW8]; simp
            have hsz6 : w2.heap.size ≤ w3.heap.size := RowSt.fr HS3.out |>.below.size
            have HW8 := Lib.hid hW8
            have HG2 : Hid (∀ g ∈ G ++ [(x, lao, lc)], LinesAt w g.2.1 g.1.lines ∧ g.1 ∈ t ∧ Good g.1) := fun g hg => by
              rcases List.mem_append.1 hg with hg | hg
              · exact HG.out g hg
              · rw [List.mem_singleton.1 hg]; exact ⟨HLN.out, HXM.out, HGX.out⟩
            obtain ⟨uo, um, uc, rfl⟩ := ownsRow_form S2.out.row
            clear hW8 HS3 HG HLN HXM HZ HN HGX
            go_wp2_with (at_builtin; rw [← HW8.out]; go_must (refine wpList_append_own_at (o := ⟨some 72, _, _, _, _, _⟩) _ rfl (.tmp 66) (.tmp 71) 46 rfl w2.heap.size 50 i0 (.agg #[.string ⟨#[]⟩, .int .i64 0, .int .i64 0, .slice none 0 0]) 4 56 Try.underlying46 HI0.out HZ0.out HZ1.out HZ2.out rfl (by decide) (.slice uo um uc) G.length (G.flatMap encG) rfl S2.out.row ⟨w3.heap.size, 0, none⟩ 1 1 [.string x.ref, .int .i64 x.ent, .int .i64 x.per, .slice lao x.lines.length lc] rfl rfl (World.news_of_block (cs := #[.string x.ref, .int .i64 x.ent, .int .i64 x.per, .slice lao x.lines.length lc]) (t := 50) (fr := (0, 0)) hnew) (by simp [Value.oneCell']) (by unfold maxLen; omega) (by omega) (by omega) ?_); intro v1 wn hown1 hgrow1 _ hblk1)
            have HMV : Moved W8 wn (.slice uo um uc) v1 := ⟨Only.of_grown hgrow1, hblk1.imp id (fun e => ⟨_, e, Nat.le_refl _⟩)⟩
            have HS5 : Hid (GoodSt w2 wn v1 (G ++ [(x, lao, lc)])) := S2.out.moved (ownsRow_cast hown1 (by simp) (by simp [encG])) HMV
            have hgl : (G ++ [(x, lao, lc)]).length ≤ k + 1 := by simp; omega
            clear hown1 hgrow1 hblk1 HMV S2 HW8 hnew hszW x0 x1 x2 x3
            go_wp2_with fail
            go_roundw
            case rel => exact ⟨k + 1, _, by omega, by omega, by go_num, hgl, HS5, HG2⟩
            case measure => simp [intOf]; omega
        · have hi60 : ¬ (k : Int) < 60 := by omega
          go_wp2_with fail
          go_meet
          exact ⟨G, by omega, HS, HG⟩
      · have hi1 : ¬ (k : Int) < (t.length : Int) := by omega
        go_wp2_with fail
        go_meet
        exact ⟨G, by omega, HS, HG⟩
  case rest =>
    obtain ⟨G, hG60, HS, HG⟩ := hcut
    obtain ⟨w3, hw3⟩ : ∃ w3 : World, w3 = wc := ⟨_, rfl⟩
    subst hw3
    have HBW : Hid (Below w.heap.size w w3) := HB2.out.trans (HS.out.fr.below.mono HB2.out.size)
    obtain ⟨go, gc, rfl, hgo⟩ := ents_of_row HS.out.row rfl (fun g hg => (HG.out g hg).1.below HBW.out)
    obtain ⟨GL, hGL⟩ : ∃ GL, GL = G.map (·.1) := ⟨_, rfl⟩
    have hin0 : ∀ x ∈ GL, x ∈ t ∧ Good x := fun x hx => by
      rw [hGL] at hx
      obtain ⟨y, hy, rfl⟩ := List.mem_map.1 hx
      exact (HG.out y hy).2
    have hgl : GL.length ≤ 60 := by rw [hGL, List.length_map]; omega
    rw [← hGL] at hgo ⊢
    have HGO := Lib.hid hgo
    have HIN : Hid (∀ x ∈ GL, Good x) := fun x hx => (hin0 x hx).2
    have HKG : Hid (∀ e ∈ GL, entOk e) := fun x hx => HK.out x (hin0 x hx).1
    have HLG : Hid (∀ e ∈ GL, e.lines.length ≤ 9223372036854775807) := fun x hx => HLM.out x (hin0 x hx).1
    clear hgo hin0 hGL HG HS HB2 HA HK HLM HENT S0 HI0 HZ0 HZ1 HZ2
    by_cases hp1 : per < 1
    · have e1 : decide (per < 1) = true := decide_eq_true hp1
      go_wp2_with fail
      go_ret
      exact ⟨rfl, HBW.out⟩
    have e1 : decide (per < 1) = false := decide_eq_false hp1
    by_cases hp2 : 120 < per
    · have e2 : decide (120 < per) = true := decide_eq_true hp2
      go_wp2_with fail
      go_ret
      exact ⟨rfl, HBW.out⟩
    have e2 : decide (120 < per) = false := decide_eq_false hp2
    have hcall := balances_c per go gc GL w3 HGO.out HKG.out (by omega) HLG.out
    go_wp2_with fail
    refine hcall.mono ?_
    rintro e w4 ⟨hb4, cw, wo, wcc, Wt, rfl, hW, hMW⟩
    have HB4 : Hid (Below w.heap.size w w4) := HBW.out.trans (hb4.mono HBW.out.size)
    have HGO4 := Lib.hid (HGO.out.below hb4)
    have HW4 := Lib.hid hW
    have HMW := Lib.hid hMW
    clear hcall hb4 HBW HGO hW hMW e1 e2
    have hcall := balances_c (per - 1) go gc GL w4 HGO4.out HKG.out (by omega) HLG.out
    go_wp2_with fail
    refine hcall.mono ?_
    rintro e w5 ⟨hb5, cn, no, nc, N, rfl, hN, hMN⟩
    have HB5 : Hid (Below w.heap.size w w5) := HB4.out.trans (hb5.mono HB4.out.size)
    have HGO5 := Lib.hid (HGO4.out.below hb5)
    have HW5 := Lib.hid (HW4.out.below hb5)
    have HN5 := Lib.hid hN
    have HMN := Lib.hid hMN
    clear hcall hb5 HB4 HGO4 HW4 hN hMN
    have hwl := HMW.out.len
    have hnl := HMN.out.len
    by_cases c0 : cw = 0
    · by_cases d0 : cn = 0
      · subst c0 d0
        rw [errV_zero]
        go_wp2_with fail
        go_loopw [20, 21] (fun sv i wr => ∃ (k : Nat) (s : Int), k ≤ Wt.length ∧ i = .int .i64 (k : Int) ∧ sv = .int .i64 s ∧ Hid (s = wrap64 (sumQ (atEC ent cur) (Wt.take k))) ∧ w5 = wr) (fun _ i _ => Wt.length - (intOf i).toNat)
        case atStart => exact ⟨0, 0, Nat.zero_le _, rfl, rfl, by show _ = _; rw [List.take_zero]; show (0 : Int) = wrap64 0; rw [wrap64_eq]; rfl, rfl⟩
        case round =>
          obtain ⟨k, s, hk, rfl, rfl, HS, rfl⟩ := hrel
          have hk0 : (0 : Int) ≤ (k : Int) := by omega
          by_cases hlt : k < Wt.length
          · have hkI : (k : Int) < (Wt.length : Int) := by omega
            have hkd : decide ((k : Int) < (Wt.length : Int)) = true := decide_eq_true hkI
            obtain ⟨y, hy⟩ := getElem?_ex hlt
            obtain ⟨b8, off8, rfl, hb8, hcc⟩ := HW5.out.resolve_left (fun e => by rw [e] at hlt; simp at hlt)
            obtain ⟨x0, x1, x2, x3⟩ := hcc k y hy
            have hsn : sumQ (atEC ent cur) (Wt.take (k + 1)) = sumQ (atEC ent cur) (Wt.take k) + if atEC ent cur (plOf y) = true then y.amt else 0 := by
              obtain ⟨hk', rfl⟩ := List.getElem?_eq_some_iff.1 hy
              rw [List.take_succ_eq_append_getElem hk', sumQ_append, sumQ_cons]
              simp [sumQ]
            by_cases he : y.ent = ent
            · have q1 : (y.ent == ent) = true := by simp [he]
              cases hc : sameS y.cur cur with
              | true =>
                have q2 : (y.cur.toList == cur.toList) = true := hc
                have HS2 : Hid (wrap64 (s + y.amt) = wrap64 (sumQ (atEC ent cur) (Wt.take (k + 1)))) := by
                  show _ = _
                  rw [hsn, if_pos (by unfold atEC plOf; simp [he, hc]), HS.out, wrap64_add]
                clear hsn hcc hy he hc HS
                go_wp2_with fail
                go_roundw
                case rel => exact ⟨k + 1, _, by omega, by go_num, rfl, HS2, trivial⟩
                case measure => simp [intOf]; omega
              | false =>
                have q2 : (y.cur.toList == cur.toList) = false := hc
                have HS2 : Hid (s = wrap64 (sumQ (atEC ent cur) (Wt.take (k + 1)))) := by
                  show _ = _
                  rw [hsn, if_neg (by unfold atEC plOf; simp [hc]), Int.add_zero, HS.out]
                clear hsn hcc hy he hc HS
                go_wp2_with fail
                go_roundw
                case rel => exact ⟨k + 1, _, by omega, by go_num, rfl, HS2, trivial⟩
                case measure => simp [intOf]; omega
            · have q1 : (y.ent == ent) = false := by simp [he]
              have HS2 : Hid (s = wrap64 (sumQ (atEC ent cur) (Wt.take (k + 1)))) := by
                show _ = _
                rw [hsn, if_neg (by unfold atEC plOf; simp [he]), Int.add_zero, HS.out]
              clear hsn hcc hy he HS
              go_wp2_with fail
              go_roundw
              case rel => exact ⟨k + 1, _, by omega, by go_num, rfl, HS2, trivial⟩
              case measure => simp [intOf]; omega
          · obtain rfl : k = Wt.length := by omega
            have hkd : decide ((Wt.length : Int) < (Wt.length : Int)) = false := decide_eq_false (by omega)
            have hs0 : s = 0 := by rw [HS.out, List.take_length]; exact even_is HIN.out HMW.out rfl ent cur
            subst hs0
            obtain ⟨v1, w6, hr1, hown1, hgrow1, hblk1⟩ := run_append_bals (sc := nc) (World.ownsRow_nil w5 w5.heap.size 43 4) HN5.out (by omega) (Nat.le_refl _) 39
            have HB6 : Hid (Below w5.heap.size w5 w6) := (Only.of_grown hgrow1).below (Nat.le_refl _) (fun k hk => by simp [Value.ownBlock] at hk)
            rw [Nat.zero_add, List.nil_append] at hown1
            obtain ⟨so0, sc0, rfl, hA0⟩ := bals_of_row hown1 rfl
            have HA0 := Lib.hid hA0
            have HAL0 : Hid (AllE GL per 0 N) := allE_start HMN.out rfl
            have HPL0 : Hid (∀ x ∈ N, plOk (plOf x)) := HMN.out.pl HKG.out
            have HBB6 : Hid (Below w.heap.size w w6) := HB5.out.trans (HB6.out.mono HB5.out.size)
            have HGO6 := Lib.hid (HGO5.out.below HB6.out)
            have HW6 := Lib.hid (HW5.out.below HB6.out)
            clear hown1 hgrow1 hblk1 hA0 HS HN5 HMN HB5 HGO5 HW5 HB6
            go_wp2_with (at_builtin; refine Lib.wpList_append_run _ rfl _ _ _ _ rfl _ _ rfl rfl _ _ hr1 ?_)
            clear hr1
            go_loopw [22, 23] (fun v i wr => ∃ (so : Option Addr) (sc : Nat) (A : List BalM) (m : Nat), v = .slice so A.length sc ∧ m ≤ 12 ∧ A.length ≤ 200 ∧ i = .int .i64 ((m : Int) + 1) ∧ Hid (AllE GL per m A) ∧ Hid (∀ x ∈ A, plOk (plOf x)) ∧ Hid (BalsAt wr so A) ∧ Hid (Below w6.heap.size w6 wr)) (fun _ i _ => (13 - intOf i).toNat)
            case atStart => exact ⟨so0, sc0, N, 0, rfl, Nat.zero_le _, hnl, rfl, HAL0, HPL0, HA0, Below.refl _ _⟩
            case round =>
              clear HAL0 HPL0 HA0
              obtain ⟨so, sc, A, m, rfl, hm12, hal, rfl, HAL, HPL, HAT, HBW⟩ := hrel
              have HBB : Hid (Below w.heap.size w wr) := HBB6.out.trans (HBW.out.mono HBB6.out.size)
              by_cases hlt : m < 12
              · have hd : (m : Int) + 1 ≤ 12 := by omega
                have hcall := trial_c ((m : Int) + 1) per go gc GL wr (HGO6.out.below HBW.out) HKG.out (by omega) HLG.out
                go_wp2_with fail
                refine hcall.mono ?_
                rintro e w7 ⟨hb7, ct, tto, tc, TT, rfl, hT, hMT⟩
                have HB7 : Hid (Below w6.heap.size w6 w7) := HBW.out.trans (hb7.mono HBW.out.size)
                have HA7 := Lib.hid (HAT.out.below hb7)
                have HT7 := Lib.hid hT
                have HMT := Lib.hid hMT
                have htl := hMT.len
                clear hcall hb7 hT hMT HAT HBW
                have hcall := merge_c so sc A tto tc TT w7 HA7.out HT7.out HPL.out (HMT.out.pl HKG.out) (by omega) (by omega)
                go_wp2_with fail
                refine hcall.mono ?_
                rintro e w8 ⟨hb8, cm, mo, mc, M, rfl, hM, hMM⟩
                have HB8 : Hid (Below w6.heap.size w6 w8) := HB7.out.trans (hb8.mono HB7.out.size)
                have HBB8 : Hid (Below w.heap.size w w8) := HBB6.out.trans (HB8.out.mono HBB6.out.size)
                have HM8 := Lib.hid hM
                have HMM := Lib.hid hMM
                have hml := merge_len hMM
                clear hcall hb8 hM hMM HA7 HT7 HB7
                by_cases ct0 : ct = 0
                · have y1 := zeroC_yes ct0
                  by_cases cm0 : cm = 0
                  · have y2 := zeroC_yes cm0
                    have HAL2 : Hid (AllE GL per (m + 1) M) := allE_next HAL.out HMT.out HMM.out ct0 cm0
                    have HPL2 : Hid (∀ x ∈ M, plOk (plOf x)) := HMM.out.pl HPL.out (HMT.out.pl HKG.out)
                    clear ct0 cm0
                    go_wp2_with fail
                    go_roundw
                    case rel => exact ⟨mo, mc, M, m + 1, rfl, by omega, hml, by go_num, HAL2, HPL2, HM8, HB8⟩
                    case measure => simp [intOf]; omega
                  · have y2 := zeroC_no cm0
                    clear ct0 cm0
                    go_wp2_with fail
                    go_ret
                    exact ⟨rfl, HBB8.out⟩
                · have y1 := zeroC_no ct0
                  clear ct0
                  go_wp2_with fail
                  go_ret
                  exact ⟨rfl, HBB8.out⟩
              · obtain rfl : m = 12 := by omega
                obtain rfl := allE_end HIN.out HAL.out HMW.out rfl
                have hsame := same_b A wr so wo sc wcc HAT.out (HW6.out.below HBW.out) (by omega)
                go_wp2_with fail
                refine hsame.mono ?_
                rintro e w7 ⟨rfl, hb7⟩
                have HB7 : Hid (Below w.heap.size w w7) := HBB.out.trans (hb7.mono HBB.out.size)
                clear hsame hb7
                go_wp2_with fail
                go_ret
                exact ⟨rfl, HB7.out⟩
      · have y1 := zeroC_yes c0
        have y2 := zeroC_no d0
        clear c0 d0
        go_wp2_with fail
        go_ret
        exact ⟨rfl, HB5.out⟩
    · have y1 := zeroC_no c0
      clear c0
      go_wp2_with fail
      go_ret
      exact ⟨rfl, HB5.out⟩
end Go.Proofs.Ytbhndnjlplibmaa.lg
