/- The document's disk: New. -/
import Derived.Test.YtldpflijgbcbhaaDoorKb
import Derived.Maps.AppendAt
namespace Go.Proofs.YtldpflijgbcbhaaDoor.kk
open Go.RowKit

set_option maxRecDepth 100000 in
set_option maxHeartbeats 4000000 in
theorem knew_ok (n : Nat) (w : World) (h1 : 1 ≤ n) (h2 : n ≤ 200) :
    Calls Tryd.prog 29 #[.int .i64 n] w fun e w' => e = .returned (.pointer (some ⟨w.heap.size, 0, none⟩)) ∧ Below w.heap.size w w' ∧ DiskAt w' (fun k => w.heap.size ≤ k ∧ k < w'.heap.size) w.heap.size (DiskM.new n) := by
  obtain ⟨d, hd⟩ : ∃ d, d = w.heap.size := ⟨_, rfl⟩
  have hst : NewRel w d 0 none 0 [] (w.alloc (.cells #[.slice none 0 0, .slice none 0 0, .slice none 0 0, .int .i64 0, .int .i64 (-1)] 69)) :=
    ⟨⟨by rw [hd]; exact heap_alloc_at rfl _⟩, World.ownsRow_nil _ _ _ _, (fun i hi => by omega), by rw [hd]; exact (Below.refl _ _).alloc (Nat.le_refl _) _⟩
  obtain ⟨i0, hi0, hz0, hz1, hz2⟩ := info_parts infoSl
  have HI0 := Lib.hid hi0
  have HZ0 := Lib.hid hz0
  have HZ1 := Lib.hid hz1
  have HZ2 := Lib.hid hz2
  clear hi0 hz0 hz1 hz2
  go_enter Tryd.func29, Tryd.ntmps29
  go_wp2_with fail
  rw [← hd]
  have HD := Lib.hid hd
  clear hd
  go_loopw [4] (fun i wr => ∃ (k : Nat) (na : Option Addr) (nc : Nat) (ns : List Value), k ≤ n ∧ i = .int .i64 k ∧ NewRel w d k na nc ns wr) (fun i _ => n - (intOf i).toNat)
  case atStart => exact ⟨0, none, 0, [], Nat.zero_le _, rfl, hst⟩
  case round =>
    clear hst
    obtain ⟨k, na, nc, ns, hk, rfl, hR⟩ := hrel
    by_cases hlt : k < n
    · have hdl : d < wr.heap.size := lt_of_heap hR.own.heap
      have c0 := hR.own.c0
      have f0 := hR.own.free 0
      have hrow := hR.row
      have hdne : (Value.slice na k nc).ownBlock ≠ some d := fun e => by
        obtain ⟨_, h2⟩ := hrow
        rcases h2 with ⟨h2, _⟩ | ⟨g2, _, cur, hv2, hg2, _⟩
        · rw [h2] at e; simp [Value.ownBlock] at e
        · rw [hv2] at e; simp only [Value.ownBlock, Option.some.injEq] at e; omega
      have hmk := mk64
      have HR := Lib.hid hR
      clear hR
      go_wp2_with fail
      go_region_law
        ((refine step_append_lies _ (by rfl) _ _ _ (by rfl) (d + 1) 22 i0 _ 1 24 Tryd.underlying66 HI0.out HZ0.out HZ1.out HZ2.out rfl (by omega) (.slice na k nc) k ns (by rfl) (((hrow.alloc _).alloc _).drew)
            ⟨wr.heap.size + 1, 0, none⟩ 1 1 [.slice (some ⟨wr.heap.size, 0, none⟩) 64 64] (by rfl) (by rfl) (World.news_of_block (cs := #[.slice (some ⟨wr.heap.size, 0, none⟩) 64 64]) (t := 22) (fr := (0, 0)) (by exact heap_alloc_at (by simp) _)) (by simp [Value.oneCell'])
            (by omega) (by unfold maxLen; omega) (by omega) (by simp; omega) (wr.heap.size + 1 + 1) (by simp) ?_; intro g cap w1 hown1 hgrow hat hlt1; have kf := (new_step HR.out hown1 hgrow).2.2; have kc := (new_step HR.out hown1 hgrow).2.1))
      all_goals
        have R := (new_step HR.out hown1 hgrow).1
        clear hown1 hgrow hat hlt1 kf kc hmk hrow hdne
        go_wp2_with fail
        go_roundw
        case rel => exact ⟨k + 1, some ⟨g, 0, none⟩, cap, _, by omega, by go_num, R⟩
        case measure => simp [intOf]; omega
    · have hkn : k = n := by omega
      subst hkn
      obtain ⟨_, h3⟩ := hR.row
      have hna : ∃ b, na = some ⟨b, 0, none⟩ ∧ d + 1 ≤ b ∧ b < wr.heap.size := by
        rcases h3 with ⟨_, h3⟩ | ⟨b, c, cur, hv, hb, hh, _⟩
        · omega
        · injection hv with hv _ _
          exact ⟨b, hv, hb, lt_of_heap hh⟩
      obtain ⟨b, rfl, hb1, hb2⟩ := hna
      have HONE : Hid (∀ v ∈ ns, v.oneCell' = true) := by
        intro v hv
        obtain ⟨i, hi, rfl⟩ := List.getElem_of_mem hv
        have hl := hR.row.1
        obtain ⟨x, hx, _, g, hx2, _⟩ := hR.blk i (by omega)
        rw [List.getElem?_eq_getElem hi] at hx
        injection hx with hx
        rw [hx, hx2]; rfl
      have HL1 : Hid (ns.length = k * 1) := hR.row.1
      have HSRC : Hid (∀ (j : Nat) (u : Value), ns[j]? = some u → wr.drew.cell? (Addr.add ⟨b, 0, none⟩ j) = some u) := by
        intro j u hj
        have hjl : j < k * 1 := by
          obtain ⟨hl, _⟩ := List.getElem?_eq_some_iff.1 hj
          have := HL1.out
          omega
        rw [addr_add, Nat.zero_add]
        exact (hR.row.cellAt j hjl).trans hj
      have c0 := hR.own.c0
      have c1 := hR.own.c1
      have f1 := hR.own.free 1
      have HR := Lib.hid hR
      have hk1 : 0 < k := by omega
      have HEND : Hid (∀ (g cap : Nat) (w3 : World), w3.ownsRow wr.heap.size 22 1 (.slice (some ⟨g, 0, none⟩) (0 + k) cap) (0 + k) ([] ++ ns) → wr.drew.grownBy w3 (Value.slice none 0 0).ownBlock → ((Value.slice none 0 0).ownBlock = some g ∨ g = wr.heap.size) →
          w3.cell? ⟨d, 1, none⟩ = some (.slice none 0 0) ∧ w3.frozen? ⟨d, 1, none⟩ = false ∧ Hid (Below d w (w3.setCell ⟨d, 1, none⟩ (.slice (some ⟨g, 0, none⟩) k cap)) ∧ DiskAt (w3.setCell ⟨d, 1, none⟩ (.slice (some ⟨g, 0, none⟩) k cap)) (fun j => d ≤ j ∧ j < (w3.setCell ⟨d, 1, none⟩ (.slice (some ⟨g, 0, none⟩) k cap)).heap.size) d (DiskM.new k))) := by
        intro g cap w3 hown3 hgrow hat
        rw [Nat.zero_add, List.nil_append] at hown3
        have hg : g = wr.heap.size := by rcases hat with h | h; (simp [Value.ownBlock] at h); exact h
        have hb3 : Below wr.heap.size wr w3 := ((Below.refl _ wr).drew).grown hgrow (Nat.le_refl _) (fun k hk => by simp [Value.ownBlock] at hk)
        have ho3 := HR.out.own.later hb3
        exact ⟨ho3.c1, ho3.free 1, new_end HR.out h1 h2 (ownsRow_base hown3 0 (Nat.zero_le _)) hb3 (by omega)⟩
      clear hR h3
      go_wp2_with fail
      go_region_law
        ((refine step_append_lies _ (by rfl) _ _ _ (by rfl) wr.heap.size 22 i0 _ 1 24 Tryd.underlying66 HI0.out HZ0.out HZ1.out HZ2.out rfl (by omega) (.slice none 0 0) 0 [] (by rfl) (World.ownsRow_nil _ _ _ _)
            ⟨b, 0, none⟩ k nc ns (by rfl) HL1.out HSRC.out HONE.out hk1 (by unfold maxLen; omega) (by omega) (Nat.le_refl _) wr.heap.size rfl ?_; intro g cap w3 hown3 hgrow hat hlt3; obtain ⟨kc, kf, KFIN⟩ := HEND.out g cap w3 hown3 hgrow hat))
      all_goals
        go_wp2_with fail
        go_ret
        have hd := HD.out
        subst hd
        exact ⟨rfl, KFIN.out⟩
end Go.Proofs.YtldpflijgbcbhaaDoor.kk
