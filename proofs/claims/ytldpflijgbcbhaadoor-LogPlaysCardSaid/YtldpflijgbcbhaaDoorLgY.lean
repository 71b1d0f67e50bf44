/- (*log.Log).Sync walked. -/
import Derived.Test.YtldpflijgbcbhaaDoorLgH
import Derived.Test.YtldpflijgbcbhaaDoorLgU
namespace Go.Proofs.YtldpflijgbcbhaaDoor.lg
open Go.RowKit

/-- a step that may fail: then the disk alone is told of -/
def StepR (B : Nat) (F : Nat → Prop) (w : World) (d : Nat) (r : Value) (C : Int) (M' : DiskM) (p fr mn : Nat) (L' : LogS) (e : Ending) (w' : World) : Prop :=
  e = .returned r ∧ Stays B F w w' ∧ (C = 0 → Sys B F w' d M' p fr mn L') ∧ DiskF B F w' d M'
theorem StepR.ok {B : Nat} {F : Nat → Prop} {w w' : World} {d p fr mn : Nat} {r : Value} {C : Int} {M' : DiskM} {L' : LogS} {e : Ending} (he : e = .returned r) (hs : Stays B F w w') (h : Sys B F w' d M' p fr mn L') : StepR B F w d r C M' p fr mn L' e w' := ⟨he, hs, fun _ => h, h.diskF⟩
/-- the log's own block is written: all else stays -/
theorem Sys.own_set {B : Nat} {F : Nat → Prop} {w w' : World} {d p fr mn : Nat} {M : DiskM} {L L' : LogS} (h : Sys B F w d M p fr mn L) (ho : Only (fun k => k = p) w w')
    (hs : ∀ rv sv, OwnL w p d fr mn rv sv L.epoch L.safe L.dirty L.bare L.broken → OwnL w' p d fr mn rv sv L'.epoch L'.safe L'.dirty L'.bare L'.broken) (e1 : L'.recs = L.recs) (e2 : L'.stream = L.stream) : Stays B F w w' ∧ Sys B F w' d M p fr mn L' := by
  obtain ⟨S, T, h⟩ := h
  obtain ⟨rv, sv, rs, hl⟩ := h.log
  obtain ⟨h1, h2⟩ := hl.own_end (L' := L') ho (hs rv sv hl.self) e1 e2
  obtain ⟨g1, g2⟩ := h.own_step h1 h2
  exact ⟨g1, S, _, g2⟩
theorem only_set (w : World) (p j : Nat) (v : Value) : Only (fun k => k = p) w (w.setCell ⟨p, j, none⟩ v) := (Only.refl (fun k => k = p) w).setCell (p := ⟨p, j, none⟩) (show p = p from rfl) v
def LogS.mark (L : LogS) : LogS := { L with broken := true }
theorem Sys.set9 {B : Nat} {F : Nat → Prop} {w : World} {d p fr mn : Nat} {M : DiskM} {L : LogS} (h : Sys B F w d M p fr mn L) : Stays B F w (w.setCell ⟨p, 9, none⟩ (.bool true)) ∧ Sys B F (w.setCell ⟨p, 9, none⟩ (.bool true)) d M p fr mn L.mark :=
  h.own_set (L' := L.mark) (only_set _ _ _ _) (fun rv sv h => h.set9 true) rfl rfl
theorem Sys.set7 {B : Nat} {F : Nat → Prop} {w : World} {d p fr mn : Nat} {M : DiskM} {L : LogS} (b : Bool) (h : Sys B F w d M p fr mn L) : Stays B F w (w.setCell ⟨p, 7, none⟩ (.bool b)) ∧ Sys B F (w.setCell ⟨p, 7, none⟩ (.bool b)) d M p fr mn { L with dirty := b } :=
  h.own_set (L' := { L with dirty := b }) (only_set _ _ _ _) (fun rv sv h => h.set7 b) rfl rfl
theorem Sys.set8 {B : Nat} {F : Nat → Prop} {w : World} {d p fr mn : Nat} {M : DiskM} {L : LogS} (b : Bool) (h : Sys B F w d M p fr mn L) : Stays B F w (w.setCell ⟨p, 8, none⟩ (.bool b)) ∧ Sys B F (w.setCell ⟨p, 8, none⟩ (.bool b)) d M p fr mn { L with bare := b } :=
  h.own_set (L' := { L with bare := b }) (only_set _ _ _ _) (fun rv sv h => h.set8 b) rfl rfl
theorem Sys.set6 {B : Nat} {F : Nat → Prop} {w : World} {d p fr mn : Nat} {M : DiskM} {L : LogS} (b : Nat) (h : Sys B F w d M p fr mn L) : Stays B F w (w.setCell ⟨p, 6, none⟩ (.int .i64 (b : Int))) ∧ Sys B F (w.setCell ⟨p, 6, none⟩ (.int .i64 (b : Int))) d M p fr mn { L with safe := b } :=
  h.own_set (L' := { L with safe := b }) (only_set _ _ _ _) (fun rv sv h => h.set6 b) rfl rfl
/-- the log's cells, by their values -/
structure CellsL (w : World) (p d fr mn : Nat) (L : LogS) : Prop where
  c0 : w.cell? ⟨p, 0, none⟩ = some (.pointer (some ⟨d, 0, none⟩))
  c5 : w.cell? ⟨p, 5, none⟩ = some (.int .i64 L.epoch)
  c6 : w.cell? ⟨p, 6, none⟩ = some (.int .i64 L.safe)
  c7 : w.cell? ⟨p, 7, none⟩ = some (.bool L.dirty)
  c8 : w.cell? ⟨p, 8, none⟩ = some (.bool L.bare)
  c9 : w.cell? ⟨p, 9, none⟩ = some (.bool L.broken)
  fz : ∀ j, w.frozen? ⟨p, j, none⟩ = false
theorem Sys.cells {B : Nat} {F : Nat → Prop} {w : World} {d p fr mn : Nat} {M : DiskM} {L : LogS} (h : Sys B F w d M p fr mn L) : CellsL w p d fr mn L := by
  obtain ⟨rv, sv, h⟩ := h.own
  exact ⟨h.c0, h.c5, h.c6, h.c7, h.c8, h.c9, h.free⟩
theorem sync_eq1 {L : LogS} (hd : L.dirty = true) (h : L.stream.length % 60 ≠ 0) : L.sync = { L with safe := 1 - L.safe, dirty := false } := by
  unfold LogS.sync; simp [hd, h]
theorem sync_eq2 {L : LogS} (h : L.dirty = false ∨ L.stream.length % 60 = 0) : L.sync = { L with dirty := false } := by
  unfold LogS.sync; rcases h with h | h <;> simp [h]

set_option maxRecDepth 100000 in
set_option maxHeartbeats 2000000 in
theorem sync_any (B : Nat) (F : Nat → Prop) (w : World) (p d fr mn : Nat) (M : DiskM) (L : LogS) (h : Sys B F w d M p fr mn L) (hbr : L.broken = false) (hst : M.steps ≤ 1000000000) (hsf : L.safe < 2) (hlen : L.stream.length ≤ 12000) :
    Calls Tryd.prog 38 #[.pointer (some ⟨p, 0, none⟩)] w (StepR B F w d (errV M.fcode) M.fcode M.fl p fr mn L.sync) := by
  have hcall := h.disk_step (fun G hG hd => flushF B G w d M hd (by omega))
  have hc := h.cells
  obtain ⟨c0, _, _, _, _, c9, _⟩ := hc
  rw [hbr] at c9
  have hE1 := @sync_eq1 L
  have hE2 := @sync_eq2 L
  have hE1 := Lib.hid hE1
  have HE2 := Lib.hid hE2
  have HE1 : Hid _ := hE1
  generalize hCC : M.fcode = C at *
  generalize hMM : M.fl = M2 at *
  clear hE1 hE2 hMM hCC h hst
  by_cases hC : C = 0
  · subst hC
    rw [errV_zero] at hcall ⊢
    obtain ⟨sf, hs0⟩ : ∃ sf, sf = L.safe := ⟨_, rfl⟩
    obtain ⟨n, hn0⟩ : ∃ n, n = L.stream.length := ⟨_, rfl⟩
    rw [← hs0] at hsf
    rw [← hn0] at hlen
    have HS0 := Lib.hid hs0
    have HN0 := Lib.hid hn0
    clear hs0 hn0
    go_enter Tryd.func38, Tryd.ntmps38
    go_wp2_with fail
    refine hcall.mono ?_
    rintro e w1 ⟨rfl, hs1, hy1⟩
    obtain ⟨_, ⟨ao, cap, c4⟩, _⟩ := hy1.size'
    have hk := hy1.cells
    have c6 := hk.c6
    have c7 := hk.c7
    have f6 := hk.fz 6
    have f7 := hk.fz 7
    rw [← HS0.out] at c6
    rw [← HN0.out] at c4
    have HY1 := Lib.hid hy1
    have HS1 := Lib.hid hs1
    clear hk hcall hs1 hy1 c9 c0
    cases hd : L.dirty with
    | false =>
      rw [hd] at c7
      have h7 := HY1.out.set7 false
      have HR : Hid (Stays B F w1 (w1.setCell ⟨p, 7, none⟩ (.bool false)) ∧ Sys B F (w1.setCell ⟨p, 7, none⟩ (.bool false)) d M2 p fr mn L.sync) := by
        show _ ∧ _
        rw [HE2.out (Or.inl hd)]; exact h7
      clear h7 hd HE1 HE2
      go_wp2_with fail
      go_ret
      exact StepR.ok rfl (HS1.out.trans HR.out.1) HR.out.2
    | true =>
      rw [hd] at c7
      by_cases h0 : n % 60 = 0
      · have h7 := HY1.out.set7 false
        have HR : Hid (Stays B F w1 (w1.setCell ⟨p, 7, none⟩ (.bool false)) ∧ Sys B F (w1.setCell ⟨p, 7, none⟩ (.bool false)) d M2 p fr mn L.sync) := by
          show _ ∧ _
          rw [HE2.out (Or.inr (by rw [← HN0.out]; exact h0))]; exact h7
        clear h7 hd HE1 HE2
        go_wp2_with fail
        go_ret
        exact StepR.ok rfl (HS1.out.trans HR.out.1) HR.out.2
      · obtain ⟨hs6, hy6⟩ := HY1.out.set6 (1 - sf)
        obtain ⟨hs7, hy7⟩ := hy6.set7 false
        have hcast : ((1 - sf : Nat) : Int) = 1 - (sf : Int) := by omega
        rw [hcast] at hs6 hs7 hy7
        have HR : Hid (Stays B F w1 ((w1.setCell ⟨p, 6, none⟩ (.int .i64 (1 - (sf : Int)))).setCell ⟨p, 7, none⟩ (.bool false)) ∧ Sys B F ((w1.setCell ⟨p, 6, none⟩ (.int .i64 (1 - (sf : Int)))).setCell ⟨p, 7, none⟩ (.bool false)) d M2 p fr mn L.sync) := by
          show _ ∧ _
          rw [HE1.out hd (by rw [← HN0.out]; exact h0)]
          rw [← HS0.out]
          exact ⟨hs6.trans hs7, hy7⟩
        clear hs6 hy6 hs7 hy7 hcast hd HE1 HE2
        go_wp2_with fail
        go_ret
        exact StepR.ok rfl (HS1.out.trans HR.out.1) HR.out.2
  · have hv := errV_some hC
    rw [hv] at hcall ⊢
    clear hv
    go_enter Tryd.func38, Tryd.ntmps38
    go_wp2_with fail
    refine hcall.mono ?_
    rintro e w1 ⟨rfl, hs1, hy1⟩
    have f9 := hy1.cells.fz 9
    have c9' := hy1.cells.c9
    have HR := Lib.hid hy1.set9
    have HS1 := Lib.hid hs1
    clear hcall hs1 hy1 c9 c0 HE1 HE2
    go_wp2_with fail
    go_ret
    exact ⟨rfl, HS1.out.trans HR.out.1, fun e => absurd e hC, HR.out.2.diskF⟩
end Go.Proofs.YtldpflijgbcbhaaDoor.lg
