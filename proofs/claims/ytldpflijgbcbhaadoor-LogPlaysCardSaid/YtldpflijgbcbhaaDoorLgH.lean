/- slices.Clone of bytes, (*log.Log).Room, Len walked. -/
import Derived.Test.YtldpflijgbcbhaaDoorLgA
import Derived.Test.YtldpflijgbcbhaaDoorLgO
namespace Go.Proofs.YtldpflijgbcbhaaDoor.lg
open Go.RowKit

theorem ownsRow_cast {w : World} {base : Nat} {e : TypeId} {sz : Nat} {v : Value} {n n' : Nat} {xs xs' : List Value} (h : w.ownsRow base e sz v n xs) (hn : n = n') (hx : xs = xs') : w.ownsRow base e sz v n' xs' := by subst hn hx; exact h
theorem row_slice {BASE n sz : Nat} {ty : TypeId} {w : World} {v : Value} {xs : List Value} (h : w.ownsRow BASE ty sz v n xs) : ∃ ao cap, v = .slice ao n cap := by
  rcases h.2 with ⟨rfl, h0⟩ | ⟨g, cap, cur, rfl, _⟩
  · exact ⟨none, 0, by rw [h0]⟩
  · exact ⟨some ⟨g, 0, none⟩, cap, rfl⟩
set_option maxRecDepth 100000 in
set_option maxHeartbeats 1000000 in
theorem clone_bytes (v : Value) (l : List UInt8) (w : World) (hl : BytesW w v l) (h0 : 0 < l.length) (hn : l.length ≤ 100000) :
    Calls Tryd.prog 73 #[v] w fun e w' => Below w.heap.size w w' ∧ ∃ v', e = .returned v' ∧ RecAt w' (fun k => w.heap.size ≤ k ∧ k < w'.heap.size) v' l := by
  obtain ⟨sp, c, rfl, hc⟩ := id hl
  obtain ⟨b, o, rfl, _, _⟩ := hc h0
  have hnil := fun wx => Lib.run_eql_slice_nil (P := Tryd.prog) wx 22 5 (some ⟨b, o, none⟩) l.length c 0 0 Tryd.underlying22
  have hown0 : (w.alloc (.cells #[] 5)).ownsRow w.heap.size 5 1 (.slice (some ⟨w.heap.size, 0, none⟩) 0 0) 0 [] :=
    ⟨rfl, Or.inr ⟨w.heap.size, 0, #[], rfl, Nat.le_refl _, heap_new_at rfl _, Nat.le_refl _, by decide, rfl, rfl⟩⟩
  have hbel : Below w.heap.size w (w.alloc (.cells #[] 5)) := (Below.refl _ _).alloc (Nat.le_refl _) _
  have hl1 : BytesW (w.alloc (.cells #[] 5)) (.slice (some ⟨b, o, none⟩) l.length c) l := BytesW.keep hl (fun g hg => by
    obtain ⟨b', o', e, hlt, _⟩ := hc h0
    injection e with e
    injection e with e _
    have : b = g := Option.some.inj hg
    exact hbel.block g (by omega)) hbel.size
  obtain ⟨v', w1, hr, hown, hgrow, hblk⟩ := run_append_bytes hown0 hl1 (by omega) hbel.size 22
  have hb1 : Below w.heap.size w w1 := hbel.trans ((Only.of_grown hgrow).below hbel.size (fun k hk => by simp [Value.ownBlock] at hk; omega))
  have HO : Hid (RecAt w1 (fun k => w.heap.size ≤ k ∧ k < w1.heap.size) v' l) := by
    have hown' : w1.ownsRow w.heap.size 5 1 v' l.length (l.map byteV) := ownsRow_cast hown (by omega) (by simp)
    refine ⟨?_, fun g hg => ?_⟩
    · rcases hown'.2 with ⟨e1, e2⟩ | ⟨g, cap, cur, e1, e2, e3⟩
      · exact ⟨hown'.1, Or.inl ⟨e1, e2⟩⟩
      · exact ⟨hown'.1, Or.inr ⟨g, cap, cur, e1, Nat.zero_le _, e3⟩⟩
    · obtain ⟨cur, hcur⟩ := row_block hown' hg
      rcases hown'.2 with ⟨e1, e2⟩ | ⟨g', cap, cur, e1, e2, e3⟩
      · rw [e1] at hg; cases hg
      · rw [e1] at hg
        have : g' = g := Option.some.inj hg
        exact ⟨by omega, lt_of_heap hcur⟩
  have HB := Lib.hid hb1
  clear hown0 hbel hown hgrow hblk hl hl1 hb1 hc
  go_enter Tryd.func73, Tryd.ntmps73
  go_wp2_with (at_builtin; refine Lib.wpList_append_run _ rfl _ _ _ _ rfl _ _ rfl rfl _ _ hr ?_)
  go_ret
  exact ⟨HB.out, _, rfl, HO.out⟩

/-- what the log's block tells of its sizes -/
structure SizeL (w : World) (p mn n m : Nat) : Prop where
  c2 : w.cell? ⟨p, 2, none⟩ = some (.int .i64 mn)
  c4 : ∃ ao cap, w.cell? ⟨p, 4, none⟩ = some (.slice ao n cap)
  c3 : ∃ ao cap, w.cell? ⟨p, 3, none⟩ = some (.slice ao m cap)
theorem LogIs.size {w : World} {T : Nat → Prop} {p d fr mn : Nat} {L : LogS} {rv sv : Value} {rs : List Value} (h : LogIs w T p d fr mn L rv sv rs) : SizeL w p mn L.stream.length L.recs.length := by
  obtain ⟨a1, b1, e1⟩ := row_slice h.stream
  obtain ⟨a2, b2, e2⟩ := row_slice h.recs
  exact ⟨h.self.c2, ⟨a1, b1, by rw [← e1]; exact h.self.c4⟩, ⟨a2, b2, by rw [← e2]; exact h.self.c3⟩⟩
theorem Sys.size' {B : Nat} {F : Nat → Prop} {w : World} {d p fr mn : Nat} {M : DiskM} {L : LogS} (h : Sys B F w d M p fr mn L) : SizeL w p mn L.stream.length L.recs.length := by
  obtain ⟨S, T, h⟩ := h
  obtain ⟨rv, sv, rs, hl⟩ := h.log
  exact hl.size
theorem max_room {mn n : Nat} (h : 2 ≤ mn ∨ True) : (if (0 : Int) < ((mn : Int) - 2) * 60 - (n : Int) then ((mn : Int) - 2) * 60 - (n : Int) else 0) = ((60 * (mn - 2) - n : Nat) : Int) := by
  split <;> omega
set_option maxHeartbeats 1000000 in
theorem room_any (w : World) (p mn n m : Nat) (h : SizeL w p mn n m) (hmn : mn ≤ 200) (hn : n ≤ 12000) :
    Calls Tryd.prog 41 #[.pointer (some ⟨p, 0, none⟩)] w fun e w' => e = .returned (.int .i64 ((60 * (mn - 2) - n : Nat) : Int)) ∧ Below w.heap.size w w' := by
  obtain ⟨c2, ⟨ao, cap, c4⟩, _⟩ := h
  have hmax := max_room (mn := mn) (n := n) (Or.inr trivial)
  obtain ⟨R, hR⟩ : ∃ R, R = 60 * (mn - 2) - n := ⟨_, rfl⟩
  rw [← hR]
  have HR := Lib.hid hR
  clear hR hmax
  go_enter Tryd.func41, Tryd.ntmps41
  go_wp2_with fail
  go_quiet (fail)
  all_goals go_wp2_with fail
  all_goals go_ret
  all_goals refine ⟨?_, below_drewN (Below.refl _ _) _⟩
  · have e : ((mn : Int) - 2) * 60 - (n : Int) = (R : Int) := by have := HR.out; omega
    rw [← e]; rfl
  · have e : (0 : Int) = (R : Int) := by have := HR.out; omega
    rw [← e]; rfl
set_option maxHeartbeats 1000000 in
theorem len_any (w : World) (p mn n m : Nat) (h : SizeL w p mn n m) :
    Calls Tryd.prog 40 #[.pointer (some ⟨p, 0, none⟩)] w fun e w' => e = .returned (.int .i64 (m : Int)) ∧ w = w' := by
  obtain ⟨c2, _, ⟨ao, cap, c3⟩⟩ := h
  go_enter Tryd.func40, Tryd.ntmps40
  go_wp2_with fail
  go_ret
  exact ⟨rfl, rfl⟩
end Go.Proofs.YtldpflijgbcbhaaDoor.lg
