/- A disk in memory ('DiskIs'), and its small methods: stopped, Steps, Blocks, Fail. -/
import Derived.Test.YtldpflijgbcbhaaDoorBlk1
import Derived.BigQuiet
import Derived.Deep.QuietTactic
import Derived.WalkSmall
namespace Go.Proofs.YtldpflijgbcbhaaDoor
open Go.RowKit

/-- a disk, in plain terms: its blocks now, those that are safe, what was written since, steps, where it stops -/
structure DiskM where
  now : List (Option (List UInt8))
  safe : List (Option (List UInt8))
  since : List (Nat × List UInt8)
  steps : Nat
  stop : Int

def DiskM.stopped (M : DiskM) : Bool := decide (0 ≤ M.stop) && decide (M.stop ≤ (M.steps : Int))

/-- a row of blocks in memory: its block is b, not d -/
structure RowIs (w : World) (S : Nat → Prop) (d : Nat) (b c : Nat) (l : List (Option (List UInt8))) (ns : List Value) : Prop where
  own : w.ownsRow 0 22 1 (.slice (some ⟨b, 0, none⟩) l.length c) l.length ns
  sb : S b
  ne : b ≠ d
  blk : ∀ (i : Nat) (m : Option (List UInt8)), l[i]? = some m → ∃ x, ns[i]? = some x ∧ BlkAt w (fun k => S k ∧ k ≠ d) x m

/-- what was written since: its row of pairs -/
structure SinceIs (w : World) (S : Nat → Prop) (d n : Nat) (sv : Value) (l : List (Nat × List UInt8)) (xs : List Value) : Prop where
  own : w.ownsRow 0 123 2 sv l.length xs
  sb : ∀ g, sv.ownBlock = some g → S g ∧ g ≠ d
  blk : ∀ (i : Nat) (p : Nat × List UInt8), l[i]? = some p → p.1 < n ∧ xs[2 * i]? = some (.int .i64 p.1) ∧ ∃ x, xs[2 * i + 1]? = some x ∧ BlkAt w (fun k => S k ∧ k ≠ d) x (some p.2)

theorem ownsRow_later {w w' : World} {base : Nat} {e : TypeId} {sz : Nat} {v : Value} {n : Nat} {xs : List Value} (h : w.ownsRow base e sz v n xs) (hk : ∀ g, v.ownBlock = some g → w'.heap[g]? = w.heap[g]?) : w'.ownsRow base e sz v n xs := by
  obtain ⟨h1, h2⟩ := h
  refine ⟨h1, ?_⟩
  rcases h2 with h2 | ⟨g, cap, cur, hv, hg, hh, r⟩
  · exact Or.inl h2
  · exact Or.inr ⟨g, cap, cur, hv, hg, by rw [hk g (by rw [hv]; rfl)]; exact hh, r⟩

theorem RowIs.later {w w' : World} {S S' : Nat → Prop} {d b c : Nat} {l : List (Option (List UInt8))} {ns : List Value} (h : RowIs w S d b c l ns) (hk : ∀ k, S k → k ≠ d → w'.heap[k]? = w.heap[k]?) (hS : ∀ k, S k → S' k) : RowIs w' S' d b c l ns where
  own := ownsRow_later h.own (fun g hg => by simp [Value.ownBlock] at hg; subst hg; exact hk _ h.sb h.ne)
  sb := hS _ h.sb
  ne := h.ne
  blk := fun i m hm => by obtain ⟨x, hx, hb⟩ := h.blk i m hm; exact ⟨x, hx, hb.later (fun g _ hg _ => hk g hg.1 hg.2) (fun k h => ⟨hS k h.1, h.2⟩)⟩
theorem SinceIs.later {w w' : World} {S S' : Nat → Prop} {d n : Nat} {sv : Value} {l : List (Nat × List UInt8)} {xs : List Value} (h : SinceIs w S d n sv l xs) (hk : ∀ k, S k → k ≠ d → w'.heap[k]? = w.heap[k]?) (hS : ∀ k, S k → S' k) : SinceIs w' S' d n sv l xs where
  own := ownsRow_later h.own (fun g hg => hk g (h.sb g hg).1 (h.sb g hg).2)
  sb := fun g hg => ⟨hS g (h.sb g hg).1, (h.sb g hg).2⟩
  blk := fun i p hp => by obtain ⟨h1, h2, x, hx, hb⟩ := h.blk i p hp; exact ⟨h1, h2, x, hx, hb.later (fun g _ hg _ => hk g hg.1 hg.2) (fun k h => ⟨hS k h.1, h.2⟩)⟩

structure DiskIs (w : World) (S : Nat → Prop) (d : Nat) (M : DiskM) (bn cn bs cs : Nat) (sv : Value) (ns ss xs : List Value) : Prop where
  self : w.heap[d]? = some (.cells #[.slice (some ⟨bn, 0, none⟩) M.now.length cn, .slice (some ⟨bs, 0, none⟩) M.safe.length cs, sv, .int .i64 M.steps, .int .i64 M.stop] 119 (0, 0))
  sd : S d
  now : RowIs w S d bn cn M.now ns
  safe : RowIs w S d bs cs M.safe ss
  since : SinceIs w S d M.now.length sv M.since xs
  slen : M.safe.length = M.now.length
  ne : bn ≠ bs
  pos : 0 < M.now.length
  le : M.now.length ≤ 200
  dom : ∀ k, S k → k < w.heap.size
  stp : M.stop ≤ 9223372036854775807 ∧ -1 ≤ M.stop

theorem DiskIs.later {w w' : World} {S : Nat → Prop} {d : Nat} {M : DiskM} {bn cn bs cs : Nat} {sv : Value} {ns ss xs : List Value} (h : DiskIs w S d M bn cn bs cs sv ns ss xs) (hk : ∀ k, S k → w'.heap[k]? = w.heap[k]?) (hsz : w.heap.size ≤ w'.heap.size) :
    DiskIs w' S d M bn cn bs cs sv ns ss xs where
  self := by rw [hk d h.sd]; exact h.self
  sd := h.sd
  now := h.now.later (fun k hs _ => hk k hs) (fun _ h => h)
  safe := h.safe.later (fun k hs _ => hk k hs) (fun _ h => h)
  since := h.since.later (fun k hs _ => hk k hs) (fun _ h => h)
  slen := h.slen
  ne := h.ne
  pos := h.pos
  le := h.le
  dom := fun k hk' => Nat.lt_of_lt_of_le (h.dom k hk') hsz
  stp := h.stp

/-- the blocks of S, and the new ones -/
def Grow (S : Nat → Prop) (w w' : World) : Nat → Prop := fun k => S k ∨ (w.heap.size ≤ k ∧ k < w'.heap.size)

/-- a disk whose blocks are among S -/
def DiskAt (w : World) (S : Nat → Prop) (d : Nat) (M : DiskM) : Prop := ∃ bn cn bs cs sv ns ss xs, DiskIs w S d M bn cn bs cs sv ns ss xs

theorem DiskAt.later {w w' : World} {S : Nat → Prop} {d : Nat} {M : DiskM} (h : DiskAt w S d M) (hb : Below w.heap.size w w') : DiskAt w' S d M := by
  obtain ⟨bn, cn, bs, cs, sv, ns, ss, xs, h⟩ := h
  exact ⟨bn, cn, bs, cs, sv, ns, ss, xs, h.later (fun k hk => hb.block k (h.dom k hk)) hb.size⟩
/-- what another one does leaves it -/
theorem DiskAt.apart {w w' : World} {S T : Nat → Prop} {d : Nat} {M : DiskM} (h : DiskAt w S d M) (ho : Only T w w') (hT : ∀ k, S k → ¬ T k) : DiskAt w' S d M := by
  obtain ⟨bn, cn, bs, cs, sv, ns, ss, xs, h⟩ := h
  exact ⟨bn, cn, bs, cs, sv, ns, ss, xs, h.later (fun k hk => ho.block k (h.dom k hk) (hT k hk)) ho.size⟩

set_option maxHeartbeats 1000000 in
theorem stopped_any (w : World) (S : Nat → Prop) (d : Nat) (M : DiskM) (h : DiskAt w S d M) (_ : M.steps ≤ 1000000000000) :
    Calls Tryd.prog 71 #[.pointer (some ⟨d, 0, none⟩)] w fun e w' => e = .returned (.bool M.stopped) ∧ Below w.heap.size w w' := by
  obtain ⟨bn, cn, bs, cs, sv, ns, ss, xs, h⟩ := h
  have c3 : w.cell? ⟨d, 3, none⟩ = some (.int .i64 M.steps) := by rw [cell_of_heap h.self]; rfl
  have c4 : w.cell? ⟨d, 4, none⟩ = some (.int .i64 M.stop) := by rw [cell_of_heap h.self]; rfl
  have hst := h.stp
  have hb : Hid (M.stopped = (decide (0 ≤ M.stop) && decide (M.stop ≤ (M.steps : Int)))) := rfl
  clear h
  generalize M.stopped = b at hb
  generalize M.stop = t at *
  generalize M.steps = n at *
  by_cases h0 : 0 ≤ t
  · by_cases h1 : t ≤ (n : Int)
    · have hbt : b = true := by rw [hb.out]; simp [h0, h1]
      subst hbt
      go_enter Tryd.func71, Tryd.ntmps71
      go_wp2_with fail
      go_quiet (fail)
      go_wp2_with fail
      go_ret
      exact ⟨ret_bool (by simp), below_drewN (Below.refl _ _) _⟩
    · have hbt : b = false := by rw [hb.out]; simp [h1]
      subst hbt
      go_enter Tryd.func71, Tryd.ntmps71
      go_wp2_with fail
      go_quiet (fail)
      go_wp2_with fail
      go_ret
      exact ⟨ret_bool (by simp [h1]), below_drewN (Below.refl _ _) _⟩
  · have hbt : b = false := by rw [hb.out]; simp [h0]
    have h0d : decide (0 ≤ t) = false := decide_eq_false h0
    subst hbt
    go_enter Tryd.func71, Tryd.ntmps71
    go_wp2_with fail
    go_quiet (fail)
    go_wp2_with fail
    go_ret
    exact ⟨rfl, below_drewN (Below.refl _ _) _⟩
end Go.Proofs.YtldpflijgbcbhaaDoor
