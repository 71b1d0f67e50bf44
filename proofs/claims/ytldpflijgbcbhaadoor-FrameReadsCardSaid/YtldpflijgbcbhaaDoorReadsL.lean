/- FrameReads: what is read, as one answer. -/
import Derived.Test.YtldpflijgbcbhaaDoorDrde
import Derived.Test.YtldpflijgbcbhaaDoorDrdb
import Derived.Test.YtldpflijgbcbhaaDoorRowB
import Derived.Test.YtldpflijgbcbhaaDoorFrdbw
import Derived.Test.YtldpflijgbcbhaaDoorSameB
import Derived.Test.YtldpflijgbcbhaaDoorBackL
namespace Go.Proofs.YtldpflijgbcbhaaDoor.reads
open Go.RowKit

def zeroE : EntryM := ⟨⟨#[]⟩, 0, 0, []⟩
def entX (l : List UInt8) : EntryM := match rdEntry l with | some p => p.1 | none => zeroE
def entN (l : List UInt8) : Nat := match rdEntry l with | some p => l.length - p.2.length | none => 0
def entOk (l : List UInt8) : Bool := (rdEntry l).isSome
def balT (l : List UInt8) : List BalM := match rdBals balCmp l with | some p => p.1 | none => []
def balN (l : List UInt8) : Nat := match rdBals balCmp l with | some p => l.length - p.2.length | none => 0
def balOk (l : List UInt8) : Bool := (rdBals balCmp l).isSome
def okC (b : Bool) : Int := if b = true then 0 else 9
theorem ent_le (l : List UInt8) : (entX l).lines.length ≤ 20 := by
  unfold entX
  cases h : rdEntry l with
  | none => simp [zeroE]
  | some p => obtain ⟨x, r⟩ := p; exact EntryM.ok_few (entry_bwd l x r h).2
theorem bal_le (l : List UInt8) : (balT l).length ≤ 200 := by
  unfold balT
  cases h : rdBals balCmp l with
  | none => simp
  | some p => obtain ⟨x, r⟩ := p; exact (bals_bwd l x r h).2.1
theorem entN_le (l : List UInt8) : entN l ≤ l.length := by
  unfold entN
  cases rdEntry l with
  | none => exact Nat.zero_le _
  | some p => exact Nat.sub_le _ _
theorem balN_le (l : List UInt8) : balN l ≤ l.length := by
  unfold balN
  cases rdBals balCmp l with
  | none => exact Nat.zero_le _
  | some p => exact Nat.sub_le _ _

theorem s_entry {B : Nat} {w w' : World} {l : List UInt8} {e : Ending} (h : dd.SReadPost B w l e w') : Below B w w' ∧ ∃ lao lc, e = .returned (.tuple #[entryV (entX l) lao lc, .int .i64 (entN l : Int), .bool (entOk l)]) ∧ LinesAt w' lao (entX l).lines := by
  obtain ⟨hb, h⟩ := h
  refine ⟨hb, ?_⟩
  unfold entX entN entOk
  cases hr : rdEntry l with
  | none => rw [hr] at h; exact ⟨none, 0, h, Or.inl rfl⟩
  | some p => obtain ⟨x, r⟩ := p; rw [hr] at h; obtain ⟨lao, lc, h1, h2⟩ := h; exact ⟨lao, lc, h1, h2⟩
theorem f_entry {B : Nat} {w w' : World} {l : List UInt8} {e : Ending} (h : ReadPost' B w l e w') : Below B w w' ∧ ∃ lao lc, e = .returned (.tuple #[entryV (entX l) lao lc, .int .i64 (entN l : Int), errV (okC (entOk l))]) ∧ LinesAt w' lao (entX l).lines := by
  obtain ⟨hb, h⟩ := h
  refine ⟨hb, ?_⟩
  unfold entX entN entOk
  cases hr : rdEntry l with
  | none => rw [hr] at h; exact ⟨none, 0, h, Or.inl rfl⟩
  | some p => obtain ⟨x, r⟩ := p; rw [hr] at h; obtain ⟨lao, lc, h1, h2, _⟩ := h; exact ⟨lao, lc, h1, h2⟩
theorem s_bals {B : Nat} {w w' : World} {l : List UInt8} {e : Ending} (h : dd.SRBPost B w l e w') : Below B w w' ∧ ∃ lao lc, e = .returned (.tuple #[.slice lao (balT l).length lc, .int .i64 (balN l : Int), .bool (balOk l)]) ∧ BalsAt w' lao (balT l) := by
  obtain ⟨hb, h⟩ := h
  refine ⟨hb, ?_⟩
  unfold balT balN balOk
  cases hr : rdBals balCmp l with
  | none => rw [hr] at h; exact ⟨none, 0, h, Or.inl rfl⟩
  | some p => obtain ⟨x, r⟩ := p; rw [hr] at h; obtain ⟨lao, lc, h1, h2⟩ := h; exact ⟨lao, lc, h1, h2⟩
theorem f_bals {B : Nat} {w w' : World} {l : List UInt8} {e : Ending} (h : RBalPost B w l e w') : Below B w w' ∧ ∃ lao lc, e = .returned (.tuple #[.slice lao (balT l).length lc, .int .i64 (balN l : Int), errV (okC (balOk l))]) ∧ BalsAt w' lao (balT l) := by
  obtain ⟨hb, h⟩ := h
  refine ⟨hb, ?_⟩
  unfold balT balN balOk
  cases hr : rdBals balCmp l with
  | none => rw [hr] at h; exact ⟨none, 0, h, Or.inl rfl⟩
  | some p => obtain ⟨x, r⟩ := p; rw [hr] at h; obtain ⟨lao, lc, h1, h2⟩ := h; exact ⟨lao, lc, h1, h2⟩
end Go.Proofs.YtldpflijgbcbhaaDoor.reads
