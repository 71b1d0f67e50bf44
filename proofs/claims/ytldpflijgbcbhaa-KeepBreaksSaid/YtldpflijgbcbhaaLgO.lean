/- A log that is being opened, in memory: all its blocks are new. -/
import Derived.Test.YtldpflijgbcbhaaLgA
import Derived.Test.YtldpflijgbcbhaaLgR
namespace Go.Proofs.Ytldpflijgbcbhaa.lg
open Go.RowKit

def Fresh (w wr : World) : Nat → Prop := fun x => w.heap.size ≤ x ∧ x < wr.heap.size
theorem LogIs.mono {w : World} {T T' : Nat → Prop} {p d fr mn : Nat} {L : LogS} {rv sv : Value} {rs : List Value} (h : LogIs w T p d fr mn L rv sv rs) (hT : ∀ k, T k → T' k) (hd : ∀ k, T' k → k < w.heap.size) : LogIs w T' p d fr mn L rv sv rs where
  self := h.self
  sd := hT _ h.sd
  recs := h.recs
  rsb := fun g hg => ⟨hT g (h.rsb g hg).1, (h.rsb g hg).2⟩
  rblk := fun i b hb => by obtain ⟨x, hx, hr⟩ := h.rblk i b hb; exact ⟨x, hx, hr.1, fun g hg => ⟨hT g (hr.2 g hg).1, (hr.2 g hg).2⟩⟩
  stream := h.stream
  ssb := fun g hg => ⟨hT g (h.ssb g hg).1, (h.ssb g hg).2⟩
  dom := hd
theorem LogAt.mono {w : World} {T T' : Nat → Prop} {p d fr mn : Nat} {L : LogS} (h : LogAt w T p d fr mn L) (hT : ∀ k, T k → T' k) (hd : ∀ k, T' k → k < w.heap.size) : LogAt w T' p d fr mn L := by
  obtain ⟨rv, sv, rs, h⟩ := h; exact ⟨rv, sv, rs, h.mono hT hd⟩

structure OpIs (w wr : World) (p d fr mn : Nat) (L : LogS) (rv sv : Value) (rs : List Value) : Prop where
  below : Below w.heap.size w wr
  log : LogIs wr (Fresh w wr) p d fr mn L rv sv rs
def OpAt (w wr : World) (p d fr mn : Nat) (L : LogS) : Prop := ∃ rv sv rs, OpIs w wr p d fr mn L rv sv rs
section
variable {w wr wr' : World} {p d fr mn : Nat} {L L' : LogS} {rv sv : Value} {rs : List Value}
theorem OpIs.later (h : OpIs w wr p d fr mn L rv sv rs) (hb : Below wr.heap.size wr wr') : OpIs w wr' p d fr mn L rv sv rs :=
  ⟨h.below.trans (hb.mono h.below.size), (h.log.later (fun k hk => hb.block k (h.log.dom k hk)) hb.size).mono (fun k hk => ⟨hk.1, Nat.lt_of_lt_of_le hk.2 hb.size⟩) (fun k hk => hk.2)⟩
theorem OpAt.later (h : OpAt w wr p d fr mn L) (hb : Below wr.heap.size wr wr') : OpAt w wr' p d fr mn L := by
  obtain ⟨rv, sv, rs, h⟩ := h; exact ⟨rv, sv, rs, h.later hb⟩
theorem OpIs.step (h : OpIs w wr p d fr mn L rv sv rs) (ho : Only (Fresh w wr) wr wr') (hl : LogAt wr' (Grow (Fresh w wr) wr wr') p d fr mn L') : OpAt w wr' p d fr mn L' := by
  obtain ⟨rv', sv', rs', hl⟩ := hl
  refine ⟨rv', sv', rs', h.below.trans (ho.below h.below.size (fun k hk => hk.1)), hl.mono (fun k hk => ?_) (fun k hk => hk.2)⟩
  have hs := ho.size
  have hs2 := h.below.size
  rcases hk with hk | ⟨hk1, hk2⟩
  · exact ⟨hk.1, Nat.lt_of_lt_of_le hk.2 hs⟩
  · exact ⟨Nat.le_trans hs2 hk1, hk2⟩
/-- the log's own block has changed -/
theorem OpIs.own (h : OpIs w wr p d fr mn L rv sv rs) (ho : Only (fun k => k = p) wr wr') (hs : OwnL wr' p d fr mn rv sv L'.epoch L'.safe L'.dirty L'.bare L'.broken) (e1 : L'.recs = L.recs) (e2 : L'.stream = L.stream) : OpAt w wr' p d fr mn L' := by
  obtain ⟨h1, h2⟩ := h.log.own_end (L' := L') ho hs e1 e2
  exact h.step h1 h2
theorem OpIs.ge (h : OpIs w wr p d fr mn L rv sv rs) : w.heap.size ≤ p ∧ p < wr.heap.size := h.log.sd
/-- the stream is another one -/
theorem OpIs.strm (h : OpIs w wr p d fr mn L rv sv rs) {w2 : World} {sv2 : Value} {s' : List UInt8} (hm : Moved wr w2 sv sv2) (hown : w2.ownsRow 0 5 1 sv2 s'.length (s'.map byteV)) : OpAt w (w2.setCell ⟨p, 4, none⟩ sv2) p d fr mn { L with stream := s' } := by
  obtain ⟨_, _, _, h4, h5⟩ := h.log.stream_end hm hown
  exact h.step h4 ⟨_, _, _, h5⟩
/-- a record more -/
theorem OpIs.rec1 (h : OpIs w wr p d fr mn L rv sv rs) {w2 : World} {rv2 x : Value} {b : List UInt8} (hx : RecAt wr (fun k => Fresh w wr k ∧ k ≠ p ∧ rv.ownBlock ≠ some k ∧ sv.ownBlock ≠ some k) x b) (hm : Moved wr w2 rv rv2) (hown : w2.ownsRow 0 23 1 rv2 (L.recs.length + 1) (rs ++ [x])) : OpAt w (w2.setCell ⟨p, 3, none⟩ rv2) p d fr mn { L with recs := L.recs ++ [b] } := by
  obtain ⟨_, _, h4, h5⟩ := h.log.recs_end hx hm hown
  exact h.step h4 ⟨_, _, _, h5⟩
end
end Go.Proofs.Ytldpflijgbcbhaa.lg
