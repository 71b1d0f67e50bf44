/- A log in memory, beside its disk and beside others' blocks. -/
import Derived.Test.YtldpflijgbcbhaaLgM
import Derived.Test.YtldpflijgbcbhaaDiskF
namespace Go.Proofs.Ytldpflijgbcbhaa.lg
open Go.RowKit

/-- a record's bytes, in a row of their own -/
def RecAt (w : World) (Q : Nat → Prop) (x : Value) (b : List UInt8) : Prop := w.ownsRow 0 5 1 x b.length (b.map byteV) ∧ ∀ g, x.ownBlock = some g → Q g
theorem RecAt.later {w w' : World} {Q Q' : Nat → Prop} {x : Value} {b : List UInt8} (h : RecAt w Q x b) (hk : ∀ g, Q g → w'.heap[g]? = w.heap[g]?) (hQ : ∀ g, Q g → Q' g) : RecAt w' Q' x b :=
  ⟨ownsRow_later h.1 (fun g hg => hk g (h.2 g hg)), fun g hg => hQ g (h.2 g hg)⟩

/-- the log's own block -/
structure OwnL (w : World) (p d fr mn : Nat) (rv sv : Value) (ep sf : Nat) (di ba br : Bool) : Prop where
  heap : w.heap[p]? = some (.cells #[.pointer (some ⟨d, 0, none⟩), .int .i64 fr, .int .i64 mn, rv, sv, .int .i64 ep, .int .i64 sf, .bool di, .bool ba, .bool br] 97 (0, 0))
section
variable {w w' : World} {p d fr mn : Nat} {rv sv : Value} {ep sf : Nat} {di ba br : Bool}
theorem OwnL.c0 (h : OwnL w p d fr mn rv sv ep sf di ba br) : w.cell? ⟨p, 0, none⟩ = some (.pointer (some ⟨d, 0, none⟩)) := by rw [cell_of_heap h.heap]; rfl
theorem OwnL.c1 (h : OwnL w p d fr mn rv sv ep sf di ba br) : w.cell? ⟨p, 1, none⟩ = some (.int .i64 fr) := by rw [cell_of_heap h.heap]; rfl
theorem OwnL.c2 (h : OwnL w p d fr mn rv sv ep sf di ba br) : w.cell? ⟨p, 2, none⟩ = some (.int .i64 mn) := by rw [cell_of_heap h.heap]; rfl
theorem OwnL.c3 (h : OwnL w p d fr mn rv sv ep sf di ba br) : w.cell? ⟨p, 3, none⟩ = some rv := by rw [cell_of_heap h.heap]; rfl
theorem OwnL.c4 (h : OwnL w p d fr mn rv sv ep sf di ba br) : w.cell? ⟨p, 4, none⟩ = some sv := by rw [cell_of_heap h.heap]; rfl
theorem OwnL.c5 (h : OwnL w p d fr mn rv sv ep sf di ba br) : w.cell? ⟨p, 5, none⟩ = some (.int .i64 ep) := by rw [cell_of_heap h.heap]; rfl
theorem OwnL.c6 (h : OwnL w p d fr mn rv sv ep sf di ba br) : w.cell? ⟨p, 6, none⟩ = some (.int .i64 sf) := by rw [cell_of_heap h.heap]; rfl
theorem OwnL.c7 (h : OwnL w p d fr mn rv sv ep sf di ba br) : w.cell? ⟨p, 7, none⟩ = some (.bool di) := by rw [cell_of_heap h.heap]; rfl
theorem OwnL.c8 (h : OwnL w p d fr mn rv sv ep sf di ba br) : w.cell? ⟨p, 8, none⟩ = some (.bool ba) := by rw [cell_of_heap h.heap]; rfl
theorem OwnL.c9 (h : OwnL w p d fr mn rv sv ep sf di ba br) : w.cell? ⟨p, 9, none⟩ = some (.bool br) := by rw [cell_of_heap h.heap]; rfl
theorem OwnL.free (h : OwnL w p d fr mn rv sv ep sf di ba br) (j : Nat) : w.frozen? ⟨p, j, none⟩ = false := free_of_heap h.heap j
theorem OwnL.lt (h : OwnL w p d fr mn rv sv ep sf di ba br) : p < w.heap.size := lt_of_heap h.heap
theorem OwnL.of_blk (h : OwnL w p d fr mn rv sv ep sf di ba br) (hb : w'.heap[p]? = w.heap[p]?) : OwnL w' p d fr mn rv sv ep sf di ba br := ⟨by rw [hb]; exact h.heap⟩
theorem OwnL.later (h : OwnL w p d fr mn rv sv ep sf di ba br) (hb : Below w.heap.size w w') : OwnL w' p d fr mn rv sv ep sf di ba br := h.of_blk (hb.block p h.lt)
theorem OwnL.set3 (h : OwnL w p d fr mn rv sv ep sf di ba br) (v : Value) : OwnL (w.setCell ⟨p, 3, none⟩ v) p d fr mn v sv ep sf di ba br := ⟨heap_setCell_same h.heap v⟩
theorem OwnL.set4 (h : OwnL w p d fr mn rv sv ep sf di ba br) (v : Value) : OwnL (w.setCell ⟨p, 4, none⟩ v) p d fr mn rv v ep sf di ba br := ⟨heap_setCell_same h.heap v⟩
theorem OwnL.set5 (h : OwnL w p d fr mn rv sv ep sf di ba br) (n : Nat) : OwnL (w.setCell ⟨p, 5, none⟩ (.int .i64 (n : Int))) p d fr mn rv sv n sf di ba br := ⟨heap_setCell_same h.heap _⟩
theorem OwnL.set6 (h : OwnL w p d fr mn rv sv ep sf di ba br) (n : Nat) : OwnL (w.setCell ⟨p, 6, none⟩ (.int .i64 (n : Int))) p d fr mn rv sv ep n di ba br := ⟨heap_setCell_same h.heap _⟩
theorem OwnL.set7 (h : OwnL w p d fr mn rv sv ep sf di ba br) (b : Bool) : OwnL (w.setCell ⟨p, 7, none⟩ (.bool b)) p d fr mn rv sv ep sf b ba br := ⟨heap_setCell_same h.heap _⟩
theorem OwnL.set8 (h : OwnL w p d fr mn rv sv ep sf di ba br) (b : Bool) : OwnL (w.setCell ⟨p, 8, none⟩ (.bool b)) p d fr mn rv sv ep sf di b br := ⟨heap_setCell_same h.heap _⟩
theorem OwnL.set9 (h : OwnL w p d fr mn rv sv ep sf di ba br) (b : Bool) : OwnL (w.setCell ⟨p, 9, none⟩ (.bool b)) p d fr mn rv sv ep sf di ba b := ⟨heap_setCell_same h.heap _⟩
end

structure LogIs (w : World) (T : Nat → Prop) (p d fr mn : Nat) (L : LogS) (rv sv : Value) (rs : List Value) : Prop where
  self : OwnL w p d fr mn rv sv L.epoch L.safe L.dirty L.bare L.broken
  sd : T p
  recs : w.ownsRow 0 23 1 rv L.recs.length rs
  rsb : ∀ g, rv.ownBlock = some g → T g ∧ g ≠ p
  rblk : ∀ (i : Nat) (b : List UInt8), L.recs[i]? = some b → ∃ x, rs[i]? = some x ∧ RecAt w (fun k => T k ∧ k ≠ p ∧ rv.ownBlock ≠ some k ∧ sv.ownBlock ≠ some k) x b
  stream : w.ownsRow 0 5 1 sv L.stream.length (L.stream.map byteV)
  ssb : ∀ g, sv.ownBlock = some g → T g ∧ g ≠ p
  dom : ∀ k, T k → k < w.heap.size
def LogAt (w : World) (T : Nat → Prop) (p d fr mn : Nat) (L : LogS) : Prop := ∃ rv sv rs, LogIs w T p d fr mn L rv sv rs

theorem LogIs.later {w w' : World} {T : Nat → Prop} {p d fr mn : Nat} {L : LogS} {rv sv : Value} {rs : List Value} (h : LogIs w T p d fr mn L rv sv rs) (hk : ∀ k, T k → w'.heap[k]? = w.heap[k]?) (hsz : w.heap.size ≤ w'.heap.size) : LogIs w' T p d fr mn L rv sv rs where
  self := h.self.of_blk (hk p h.sd)
  sd := h.sd
  recs := ownsRow_later h.recs (fun g hg => hk g (h.rsb g hg).1)
  rsb := h.rsb
  rblk := fun i b hb => by obtain ⟨x, hx, hr⟩ := h.rblk i b hb; exact ⟨x, hx, hr.later (fun g hg => hk g hg.1) (fun _ h => h)⟩
  stream := ownsRow_later h.stream (fun g hg => hk g (h.ssb g hg).1)
  ssb := h.ssb
  dom := fun k hk' => Nat.lt_of_lt_of_le (h.dom k hk') hsz
theorem LogAt.later {w w' : World} {T : Nat → Prop} {p d fr mn : Nat} {L : LogS} (h : LogAt w T p d fr mn L) (hk : ∀ k, T k → w'.heap[k]? = w.heap[k]?) (hsz : w.heap.size ≤ w'.heap.size) : LogAt w' T p d fr mn L := by
  obtain ⟨rv, sv, rs, h⟩ := h; exact ⟨rv, sv, rs, h.later hk hsz⟩
theorem LogAt.below {w w' : World} {T : Nat → Prop} {p d fr mn : Nat} {L : LogS} (h : LogAt w T p d fr mn L) (hb : Below w.heap.size w w') : LogAt w' T p d fr mn L := by
  obtain ⟨rv, sv, rs, h⟩ := h; exact ⟨rv, sv, rs, h.later (fun k hk => hb.block k (h.dom k hk)) hb.size⟩
theorem LogAt.dom {w : World} {T : Nat → Prop} {p d fr mn : Nat} {L : LogS} (h : LogAt w T p d fr mn L) : ∀ k, T k → k < w.heap.size := by
  obtain ⟨rv, sv, rs, h⟩ := h; exact h.dom
theorem diskAt_dom {w : World} {S : Nat → Prop} {d : Nat} {M : DiskM} (h : DiskAt w S d M) : ∀ k, S k → k < w.heap.size := by
  obtain ⟨_, _, _, _, _, _, _, _, h⟩ := h; exact h.dom

/-- a disk and a log on it, from block B on, beside others' blocks F -/
structure SysIs (B : Nat) (F S T : Nat → Prop) (w : World) (d : Nat) (M : DiskM) (p fr mn : Nat) (L : LogS) : Prop where
  disk : DiskAt w S d M
  log : LogAt w T p d fr mn L
  s_ : ∀ x, S x → B ≤ x ∧ ¬ F x ∧ ¬ T x
  t_ : ∀ x, T x → B ≤ x ∧ ¬ F x
  size : B ≤ w.heap.size
  f_ : ∀ x, F x → x < w.heap.size
def Sys (B : Nat) (F : Nat → Prop) (w : World) (d : Nat) (M : DiskM) (p fr mn : Nat) (L : LogS) : Prop := ∃ S T, SysIs B F S T w d M p fr mn L
def StepL (B : Nat) (F : Nat → Prop) (w : World) (d : Nat) (r : Value) (M' : DiskM) (p fr mn : Nat) (L' : LogS) (e : Ending) (w' : World) : Prop := e = .returned r ∧ Stays B F w w' ∧ Sys B F w' d M' p fr mn L'

section
variable {B : Nat} {F : Nat → Prop} {w w' : World} {d p fr mn : Nat} {M M' : DiskM} {L L' : LogS}
theorem Sys.later (h : Sys B F w d M p fr mn L) (hb : Below w.heap.size w w') : Sys B F w' d M p fr mn L := by
  obtain ⟨S, T, h⟩ := h
  exact ⟨S, T, h.disk.later hb, h.log.below hb, h.s_, h.t_, Nat.le_trans h.size hb.size, fun x hx => Nat.lt_of_lt_of_le (h.f_ x hx) hb.size⟩
/-- new blocks are others' -/
theorem Sys.more (h : Sys B F w d M p fr mn L) (hb : Below w.heap.size w w') (G : Nat → Prop) (hG : ∀ x, G x → F x ∨ (w.heap.size ≤ x ∧ x < w'.heap.size)) : Sys B G w' d M p fr mn L := by
  obtain ⟨S, T, h⟩ := h
  refine ⟨S, T, h.disk.later hb, h.log.below hb, fun x hx => ⟨(h.s_ x hx).1, fun hg => ?_, (h.s_ x hx).2.2⟩, fun x hx => ⟨(h.t_ x hx).1, fun hg => ?_⟩, Nat.le_trans h.size hb.size, fun x hx => ?_⟩
  · rcases hG x hg with hf | ⟨hf, _⟩
    · exact (h.s_ x hx).2.1 hf
    · have := diskAt_dom h.disk x hx; omega
  · rcases hG x hg with hf | ⟨hf, _⟩
    · exact (h.t_ x hx).2 hf
    · have := h.log.dom x hx; omega
  · rcases hG x hx with hf | ⟨_, hf⟩
    · exact Nat.lt_of_lt_of_le (h.f_ x hf) hb.size
    · exact hf
theorem Sys.less {G : Nat → Prop} (h : Sys B F w d M p fr mn L) (hG : ∀ x, G x → F x) : Sys B G w d M p fr mn L := h.more (Below.refl _ _) G (fun x hx => Or.inl (hG x hx))
theorem Sys.diskF (h : Sys B F w d M p fr mn L) : DiskF B F w d M := by
  obtain ⟨S, T, h⟩ := h
  exact ⟨S, h.disk, fun x hx => ⟨(h.s_ x hx).1, (h.s_ x hx).2.1⟩, h.size, h.f_⟩
/-- a step of the disk -/
theorem Sys.disk_step {f : FuncId} {args : Array Value} {r : Value} (h : Sys B F w d M p fr mn L)
    (hc : ∀ G : Nat → Prop, (∀ x, F x → G x) → DiskF B G w d M → Calls Try.prog f args w (StepF B G w d r M')) : Calls Try.prog f args w (StepL B F w d r M' p fr mn L) := by
  obtain ⟨S, T, h⟩ := h
  have hd : DiskF B (fun x => F x ∨ T x) w d M := ⟨S, h.disk, fun x hx => ⟨(h.s_ x hx).1, fun hg => by rcases hg with hg | hg; exact (h.s_ x hx).2.1 hg; exact (h.s_ x hx).2.2 hg⟩, h.size, fun x hx => by
    rcases hx with hx | hx
    · exact h.f_ x hx
    · exact h.log.dom x hx⟩
  refine (hc _ (fun x hx => Or.inl hx) hd).mono ?_
  rintro e w' ⟨rfl, hs, S', hd', h1, h2, h3⟩
  exact ⟨rfl, hs.mono (fun x hx => Or.inl hx), S', T, hd', h.log.later (fun x hx => hs.blk x (Or.inr hx)) hs.below.size, fun x hx => ⟨(h1 x hx).1, fun hf => (h1 x hx).2 (Or.inl hf), fun ht => (h1 x hx).2 (Or.inr ht)⟩, h.t_, h2, fun x hx => h3 x (Or.inl hx)⟩
/-- a step of the log's memory alone -/
theorem SysIs.own_step {S T : Nat → Prop} (h : SysIs B F S T w d M p fr mn L) (ho : Only T w w') (hl : LogAt w' (Grow T w w') p d fr mn L') : Stays B F w w' ∧ SysIs B F S (Grow T w w') w' d M p fr mn L' := by
  refine ⟨⟨ho.below h.size (fun x hx => (h.t_ x hx).1), fun x hx => ho.block x (h.f_ x hx) (fun ht => (h.t_ x ht).2 hx)⟩, h.disk.apart ho (fun x hx => (h.s_ x hx).2.2), hl, fun x hx => ⟨(h.s_ x hx).1, (h.s_ x hx).2.1, fun hg => ?_⟩, fun x hx => ?_, Nat.le_trans h.size ho.size, fun x hx => Nat.lt_of_lt_of_le (h.f_ x hx) ho.size⟩
  · rcases hg with hg | ⟨hg, _⟩
    · exact (h.s_ x hx).2.2 hg
    · have := diskAt_dom h.disk x hx; omega
  · rcases hx with hx | ⟨hx, _⟩
    · exact h.t_ x hx
    · exact ⟨by have := h.size; omega, fun hf => by have := h.f_ x hf; omega⟩
theorem Sys.lt (h : Sys B F w d M p fr mn L) : B ≤ p ∧ ¬ F p ∧ p < w.heap.size ∧ B ≤ w.heap.size := by
  obtain ⟨S, T, h⟩ := h
  obtain ⟨rv, sv, rs, hl⟩ := h.log
  exact ⟨(h.t_ p hl.sd).1, (h.t_ p hl.sd).2, hl.dom p hl.sd, h.size⟩
theorem Sys.own (h : Sys B F w d M p fr mn L) : ∃ rv sv, OwnL w p d fr mn rv sv L.epoch L.safe L.dirty L.bare L.broken := by
  obtain ⟨S, T, h⟩ := h
  obtain ⟨rv, sv, rs, hl⟩ := h.log
  exact ⟨rv, sv, hl.self⟩
/-- a change in the log's own block alone -/
theorem LogIs.own_end {T : Nat → Prop} {rv sv : Value} {rs : List Value} (h : LogIs w T p d fr mn L rv sv rs) (ho : Only (fun k => k = p) w w') (hs : OwnL w' p d fr mn rv sv L'.epoch L'.safe L'.dirty L'.bare L'.broken) (e1 : L'.recs = L.recs) (e2 : L'.stream = L.stream) :
    Only T w w' ∧ LogAt w' (Grow T w w') p d fr mn L' := by
  have hk : ∀ k, T k → k ≠ p → w'.heap[k]? = w.heap[k]? := fun k hk hne => ho.block k (h.dom k hk) hne
  refine ⟨ho.mono (fun k _ hk => by rw [hk]; exact h.sd), rv, sv, rs, hs, Or.inl h.sd, ?_, fun g hg => ⟨Or.inl (h.rsb g hg).1, (h.rsb g hg).2⟩, ?_, ?_, fun g hg => ⟨Or.inl (h.ssb g hg).1, (h.ssb g hg).2⟩, ?_⟩
  · rw [e1]; exact ownsRow_later h.recs (fun g hg => hk g (h.rsb g hg).1 (h.rsb g hg).2)
  · intro i b hb
    rw [e1] at hb
    obtain ⟨x, hx, hr⟩ := h.rblk i b hb
    exact ⟨x, hx, hr.later (fun g hg => hk g hg.1 hg.2.1) (fun g hg => ⟨Or.inl hg.1, hg.2⟩)⟩
  · rw [e2]; exact ownsRow_later h.stream (fun g hg => hk g (h.ssb g hg).1 (h.ssb g hg).2)
  · intro k hk
    rcases hk with hk | ⟨_, hk⟩
    · exact Nat.lt_of_lt_of_le (h.dom k hk) ho.size
    · exact hk
end
end Go.Proofs.Ytldpflijgbcbhaa.lg
