/- Opening a log, in memory: the chunks that are looked at. -/
import Derived.Test.YtldpflijgbcbhaaLgX
import Derived.Test.YtldpflijgbcbhaaLgM
namespace Go.Proofs.Ytldpflijgbcbhaa.lg
open Go.RowKit

def mkL (o : OpS) (rs : List (List UInt8)) : LogS := ⟨rs, o.stream, o.epoch, o.safe, false, o.bare, false⟩
/-- a box with a chunk is written: the log stays -/
theorem OpAt.chunk {w wr wr' : World} {p d fr mn : Nat} {L : LogS} (h : OpAt w wr p d fr mn L) {g : Nat} {cs : Array Value} {q : Nat × Nat} (hg : wr.heap[g]? = some (.cells cs 99 q)) (hge : w.heap.size ≤ g) (ho : Only (fun k => k = g) wr wr') : OpAt w wr' p d fr mn L := by
  obtain ⟨rv, sv, rs, h⟩ := h
  have hl := h.log
  have hne : ∀ k cs' ty q', wr.heap[k]? = some (.cells cs' ty q') → ty ≠ 99 → k ≠ g := fun k cs' ty q' hk ht e => by
    subst e
    rw [hg] at hk
    injection hk with hk
    injection hk with _ hk _
    exact ht hk.symm
  have hk : ∀ k, k < wr.heap.size → k ≠ g → wr'.heap[k]? = wr.heap[k]? := fun k h1 h2 => ho.block k h1 h2
  have hp : p ≠ g := hne p _ _ _ hl.self.heap (by decide)
  have hrow8 : ∀ (v : Value) (n : Nat) (xs : List Value), wr.ownsRow 0 5 1 v n xs → ∀ b, v.ownBlock = some b → wr'.heap[b]? = wr.heap[b]? := fun v n xs hr b hb => by
    obtain ⟨c, hc⟩ := row_block hr hb
    exact hk b (lt_of_heap hc) (hne b _ _ _ hc (by decide))
  have hrowr : ∀ b, rv.ownBlock = some b → wr'.heap[b]? = wr.heap[b]? := fun b hb => by
    obtain ⟨c, hc⟩ := row_block hl.recs hb
    exact hk b (lt_of_heap hc) (hne b _ _ _ hc (by decide))
  refine h.step (ho.mono (fun k hk hkg => ⟨by rw [hkg]; exact hge, hk⟩)) ⟨rv, sv, rs, hl.self.of_blk (hk p (hl.dom p hl.sd) hp), Or.inl hl.sd, ownsRow_later hl.recs hrowr, fun b hb => ⟨Or.inl (hl.rsb b hb).1, (hl.rsb b hb).2⟩, fun i b hi => ?_, ownsRow_later hl.stream (hrow8 _ _ _ hl.stream), fun b hb => ⟨Or.inl (hl.ssb b hb).1, (hl.ssb b hb).2⟩, fun k hk' => ?_⟩
  · obtain ⟨x, hx, hr⟩ := hl.rblk i b hi
    exact ⟨x, hx, ownsRow_later hr.1 (hrow8 _ _ _ hr.1), fun g hg => ⟨Or.inl (hr.2 g hg).1, (hr.2 g hg).2⟩⟩
  · rcases hk' with hk' | ⟨_, hk'⟩
    · exact Nat.lt_of_lt_of_le (hl.dom k hk') ho.size
    · exact hk'
section
variable {w wr wr' : World} {p d fr mn : Nat} {L L' : LogS}
theorem OpAt.below (h : OpAt w wr p d fr mn L) : Below w.heap.size w wr := by obtain ⟨_, _, _, h⟩ := h; exact h.below
theorem OpAt.own5 (h : OpAt w wr p d fr mn L) (e : Nat) : OpAt w (wr.setCell ⟨p, 5, none⟩ (.int .i64 (e : Int))) p d fr mn { L with epoch := e } := by
  obtain ⟨_, _, _, h⟩ := h; exact h.own (L' := { L with epoch := e }) (only_set _ _ _ _) (h.log.self.set5 e) rfl rfl
theorem OpAt.own6 (h : OpAt w wr p d fr mn L) (e : Nat) : OpAt w (wr.setCell ⟨p, 6, none⟩ (.int .i64 (e : Int))) p d fr mn { L with safe := e } := by
  obtain ⟨_, _, _, h⟩ := h; exact h.own (L' := { L with safe := e }) (only_set _ _ _ _) (h.log.self.set6 e) rfl rfl
theorem OpAt.own8 (h : OpAt w wr p d fr mn L) (e : Bool) : OpAt w (wr.setCell ⟨p, 8, none⟩ (.bool e)) p d fr mn { L with bare := e } := by
  obtain ⟨_, _, _, h⟩ := h; exact h.own (L' := { L with bare := e }) (only_set _ _ _ _) (h.log.self.set8 e) rfl rfl
theorem OpAt.cells (h : OpAt w wr p d fr mn L) : CellsL wr p d fr mn L := by
  obtain ⟨_, _, _, h⟩ := h; exact ⟨h.log.self.c0, h.log.self.c5, h.log.self.c6, h.log.self.c7, h.log.self.c8, h.log.self.c9, h.log.self.free⟩
theorem OpAt.head (h : OpAt w wr p d fr mn L) : HeadL wr p d fr mn := by obtain ⟨_, _, _, h⟩ := h; exact h.log.self.head
theorem OpAt.size' (h : OpAt w wr p d fr mn L) : SizeL wr p mn L.stream.length L.recs.length := by obtain ⟨_, _, _, h⟩ := h; exact h.log.size
theorem OpAt.drew (h : OpAt w wr p d fr mn L) : OpAt w wr.drew p d fr mn L := h.later (Below.refl _ _).drew
end
/-- a fresh log -/
def L0 : LogS := ⟨[], [], 0, 0, false, false, false⟩
theorem op_start {w : World} {d fr mn : Nat} : OpAt w (w.alloc (.cells #[.pointer (some ⟨d, 0, none⟩), .int .i64 fr, .int .i64 mn, .slice none 0 0, .slice none 0 0, .int .i64 0, .int .i64 0, .bool false, .bool false, .bool false] 97)) w.heap.size d fr mn L0 := by
  obtain ⟨W, hW⟩ : ∃ W, W = w.alloc (.cells #[.pointer (some ⟨d, 0, none⟩), .int .i64 fr, .int .i64 mn, .slice none 0 0, .slice none 0 0, .int .i64 0, .int .i64 0, .bool false, .bool false, .bool false] 97) := ⟨_, rfl⟩
  have hb : Below w.heap.size w W := by rw [hW]; exact (Below.refl _ _).alloc (Nat.le_refl _) _
  have hnew : W.heap[w.heap.size]? = some (.cells #[.pointer (some ⟨d, 0, none⟩), .int .i64 fr, .int .i64 mn, .slice none 0 0, .slice none 0 0, .int .i64 0, .int .i64 0, .bool false, .bool false, .bool false] 97 (0, 0)) := by rw [hW]; exact heap_new_at rfl _
  rw [← hW]
  refine ⟨.slice none 0 0, .slice none 0 0, [], hb, ⟨hnew⟩, ⟨Nat.le_refl _, lt_of_heap hnew⟩, World.ownsRow_nil _ _ _ _, fun g hg => (by cases hg), fun i b hi => ?_, World.ownsRow_nil _ _ _ _, fun g hg => (by cases hg), fun k hk => hk.2⟩
  simp [L0] at hi

/-- what read gives, as numbers -/
def ReadNum (w w' : World) (c : Option Chk) (u x e : Nat) (sp : Option Addr) (len cp : Nat) (ok : Bool) : Prop :=
  epOf c = e ∧ match c with
  | none => ok = false
  | some q => ok = true ∧ u = q.used ∧ x = q.index ∧ BytesW w' (.slice sp len cp) q.bytes ∧ ∀ a, sp = some a → w.heap.size ≤ a.block
theorem read_num {w w' : World} {c : Option Chk} {e : Ending} (h : ReadPostL w c e w') : Below w.heap.size w w' ∧ ∃ u x ep sp len cp ok, e = .returned (.tuple #[.agg #[.int .i64 (u : Nat), .int .i64 (x : Nat), .int .i64 (ep : Nat), .slice sp len cp], .bool ok]) ∧ ReadNum w w' c u x ep sp len cp ok := by
  obtain ⟨hb, h⟩ := h
  cases c with
  | none => exact ⟨hb, 0, 0, 0, none, 0, 0, false, h, rfl, rfl⟩
  | some q =>
    obtain ⟨bv, he, hby, hbb⟩ := h
    obtain ⟨sp, cp, hv, _⟩ := id hby
    subst hv
    exact ⟨hb, q.used, q.index, q.epoch, sp, q.bytes.length, cp, true, he, rfl, rfl, rfl, rfl, hby, fun a ha => hbb a.block (by rw [ha]; rfl)⟩

/-- in the midst of the blocks that may have a chunk -/
structure InS (w wr : World) (p d fr mn be ia k last j e0 : Nat) (blk : Nat → Option Chk) (L : LogS) (a : Int) : Prop where
  op : OpAt w wr p d fr mn { L with epoch := epN blk k e0 j }
  best : ∃ bu bx bep sp len cp, AccN (lookN blk k last j) bu bx bep a ∧ wr.heap[be]? = some (.cells #[.int .i64 bu, .int .i64 bx, .int .i64 bep, .slice sp len cp] 99 (0, 0)) ∧
    ∀ q, lookN blk k last j = some q → BytesW wr (.slice sp len cp) q.1.bytes ∧ ∀ x, sp = some x → be < x.block
  ix : wr.heap[ia]? = some (.cells #[.int .i64 0, .int .i64 1, .int .i64 ((2 + k : Nat) : Int)] 3 (0, 0))
  lt : w.heap.size ≤ be ∧ p < be ∧ be < ia
theorem idx_cell {w : World} {ia k : Nat} (h : w.heap[ia]? = some (.cells #[.int .i64 0, .int .i64 1, .int .i64 ((2 + k : Nat) : Int)] 3 (0, 0))) {j : Nat} (hj : j < 3) : w.cell? ⟨ia, j, none⟩ = some (.int .i64 (idx k j : Nat)) := by
  rw [cell_of_heap h]
  have : j = 0 ∨ j = 1 ∨ j = 2 := by omega
  rcases this with rfl | rfl | rfl <;> rfl
theorem InS.start {w wr : World} {p d fr mn k last : Nat} {blk : Nat → Option Chk} {o : OpS} (h : OpAt w wr p d fr mn (mkL o [])) (hp : p < wr.heap.size) (hw : w.heap.size ≤ wr.heap.size) :
    InS w ((wr.alloc (.cells #[.int .i64 0, .int .i64 0, .int .i64 (-1), .slice none 0 0] 99)).alloc (.cells #[.int .i64 0, .int .i64 1, .int .i64 (2 + (k : Int))] 3)) p d fr mn wr.heap.size (wr.heap.size + 1) k last 0 o.epoch blk (mkL o []) (-1) := by
  obtain ⟨V, hV⟩ : ∃ V, V = wr.alloc (.cells #[.int .i64 0, .int .i64 0, .int .i64 (-1), .slice none 0 0] 99) := ⟨_, rfl⟩
  have hb : Below wr.heap.size wr V := by rw [hV]; exact (Below.refl _ _).alloc (Nat.le_refl _) _
  have hn : V.heap[wr.heap.size]? = some (.cells #[.int .i64 0, .int .i64 0, .int .i64 (-1), .slice none 0 0] 99 (0, 0)) := by rw [hV]; exact heap_new_at rfl _
  have hs : V.heap.size = wr.heap.size + 1 := by rw [hV]; exact Array.size_push _
  rw [← hV]
  have hb2 : Below V.heap.size V (V.alloc (.cells #[.int .i64 0, .int .i64 1, .int .i64 (2 + (k : Int))] 3)) := (Below.refl _ _).alloc (Nat.le_refl _) _
  have hn2 := heap_new_at hs (.cells #[.int .i64 0, .int .i64 1, .int .i64 (2 + (k : Int))] 3 (0, 0))
  refine ⟨h.later (hb.trans (hb2.mono hb.size)), ⟨0, 0, -1, none, 0, 0, ⟨rfl, rfl, rfl, rfl⟩, (hb2.block _ (by omega)).trans hn, fun q hq => by cases hq⟩, ?_, hw, hp, by omega⟩
  rw [Int.natCast_add]; exact hn2
theorem idx_le {k j : Nat} : idx k j ≤ 2 + k := by unfold idx; split; omega; split <;> omega
/-- a chunk box of its own, and the log's epoch is more -/
theorem InS.read {w wr w9 : World} {p d fr mn be ia k last j e0 : Nat} {blk : Nat → Option Chk} {L : LogS} {a : Int} (h : InS w wr p d fr mn be ia k last j e0 blk L a) (hb : Below wr.heap.size wr w9) {u x ep : Nat} {sp : Option Addr} {len cp : Nat} {X : Nat} (hX : X = epN blk k e0 (j + 1)) {V : World}
    (hV : V = ((w9.setCell ⟨p, 5, none⟩ (.int .i64 (X : Int))).alloc (.cells #[.int .i64 u, .int .i64 x, .int .i64 ep, .slice sp len cp] 99)).drew) :
    OpAt w V p d fr mn { L with epoch := epN blk k e0 (j + 1) } ∧ V.heap[w9.heap.size]? = some (.cells #[.int .i64 u, .int .i64 x, .int .i64 ep, .slice sp len cp] 99 (0, 0)) ∧ (∀ g, g < wr.heap.size → g ≠ p → V.heap[g]? = wr.heap[g]?) ∧ (∀ g, g < w9.heap.size → g ≠ p → V.heap[g]? = w9.heap[g]?) ∧ w9.heap.size < V.heap.size ∧ p < wr.heap.size ∧ be < wr.heap.size ∧ ia < wr.heap.size := by
  have hp : p < wr.heap.size := h.op.head.lt
  have hib : ia < wr.heap.size := lt_of_heap h.ix
  have h1 := (h.op.later hb).own5 X
  have hss : (w9.setCell ⟨p, 5, none⟩ (.int .i64 (X : Int))).heap.size = w9.heap.size := World.size_setCell _ _ _
  have hba : Below w9.heap.size (w9.setCell ⟨p, 5, none⟩ (.int .i64 (X : Int))) ((w9.setCell ⟨p, 5, none⟩ (.int .i64 (X : Int))).alloc (.cells #[.int .i64 u, .int .i64 x, .int .i64 ep, .slice sp len cp] 99)).drew := by
    have := ((Below.refl _ (w9.setCell ⟨p, 5, none⟩ (.int .i64 (X : Int)))).alloc (Nat.le_refl _) (.cells #[.int .i64 u, .int .i64 x, .int .i64 ep, .slice sp len cp] 99)).drew
    rwa [hss] at this
  have h2 := h1.later (by rw [hss]; exact hba)
  have hbe : be < wr.heap.size := by have := h.lt; omega
  have hs9 := hb.size
  have hnew := heap_new_at hss (.cells #[.int .i64 u, .int .i64 x, .int .i64 ep, .slice sp len cp] 99 (0, 0))
  subst hV
  have hk9 : ∀ g, g < w9.heap.size → g ≠ p → ((w9.setCell ⟨p, 5, none⟩ (.int .i64 (X : Int))).alloc (.cells #[.int .i64 u, .int .i64 x, .int .i64 ep, .slice sp len cp] 99)).drew.heap[g]? = w9.heap[g]? := fun g hg hne => (hba.block g hg).trans (setCell_heap_ne hne)
  refine ⟨by rw [← hX]; exact h2, hnew, fun g hg hne => (hk9 g (by omega) hne).trans (hb.block g hg), hk9, ?_, hp, hbe, hib⟩
  exact lt_of_heap hnew
theorem BytesW.keep' {w w' : World} {v : Value} {l : List UInt8} (h : BytesW w v l) (hk : ∀ g, v.ownBlock = some g → g < w.heap.size → w'.heap[g]? = w.heap[g]?) (hs : w.heap.size ≤ w'.heap.size) : BytesW w' v l := by
  obtain ⟨sp, c, rfl, h⟩ := h
  refine ⟨sp, c, rfl, fun h0 => ?_⟩
  obtain ⟨b, o, rfl, hlt, hc⟩ := h h0
  exact ⟨b, o, rfl, Nat.lt_of_lt_of_le hlt hs, fun j u hj => (World.cell?_of_block (hk b rfl hlt)).trans (hc j u hj)⟩
theorem only_set4 (w : World) (r : Nat) (a b c v : Value) : Only (fun k => k = r) w (set4 w r a b c v) :=
  ((((Only.refl (fun k => k = r) w).setCell (p := ⟨r, 0, none⟩) (show r = r from rfl) a).setCell (p := ⟨r, 1, none⟩) (show r = r from rfl) b).setCell (p := ⟨r, 2, none⟩) (show r = r from rfl) c).setCell (p := ⟨r, 3, none⟩) (show r = r from rfl) v
theorem set4_at {w : World} {r : Nat} {a b c v a' b' c' v' : Value} {ty : TypeId} (h : w.heap[r]? = some (.cells #[a, b, c, v] ty (0, 0))) : (set4 w r a' b' c' v').heap[r]? = some (.cells #[a', b', c', v'] ty (0, 0)) := by
  have v1 := heap_setCell_same (j := 0) h a'
  have v2 := heap_setCell_same (j := 1) v1 b'
  have v3 := heap_setCell_same (j := 2) v2 c'
  exact heap_setCell_same (j := 3) v3 v'
section
variable {w wr w9 V : World} {p d fr mn be k last j e0 : Nat} {blk : Nat → Option Chk} {L : LogS} {a : Int}
theorem InS.keep (h : InS w wr p d fr mn be (be + 1) k last j e0 blk L a) (hop : OpAt w V p d fr mn { L with epoch := epN blk k e0 (j + 1) }) (hk : ∀ g, g < wr.heap.size → g ≠ p → V.heap[g]? = wr.heap[g]?) (hs : wr.heap.size ≤ V.heap.size)
    (he : lookN blk k last (j + 1) = lookN blk k last j) : InS w V p d fr mn be (be + 1) k last (j + 1) e0 blk L a := by
  obtain ⟨bu, bx, bep, sp, len, cp, h1, h2, h3⟩ := h.best
  obtain ⟨g1, g2, g3⟩ := h.lt
  refine ⟨hop, ⟨bu, bx, bep, sp, len, cp, by rw [he]; exact h1, (hk be (lt_of_heap h2) (by omega)).trans h2, fun q hq => ?_⟩, (hk (be + 1) (lt_of_heap h.ix) (by omega)).trans h.ix, h.lt⟩
  rw [he] at hq
  obtain ⟨h4, h5⟩ := h3 q hq
  refine ⟨BytesW.keep' h4 (fun g hg hlt => ?_) hs, h5⟩
  cases sp with
  | none => cases hg
  | some x =>
    have hxg : x.block = g := Option.some.inj hg
    have := h5 x rfl
    exact hk g hlt (by omega)
theorem InS.take (h : InS w wr p d fr mn be (be + 1) k last j e0 blk L a) (hop : OpAt w V p d fr mn { L with epoch := epN blk k e0 (j + 1) }) (hk : ∀ g, g < wr.heap.size → g ≠ p → V.heap[g]? = wr.heap[g]?) (hk9 : ∀ g, g < w9.heap.size → g ≠ p → V.heap[g]? = w9.heap[g]?) (hs9 : w9.heap.size < V.heap.size) (hsw : wr.heap.size ≤ w9.heap.size)
    {c : Chk} {I u x ep : Nat} {sp : Option Addr} {len cp : Nat} (he : lookN blk k last (j + 1) = some (c, I)) (hu : u = c.used) (hx : x = c.index) (hep : ep = c.epoch) (hb : BytesW w9 (.slice sp len cp) c.bytes) (hsp : ∀ y, sp = some y → wr.heap.size ≤ y.block) :
    InS w (set4 V be (.int .i64 u) (.int .i64 x) (.int .i64 ep) (.slice sp len cp)) p d fr mn be (be + 1) k last (j + 1) e0 blk L (I : Int) := by
  obtain ⟨bu, bx, bep, sp0, len0, cp0, h1, h2, h3⟩ := h.best
  obtain ⟨g1, g2, g3⟩ := h.lt
  have hbl := lt_of_heap h2
  have hVb := (hk be hbl (by omega)).trans h2
  have hpl : p < V.heap.size := hop.head.lt
  refine ⟨hop.chunk hVb g1 (only_set4 _ _ _ _ _ _), ⟨u, x, ep, sp, len, cp, by rw [he]; exact ⟨by rw [hu], by rw [hx], by rw [hep], rfl⟩, set4_at hVb, fun q hq => ?_⟩, (set4_heap (by omega)).trans ((hk (be + 1) (lt_of_heap h.ix) (by omega)).trans h.ix), h.lt⟩
  rw [he] at hq
  obtain rfl := Option.some.inj hq
  refine ⟨BytesW.keep' hb (fun g hg hlt => ?_) (by simp [set4]; omega), fun y hy => by have := hsp y hy; omega⟩
  cases sp with
  | none => cases hg
  | some y =>
    have hxg : y.block = g := Option.some.inj hg
    have := hsp y rfl
    have hpw := h.op.head.lt
    exact (set4_heap (by omega)).trans (hk9 g hlt (by omega))
theorem pick_lookN (blk : Nat → Option Chk) (k last : Nat) : lookN blk k last 3 = pick blk k last := rfl
theorem InS.grow {ia : Nat} {o : OpS} (h : InS w wr p d fr mn be ia k last 3 o.epoch blk (mkL o []) a) {c : Chk} {i : Nat} (hp : pick blk k last = some (c, i)) (hlen : o.stream.length ≤ 20000) (hbl : c.bytes.length ≤ 60) :
    ∃ ao cap sp len cp ao2 cap2 w2, wr.cell? ⟨p, 4, none⟩ = some (.slice ao o.stream.length cap) ∧ wr.heap[be]? = some (.cells #[.int .i64 c.used, .int .i64 c.index, .int .i64 c.epoch, .slice sp len cp] 99 (0, 0)) ∧
      (Builtin.append_ #[23, 23] 23 #[.slice ao o.stream.length cap, .slice sp len cp]).run Try.prog wr.drew = .ok (.slice ao2 (o.stream ++ c.bytes).length cap2) w2 ∧ w2.cell? ⟨p, 4, none⟩ = some (.slice ao o.stream.length cap) ∧ w2.frozen? ⟨p, 4, none⟩ = false ∧
      OpAt w (w2.setCell ⟨p, 4, none⟩ (.slice ao2 (o.stream ++ c.bytes).length cap2)) p d fr mn { mkL o [] with epoch := epK blk k o.epoch, stream := o.stream ++ c.bytes } ∧ (w2.setCell ⟨p, 4, none⟩ (.slice ao2 (o.stream ++ c.bytes).length cap2)).heap[be]? = some (.cells #[.int .i64 c.used, .int .i64 c.index, .int .i64 c.epoch, .slice sp len cp] 99 (0, 0)) := by
  obtain ⟨bu, bx, bep, sp, len, cp, h1, h2, h3⟩ := h.best
  rw [pick_lookN, hp] at h1 h3
  obtain ⟨rfl, rfl, rfl, rfl⟩ := h1
  obtain ⟨h4, h5⟩ := h3 _ rfl
  obtain ⟨rv, sv, rs, hop⟩ := h.op.drew
  have hl := hop.log
  obtain ⟨ao, cap, hsv⟩ := row_slice hl.stream
  have h4' : BytesW wr.drew (.slice sp len cp) c.bytes := BytesW.keep' h4 (fun _ _ _ => rfl) (Nat.le_refl _)
  obtain ⟨v2, w2, hr, hown, hgrow, hblk⟩ := run_append_bytes hl.stream h4' (by show o.stream.length + _ ≤ _; omega) (Nat.zero_le _) 23
  have hm : Moved wr.drew w2 sv v2 := Moved.append0 hgrow hblk
  have hown2 : w2.ownsRow 0 5 1 v2 (o.stream ++ c.bytes).length ((o.stream ++ c.bytes).map byteV) := ownsRow_cast hown (by rw [List.length_append]; rfl) (by rw [@List.map_append]; rfl)
  obtain ⟨ao2, cap2, hv2, _⟩ := row_slice' hown2
  have hst := hop.strm hm hown2
  obtain ⟨g1, g2, _, _, _⟩ := hl.stream_end hm hown2
  subst hv2
  rw [hsv] at hr g1
  have hpb : p ≠ be := by have := h.lt; omega
  have hbe : w2.heap[be]? = wr.heap[be]? := by
    refine hm.only.block be (lt_of_heap h2) (fun e => ?_)
    obtain ⟨cc, hc⟩ := row_block hl.stream e
    have hc' : wr.heap[be]? = _ := hc
    rw [h2] at hc'
    injection hc' with hc'
    injection hc' with _ hc' _
    exact absurd hc' (by decide)
  exact ⟨ao, cap, sp, len, cp, ao2, cap2, w2, by have := hl.self.c4; rw [hsv] at this; exact this, h2, hr, g1, g2, hst, (setCell_heap_ne hpb.symm).trans (hbe.trans h2)⟩
end
end Go.Proofs.Ytldpflijgbcbhaa.lg

/- Opening a log, in memory: the records, and the end. -/
namespace Go.Proofs.Ytldpflijgbcbhaa.lg
open Go.RowKit

theorem row_take {BASE n cap g a sz : Nat} {ty : TypeId} {w : World} {xs : List Value} (h : w.ownsRow BASE ty 1 (.slice (some ⟨g, 0, none⟩) n cap) n xs) (ha : a ≤ n) : w.ownsRow BASE ty 1 (.slice (some ⟨g, 0, none⟩) a cap) a (xs.take a) := by
  obtain ⟨h1, h2⟩ := h
  rcases h2 with ⟨h2, _⟩ | ⟨g', cap', cur, h2, h3, h4, h5, h6, h7, h8⟩
  · injection h2 with h2 _ _; cases h2
  · injection h2 with e1 _ e3
    injection e1 with e1
    injection e1 with e1 _ _
    subst e1; subst e3
    refine ⟨by rw [List.length_take]; omega, Or.inr ⟨g, cap, cur, rfl, h3, h4, by omega, h6, h7, ?_⟩⟩
    rw [← h8, List.take_take]
    congr 1; omega
/-- the stream is cut -/
theorem OpAt.cut {w wr : World} {p d fr mn : Nat} {L : LogS} (h : OpAt w wr p d fr mn L) {g cap a : Nat} (hs : wr.cell? ⟨p, 4, none⟩ = some (.slice (some ⟨g, 0, none⟩) L.stream.length cap)) (ha : a ≤ L.stream.length) : OpAt w (wr.setCell ⟨p, 4, none⟩ (.slice (some ⟨g, 0, none⟩) a cap)) p d fr mn { L with stream := L.stream.take a } := by
  obtain ⟨rv, sv, rs, h⟩ := h
  have hsv : sv = .slice (some ⟨g, 0, none⟩) L.stream.length cap := by have := h.log.self.c4; rw [hs] at this; injection this with this; exact this.symm
  have hr := h.log.stream
  rw [hsv] at hr
  have h2 := row_take (sz := 1) hr ha
  refine h.strm (sv2 := .slice (some ⟨g, 0, none⟩) a cap) (s' := L.stream.take a) ⟨Only.refl _ _, Or.inl (by rw [hsv]; rfl)⟩ ?_
  rw [← List.map_take] at h2
  exact ownsRow_cast h2 (by rw [List.length_take]; omega) rfl
/-- what it was, written again -/
theorem OpAt.nil4 {w wr : World} {p d fr mn : Nat} {L : LogS} (h : OpAt w wr p d fr mn L) (hs : wr.cell? ⟨p, 4, none⟩ = some (.slice none 0 0)) (h0 : L.stream = []) : OpAt w (wr.setCell ⟨p, 4, none⟩ (.slice none 0 0)) p d fr mn { L with stream := [] } := by
  obtain ⟨rv, sv, rs, h⟩ := h
  have hsv : sv = .slice none 0 0 := by have := h.log.self.c4; rw [hs] at this; injection this with this; exact this.symm
  exact h.strm (sv2 := .slice none 0 0) (s' := []) ⟨Only.refl _ _, Or.inl (by rw [hsv])⟩ (World.ownsRow_nil _ _ _ _)
theorem OpAt.stream {w wr : World} {p d fr mn : Nat} {L : LogS} (h : OpAt w wr p d fr mn L) : (L.stream = [] ∧ wr.cell? ⟨p, 4, none⟩ = some (.slice none 0 0)) ∨ ∃ g cap, wr.cell? ⟨p, 4, none⟩ = some (.slice (some ⟨g, 0, none⟩) L.stream.length cap) ∧ BytesW wr (.slice (some ⟨g, 0, none⟩) L.stream.length cap) L.stream ∧ g < wr.heap.size ∧ L.stream.length ≤ cap ∧ ∀ j, j < L.stream.length → wr.cell? ⟨g, j, none⟩ = some (.int .u8 (bAt L.stream j : Nat)) := by
  obtain ⟨rv, sv, rs, h⟩ := h
  have hl := h.log
  have hr := hl.stream
  rcases hr.2 with ⟨e, e0⟩ | ⟨g, cap, cur, e, _, hh, hc, _⟩
  · refine Or.inl ⟨List.length_eq_zero_iff.1 e0, ?_⟩
    have := hl.self.c4
    rw [e] at this; exact this
  · refine Or.inr ⟨g, cap, ?_, ?_, lt_of_heap hh, hc, fun j hj => ?_⟩
    · have := hl.self.c4
      rw [e] at this; exact this
    · rw [e] at hr; exact bytes_of_row hr rfl
    · rw [e] at hr
      rw [hr.cellAt j (by omega), List.getElem?_map, List.getElem?_eq_getElem hj]
      simp [byteV, bAt, List.getD_eq_getElem?_getD, List.getElem?_eq_getElem hj]
/-- a record more -/
theorem op_recs {w wr : World} {p d fr mn : Nat} {L : LogS} (h : OpAt w wr p d fr mn L) {rv x : Value} {b : List UInt8} (hrv : wr.cell? ⟨p, 3, none⟩ = some rv) {w5 : World} (hb5 : Below wr.heap.size wr w5) (hx : RecAt w5 (fun k => wr.heap.size ≤ k ∧ k < w5.heap.size) x b) (hlen : L.recs.length ≤ 100000) :
    ∃ ao6 cap6 w6, (Builtin.append_ #[56, 56] 56 #[rv, .slice (some ⟨w5.heap.size, 0, none⟩) 1 1]).run Try.prog (w5.alloc (.cells #[x] 23)) = .ok (.slice ao6 (L.recs.length + 1) cap6) w6 ∧
      w5.cell? ⟨p, 3, none⟩ = some rv ∧ w6.cell? ⟨p, 3, none⟩ = some rv ∧ w6.frozen? ⟨p, 3, none⟩ = false ∧ p < w5.heap.size ∧
      OpAt w (w6.setCell ⟨p, 3, none⟩ (.slice ao6 (L.recs.length + 1) cap6)) p d fr mn { L with recs := L.recs ++ [b] } := by
  have hw := h.below.size
  obtain ⟨rv', sv, rs, h⟩ := h
  have hl := h.log
  have hrr : rv' = rv := by have := hl.self.c3; rw [hrv] at this; injection this with this; exact this.symm
  subst hrr
  have h5 := h.later hb5
  have hl5 := h5.log
  obtain ⟨V, hV⟩ : ∃ V, V = w5.alloc (.cells #[x] 23) := ⟨_, rfl⟩
  have hbV : Below w5.heap.size w5 V := by rw [hV]; exact (Below.refl _ _).alloc (Nat.le_refl _) _
  have hnew : V.heap[w5.heap.size]? = some (.cells #[x] 23 (0, 0)) := by rw [hV]; exact heap_new_at rfl _
  have hsz : V.heap.size = w5.heap.size + 1 := by rw [hV]; exact Array.size_push _
  have hx1 : x.oneCell' = true := by
    rcases hx.1.2 with ⟨hv, _⟩ | ⟨g, cap, cur, hv, _⟩ <;> rw [hv] <;> rfl
  have hownV : V.ownsRow 0 23 1 rv' L.recs.length rs := ownsRow_later hl5.recs (fun g hg => hbV.block g (hl5.dom g (hl5.rsb g hg).1))
  obtain ⟨v6, w6, hr, hown, hgrow, hblk⟩ := run_append_rec hownV (cell_of_heap hnew 0) hx1 (by omega) (Nat.zero_le _) 56
  have hm : Moved w5 w6 rv' v6 := by rw [hV] at hgrow hsz hblk; exact Moved.append hgrow (by rw [hsz] at hblk; exact hblk)
  have hx5 : RecAt w5 (fun k => Fresh w w5 k ∧ k ≠ p ∧ rv'.ownBlock ≠ some k ∧ sv.ownBlock ≠ some k) x b := ⟨hx.1, fun g hg => by
    have hg2 := hx.2 g hg
    refine ⟨⟨by omega, hg2.2⟩, ?_, fun e => ?_, fun e => ?_⟩
    · have := hl.dom p hl.sd; omega
    · have := hl.dom g (hl.rsb g e).1; omega
    · have := hl.dom g (hl.ssb g e).1; omega⟩
  obtain ⟨g1, g2, g3, g4⟩ := hl5.recs_end hx5 hm hown
  have hst := h5.rec1 hx5 hm hown
  rw [hV] at hr
  obtain ⟨ao6, cap6, hv6, hc6⟩ := row_slice' hown
  subst hv6
  exact ⟨ao6, cap6, w6, hr, hl5.self.c3, g1, g2, hl5.dom p hl5.sd, hst⟩
/-- what is opened -/
theorem openS_is {blk : Nat → Option Chk} {mn : Nat} {o : OpS} (he : o.stream = (openGo blk (mn + 2) 0 op0).stream ∧ o.epoch = (openGo blk (mn + 2) 0 op0).epoch ∧ o.bare = (openGo blk (mn + 2) 0 op0).bare ∧ o.safe = (openGo blk (mn + 2) 0 op0).safe) {rs : List (List UInt8)} {a : Nat} (hp : parse o.stream.length o.stream = rs) (ht : o.stream.take a = enc rs) (ha : a ≤ o.stream.length) {b : Bool} (hb : b = bareOf o a) :
    openS blk mn = ⟨rs, o.stream.take a, epAll blk mn o.epoch + 1, o.safe, false, b, false⟩ := by
  obtain ⟨h1, h2, h3, h4⟩ := he
  have hal : (enc rs).length = a := by rw [← ht, List.length_take]; omega
  unfold openS
  rw [← h1, ← h2, ← h4, hp, hal, ht, hb]
  unfold bareOf
  rw [← h1, ← h3]
end Go.Proofs.Ytldpflijgbcbhaa.lg
