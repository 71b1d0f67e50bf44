/- BlockPlays: any steps on a disk: the program's disk is the document's. -/
import Derived.Test.YtldpflijgbcbhaaDoorBpL
import Derived.Test.YtldpflijgbcbhaaDoorTold
import Derived.Deep.RegionHeld3
import Derived.Deep.DeepCutAuto
import Derived.Deep.CutBlock
import Derived.StillTailTactics
import Derived.BigQuiet
import Derived.Deep.QuietTactic
import Derived.WalkSpells
namespace Go.Proofs.YtldpflijgbcbhaaDoor.bp
open Go.RowKit

/-- bytes as a text -/
theorem conv_in {w : World} {v : Value} {l : List UInt8} (h : BytesW w v l) (m : Nat) : (convert 22 9 v).run Tryd.prog (w.drewN m) = .ok (.string ⟨l.toArray⟩) (w.drewN m) := by
  obtain ⟨sp, cap, rfl, h⟩ := h
  rcases Nat.eq_zero_or_pos l.length with h0 | h0
  · obtain rfl := List.length_eq_zero_iff.1 h0
    cases sp with
    | none => exact run_convert_bytes_nil _ _ _ Tryd.underlying22 Tryd.underlying5 0 cap _ Tryd.underlying9
    | some a => exact run_convert_bytes_back (w.drewN m) _ _ _ a cap [] Tryd.underlying22 Tryd.underlying5 Tryd.underlying9 (fun j hj => by simp at hj)
  · obtain ⟨b, off, rfl, hlt, hx⟩ := h h0
    exact run_convert_bytes_back (w.drewN m) _ _ _ ⟨b, off, none⟩ cap l Tryd.underlying22 Tryd.underlying5 Tryd.underlying9 (fun j hj => by
      rw [addr_add]
      exact hx j (byteV l[j]) (by simp [hj]))
/-- rows of integers -/
def RowsAt (w : World) (ao : Option Addr) (zss : List (List Int)) : Prop :=
  zss = [] ∨ ∃ b off, ao = some ⟨b, off, none⟩ ∧ b < w.heap.size ∧ ∀ (i : Nat) (r : List Int), zss[i]? = some r → ∃ ra rc, w.cell? ⟨b, off + i, none⟩ = some (.slice ra r.length rc) ∧ IntsAt w ra r ∧ r.length ≤ rc ∧ rc ≤ 9223372036854775807 ∧ ∀ z ∈ r, -9223372036854775808 ≤ z ∧ z ≤ 9223372036854775807
/-- the first four, 0 where there is none -/
def four (r : List Int) (j k : Nat) : Int := if k < j then r.getD k 0 else 0
def vBox (r : List Int) (j : Nat) : Obj := .cells #[.int .i64 (four r j 0), .int .i64 (four r j 1), .int .i64 (four r j 2), .int .i64 (four r j 3)] 63 (0, 0)

theorem Two.stays {B : Nat} {F : Nat → Prop} {w w' : World} {d k : Nat} {M N : DiskM} (h : Two B F w d k M N) (ho : Only F w w') : Two B F w' d k M N := by
  obtain ⟨S, T, h⟩ := h
  exact ⟨S, T, h.disk.apart ho (fun x hx => (h.s_ x hx).2.1), kat_blocks h.doc (fun x hx => ho.block x (h.tdom x hx) (h.t_ x hx).2) ho.size, h.s_, h.t_, Nat.le_trans h.size ho.size, fun x hx => Nat.lt_of_lt_of_le (h.f_ x hx) ho.size⟩
/-- a call that leaves the world alone, within a region that draws -/
theorem quietN {P : Program} {f : FuncId} {args : Array Value} {v : Value} {w : World} (h : ∀ n, Calls P f args (w.drewN n) fun e w' => e = .returned v ∧ w.drewN n = w') (n : Nat) :
    Calls P f args (w.drewN n) fun e w2 => e = .returned v ∧ ∃ m, w2 = w.drewN m :=
  (h n).mono fun _ _ ⟨he, hm⟩ => ⟨he, n, hm.symm⟩
/-- all but the first -/
theorem tail_run (a : Option Addr) (n c : Nat) (w : World) : (Instr.slice 53 (.slice a (n + 1) (c + 1)) (some (.int .i64 1)) none none).run Tryd.prog w = .ok (.slice (if c = 0 then a else a.map (·.add 1)) n c) w := by
  have ht : Tryd.prog.underlying 53 = some (.slice (Tryd.prog.elem 53)) := by kernel_rfl
  rw [run_slice_l w 53 a (n + 1) (c + 1) ht .i64 1 (by omega) (by omega)]
  have hs : (sizeOf (Tryd.prog.elem 53)).run Tryd.prog w = .ok 1 w := by kernel_rfl
  rw [hs]
  simp [sliced, Result.andThen]
theorem tail_at {w : World} {b o c : Nat} {z : Int} {zt : List Int} (h : IntsAt w (some ⟨b, o, none⟩) (z :: zt)) (hc : zt.length ≤ c) : IntsAt w (if c = 0 then some ⟨b, o, none⟩ else (some ⟨b, o, none⟩ : Option Addr).map (·.add 1)) zt := by
  by_cases hz : zt = []
  · exact Or.inl hz
  · have hpos : 0 < zt.length := List.length_pos_iff.2 hz
    rw [if_neg (by omega)]
    obtain ⟨b', o', e, hc2⟩ := h.resolve_left (by simp)
    injection e with e
    injection e with e1 e2 _
    subst e1 e2
    refine Or.inr ⟨b, o + 1, rfl, fun i' hi' => ?_⟩
    have := hc2 (i' + 1) (by simp; omega)
    rw [Nat.add_assoc, Nat.add_comm 1 i']
    simpa using this
theorem bytes_lat {w w' : World} {v : Value} {l : List UInt8} (h : BytesW w v l) (hb : Below w.heap.size w w') : BytesW w' v l := by
  obtain ⟨sp, c, hx, hc⟩ := h
  refine ⟨sp, c, hx, fun h0 => ?_⟩
  obtain ⟨b', o', hsp, hlt, hcc⟩ := hc h0
  exact ⟨b', o', hsp, Nat.lt_of_lt_of_le hlt hb.size, fun j' u hu => (hb.cell (p := ⟨b', _, none⟩) hlt).trans (hcc j' u hu)⟩
/-- within a round: the two disks, the array of numbers -/
structure VSt (w : World) (d k q : Nat) (M N : DiskM) (o : Obj) (wr : World) : Prop where
  below : Below w.heap.size w wr
  two : Two w.heap.size (fun x => x = q) wr d k M N
  box : wr.heap[q]? = some o
  qB : w.heap.size ≤ q
theorem VSt.start {w wr : World} {d k : Nat} {M : DiskM} (hb : Below w.heap.size w wr) (h : Two w.heap.size (fun _ => False) wr d k M M) (r : List Int) :
    VSt w d k wr.heap.size M M (vBox r 0) (wr.alloc (.cells #[.int .i64 0, .int .i64 0, .int .i64 0, .int .i64 0] 63)) :=
  ⟨hb.alloc hb.size _, h.more ((Below.refl _ _).alloc (Nat.le_refl _) _) _ (fun x hx => Or.inr ⟨by omega, by simp; omega⟩), heap_new_at rfl _, hb.size⟩
theorem VSt.set {w wr : World} {d k q j : Nat} {M N : DiskM} {r : List Int} (h : VSt w d k q M N (vBox r j) wr) (hj : j < 4) : VSt w d k q M N (vBox r (j + 1)) (wr.setCell ⟨q, j, none⟩ (.int .i64 (r.getD j 0))) := by
  refine ⟨h.below.setCell (p := ⟨q, j, none⟩) h.qB _, h.two.stays ((Only.refl (fun x => x = q) wr).setCell (p := ⟨q, j, none⟩) rfl _), ?_, h.qB⟩
  rw [heap_setCell_same h.box]
  match j, hj with
  | 0, _ => simp [vBox, four]
  | 1, _ => simp [vBox, four]
  | 2, _ => simp [vBox, four]
  | 3, _ => simp [vBox, four]
theorem VSt.at {w wr : World} {d k q j : Nat} {M N : DiskM} {r : List Int} (h : VSt w d k q M N (vBox r j) wr) {i : Nat} (hi : i < 4) : wr.cell? ⟨q, i, none⟩ = some (.int .i64 (four r j i)) := by
  have := cell_of_heap h.box i
  match i, hi with
  | 0, _ => exact this
  | 1, _ => exact this
  | 2, _ => exact this
  | 3, _ => exact this
theorem VSt.free {w wr : World} {d k q j : Nat} {M N : DiskM} {r : List Int} (h : VSt w d k q M N (vBox r j) wr) (i : Nat) : wr.frozen? ⟨q, i, none⟩ = false := free_of_heap h.box i
theorem four_all {r : List Int} {j : Nat} (h : r.length ≤ j ∨ 4 ≤ j) {i : Nat} (hi : i < 4) : four r j i = r.getD i 0 := by
  unfold four
  split
  · rfl
  · rename_i hn
    rcases h with h | h
    · simp [List.getElem?_eq_none (show r.length ≤ i by omega)]
    · omega
theorem VSt.later {w wr wr' : World} {d k q : Nat} {M N : DiskM} {o : Obj} (h : VSt w d k q M N o wr) (hb : Below wr.heap.size wr wr') : VSt w d k q M N o wr' :=
  ⟨h.below.trans (hb.mono h.below.size), h.two.later hb, by rw [hb.block q (lt_of_heap h.box)]; exact h.box, h.qB⟩
theorem VSt.flush {w wr : World} {d k q : Nat} {M N : DiskM} {o : Obj} (h : VSt w d k q M N o wr) (hs : M.steps ≤ 1000000000000) :
    Calls Tryd.prog 27 #[.pointer (some ⟨d, 0, none⟩)] wr (fun e w' => e = .returned (errV M.fcode) ∧ VSt w d k q M.fl N o w') := by
  refine (h.two.disk_step (fun G _ hd => flushF w.heap.size G wr d M hd hs)).mono ?_
  rintro e w' ⟨rfl, hst, ht⟩
  exact ⟨rfl, h.below.trans hst.below, ht, by rw [hst.blk q rfl]; exact h.box, h.qB⟩
theorem VSt.kflush {w wr : World} {d k q : Nat} {M N : DiskM} {o : Obj} (h : VSt w d k q M N o wr) (hs : N.steps ≤ 1000000000000) :
    Calls Tryd.prog 31 #[.pointer (some ⟨k, 0, none⟩)] wr (fun e w' => e = .returned (.int .i64 N.fcode) ∧ VSt w d k q M N.fl o w') := by
  refine (h.two.doc_step (fun T hT _ => kflushT wr T k N hT hs)).mono ?_
  rintro e w' ⟨rfl, hst, ht⟩
  exact ⟨rfl, h.below.trans hst.below, ht, by rw [hst.blk q rfl]; exact h.box, h.qB⟩
theorem VSt.crash {w wr : World} {d k q : Nat} {M N : DiskM} {o : Obj} (h : VSt w d k q M N o wr) (ao : Option Addr) (kcap : Nat) (keep : List Int) (torn : Int) (hz : IntsAt wr ao keep) (hkl : keep.length ≤ 9223372036854775807) (hs : M.since.length ≤ 1000000000) :
    Calls Tryd.prog 24 #[.pointer (some ⟨d, 0, none⟩), .slice ao keep.length kcap, .int .i64 torn] wr (fun e w' => e = .returned (.tuple #[]) ∧ VSt w d k q (M.crash keep torn) N o w') := by
  refine (h.two.disk_step (fun G _ hd => crashF w.heap.size G ao kcap keep torn wr d M hd hz hkl hs)).mono ?_
  rintro e w' ⟨rfl, hst, ht⟩
  exact ⟨rfl, h.below.trans hst.below, ht, by rw [hst.blk q rfl]; exact h.box, h.qB⟩
theorem VSt.kcrash {w wr : World} {d k q : Nat} {M N : DiskM} {o : Obj} (h : VSt w d k q M N o wr) (ao : Option Addr) (kcap : Nat) (keep : List Int) (torn : Int) (hz : IntsAt wr ao keep) (hkl : keep.length ≤ 9223372036854775807) (hs : N.since.length ≤ 1000000000) :
    Calls Tryd.prog 32 #[.pointer (some ⟨k, 0, none⟩), .slice ao keep.length kcap, .int .i64 torn] wr (fun e w' => e = .returned (.tuple #[]) ∧ VSt w d k q M (N.crash keep torn) o w') := by
  refine (h.two.doc_step (fun T hT _ => kk.kcrash_any ao kcap keep torn wr T k N hT hz hkl hs)).mono ?_
  rintro e w' ⟨rfl, hst, ht⟩
  exact ⟨rfl, h.below.trans hst.below, ht, by rw [hst.blk q rfl]; exact h.box, h.qB⟩
theorem VSt.fail {w wr : World} {d k q : Nat} {M N : DiskM} {o : Obj} (h : VSt w d k q M N o wr) (n : Int) (hn : n ≤ 9223372036854775807) :
    Calls Tryd.prog 33 #[.pointer (some ⟨d, 0, none⟩), .int .i64 n] wr (fun e w' => e = .returned (.tuple #[]) ∧ VSt w d k q (M.fail n) N o w') := by
  refine (h.two.disk_step (fun G _ hd => failF w.heap.size G n wr d M hd hn)).mono ?_
  rintro e w' ⟨rfl, hst, ht⟩
  exact ⟨rfl, h.below.trans hst.below, ht, by rw [hst.blk q rfl]; exact h.box, h.qB⟩
theorem VSt.done {w wr : World} {d k q : Nat} {M N : DiskM} {o : Obj} (h : VSt w d k q M N o wr) : Hid (Below w.heap.size w wr) ∧ Hid (Two w.heap.size (fun _ => False) wr d k M N) := ⟨h.below, h.two.less (fun x hx => hx.elim)⟩
theorem IntsAt.ofBelow {w w' : World} {ao : Option Addr} {zs : List Int} (h : IntsAt w ao zs) (hb : Below w.heap.size w w') : IntsAt w' ao zs := h.laterN hb
theorem VSt.step {w wr wr' : World} {d k q : Nat} {M N M' N' : DiskM} {o : Obj} (h : VSt w d k q M N o wr) (hs : Stays w.heap.size (fun x => x = q) wr wr') (ht : Two w.heap.size (fun x => x = q) wr' d k M' N') : VSt w d k q M' N' o wr' :=
  ⟨h.below.trans hs.below, ht, by rw [hs.blk q rfl]; exact h.box, h.qB⟩

/-- the same, the bytes to be written besides -/
structure WSt (w : World) (d k q : Nat) (M N : DiskM) (o : Obj) (bv : Value) (l : List UInt8) (wr : World) : Prop where
  below : Below w.heap.size w wr
  two : Two w.heap.size (fun x => x = q ∨ bv.ownBlock = some x) wr d k M N
  box : wr.heap[q]? = some o
  qB : w.heap.size ≤ q
  bytes : BytesW wr bv l
theorem WSt.start {w wr wr' : World} {d k q : Nat} {M N : DiskM} {o : Obj} {bv : Value} {l : List UInt8} (h : VSt w d k q M N o wr) (hb : Below wr.heap.size wr wr') (hr : wr'.ownsRow wr.heap.size 5 1 bv l.length (l.map byteV)) : WSt w d k q M N o bv l wr' := by
  refine ⟨h.below.trans (hb.mono h.below.size), h.two.more hb _ (fun x hx => ?_), by rw [hb.block q (lt_of_heap h.box)]; exact h.box, h.qB, (BytesIn.of_row hr).toW⟩
  rcases hx with hx | hx
  · exact Or.inl hx
  · right
    rcases hr.2 with ⟨hv, _⟩ | ⟨g, c, cur, hv, hg, hh, _⟩
    · rw [hv] at hx; simp [Value.ownBlock] at hx
    · rw [hv] at hx
      simp only [Value.ownBlock, Option.some.injEq] at hx
      subst hx
      exact ⟨hg, lt_of_heap hh⟩
theorem WSt.step {w wr wr' : World} {d k q : Nat} {M N M' N' : DiskM} {o : Obj} {bv : Value} {l : List UInt8} (h : WSt w d k q M N o bv l wr) (hs : Stays w.heap.size (fun x => x = q ∨ bv.ownBlock = some x) wr wr') (ht : Two w.heap.size (fun x => x = q ∨ bv.ownBlock = some x) wr' d k M' N') : WSt w d k q M' N' o bv l wr' :=
  ⟨h.below.trans hs.below, ht, by rw [hs.blk q (Or.inl rfl)]; exact h.box, h.qB, h.bytes.stays hs (fun _ b hb => Or.inr (Or.inr hb))⟩
theorem WSt.later {w wr wr' : World} {d k q : Nat} {M N : DiskM} {o : Obj} {bv : Value} {l : List UInt8} (h : WSt w d k q M N o bv l wr) (hb : Below wr.heap.size wr wr') : WSt w d k q M N o bv l wr' :=
  h.step (Stays.of_below hb h.below.size (fun x hx => by obtain ⟨S, T, ht⟩ := h.two; exact ht.f_ x hx)) (h.two.later hb)
theorem WSt.write {w wr : World} {d k q : Nat} {M N : DiskM} {o : Obj} {bv : Value} {l : List UInt8} (h : WSt w d k q M N o bv l wr) (i : Int) (hs : M.steps ≤ 1000000000000) (hsn : M.since.length ≤ 1000000000) (hl : l.length ≤ 9223372036854775807) :
    Calls Tryd.prog 23 #[.pointer (some ⟨d, 0, none⟩), .int .i64 i, bv] wr (fun e w' => e = .returned (errV (M.wcode i l.length)) ∧ WSt w d k q (M.wr i l) N o bv l w') := by
  refine (h.two.disk_step (fun G hG hd => writeF w.heap.size G i bv l wr d M hd hs hsn hl h.bytes (fun _ b hb => Or.inr (hG b (Or.inr hb))))).mono ?_
  rintro e w' ⟨rfl, hst, ht⟩
  exact ⟨rfl, h.step hst ht⟩
theorem WSt.kwrite {w wr : World} {d k q : Nat} {M N : DiskM} {o : Obj} {bv : Value} {l : List UInt8} (h : WSt w d k q M N o bv l wr) (i : Int) (hs : N.steps ≤ 1000000000000) (hsn : N.since.length ≤ 1000000000) (hl : l.length ≤ 9223372036854775807) :
    Calls Tryd.prog 30 #[.pointer (some ⟨k, 0, none⟩), .int .i64 i, bv] wr (fun e w' => e = .returned (.int .i64 (N.wcode i l.length)) ∧ WSt w d k q M (N.wr i l) o bv l w') := by
  refine (h.two.doc_step (fun T hT hF => kwriteT i bv l wr T k N hT hs hsn hl h.bytes (fun _ b hb ht => (hF b ht).2 (Or.inr hb)))).mono ?_
  rintro e w' ⟨rfl, hst, ht⟩
  exact ⟨rfl, h.step hst ht⟩
theorem WSt.cell1 {w wr : World} {d k q : Nat} {M N : DiskM} {r : List Int} {j : Nat} {bv : Value} {l : List UInt8} (h : WSt w d k q M N (vBox r j) bv l wr) : wr.cell? ⟨q, 1, none⟩ = some (.int .i64 (four r j 1)) := cell_of_heap h.box 1

set_option maxRecDepth 100000 in
set_option maxHeartbeats 8000000 in
theorem walk_in (n : Nat) (sao : Option Addr) (scap : Nat) (zss : List (List Int)) (w : World) (hg : Door w) (hz : RowsAt w sao zss) (hm : zss.length ≤ 9223372036854775807) (h1 : 1 ≤ n) (h2 : n ≤ 200) :
    Calls Tryd.prog 7 #[.int .i64 (n : Int), .slice sao zss.length scap] w fun e w' => e = .returned (.bool true) ∧ Below w.heap.size w w' := by
  have hpos := hg.pos
  have hc1 := newF n w h1 h2
  have r1 : decide ((n : Int) < 1) = false := decide_eq_false (by omega)
  have r2 : decide ((200 : Int) < (n : Int)) = false := decide_eq_false (by omega)
  have HG := Lib.hid hg
  have HZ := Lib.hid hz
  clear hg hz
  go_enter Tryd.func7, Tryd.ntmps7
  go_wp2_with fail
  refine hc1.mono ?_
  rintro e w1 ⟨rfl, hb1, hd1⟩
  have he := error_any 0 0 w1 (HG.out.below hb1 hpos)
  rw [errV_zero] at he
  have B1 := Lib.hid hb1
  have D1 := Lib.hid hd1
  clear hc1 hb1 hd1
  go_wp2_with fail
  refine he.mono ?_
  rintro e w2 ⟨rfl, hb2⟩
  have hk := kk.knew_ok n w2 h1 h2
  have B2 := Lib.hid (B1.out.trans (hb2.mono B1.out.size))
  have D2 := Lib.hid (D1.out.later hb2)
  clear he hb2 D1
  go_wp2_with fail
  refine hk.mono ?_
  rintro e w3 ⟨rfl, hb3, hk3⟩
  obtain ⟨k, hkk⟩ : ∃ k, k = w2.heap.size := ⟨_, rfl⟩
  have T3 : Hid (Two w.heap.size (fun _ => False) w3 w.heap.size k (DiskM.new n) (DiskM.new n)) := by
    obtain ⟨S, q1, q2, q3, q4⟩ := D2.out
    obtain ⟨S', q1', q2', q3', q4'⟩ := D2.out.later hb3
    refine ⟨S, fun x => w2.heap.size ≤ x ∧ x < w3.heap.size, q1.later hb3, by rw [hkk]; exact hk3, fun x hx => ⟨(q2 x hx).1, id, fun h => ?_⟩, fun x hx => ⟨by have := B2.out.size; omega, id⟩, q3', fun x hx => hx.elim⟩
    obtain ⟨_, _, _, _, _, _, _, _, hi⟩ := q1
    have := hi.dom x hx
    omega
  have B3 := Lib.hid (B2.out.trans (hb3.mono B2.out.size))
  rw [← hkk]
  clear hk hb3 hk3 D2 hkk B1 B2
  go_wp2_with fail
  go_loopw [8, 10] (fun z i wr => ∃ (i' : Nat) (M : DiskM), i = .int .i64 (i' : Int) ∧ i' ≤ zss.length ∧ i' ≤ 60 ∧ z = .bool true ∧ Fine n i' M ∧ Hid (Below w.heap.size w wr) ∧ Hid (Two w.heap.size (fun _ => False) wr w.heap.size k M M)) (fun _ i _ => zss.length - (intOf i).toNat)
  case atStart => exact ⟨0, DiskM.new n, rfl, Nat.zero_le _, Nat.zero_le _, rfl, Fine.new n, B3, T3⟩
  case round =>
    clear T3 B3
    obtain ⟨i, M, rfl, hi, hi60, rfl, hF, hB, hT⟩ := hrel
    by_cases hlt : i < zss.length ∧ i < 60
    · obtain ⟨hl1, hl2⟩ := hlt
      obtain ⟨r, hr⟩ : ∃ r, zss[i]? = some r := ⟨zss[i], List.getElem?_eq_getElem hl1⟩
      obtain ⟨b, off, rfl, hb, hc⟩ := HZ.out.resolve_left (fun e => by rw [e] at hl1; simp at hl1)
      obtain ⟨ra, rc, hcell, hints, hrc1, hrc2, hrz⟩ := hc i r hr
      have cr : wr.cell? ⟨b, off + i, none⟩ = some (.slice ra r.length rc) := (hB.out.cell (p := ⟨b, off + i, none⟩) hb).trans hcell
      have HI := Lib.hid hints
      have hiI : (i : Int) < (zss.length : Int) := by omega
      have hi60I : (i : Int) < 60 := by omega
      have hi0 : (0 : Int) ≤ (i : Int) := by omega
      have hz1b : -9223372036854775808 ≤ r.getD 1 0 ∧ r.getD 1 0 ≤ 9223372036854775807 := by
        by_cases h : 1 < r.length
        · have := hrz r[1] (List.getElem_mem h)
          simpa [h] using this
        · simp [List.getElem?_eq_none (show r.length ≤ 1 by omega)]
      clear hc hcell hints hr hrz
      obtain ⟨q, hq⟩ : ∃ q, q = wr.heap.size := ⟨_, rfl⟩
      have V0 : Hid (VSt w w.heap.size k q M M (vBox r 0) (wr.alloc (.cells #[.int .i64 0, .int .i64 0, .int .i64 0, .int .i64 0] 63))) := by
        show VSt _ _ _ _ _ _ _ _
        rw [hq]; exact VSt.start hB.out hT.out r
      have hqB : w.heap.size ≤ q := by rw [hq]; exact hB.out.size
      have HQ := Lib.hid hq
      have hbc : ∀ wx, Below w.heap.size w wx → Hid (wx.cell? ⟨b, off + i, none⟩ = some (.slice ra r.length rc)) := fun wx hbx => by
        have h0 : wr.cell? ⟨b, off + i, none⟩ = some (.slice ra r.length rc) := cr
        exact (hbx.cell (p := ⟨b, off + i, none⟩) hb).trans ((hB.out.cell (p := ⟨b, off + i, none⟩) hb).symm.trans h0)
      have HBC := Lib.hid hbc
      clear hq hbc
      go_upto_block 2 with (fail)
      rw [← HQ.out]
      clear hT hB cr
      go_cut [12] (fun _ wx => ∃ j : Nat, Hid (VSt w w.heap.size k q M M (vBox r j) wx) ∧ Hid (∀ i', i' < 4 → four r j i' = r.getD i' 0))
      case first =>
        go_wp2_with fail
        go_loopw [12] (fun jv wr2 => ∃ j : Nat, jv = .int .i64 (j : Int) ∧ j ≤ r.length ∧ j ≤ 4 ∧ Hid (VSt w w.heap.size k q M M (vBox r j) wr2)) (fun jv _ => 4 - (intOf jv).toNat)
        case atStart => exact ⟨0, rfl, Nat.zero_le _, Nat.zero_le _, V0⟩
        case round =>
          clear V0
          obtain ⟨j, rfl, hj1, hj2, hV⟩ := hrel
          have cr := (HBC.out _ hV.out.below).out
          by_cases hjl : j < r.length ∧ j < 4
          · obtain ⟨hjl1, hjl2⟩ := hjl
            obtain ⟨b2, o2, rfl, hc2⟩ := HI.out.resolve_left (fun e => by rw [e] at hjl1; simp at hjl1)
            have hb2 : b2 < w.heap.size := by
              have h0 := hc2 j hjl1
              rcases Nat.lt_or_ge b2 w.heap.size with h1 | h1
              · exact h1
              · simp [World.cell?, Array.getElem?_eq_none h1] at h0
            have cj := (hV.out.below.cell (p := ⟨b2, o2 + j, none⟩) hb2).trans (hc2 j hjl1)
            have cq := hV.out.at hjl2
            have fq := hV.out.free j
            have V1 := Lib.hid (hV.out.set hjl2)
            have hjI : (j : Int) < (r.length : Int) := by omega
            have hj4 : (j : Int) < 4 := by omega
            have hj0 : (0 : Int) ≤ (j : Int) := by omega
            clear hc2 hV
            generalize r.getD j 0 = z at *
            go_wp2_with fail
            go_roundw
            case rel => exact ⟨j + 1, by go_num, by omega, by omega, V1⟩
            case measure => simp [intOf]; omega
          · have HVA : Hid (∀ i', i' < 4 → four r j i' = r.getD i' 0) := fun i' hi' => four_all (r := r) (j := j) (by omega) hi'
            have hj3 : (decide ((j : Int) < (r.length : Int)) = false ∧ decide (j < r.length) = false) ∨ (decide ((j : Int) < (r.length : Int)) = true ∧ decide (j < r.length) = true ∧ decide ((j : Int) < 4) = false ∧ decide (j < 4) = false) := by
              by_cases h : j < r.length
              · exact Or.inr ⟨decide_eq_true (by omega), decide_eq_true h, decide_eq_false (by omega), decide_eq_false (by omega)⟩
              · exact Or.inl ⟨decide_eq_false (by omega), decide_eq_false h⟩
            clear hjl
            rcases hj3 with ⟨hj3, hj5⟩ | ⟨hj3, hj5, hj4, hj6⟩
            all_goals
              go_wp2_with fail
              go_meet
              exact ⟨j, hV, HVA⟩
      case rest =>
        obtain ⟨j, hV, hVA⟩ := hcut
        clear V0
        have v0 := hV.out.at (i := 0) (by omega)
        have v1 := hV.out.at (i := 1) (by omega)
        have v2 := hV.out.at (i := 2) (by omega)
        rw [hVA.out 0 (by omega)] at v0
        rw [hVA.out 1 (by omega)] at v1
        rw [hVA.out 2 (by omega)] at v2
        have HV1 : Hid (four r j 1 = r.getD 1 0) := hVA.out 1 (by omega)
        have cr : wc.cell? ⟨b, off + i, none⟩ = some (.slice ra r.length rc) := (HBC.out _ hV.out.below).out
        generalize hz0 : r.getD 0 0 = z0 at *
        generalize r.getD 1 0 = z1 at *
        generalize r.getD 2 0 = z2 at *
        have HZ0 := Lib.hid hz0
        clear hz0 hVA
        go_upto_block 4 with (fail)
        go_cut [8] (fun z wx => z = .bool true ∧ ∃ M' : DiskM, Fine n (i + 1) M' ∧ Hid (Below w.heap.size w wx) ∧ Hid (Two w.heap.size (fun _ => False) wx w.heap.size k M' M'))
        case first =>
          clear HZ
          by_cases hw : z0 = 0 ∨ z0 = 1 ∨ z0 = 2
          · have hby := bytesOf_any z2 wc
            have hw' : ((z0 == 0) = true) ∨ ((z0 == 0) = false ∧ (z0 == 1) = true) ∨ ((z0 == 0) = false ∧ (z0 == 1) = false ∧ (z0 == 2) = true) := by
              rcases hw with h | h | h <;> subst h <;> simp
            clear hw HZ0
            rcases hw' with q0 | ⟨q0, q1⟩ | ⟨q0, q1, q2⟩
            all_goals
              go_wp2_with fail
              refine hby.mono ?_
              rintro e w5_ ⟨bv, rfl, hrow, hb5⟩
              have hLl : (bytesOfL z2).length ≤ 65 := by rw [bytesOfL, bytesTo_len]; exact clamp65_le z2
              have w5 := WSt.start hV.out hb5 hrow
              have w5d := w5.later (wr' := w5_.drew) ((Below.refl _ _).drew)
              generalize bytesOfL z2 = L at *
              have hms : M.steps ≤ 1000000000000 := by have := hF.steps; omega
              have hmn : M.since.length ≤ 1000000000 := by have := hF.since; omega
              have hcW := w5d.write z1 hms hmn (by omega)
              have hcK : ∀ wx, WSt w w.heap.size k q (M.wr z1 L) M (vBox r j) bv L wx → _ := fun wx h => h.kwrite z1 hms hmn (by omega)
              have hcE : ∀ wx, Below w.heap.size w wx → _ := fun wx h => error_any (M.wcode z1 L.length) (M.wcode z1 L.length) wx (HG.out.below h hpos)
              have HF2 := Lib.hid (hF.wr z1 L)
              have hok : ((M.wcode z1 L.length : Int) == M.wcode z1 L.length) = true := by simp
              generalize M.wcode z1 L.length = C at *
              generalize M.wr z1 L = M2 at *
              have vc : w5_.cell? ⟨q, 1, none⟩ = some (.int .i64 z1) := by rw [← HV1.out]; exact w5.cell1
              have HKP : ∀ (M' N' : DiskM) wx, WSt w w.heap.size k q M' N' (vBox r j) bv L wx → Hid (wx.cell? ⟨q, 1, none⟩ = some (.int .i64 z1)) := fun M' N' wx h => by rw [← HV1.out]; exact h.cell1
              have HKP' := Lib.hid HKP
              have HcK := Lib.hid hcK
              have HcE := Lib.hid hcE
              have HcW := Lib.hid hcW
              have HOK := Lib.hid hok
              clear hby hrow hb5 w5 w5d HKP hcK hcE hcW hok v0 v1 v2 cr hV
              go_wp2_with fail
              go_region_held3 (fun w' => w'.cell? ⟨q, 1, none⟩ = some (.int .i64 z1))
                (first | exact (HKP'.out _ _ _ (h10.later h11)).out | exact (HKP'.out _ _ _ h10).out | exact (HKP'.out _ _ _ h9).out | exact vc | go_keep)
                (first
                  | (go_at_call 23; refine HcW.out.mono ?_; rintro e w9 ⟨rfl, h9⟩)
                  | (go_at_call 30; refine (HcK.out _ h9).mono ?_; rintro e w10 ⟨rfl, h10⟩)
                  | (go_at_call 13; refine (HcE.out _ h10.below).mono ?_; rintro e w11 ⟨rfl, h11⟩))
              all_goals
                have HB11 := Lib.hid (h10.later h11).below
                have HT11 := Lib.hid ((h10.later h11).two.less (G := fun _ => False) (fun x hx => hx.elim))
                clear h9 h10 h11 vc HKP' HcK HcE HcW HOK
                go_wp2_with fail
                go_meet
                exact ⟨rfl, M2, HF2.out, HB11, HT11⟩
          · have q0 : (z0 == 0) = false := by simp; omega
            have q1 : (z0 == 1) = false := by simp; omega
            have q2 : (z0 == 2) = false := by simp; omega
            have hms : M.steps ≤ 1000000000000 := by have := hF.steps; omega
            have hmn : M.since.length ≤ 1000000000 := by have := hF.since; omega
            clear hw
            by_cases h3 : z0 = 3
            · have q3 : (z0 == 3) = true := beq_iff_eq.2 h3
              have hc1 := hV.out.flush hms
              have HF2 := Lib.hid hF.fl
              have hcK : ∀ wx, VSt w w.heap.size k q M.fl M (vBox r j) wx → _ := fun wx h => h.kflush hms
              have hcE : ∀ wx, Below w.heap.size w wx → _ := fun wx h => error_any M.fcode M.fcode wx (HG.out.below h hpos)
              generalize M.fcode = C at *
              generalize M.fl = M2 at *
              have hok : ((C : Int) == C) = true := by simp
              have HOK := Lib.hid hok
              have HcK := Lib.hid hcK
              have HcE := Lib.hid hcE
              clear h3 hcK hcE hok v1 v2 cr hV HZ0
              go_wp2_with fail
              refine hc1.mono ?_
              rintro e w9 ⟨rfl, h9⟩
              have H9 := Lib.hid h9
              clear hc1 h9
              go_wp2_with fail
              refine (HcK.out _ H9.out).mono ?_
              rintro e w10 ⟨rfl, h10⟩
              have H10 := Lib.hid h10
              clear h10 H9
              go_wp2_with fail
              refine (HcE.out _ H10.out.below).mono ?_
              rintro e w11 ⟨rfl, h11⟩
              rw [HOK.out]
              obtain ⟨HB11, HT11⟩ := (H10.out.later h11).done
              clear h11 H10
              go_wp2_with fail
              go_meet
              exact ⟨rfl, M2, HF2.out, HB11, HT11⟩
            · have q3 : (z0 == 3) = false := beq_eq_false_iff_ne.2 h3
              by_cases h4 : z0 = 4
              · have q4 : (z0 == 4) = true := beq_iff_eq.2 h4
                obtain ⟨zt, rfl⟩ : ∃ zt, r = z0 :: zt := by
                  have h0 := HZ0.out
                  cases r with
                  | nil => simp at h0; omega
                  | cons x zt => simp at h0; exact ⟨zt, by rw [h0]⟩
                obtain ⟨b2, o2, rfl, hc2⟩ := HI.out.resolve_left (by simp)
                have hb2 : b2 < w.heap.size := by
                  have h0 := hc2 0 (by simp)
                  rcases Nat.lt_or_ge b2 w.heap.size with h1 | h1
                  · exact h1
                  · simp [World.cell?, Array.getElem?_eq_none h1] at h0
                obtain ⟨cc, rfl⟩ : ∃ cc, rc = cc + 1 := ⟨rc - 1, by rw [List.length_cons] at hrc1; omega⟩
                rw [List.length_cons] at cr hrc1
                have HBC4 : Hid (∀ wx, Below w.heap.size w wx → wx.cell? ⟨b, off + i, none⟩ = some (.slice (some ⟨b2, o2, none⟩) (zt.length + 1) (cc + 1))) := fun wx hb => (HBC.out wx hb).out
                have hti := tail_at HI.out (by omega : zt.length ≤ cc)
                have hsl := tail_run (some ⟨b2, o2, none⟩) zt.length cc
                obtain ⟨A, hA⟩ : ∃ A, A = (if cc = 0 then some ⟨b2, o2, none⟩ else (some ⟨b2, o2, none⟩ : Option Addr).map (·.add 1)) := ⟨_, rfl⟩
                rw [← hA] at hti hsl
                have HT4 := Lib.hid hti
                have HF2 := Lib.hid (hF.crash hV.out.two.slen zt z1)
                have hmn : M.since.length ≤ 1000000000 := by have := hF.since; omega
                have hlb : wc.heap.size ≥ w.heap.size := hV.out.below.size
                have hc1 := fun m => (VSt.later hV.out (wr' := wc.drewN m) (below_drewN (Below.refl _ _) m)).crash A cc zt z1 (IntsAt.laterN (zs := zt) HT4.out (below_drewN hV.out.below m)) (by omega) hmn
                have HC1 := Lib.hid hc1
                have hcK : ∀ wx, VSt w w.heap.size k q (M.crash zt z1) M (vBox (z0 :: zt) j) wx → _ := fun wx h => fun m => (VSt.later h (wr' := wx.drewN m) (below_drewN (Below.refl _ _) m)).kcrash A cc zt z1 (IntsAt.laterN (zs := zt) HT4.out (below_drewN h.below m)) (by omega) hmn
                have HCK := Lib.hid hcK
                have HKV : Hid (∀ (M' N' : DiskM) wx, VSt w w.heap.size k q M' N' (vBox (z0 :: zt) j) wx → wx.cell? ⟨q, 1, none⟩ = some (.int .i64 z1)) := fun M' N' wx h => by
                  have h1 := cell_of_heap h.box 1
                  rw [← HV1.out]
                  exact h1
                clear h3 h4 hc2 hV HZ0 HI v0 v2 HBC hA hti hc1 hcK
                go_wp2_with fail
                go_still_tail 8, (by kernel_rfl)
                go_wp2_with fail
                first | refine (HC1.out _).mono ?_ | refine (HC1.out 1).mono ?_
                rintro e w9 ⟨rfl, h9⟩
                have H9 := Lib.hid h9
                have cr9 := HBC4.out w9 h9.below
                have v9 := HKV.out _ _ _ h9
                have hcK := HCK.out w9 h9
                have HCK9 := Lib.hid hcK
                clear HC1 HCK HBC4 h9 hcK cr v1 HKV
                go_wp2_with fail
                go_still_tail 8, (by kernel_rfl)
                go_wp2_with fail
                first | refine (HCK9.out _).mono ?_ | refine (HCK9.out 1).mono ?_
                rintro e w10 ⟨rfl, h10⟩
                obtain ⟨HB11, HT11⟩ := h10.done
                clear HCK9 H9 h10 cr9 v9 hsl
                go_wp2_with fail
                go_meet
                exact ⟨rfl, M.crash zt z1, HF2.out, HB11, HT11⟩
              · have q4 : (z0 == 4) = false := beq_eq_false_iff_ne.2 h4
                by_cases h5 : z0 = 5
                · have q5 : (z0 == 5) = true := beq_iff_eq.2 h5
                  obtain ⟨zb1, zb2⟩ := hz1b
                  have hc1 := hV.out.fail z1 zb2
                  clear h3 h4 h5 cr hV HZ0 v2
                  go_wp2_with fail
                  refine hc1.mono ?_
                  rintro e w9 ⟨rfl, h9⟩
                  obtain ⟨bn, cn, bs, cs, sv, ho⟩ := h9.two.own
                  have s4 := ho.c4
                  have g4 := ho.free 4
                  have n1 : w9.cell? ⟨q, 1, none⟩ = some (.int .i64 z1) := by rw [← HV1.out]; exact h9.at (by omega)
                  obtain ⟨_, hkq, _⟩ := h9.two.ge
                  have hqk : ¬ q = k := fun e => hkq e.symm
                  have hkq' : ¬ k = q := hkq
                  have HFF := Lib.hid (hF.fail z1)
                  have H9 := Lib.hid h9
                  clear hc1 h9 ho hkq v1
                  by_cases hneg : z1 < 0
                  · have d5 : decide (z1 < 0) = true := decide_eq_true hneg
                    have hb' : ∀ wx, (wx = w9.setCell ⟨k, 4, none⟩ (.int .i64 (-1)) ∨ ∃ a, wx = (w9.setCell ⟨k, 4, none⟩ (.int .i64 a)).setCell ⟨k, 4, none⟩ (.int .i64 (-1))) → Hid (Below w.heap.size w wx) ∧ Hid (Two w.heap.size (fun _ => False) wx w.heap.size k (M.fail z1) (M.fail z1)) := fun wx hw => by
                      have h2 := (H9.out.two.set_stop hw (by omega)).less (G := fun _ => False) (fun x hx => hx.elim)
                      have e1 : ({ M with stop := -1 } : DiskM) = M.fail z1 := by unfold DiskM.fail; rw [if_pos (by omega)]
                      rw [e1] at h2
                      have hkB := H9.out.two.ge.1
                      refine ⟨?_, h2⟩
                      rcases hw with rfl | ⟨a, rfl⟩
                      · exact H9.out.below.setCell (p := ⟨k, 4, none⟩) hkB _
                      · exact (H9.out.below.setCell (p := ⟨k, 4, none⟩) hkB _).setCell (p := ⟨k, 4, none⟩) hkB _
                    have HB' := Lib.hid hb'
                    clear hneg hb'
                    go_wp2_with fail
                    go_meet
                    exact ⟨rfl, M.fail z1, HFF.out, (HB'.out _ (by first | exact Or.inl rfl | exact Or.inr ⟨_, rfl⟩)).1, (HB'.out _ (by first | exact Or.inl rfl | exact Or.inr ⟨_, rfl⟩)).2⟩
                  · have d5 : decide (z1 < 0) = false := decide_eq_false hneg
                    have hb' : Hid (Below w.heap.size w (w9.setCell ⟨k, 4, none⟩ (.int .i64 z1))) ∧ Hid (Two w.heap.size (fun _ => False) (w9.setCell ⟨k, 4, none⟩ (.int .i64 z1)) w.heap.size k (M.fail z1) (M.fail z1)) := by
                      have h2 := (H9.out.two.set_stop (n := z1) (Or.inl rfl) (by omega)).less (G := fun _ => False) (fun x hx => hx.elim)
                      have e1 : ({ M with stop := z1 } : DiskM) = M.fail z1 := by unfold DiskM.fail; rw [if_neg (by omega)]
                      rw [e1] at h2
                      exact ⟨H9.out.below.setCell (p := ⟨k, 4, none⟩) H9.out.two.ge.1 _, h2⟩
                    obtain ⟨hb1', hb2'⟩ := hb'
                    clear hneg
                    go_wp2_with fail
                    go_meet
                    exact ⟨rfl, M.fail z1, HFF.out, hb1', hb2'⟩
                · have q5 : (z0 == 5) = false := beq_eq_false_iff_ne.2 h5
                  obtain ⟨HB11, HT11⟩ := hV.out.done
                  have HF2 := Lib.hid hF.next
                  clear h3 h4 h5 cr hV HZ0 v1 v2
                  go_wp2_with fail
                  go_meet
                  exact ⟨rfl, M, HF2.out, HB11, HT11⟩
        case rest =>
          obtain ⟨rfl, M', hF', hB', hT'⟩ := hcut
          obtain ⟨bn, cn, bs, cs, sv, ho⟩ := hT'.out.own
          have s3 := ho.c3
          have hSt := fun n => stepsF _ _ _ _ _ (hT'.out.diskF.later (w' := wc.drewN n) (below_drewN (Below.refl _ _) n))
          have hBl := fun n => blocksF _ _ _ _ _ (hT'.out.diskF.later (w' := wc.drewN n) (below_drewN (Below.refl _ _) n))
          rw [hF'.len] at hBl
          have e1 : ((M'.steps : Int) == (M'.steps : Int)) = true := beq_self_eq_true _
          have e2 : ((n : Int) == (n : Int)) = true := beq_self_eq_true _
          have HSt := Lib.hid hSt
          have HBl := Lib.hid hBl
          clear ho hSt hBl
          go_wp2_with fail
          go_quiet ((first | (go_at_call 28; exact quietN HSt.out _) | (go_at_call 34; exact quietN HBl.out _)))
          have HB0 : Hid (Below w.heap.size w (wc.drewN nq)) := below_drewN hB'.out nq
          have HT0 : Hid (Two w.heap.size (fun _ => False) (wc.drewN nq) w.heap.size k M' M') := hT'.out.later (below_drewN (Below.refl _ _) nq)
          clear HSt HBl s3 e1 e2 hB' hT'
          generalize wc.drewN nq = wd at *
          go_wp2_with fail
          go_loopw [8, 14] (fun z jv wx => ∃ j : Nat, jv = .int .i64 (j : Int) ∧ j ≤ n ∧ j ≤ 12 ∧ z = .bool true ∧ Hid (Below w.heap.size w wx) ∧ Hid (Two w.heap.size (fun _ => False) wx w.heap.size k M' M')) (fun _ jv _ => 12 - (intOf jv).toNat)
          case atStart => exact ⟨0, rfl, Nat.zero_le _, Nat.zero_le _, rfl, HB0, HT0⟩
          case round =>
            clear HB0 HT0
            obtain ⟨j, rfl, hj1, hj2, rfl, hB2, hT2⟩ := hrel
            by_cases hjl : j < n ∧ j < 12
            · obtain ⟨hjn, hj12⟩ := hjl
              obtain ⟨m, hm⟩ : ∃ m, M'.now[j]? = some m := ⟨M'.now[j]'(by rw [hF'.len]; exact hjn), List.getElem?_eq_getElem _⟩
              have hrd := readF _ _ j m _ _ _ hT2.out.diskF hm
              obtain ⟨bn2, cn2, x, k0, k1, kb, kc, klt, kbl⟩ := hT2.out.look hm
              rw [hF'.len] at k0
              have hjI : (j : Int) < (n : Int) := by omega
              have hj12I : (j : Int) < 12 := by omega
              have hj0 : (0 : Int) ≤ (j : Int) := by omega
              have K0 := Lib.hid k0
              have K1 := Lib.hid k1
              have KB := Lib.hid kb
              have KC := Lib.hid kc
              clear hm k0 k1 kb kc
              go_wp2_with fail
              refine hrd.mono ?_
              intro e w5 hp
              obtain ⟨hp, hb5⟩ := hp
              have q0 := (hb5.cell (p := ⟨k, 0, none⟩) klt).trans K0.out
              have q1 := (hb5.cell (p := ⟨bn2, j, none⟩) kbl).trans K1.out
              have HB5 := Lib.hid (hB2.out.trans (hb5.mono hB2.out.size))
              have HT5 := Lib.hid (hT2.out.later hb5)
              have KB5 := Lib.hid (bytes_lat KB.out hb5)
              have klt5 := Nat.lt_of_lt_of_le klt hb5.size
              have kbl5 := Nat.lt_of_lt_of_le kbl hb5.size
              have hv : ∃ v, e = .returned (.tuple #[v, errV (blkC m)]) ∧ BytesW w5 v (blkL m) := by
                cases m with
                | none => exact ⟨.slice none 0 0, hp, none, 0, rfl, fun h0 => absurd h0 (by simp [blkL])⟩
                | some l =>
                  obtain ⟨g, c, he, hr, hl⟩ := hp
                  refine ⟨.slice (some ⟨g, 0, none⟩) 64 c, he, ?_⟩
                  have hr2 : w5.ownsRow wr.heap.size 5 1 (.slice (some ⟨g, 0, none⟩) 64 c) l.length (l.map byteV) := by rw [hl]; exact hr
                  exact (BytesIn.of_row hr2).toW
              obtain ⟨v, rfl, hvb⟩ := hv
              have VB := Lib.hid hvb
              have her := error_any (blkC m) (blkC m) w5 (HG.out.below HB5.out hpos)
              have hok : ((blkC m : Int) == blkC m) = true := by simp
              rw [hok] at her
              clear hrd hb5 K0 K1 hB2 hT2 hp hvb hok klt kbl
              have hxc : (blkC m = 9 ∧ x = .slice none 0 0) ∨ (blkC m = 0 ∧ ∃ g, x = .slice (some ⟨g, 0, none⟩) 64 64) := by
                rcases KC.out with ⟨h1, h2⟩ | ⟨l, g, h1, _, h2⟩
                · exact Or.inl ⟨by rw [h1]; rfl, h2⟩
                · exact Or.inr ⟨by rw [h1]; rfl, g, h2⟩
              clear KC KB
              generalize blkL m = BL at *
              generalize blkC m = BC at *
              rcases hxc with ⟨rfl, rfl⟩ | ⟨rfl, g2, rfl⟩
              · have hnil := Lib.run_eql_slice_nil (P := Tryd.prog) w5 22 5 none 0 0 0 0 Tryd.underlying22
                go_wp2_with fail
                refine her.mono ?_
                rintro e w6 ⟨rfl, hb6⟩
                have q0' := (hb6.cell (p := ⟨k, 0, none⟩) klt5).trans q0
                have q1' := (hb6.cell (p := ⟨bn2, j, none⟩) kbl5).trans q1
                have HB6 := fun n => Lib.hid (below_drewN (HB5.out.trans (hb6.mono HB5.out.size)) n)
                have HT6 := fun n => Lib.hid ((HT5.out.later hb6).later (w' := w6.drewN n) (below_drewN (Below.refl _ _) n))
                have hcv1 := fun n => conv_in (bytes_lat VB.out hb6) n
                have hcv2 := fun n => conv_in (bytes_lat KB5.out hb6) n
                clear her hnil hb6 q0 q1 VB KB5 HB5 HT5
                go_wp2_with fail
                go_quiet (fail)
                clear hcv1 hcv2
                go_wp2_with fail
                go_roundw
                case rel => exact ⟨j + 1, by go_num, by omega, by omega, rfl, HB6 _, HT6 _⟩
                case measure => simp [intOf]; omega
              · have hnil := Lib.run_eql_slice_nil (P := Tryd.prog) w5 22 5 (some ⟨g2, 0, none⟩) 64 64 0 0 Tryd.underlying22
                go_wp2_with fail
                refine her.mono ?_
                rintro e w6 ⟨rfl, hb6⟩
                have q0' := (hb6.cell (p := ⟨k, 0, none⟩) klt5).trans q0
                have q1' := (hb6.cell (p := ⟨bn2, j, none⟩) kbl5).trans q1
                have HB6 := fun n => Lib.hid (below_drewN (HB5.out.trans (hb6.mono HB5.out.size)) n)
                have HT6 := fun n => Lib.hid ((HT5.out.later hb6).later (w' := w6.drewN n) (below_drewN (Below.refl _ _) n))
                have hcv1 := fun n => conv_in (bytes_lat VB.out hb6) n
                have hcv2 := fun n => conv_in (bytes_lat KB5.out hb6) n
                clear her hnil hb6 q0 q1 VB KB5 HB5 HT5
                go_wp2_with fail
                go_quiet (fail)
                clear hcv1 hcv2
                go_wp2_with fail
                go_roundw
                case rel => exact ⟨j + 1, by go_num, by omega, by omega, rfl, HB6 _, HT6 _⟩
                case measure => simp [intOf]; omega
            · have hend : (decide ((j : Int) < (n : Int)) = false ∧ decide (j < n) = false) ∨ (decide ((j : Int) < (n : Int)) = true ∧ decide (j < n) = true ∧ decide ((j : Int) < 12) = false ∧ decide (j < 12) = false) := by
                by_cases h : j < n
                · exact Or.inr ⟨decide_eq_true (by omega), decide_eq_true h, decide_eq_false (by omega), decide_eq_false (by omega)⟩
                · exact Or.inl ⟨decide_eq_false (by omega), decide_eq_false h⟩
              have hi60 : (i : Int) < 60 := hi60I
              clear hjl
              rcases hend with ⟨s1, s2⟩ | ⟨s1, s2, s3, s4⟩
              all_goals
                go_wp2_with fail
                go_roundw
                case rel => exact ⟨i + 1, M', by go_num, by omega, by omega, rfl, hF', hB2, hT2⟩
                case measure => simp [intOf]; omega
    · have hend : (decide ((i : Int) < (zss.length : Int)) = false ∧ decide (i < zss.length) = false) ∨ (decide ((i : Int) < (zss.length : Int)) = true ∧ decide (i < zss.length) = true ∧ decide ((i : Int) < 60) = false ∧ decide (i < 60) = false) := by
        by_cases h : i < zss.length
        · exact Or.inr ⟨decide_eq_true (by omega), decide_eq_true h, decide_eq_false (by omega), decide_eq_false (by omega)⟩
        · exact Or.inl ⟨decide_eq_false (by omega), decide_eq_false h⟩
      have hrd := readF_no _ _ (n : Int) _ _ _ hT.out.diskF (Or.inr (by rw [hF.len]; omega))
      have her := error_any 1 1 wr (HG.out.below hB.out hpos)
      have h11 : ((1 : Int) == 1) = true := rfl
      rw [h11] at her
      clear hlt hT HZ
      rcases hend with ⟨s1, s2⟩ | ⟨s1, s2, s3, s4⟩
      all_goals
        go_wp2_with fail
        refine hrd.mono ?_
        rintro e w8 ⟨rfl, rfl⟩
        clear hrd
        go_wp2_with fail
        refine her.mono ?_
        rintro e w9 ⟨rfl, hb9⟩
        have HB9 := Lib.hid (hB.out.trans (hb9.mono hB.out.size))
        clear her hb9
        go_wp2_with fail
        go_ret
        exact ⟨rfl, HB9.out⟩
set_option maxRecDepth 100000 in
set_option maxHeartbeats 2000000 in
theorem walk (n0 : Int) (sao : Option Addr) (scap : Nat) (zss : List (List Int)) (w : World) (hg : Door w) (hz : RowsAt w sao zss) (hm : zss.length ≤ 9223372036854775807) :
    Calls Tryd.prog 7 #[.int .i64 n0, .slice sao zss.length scap] w fun e w' => e = .returned (.bool true) ∧ Below w.heap.size w w' := by
  by_cases h : 1 ≤ n0 ∧ n0 ≤ 200
  · obtain ⟨n, rfl⟩ := Int.eq_ofNat_of_zero_le (show 0 ≤ n0 by omega)
    exact walk_in n sao scap zss w hg hz hm (by omega) (by omega)
  · have hpos := hg.pos
    have hc1 := new_range n0 w (by omega)
    have hd : (decide (n0 < 1) = true) ∨ (decide (n0 < 1) = false ∧ decide (200 < n0) = true) := by
      by_cases h1 : n0 < 1
      · exact Or.inl (decide_eq_true h1)
      · exact Or.inr ⟨decide_eq_false h1, decide_eq_true (by omega)⟩
    have HG := Lib.hid hg
    clear hz hg h
    rcases hd with d1 | ⟨d1, d2⟩
    all_goals
      go_enter Tryd.func7, Tryd.ntmps7
      go_wp2_with fail
      refine hc1.mono ?_
      rintro e w1 ⟨rfl, rfl⟩
      have he := error_any 1 1 w HG.out
      have h11 : ((1 : Int) == 1) = true := rfl
      rw [h11] at he
      clear hc1
      go_wp2_with fail
      refine he.mono ?_
      rintro e w2 ⟨rfl, hb2⟩
      have HB2 := Lib.hid hb2
      clear he hb2
      go_wp2_with fail
      go_ret
      exact ⟨rfl, HB2.out⟩
end Go.Proofs.YtldpflijgbcbhaaDoor.bp
