/- Two disks, the program's and the document's, beside each other and beside others' blocks. -/
import Derived.Test.YtldpflijgbcbhaaDoorKc
import Derived.Test.YtldpflijgbcbhaaDoorKd
import Derived.Test.YtldpflijgbcbhaaDoorKe
import Derived.Test.YtldpflijgbcbhaaDoorBytesOf
namespace Go.Proofs.YtldpflijgbcbhaaDoor.bp
open Go.RowKit

structure TwoIs (B : Nat) (F S T : Nat → Prop) (w : World) (d k : Nat) (M N : DiskM) : Prop where
  disk : DiskAt w S d M
  doc : kk.DiskAt w T k N
  s_ : ∀ x, S x → B ≤ x ∧ ¬ F x ∧ ¬ T x
  t_ : ∀ x, T x → B ≤ x ∧ ¬ F x
  size : B ≤ w.heap.size
  f_ : ∀ x, F x → x < w.heap.size
def Two (B : Nat) (F : Nat → Prop) (w : World) (d k : Nat) (M N : DiskM) : Prop := ∃ S T, TwoIs B F S T w d k M N

theorem TwoIs.tdom {B : Nat} {F S T : Nat → Prop} {w : World} {d k : Nat} {M N : DiskM} (h : TwoIs B F S T w d k M N) : ∀ x, T x → x < w.heap.size := by
  obtain ⟨_, _, _, _, _, _, _, _, h⟩ := h.doc
  exact h.dom
theorem TwoIs.sdom {B : Nat} {F S T : Nat → Prop} {w : World} {d k : Nat} {M N : DiskM} (h : TwoIs B F S T w d k M N) : ∀ x, S x → x < w.heap.size := by
  obtain ⟨_, _, _, _, _, _, _, _, h⟩ := h.disk
  exact h.dom
theorem kat_blocks {w w' : World} {T : Nat → Prop} {k : Nat} {N : DiskM} (h : kk.DiskAt w T k N) (hk : ∀ x, T x → w'.heap[x]? = w.heap[x]?) (hsz : w.heap.size ≤ w'.heap.size) : kk.DiskAt w' T k N := by
  obtain ⟨bn, cn, bs, cs, sv, ns, ss, xs, h⟩ := h
  exact ⟨bn, cn, bs, cs, sv, ns, ss, xs, h.later hk hsz⟩
theorem Two.later {B : Nat} {F : Nat → Prop} {w w' : World} {d k : Nat} {M N : DiskM} (h : Two B F w d k M N) (hb : Below w.heap.size w w') : Two B F w' d k M N := by
  obtain ⟨S, T, h⟩ := h
  exact ⟨S, T, h.disk.later hb, h.doc.later hb, h.s_, h.t_, Nat.le_trans h.size hb.size, fun x hx => Nat.lt_of_lt_of_le (h.f_ x hx) hb.size⟩
/-- new blocks are others' -/
theorem Two.more {B : Nat} {F : Nat → Prop} {w w' : World} {d k : Nat} {M N : DiskM} (h : Two B F w d k M N) (hb : Below w.heap.size w w') (G : Nat → Prop) (hG : ∀ x, G x → F x ∨ (w.heap.size ≤ x ∧ x < w'.heap.size)) : Two B G w' d k M N := by
  obtain ⟨S, T, h⟩ := h
  refine ⟨S, T, h.disk.later hb, h.doc.later hb, fun x hx => ⟨(h.s_ x hx).1, fun hg => ?_, (h.s_ x hx).2.2⟩, fun x hx => ⟨(h.t_ x hx).1, fun hg => ?_⟩, Nat.le_trans h.size hb.size, fun x hx => ?_⟩
  · rcases hG x hg with hf | ⟨hf, _⟩
    · exact (h.s_ x hx).2.1 hf
    · have := h.sdom x hx; omega
  · rcases hG x hg with hf | ⟨hf, _⟩
    · exact (h.t_ x hx).2 hf
    · have := h.tdom x hx; omega
  · rcases hG x hx with hf | ⟨_, hf⟩
    · exact Nat.lt_of_lt_of_le (h.f_ x hf) hb.size
    · exact hf
theorem Two.less {B : Nat} {F G : Nat → Prop} {w : World} {d k : Nat} {M N : DiskM} (h : Two B F w d k M N) (hG : ∀ x, G x → F x) : Two B G w d k M N := h.more (Below.refl _ _) G (fun x hx => Or.inl (hG x hx))

/-- a step of the program's disk -/
def TStep (B : Nat) (F : Nat → Prop) (w : World) (d k : Nat) (r : Value) (M N : DiskM) (e : Ending) (w' : World) : Prop := e = .returned r ∧ Stays B F w w' ∧ Two B F w' d k M N
theorem Two.disk_step {B : Nat} {F : Nat → Prop} {w : World} {d k : Nat} {M M' N : DiskM} {f : FuncId} {args : Array Value} {r : Value} (h : Two B F w d k M N)
    (hc : ∀ G : Nat → Prop, (∀ x, F x → G x) → DiskF B G w d M → Calls Tryd.prog f args w (StepF B G w d r M')) : Calls Tryd.prog f args w (TStep B F w d k r M' N) := by
  obtain ⟨S, T, h⟩ := h
  have hd : DiskF B (fun x => F x ∨ T x) w d M := ⟨S, h.disk, fun x hx => ⟨(h.s_ x hx).1, fun hg => by rcases hg with hg | hg; exact (h.s_ x hx).2.1 hg; exact (h.s_ x hx).2.2 hg⟩, h.size, fun x hx => by
    rcases hx with hx | hx
    · exact h.f_ x hx
    · exact h.tdom x hx⟩
  refine (hc _ (fun x hx => Or.inl hx) hd).mono ?_
  rintro e w' ⟨rfl, hs, S', hd', h1, h2, h3⟩
  refine ⟨rfl, hs.mono (fun x hx => Or.inl hx), S', T, hd', kat_blocks h.doc (fun x hx => hs.blk x (Or.inr hx)) hs.below.size, fun x hx => ⟨(h1 x hx).1, fun hf => (h1 x hx).2 (Or.inl hf), fun ht => (h1 x hx).2 (Or.inr ht)⟩, h.t_, h2, fun x hx => h3 x (Or.inl hx)⟩
/-- a step of the document's disk -/
theorem Two.doc_step {B : Nat} {F : Nat → Prop} {w : World} {d k : Nat} {M N N' : DiskM} {f : FuncId} {args : Array Value} {r : Value} (h : Two B F w d k M N)
    (hc : ∀ T : Nat → Prop, kk.DiskAt w T k N → (∀ x, T x → B ≤ x ∧ ¬ F x) → Calls Tryd.prog f args w (fun e w' => e = .returned r ∧ Only T w w' ∧ kk.DiskAt w' (Grow T w w') k N')) : Calls Tryd.prog f args w (TStep B F w d k r M N') := by
  obtain ⟨S, T, h⟩ := h
  refine (hc T h.doc h.t_).mono ?_
  rintro e w' ⟨rfl, ho, hd'⟩
  refine ⟨rfl, ⟨ho.below h.size (fun x hx => (h.t_ x hx).1), fun x hx => ho.block x (h.f_ x hx) (fun ht => (h.t_ x ht).2 hx)⟩, S, Grow T w w', h.disk.apart ho (fun x hx => (h.s_ x hx).2.2), hd', fun x hx => ⟨(h.s_ x hx).1, (h.s_ x hx).2.1, fun hg => ?_⟩, fun x hx => ?_, Nat.le_trans h.size ho.size, fun x hx => Nat.lt_of_lt_of_le (h.f_ x hx) ho.size⟩
  · rcases hg with hg | ⟨hg, _⟩
    · exact (h.s_ x hx).2.2 hg
    · have := h.sdom x hx; omega
  · rcases hx with hx | ⟨hx, _⟩
    · exact h.t_ x hx
    · exact ⟨by have := h.size; omega, fun hf => by have := h.f_ x hf; omega⟩
/-- the document's disk is told where to stop -/
theorem Two.set_stop {B : Nat} {F : Nat → Prop} {w w' : World} {d k : Nat} {M N : DiskM} {n : Int} (h : Two B F w d k M N) (hw : w' = w.setCell ⟨k, 4, none⟩ (.int .i64 n) ∨ ∃ a, w' = (w.setCell ⟨k, 4, none⟩ (.int .i64 a)).setCell ⟨k, 4, none⟩ (.int .i64 n)) (hn : n ≤ 9223372036854775807 ∧ -1 ≤ n) : Two B F w' d k M { N with stop := n } := by
  obtain ⟨S, T, h⟩ := h
  obtain ⟨bn, cn, bs, cs, sv, ns, ss, xs, hi⟩ := h.doc
  have how : kk.Own w k _ _ _ _ _ := ⟨hi.self⟩
  have hfin : Only T w w' ∧ kk.DiskAt w' (Grow T w w') k { N with stop := n } := by
    rcases hw with rfl | ⟨a, rfl⟩
    · exact kk.own_end (M' := { N with stop := n }) hi ((Since.refl k w).set 4 (.int .i64 n)) (how.set4 n) rfl rfl rfl hn
    · exact kk.own_end (M' := { N with stop := n }) hi (((Since.refl k w).set 4 (.int .i64 a)).set 4 (.int .i64 n)) ((how.set4 a).set4 n) rfl rfl rfl hn
  obtain ⟨ho, hd'⟩ := hfin
  refine ⟨S, Grow T w w', h.disk.apart ho (fun x hx => (h.s_ x hx).2.2), hd', fun x hx => ⟨(h.s_ x hx).1, (h.s_ x hx).2.1, fun hg => ?_⟩, fun x hx => ?_, Nat.le_trans h.size ho.size, fun x hx => Nat.lt_of_lt_of_le (h.f_ x hx) ho.size⟩
  · rcases hg with hg | ⟨hg, _⟩
    · exact (h.s_ x hx).2.2 hg
    · have := h.sdom x hx; omega
  · rcases hx with hx | ⟨hx, _⟩
    · exact h.t_ x hx
    · exact ⟨by have := h.size; omega, fun hf => by have := h.f_ x hf; omega⟩
theorem Two.own {B : Nat} {F : Nat → Prop} {w : World} {d k : Nat} {M N : DiskM} (h : Two B F w d k M N) : ∃ bn cn bs cs sv, kk.Own w k (.slice (some ⟨bn, 0, none⟩) N.now.length cn) (.slice (some ⟨bs, 0, none⟩) N.safe.length cs) sv N.steps N.stop := by
  obtain ⟨S, T, h⟩ := h
  obtain ⟨bn, cn, bs, cs, sv, ns, ss, xs, hi⟩ := h.doc
  exact ⟨bn, cn, bs, cs, sv, ⟨hi.self⟩⟩
theorem Two.diskF {B : Nat} {F : Nat → Prop} {w : World} {d k : Nat} {M N : DiskM} (h : Two B F w d k M N) : DiskF B F w d M := by
  obtain ⟨S, T, h⟩ := h
  exact ⟨S, h.disk, fun x hx => ⟨(h.s_ x hx).1, (h.s_ x hx).2.1⟩, h.size, h.f_⟩
theorem Two.ge {B : Nat} {F : Nat → Prop} {w : World} {d k : Nat} {M N : DiskM} (h : Two B F w d k M N) : B ≤ k ∧ ¬ F k ∧ k < w.heap.size := by
  obtain ⟨S, T, h⟩ := h
  obtain ⟨bn, cn, bs, cs, sv, ns, ss, xs, hi⟩ := h.doc
  exact ⟨(h.t_ k hi.sd).1, (h.t_ k hi.sd).2, hi.dom k hi.sd⟩

/-- the bytes of a block; none, if it was torn -/
def blkL (m : Option (List UInt8)) : List UInt8 := match m with | some l => l | none => []
def blkC (m : Option (List UInt8)) : Int := match m with | some _ => 0 | none => 9
/-- a block of the document's -/
theorem Two.look {B : Nat} {F : Nat → Prop} {w : World} {d k : Nat} {M N : DiskM} (h : Two B F w d k M N) {j : Nat} {m : Option (List UInt8)} (hj : N.now[j]? = some m) :
    ∃ bn cn x, w.cell? ⟨k, 0, none⟩ = some (.slice (some ⟨bn, 0, none⟩) N.now.length cn) ∧ w.cell? ⟨bn, j, none⟩ = some x ∧ BytesW w x (blkL m) ∧ ((m = none ∧ x = .slice none 0 0) ∨ (∃ l g, m = some l ∧ l.length = 64 ∧ x = .slice (some ⟨g, 0, none⟩) 64 64)) ∧ k < w.heap.size ∧ bn < w.heap.size := by
  obtain ⟨S, T, h⟩ := h
  obtain ⟨bn, cn, bs, cs, sv, ns, ss, xs, hi⟩ := h.doc
  have how : kk.Own w k _ _ _ _ _ := ⟨hi.self⟩
  obtain ⟨x, hx, hb⟩ := hi.now.blk j m hj
  obtain ⟨hjl, _⟩ := List.getElem?_eq_some_iff.1 hj
  refine ⟨bn, cn, x, how.c0, (hi.now.own.cellAt j (by omega)).trans hx, ?_, ?_, how.lt, hi.dom bn hi.now.sb⟩
  · cases m with
    | none => rw [show x = .slice none 0 0 from hb]; exact ⟨none, 0, rfl, fun h0 => absurd h0 (by simp [blkL])⟩
    | some l =>
      obtain ⟨hl, g, rfl, _, hg⟩ := hb
      refine ⟨some ⟨g, 0, none⟩, 64, by show Value.slice _ 64 64 = .slice _ l.length 64; rw [hl], fun _ => ⟨g, 0, rfl, lt_of_heap hg, fun i u hu => ?_⟩⟩
      rw [Nat.zero_add, cell_of_heap hg]
      have hu' : (l.map byteV)[i]? = some u := hu
      simpa [bytesArr] using hu'
  · cases m with
    | none => exact Or.inl ⟨rfl, hb⟩
    | some l =>
      obtain ⟨hl, g, hx, _⟩ := hb
      exact Or.inr ⟨l, g, rfl, hl, hx⟩

theorem grow_below {w w' : World} {T : Nat → Prop} {k : Nat} {N : DiskM} (h : kk.DiskAt w T k N) (hb : Below w.heap.size w w') : Only T w w' ∧ kk.DiskAt w' (Grow T w w') k N := by
  refine ⟨Only.of_below hb, ?_⟩
  obtain ⟨bn, cn, bs, cs, sv, ns, ss, xs, hi⟩ := h
  have h' := hi.later (w' := w') (fun x hx => hb.block x (hi.dom x hx)) hb.size
  refine ⟨bn, cn, bs, cs, sv, ns, ss, xs, h'.self, Or.inl h'.sd, h'.now.later (fun _ _ _ => rfl) (fun x hx => Or.inl hx), h'.safe.later (fun _ _ _ => rfl) (fun x hx => Or.inl hx), h'.since.later (fun _ _ _ => rfl) (fun x hx => Or.inl hx), h'.slen, h'.ne, h'.pos, h'.le, fun x hx => ?_, h'.stp⟩
  rcases hx with hx | ⟨_, hx⟩
  · exact h'.dom x hx
  · exact hx
theorem kwriteT (i : Int) (v : Value) (l : List UInt8) (w : World) (T : Nat → Prop) (k : Nat) (M : DiskM) (h : kk.DiskAt w T k M) (hs : M.steps ≤ 1000000000000) (hsn : M.since.length ≤ 1000000000) (hl : l.length ≤ 9223372036854775807) (hv : BytesW w v l) (hvd : 0 < l.length → ∀ b, v.ownBlock = some b → ¬ T b) :
    Calls Tryd.prog 30 #[.pointer (some ⟨k, 0, none⟩), .int .i64 i, v] w (fun e w' => e = .returned (.int .i64 (M.wcode i l.length)) ∧ Only T w w' ∧ kk.DiskAt w' (Grow T w w') k (M.wr i l)) := by
  by_cases hst : M.stopped = true
  · have e1 : M.wcode i l.length = 7 := by simp [DiskM.wcode, hst]
    have e2 : M.wr i l = M := by simp [DiskM.wr, e1]
    rw [e1, e2]
    refine (kk.kwrite_stop i v w T k M h hst).mono ?_
    rintro e w' ⟨rfl, hb⟩
    exact ⟨rfl, grow_below h hb⟩
  · have hst' : M.stopped = false := by simpa using hst
    by_cases hi : i < 0 ∨ (M.now.length : Int) ≤ i
    · have e1 : M.wcode i l.length = 1 := by simp [DiskM.wcode, hst', hi]
      have e2 : M.wr i l = M := by simp [DiskM.wr, e1]
      rw [e1, e2]
      refine (kk.kwrite_range i v w T k M h hst' hi).mono ?_
      rintro e w' ⟨rfl, hb⟩
      exact ⟨rfl, grow_below h hb⟩
    · obtain ⟨n, rfl⟩ := Int.eq_ofNat_of_zero_le (show 0 ≤ i by omega)
      by_cases hn : 64 < l.length
      · have e1 : M.wcode (n : Int) l.length = 4 := by rw [DiskM.wcode, if_neg hst, if_neg hi, if_pos hn]
        have e2 : M.wr (n : Int) l = M := by simp [DiskM.wr, e1]
        rw [e1, e2]
        obtain ⟨sp, c, rfl, _⟩ := hv
        refine (kk.kwrite_full n l.length sp c w T k M h hst' (by omega) hn hl).mono ?_
        rintro e w' ⟨rfl, hb⟩
        exact ⟨rfl, grow_below h hb⟩
      · have e1 : M.wcode (n : Int) l.length = 0 := by rw [DiskM.wcode, if_neg hst, if_neg hi, if_neg hn]
        have e2 : M.wr (n : Int) l = M.write n l := by simp [DiskM.wr, e1]
        rw [e1, e2]
        exact kk.kwrite_ok n v l w T k M h hs hsn hst' (by omega) (by omega) hv hvd
theorem kflushT (w : World) (T : Nat → Prop) (k : Nat) (M : DiskM) (h : kk.DiskAt w T k M) (hs : M.steps ≤ 1000000000000) :
    Calls Tryd.prog 31 #[.pointer (some ⟨k, 0, none⟩)] w (fun e w' => e = .returned (.int .i64 M.fcode) ∧ Only T w w' ∧ kk.DiskAt w' (Grow T w w') k M.fl) := by
  by_cases hst : M.stopped = true
  · have e1 : M.fcode = 7 := by simp [DiskM.fcode, hst]
    have e2 : M.fl = M := by simp [DiskM.fl, hst]
    rw [e1, e2]
    refine (kk.kflush_stop w T k M h hst).mono ?_
    rintro e w' ⟨rfl, hb⟩
    exact ⟨rfl, grow_below h hb⟩
  · have hst' : M.stopped = false := by simpa using hst
    have e1 : M.fcode = 0 := by simp [DiskM.fcode, hst']
    have e2 : M.fl = M.flush := by simp [DiskM.fl, hst']
    rw [e1, e2]
    exact kk.kflush_ok w T k M h hs hst'

/-! what the disk is, step by step -/
theorem wr_now (M : DiskM) (i : Int) (l : List UInt8) : (M.wr i l).now.length = M.now.length := by
  unfold DiskM.wr; split
  · simp [DiskM.write]
  · rfl
theorem wr_steps (M : DiskM) (i : Int) (l : List UInt8) : (M.wr i l).steps ≤ M.steps + 1 ∧ (M.wr i l).since.length ≤ M.since.length + 1 := by
  unfold DiskM.wr; split
  · exact ⟨Nat.le_refl _, by simp [DiskM.write]⟩
  · omega
theorem fl_now (M : DiskM) : M.fl.now.length = M.now.length ∧ M.fl.steps ≤ M.steps + 1 ∧ M.fl.since.length ≤ M.since.length := by
  unfold DiskM.fl; split
  · exact ⟨rfl, by omega, Nat.le_refl _⟩
  · exact ⟨rfl, Nat.le_refl _, by simp [DiskM.flush]⟩
theorem crash_now (M : DiskM) (keep : List Int) (torn : Int) (h : M.safe.length = M.now.length) : (M.crash keep torn).now.length = M.now.length := by
  simp [DiskM.crash, crashTo_len, h]
/-- what is so at a round's head -/
structure Fine (n i : Nat) (M : DiskM) : Prop where
  len : M.now.length = n
  steps : M.steps ≤ i
  since : M.since.length ≤ i
theorem Fine.new (n : Nat) : Fine n 0 (DiskM.new n) := ⟨by simp [DiskM.new], Nat.le_refl _, Nat.le_refl _⟩
theorem Fine.next {n i : Nat} {M : DiskM} (h : Fine n i M) : Fine n (i + 1) M := ⟨h.len, by have := h.steps; omega, by have := h.since; omega⟩
theorem Fine.wr {n i : Nat} {M : DiskM} (h : Fine n i M) (j : Int) (l : List UInt8) : Fine n (i + 1) (M.wr j l) :=
  ⟨(wr_now M j l).trans h.len, by have := (wr_steps M j l).1; have := h.steps; omega, by have := (wr_steps M j l).2; have := h.since; omega⟩
theorem Fine.fl {n i : Nat} {M : DiskM} (h : Fine n i M) : Fine n (i + 1) M.fl := by
  obtain ⟨a, b, c⟩ := fl_now M
  exact ⟨a.trans h.len, by have := h.steps; omega, by have := h.since; omega⟩
theorem Fine.fail {n i : Nat} {M : DiskM} (h : Fine n i M) (k : Int) : Fine n (i + 1) (M.fail k) := ⟨h.len, by have := h.steps; show M.steps ≤ i + 1; omega, by have := h.since; show M.since.length ≤ i + 1; omega⟩
theorem Two.slen {B : Nat} {F : Nat → Prop} {w : World} {d k : Nat} {M N : DiskM} (h : Two B F w d k M N) : M.safe.length = M.now.length := by
  obtain ⟨S, T, h⟩ := h
  obtain ⟨_, _, _, _, _, _, _, _, hi⟩ := h.disk
  exact hi.slen
theorem Fine.crash {n i : Nat} {M : DiskM} (h : Fine n i M) (hs : M.safe.length = M.now.length) (keep : List Int) (torn : Int) : Fine n (i + 1) (M.crash keep torn) := ⟨(crash_now M keep torn hs).trans h.len, Nat.zero_le _, Nat.zero_le _⟩
end Go.Proofs.YtldpflijgbcbhaaDoor.bp
