/- LogPlays, in memory: the law's own records beside the log. -/
import Derived.Test.YtldpflijgbcbhaaDoorLgE
import Derived.Test.YtldpflijgbcbhaaDoorInts
import Derived.Deep.OwnRows
namespace Go.Proofs.YtldpflijgbcbhaaDoor.lg
open Go.RowKit

/-- others write into their own blocks, and make new ones, which are theirs -/
theorem Sys.grown {B : Nat} {F G : Nat → Prop} {w w' : World} {d p fr mn : Nat} {M : DiskM} {L : LogS} (h : Sys B F w d M p fr mn L) (ho : Only F w w') (hG : ∀ x, G x → F x ∨ (w.heap.size ≤ x ∧ x < w'.heap.size)) : Sys B G w' d M p fr mn L := by
  obtain ⟨S, T, h⟩ := h
  have hs := ho.size
  have hT : ∀ k, T k → w'.heap[k]? = w.heap[k]? := fun k hk => ho.block k (h.log.dom k hk) (h.t_ k hk).2
  refine ⟨S, T, h.disk.apart ho (fun x hx => (h.s_ x hx).2.1), h.log.later hT hs, fun x hx => ⟨(h.s_ x hx).1, fun hg => ?_, (h.s_ x hx).2.2⟩, fun x hx => ⟨(h.t_ x hx).1, fun hg => ?_⟩, Nat.le_trans h.size hs, fun x hx => ?_⟩
  · rcases hG x hg with hf | ⟨hf, _⟩
    · exact (h.s_ x hx).2.1 hf
    · have := diskAt_dom h.disk x hx; omega
  · rcases hG x hg with hf | ⟨hf, _⟩
    · exact (h.t_ x hx).2 hf
    · have := h.log.dom x hx; omega
  · rcases hG x hx with hf | ⟨_, hf⟩
    · exact Nat.lt_of_lt_of_le (h.f_ x hf) hs
    · exact hf
/-- the law's own records -/
structure AllIs (F : Nat → Prop) (w : World) (v : Value) (rs : List Value) (L : List (List UInt8)) : Prop where
  row : w.ownsRow 0 22 1 v L.length rs
  own : ∀ g, v.ownBlock = some g → F g
  each : ∀ (i : Nat) (b : List UInt8), L[i]? = some b → ∃ x, rs[i]? = some x ∧ RecAt w F x b
section
variable {F G : Nat → Prop} {w w' : World} {v : Value} {rs : List Value} {L : List (List UInt8)}
theorem AllIs.start (F : Nat → Prop) (w : World) : AllIs F w (.slice none 0 0) [] [] := ⟨World.ownsRow_nil _ _ _ _, fun g hg => (by cases hg), fun i b hi => (by simp at hi)⟩
theorem AllIs.later (h : AllIs F w v rs L) (hk : ∀ g, F g → w'.heap[g]? = w.heap[g]?) (hG : ∀ g, F g → G g) : AllIs G w' v rs L :=
  ⟨ownsRow_later h.row (fun g hg => hk g (h.own g hg)), fun g hg => hG g (h.own g hg), fun i b hi => by
    obtain ⟨x, hx, hr⟩ := h.each i b hi
    exact ⟨x, hx, hr.later hk hG⟩⟩
theorem AllIs.stays {B : Nat} (h : AllIs F w v rs L) (hs : Stays B F w w') : AllIs F w' v rs L := h.later hs.blk (fun _ h => h)
/-- one more: the blocks then -/
theorem AllIs.more (h : AllIs F w v rs L) {x : Value} {b : List UInt8} (hx : RecAt w F x b) (hL : L.length ≤ 100000) (hF : ∀ g, F g → g < w.heap.size) :
    ∃ ao cap w6, (Builtin.append_ #[66, 66] 66 #[v, .slice (some ⟨w.heap.size, 0, none⟩) 1 1]).run Tryd.prog (w.alloc (.cells #[x] 22)) = .ok (.slice ao (L.length + 1) cap) w6 ∧ Only F w w6 ∧ AllIs (fun g => F g ∨ (w.heap.size ≤ g ∧ g < w6.heap.size)) w6 (.slice ao (L.length + 1) cap) (rs ++ [x]) (L ++ [b]) := by
  obtain ⟨V, hV⟩ : ∃ V, V = w.alloc (.cells #[x] 22) := ⟨_, rfl⟩
  have hbV : Below w.heap.size w V := by rw [hV]; exact (Below.refl _ _).alloc (Nat.le_refl _) _
  have hnew : V.heap[w.heap.size]? = some (.cells #[x] 22 (0, 0)) := by rw [hV]; exact heap_new_at rfl _
  have hx1 : x.oneCell' = true := by
    rcases hx.1.2 with ⟨hv, _⟩ | ⟨g, cap, cur, hv, _⟩ <;> rw [hv] <;> rfl
  have hsV := hbV.size
  have hV5 : AllIs F V v rs L := h.later (fun g hg => hbV.block g (hF g hg)) (fun _ h => h)
  have hxV : RecAt V F x b := hx.later (fun g hg => hbV.block g (hF g hg)) (fun _ h => h)
  obtain ⟨v6, w6, hr, hown, hgrow, hblk⟩ := run_append_rec hV5.row (cell_of_heap hnew 0) hx1 (by omega) (Nat.zero_le _) 66
  have hos : Only (fun g => v.ownBlock = some g) V w6 := Only.of_grown hgrow
  have hs6 := hos.size
  have hne : ∀ (y : Value) (c : List UInt8) (Q : Nat → Prop), RecAt V Q y c → ∀ g, y.ownBlock = some g → w6.heap[g]? = V.heap[g]? := fun y c Q hy g hg => by
    obtain ⟨cc, hc⟩ := row_block hy.1 hg
    refine hos.block g (lt_of_heap hc) (fun e => ?_)
    obtain ⟨c2, hc2⟩ := row_block hV5.row e
    exact type_ne hc2 hc (by decide) rfl
  have hrl : rs.length = L.length := by have := hV5.row.1; omega
  obtain ⟨ao, cap, hv6, _⟩ := row_slice' hown
  subst hv6
  rw [hV] at hr
  have honly : Only F w w6 := (Only.of_below (S := F) hbV).trans hos (fun g hg hv => h.own g hv)
  refine ⟨ao, cap, w6, hr, honly, by rw [List.length_append]; exact hown, fun g hg => ?_, fun i c hc => ?_⟩
  · rcases hblk with e | e
    · rw [e] at hg; exact Or.inl (h.own g hg)
    · obtain ⟨cc, hcc⟩ := row_block hown hg
      rw [e] at hg
      have : V.heap.size = g := Option.some.inj hg
      exact Or.inr ⟨by omega, lt_of_heap hcc⟩
  · by_cases hi : i < L.length
    · rw [List.getElem?_append_left hi] at hc
      obtain ⟨y, hy, hry⟩ := hV5.each i c hc
      exact ⟨y, by rw [List.getElem?_append_left (by omega)]; exact hy, ownsRow_later hry.1 (hne y c _ hry), fun g hg => Or.inl (hry.2 g hg)⟩
    · have hi2 : i = L.length := by
        have := (List.getElem?_eq_some_iff.1 hc).1
        simp at this; omega
      subst hi2
      rw [List.getElem?_append_right (by omega), Nat.sub_self] at hc
      simp at hc
      subst hc
      exact ⟨x, by rw [List.getElem?_append_right (by omega), hrl, Nat.sub_self]; rfl, ownsRow_later hxV.1 (hne x b _ hxV), fun g hg => Or.inl (hxV.2 g hg)⟩
end
end Go.Proofs.YtldpflijgbcbhaaDoor.lg

/- log.Format, log.Open: what is refused. -/
namespace Go.Proofs.YtldpflijgbcbhaaDoor.lg
open Go.RowKit

theorem whereC_is (n : Nat) (fr mn : Int) : whereC n fr mn = 0 ∨ whereC n fr mn = 1 := by unfold whereC; split <;> omega
set_option maxRecDepth 100000 in
set_option maxHeartbeats 1000000 in
theorem format_no (B : Nat) (F : Nat → Prop) (fr mn : Int) (w : World) (d : Nat) (M : DiskM) (h : DiskF B F w d M) (hC : whereC M.now.length fr mn = 1) :
    Calls Tryd.prog 35 #[.pointer (some ⟨d, 0, none⟩), .int .i64 fr, .int .i64 mn] w fun e w' => e = .returned (errV 1) ∧ w = w' := by
  have hw := where_any B F fr mn w d M h
  rw [hC, errV_some (by decide)] at hw
  rw [errV_some (by decide)]
  clear h hC
  go_enter Tryd.func35, Tryd.ntmps35
  go_wp2_with fail
  refine hw.mono ?_
  rintro e w1 ⟨rfl, rfl⟩
  clear hw
  go_wp2_with fail
  go_ret
  exact ⟨rfl, rfl⟩
set_option maxRecDepth 100000 in
set_option maxHeartbeats 1000000 in
theorem open_no (B : Nat) (F : Nat → Prop) (fr mn : Int) (w : World) (d : Nat) (M : DiskM) (h : DiskF B F w d M) (hC : whereC M.now.length fr mn = 1) :
    Calls Tryd.prog 36 #[.pointer (some ⟨d, 0, none⟩), .int .i64 fr, .int .i64 mn] w fun e w' => e = .returned (.tuple #[.pointer none, errV 1]) ∧ w = w' := by
  have hw := where_any B F fr mn w d M h
  rw [hC, errV_some (by decide)] at hw
  rw [errV_some (by decide)]
  clear h hC
  go_enter Tryd.func36, Tryd.ntmps36
  go_wp2_with fail
  refine hw.mono ?_
  rintro e w1 ⟨rfl, rfl⟩
  clear hw
  go_wp2_with fail
  exact bodyPost_ret (v := .tuple #[.pointer none, .iface 102 (.int .i64 1)]) (by simp [results, Tryd.results36, go_sem]) rfl ⟨rfl, rfl⟩
end Go.Proofs.YtldpflijgbcbhaaDoor.lg

/- LogPlays: the state of a round. -/
namespace Go.Proofs.YtldpflijgbcbhaaDoor.lg
open Go.RowKit

/-- rows of integers -/
def IntRows (w : World) (ao : Option Addr) (zss : List (List Int)) : Prop :=
  zss = [] ∨ ∃ b off, ao = some ⟨b, off, none⟩ ∧ b < w.heap.size ∧ ∀ (i : Nat) (r : List Int), zss[i]? = some r → ∃ ra rc, w.cell? ⟨b, off + i, none⟩ = some (.slice ra r.length rc) ∧ IntsAt w ra r ∧ r.length ≤ rc ∧ ∀ z ∈ r, -9223372036854775808 ≤ z ∧ z ≤ 9223372036854775807
/-- the first two, 0 where there is none -/
def fst2 (r : List Int) (j k : Nat) : Int := if k < j then r.getD k 0 else 0
def box2 (r : List Int) (j : Nat) : Obj := .cells #[.int .i64 (fst2 r j 0), .int .i64 (fst2 r j 1)] 75 (0, 0)
/-- without a crash: the disk and the log, after i steps -/
structure PlayOk (fr mn : Nat) (M : DiskM) (L : LogS) (i : Nat) : Prop where
  free : Free M
  len : M.now.length = 40
  ok : LogOk M.now fr mn L
  ep : L.epoch ≤ 1 + i
  steps : M.steps ≤ 1000 + 100 * i
  since : M.since.length ≤ 1000 + 100 * i
  few : L.recs.length ≤ i
theorem PlayOk.next {fr mn : Nat} {M : DiskM} {L : LogS} {i : Nat} (h : PlayOk fr mn M L i) : PlayOk fr mn M L (i + 1) :=
  ⟨h.free, h.len, h.ok, by have := h.ep; omega, by have := h.steps; omega, by have := h.since; omega, by have := h.few; omega⟩
theorem chunks_le6 {s x : List UInt8} (h : x.length ≤ 202) : chunks s x ≤ 5 := by unfold chunks; rw [List.length_append]; omega
/-- a record more -/
theorem PlayOk.add {fr mn : Nat} {M : DiskM} {L : LogS} {i : Nat} (h : PlayOk fr mn M L i) (hi : i ≤ 60) (hfr : fr + mn ≤ 40) {b : List UInt8} (h1 : 1 ≤ b.length) (h2 : b.length ≤ 200) (hr : L.stream.length + b.length + 2 ≤ 60 * (mn - 2)) : PlayOk fr mn (putsAdd M fr L b) (L.add b) (i + 1) := by
  have hch : chunks L.stream (enc1 b) ≤ 5 := chunks_le6 (by rw [enc1_len]; omega)
  obtain ⟨q1, q2, q3, q4⟩ := puts_len M fr (L.stream ++ enc1 b) L.epoch (1 - L.safe) (L.stream.length / 60) (chunks L.stream (enc1 b))
  have hl := h.len
  have hs := h.steps
  have hc := h.since
  refine ⟨q4.trans h.free, q1.trans hl, ok_append h.ok (by have := h.ep; omega) (by omega) h1 h2 hr, by have := h.ep; show L.epoch ≤ _; omega, Nat.le_trans (Nat.le_of_eq q2) (by omega), Nat.le_trans (Nat.le_of_eq q3) (by omega), ?_⟩
  have := h.few
  show (L.recs ++ [b]).length ≤ _
  rw [List.length_append, List.length_singleton]; omega
theorem PlayOk.sync {fr mn : Nat} {M : DiskM} {L : LogS} {i : Nat} (h : PlayOk fr mn M L i) : PlayOk fr mn M.flush L.sync (i + 1) :=
  ⟨h.free, h.len, ok_sync h.ok, by have := h.ep; show L.epoch ≤ _; omega, by have := h.steps; show M.steps + 1 ≤ _; omega, Nat.zero_le _, by have := h.few; show L.recs.length ≤ _; omega⟩
/-- made safe, and opened -/
theorem PlayOk.opened {fr mn : Nat} {M : DiskM} {L : LogS} {i : Nat} (h : PlayOk fr mn M L i) : PlayOk fr mn M.flush (openS (blkOf M.flush.now fr mn) mn) (i + 1) ∧ (openS (blkOf M.flush.now fr mn) mn).recs = L.recs ∧ (openS (blkOf M.flush.now fr mn) mn).stream = L.stream := by
  have hs := ok_sync h.ok
  obtain ⟨h1, h2, h3, h4⟩ := ok_open (now := M.flush.now) hs rfl
  refine ⟨⟨h.free, h.len, h4, ?_, by have := h.steps; show M.steps + 1 ≤ _; omega, Nat.zero_le _, ?_⟩, h1, h2⟩
  · have := h.ep
    have h3' : (openS (blkOf M.flush.now fr mn) mn).epoch ≤ L.epoch + 1 := h3
    omega
  · have := h.few
    rw [h1]; show L.recs.length ≤ _; omega

theorem Sys.of_op {B : Nat} {F : Nat → Prop} {w w1 : World} {d p fr mn : Nat} {M : DiskM} {L : LogS} (h : DiskF B F w d M) (ha : OpAt w w1 p d fr mn L) : Sys B F w1 d M p fr mn L := by
  obtain ⟨rv, sv, rs, ha⟩ := ha
  obtain ⟨S, g1, g2, g3, g4⟩ := h
  have hb := ha.below
  have hs := hb.size
  have hd := diskAt_dom g1
  exact ⟨S, Fresh w w1, g1.later hb, ⟨_, _, _, ha.log⟩, fun x hx => ⟨(g2 x hx).1, (g2 x hx).2, fun ht => by have := hd x hx; have := ht.1; omega⟩, fun x hx => ⟨by have := hx.1; omega, fun hf => by have := g4 x hf; have := hx.1; omega⟩, by omega, fun x hx => by have := g4 x hx; omega⟩

/-- in memory: the log, the law's own records -/
structure PlayAt (w wr : World) (F : Nat → Prop) (d p fr mn : Nat) (M : DiskM) (L : LogS) (v : Value) (rs : List Value) : Prop where
  below : Below w.heap.size w wr
  sys : Sys w.heap.size F wr d M p fr mn L
  all : AllIs F wr v rs L.recs
  ge : ∀ x, F x → w.heap.size ≤ x
section
variable {w wr wr' : World} {F : Nat → Prop} {d p fr mn : Nat} {M M' : DiskM} {L L' : LogS} {v : Value} {rs : List Value}
theorem PlayAt.later (h : PlayAt w wr F d p fr mn M L v rs) (hb : Below wr.heap.size wr wr') : PlayAt w wr' F d p fr mn M L v rs := by
  have hF : ∀ x, F x → x < wr.heap.size := by obtain ⟨S, T, hs⟩ := h.sys; exact hs.f_
  exact ⟨h.below.trans (hb.mono h.below.size), h.sys.later hb, h.all.later (fun g hg => hb.block g (hF g hg)) (fun _ h => h), h.ge⟩
/-- a step of the log -/
theorem PlayAt.step (h : PlayAt w wr F d p fr mn M L v rs) (hs : Stays w.heap.size F wr wr') (hy : Sys w.heap.size F wr' d M' p fr mn L') (e : L'.recs = L.recs) : PlayAt w wr' F d p fr mn M' L' v rs :=
  ⟨h.below.trans hs.below, hy, by rw [e]; exact h.all.stays hs, h.ge⟩
/-- new blocks are the law's own -/
theorem PlayAt.more (h : PlayAt w wr F d p fr mn M L v rs) (hb : Below wr.heap.size wr wr') : PlayAt w wr' (fun x => F x ∨ (wr.heap.size ≤ x ∧ x < wr'.heap.size)) d p fr mn M L v rs := by
  have hF : ∀ x, F x → x < wr.heap.size := by obtain ⟨S, T, hs⟩ := h.sys; exact hs.f_
  exact ⟨h.below.trans (hb.mono h.below.size), h.sys.more hb _ (fun x hx => hx), h.all.later (fun g hg => hb.block g (hF g hg)) (fun _ h => Or.inl h), fun x hx => by
    rcases hx with hx | hx
    · exact h.ge x hx
    · have := h.below.size; omega⟩
theorem PlayAt.flt (h : PlayAt w wr F d p fr mn M L v rs) : ∀ x, F x → x < wr.heap.size := by obtain ⟨S, T, hs⟩ := h.sys; exact hs.f_
/-- made safe -/
theorem PlayAt.sync (h : PlayAt w wr F d p fr mn M L v rs) {i : Nat} (ho : PlayOk fr mn M L i) (hi : i ≤ 60) (hmn : mn ≤ 200) : Calls Tryd.prog 38 #[.pointer (some ⟨p, 0, none⟩)] wr fun e w' => e = .returned .nilIface ∧ PlayAt w w' F d p fr mn M.flush L.sync v rs := by
  have hst := ho.steps
  have hro := ho.ok.room
  refine (sync_any w.heap.size F wr p d fr mn M L h.sys ho.ok.broken (by omega) ho.ok.safe (by omega)).mono ?_
  rintro e w' ⟨he, hs, hy, _⟩
  have hy := hy ho.free.fcode
  rw [ho.free.fl] at hy
  rw [ho.free.fcode, errV_zero] at he
  exact ⟨he, h.step hs hy rfl⟩
/-- opened anew -/
theorem PlayAt.opened (h : PlayAt w wr F d p fr mn M L v rs) {p' : Nat} {L' : LogS} {w2 : World} (hop : OpAt wr w2 p' d fr mn L') (e : L'.recs = L.recs) : PlayAt w w2 F d p' fr mn M L' v rs := by
  have hb := hop.below
  exact ⟨h.below.trans (hb.mono h.below.size), Sys.of_op h.sys.diskF hop, by rw [e]; exact h.all.later (fun g hg => hb.block g (h.flt g hg)) (fun _ h => h), h.ge⟩
/-- while the two numbers are laid: their block q -/
structure PlayV (w wr : World) (F : Nat → Prop) (d p fr mn q : Nat) (M : DiskM) (L : LogS) (v : Value) (rs : List Value) (o : Obj) : Prop where
  below : Below w.heap.size w wr
  sys : Sys w.heap.size (fun x => F x ∨ x = q) wr d M p fr mn L
  all : AllIs F wr v rs L.recs
  ge : ∀ x, F x → w.heap.size ≤ x
  nq : ¬ F q
  qB : w.heap.size ≤ q
  box : wr.heap[q]? = some o
theorem PlayV.start (h : PlayAt w wr F d p fr mn M L v rs) (r : List Int) : PlayV w (wr.alloc (.cells #[.int .i64 0, .int .i64 0] 75)) F d p fr mn wr.heap.size M L v rs (box2 r 0) := by
  have hb : Below wr.heap.size wr (wr.alloc (.cells #[.int .i64 0, .int .i64 0] 75)) := (Below.refl _ _).alloc (Nat.le_refl _) _
  have h1 := h.later hb
  have hn : (wr.alloc (.cells #[.int .i64 0, .int .i64 0] 75)).heap[wr.heap.size]? = some (.cells #[.int .i64 0, .int .i64 0] 75 (0, 0)) := heap_new_at rfl _
  have hl := lt_of_heap hn
  exact ⟨h1.below, h.sys.more hb _ (fun x hx => hx.imp id (fun e => ⟨by omega, by omega⟩)), h1.all, h.ge, fun hf => by have := h.flt _ hf; omega, h.below.size, hn⟩
theorem PlayV.set {q j : Nat} {r : List Int} (h : PlayV w wr F d p fr mn q M L v rs (box2 r j)) (hj : j < 2) : PlayV w (wr.setCell ⟨q, j, none⟩ (.int .i64 (r.getD j 0))) F d p fr mn q M L v rs (box2 r (j + 1)) := by
  have ho : Only (fun x => F x ∨ x = q) wr (wr.setCell ⟨q, j, none⟩ (.int .i64 (r.getD j 0))) := (Only.refl (fun x => F x ∨ x = q) wr).setCell (p := ⟨q, j, none⟩) (Or.inr rfl) _
  refine ⟨h.below.setCell (p := ⟨q, j, none⟩) h.qB _, h.sys.grown ho (fun x hx => Or.inl hx), h.all.later (fun g hg => setCell_heap_ne (fun e => h.nq (e ▸ hg))) (fun _ h => h), h.ge, h.nq, h.qB, ?_⟩
  rw [heap_setCell_same h.box]
  match j, hj with
  | 0, _ => simp [box2, fst2]
  | 1, _ => simp [box2, fst2]
theorem PlayV.at {q j : Nat} {r : List Int} (h : PlayV w wr F d p fr mn q M L v rs (box2 r j)) {i : Nat} (hi : i < 2) : wr.cell? ⟨q, i, none⟩ = some (.int .i64 (fst2 r j i)) := by
  have := cell_of_heap h.box i
  match i, hi with
  | 0, _ => exact this
  | 1, _ => exact this
theorem PlayV.free {q j : Nat} {r : List Int} (h : PlayV w wr F d p fr mn q M L v rs (box2 r j)) (i : Nat) : wr.frozen? ⟨q, i, none⟩ = false := free_of_heap h.box i
theorem PlayV.drop {q : Nat} {o : Obj} (h : PlayV w wr F d p fr mn q M L v rs o) : PlayAt w wr F d p fr mn M L v rs := ⟨h.below, h.sys.less (fun _ h => Or.inl h), h.all, h.ge⟩
theorem fst2_all {r : List Int} {j : Nat} (h : r.length ≤ j ∨ 2 ≤ j) {i : Nat} (hi : i < 2) : fst2 r j i = r.getD i 0 := by
  unfold fst2
  split
  · rfl
  · rename_i hn
    rcases h with h | h
    · simp [List.getElem?_eq_none (show r.length ≤ i by omega)]
    · omega
end
end Go.Proofs.YtldpflijgbcbhaaDoor.lg

/- LogPlays: a record is laid, and put; plain lemmas that walks of a log want. -/
namespace Go.Proofs.YtldpflijgbcbhaaDoor.lg
open Go.RowKit

theorem fmtAll_len (M : DiskM) (fr n : Nat) : (fmtAll M fr n).now.length = M.now.length ∧ (fmtAll M fr n).steps = M.steps + n + 1 ∧ (fmtAll M fr n).since.length = 0 ∧ (Free M → Free (fmtAll M fr n)) := by
  have g := fmtGo_len M fr n
  exact ⟨g.1, by show (fmtGo M fr n).steps + 1 = _; rw [g.2.1], rfl, fun h => fmtGo_free h fr n⟩
theorem fmt_is {M : DiskM} (h : Free M) (fr n : Nat) (hn : fr + n ≤ M.now.length) : fmtR M fr 0 n = (fmtAll M fr n, 0) := by
  have e := fmtR_free h fr n 0 (by omega)
  rw [show fmtGo M fr 0 = M from rfl, Nat.zero_add] at e
  exact e
theorem putsR_ok {M : DiskM} {fr mn : Nat} {L : LogS} {b : List UInt8} (h : Free M) (hok : LogOk M.now fr mn L) (hfr : fr + mn ≤ M.now.length) (hr : L.stream.length + b.length + 2 ≤ 60 * (mn - 2)) : putsR M fr (L.add b) (L.stream.length / 60) (chunks L.stream (enc1 b)) = (putsAdd M fr L b, 0) := by
  have := appR_free h hok hfr hr
  unfold appR bareR LogS.bared at this
  rw [hok.bare] at this
  simpa using this
theorem made_bytes (n : Nat) : madeCells #[Value.int .u8 0] n = bytesArr (List.replicate n 0) := by
  apply Array.ext
  · simp [size_madeCells, bytesArr]
  · intro i h1 h2
    simp [madeCells, bytesArr, Nat.mod_one, byteV]
theorem make_bytes (n : Nat) (hn : n ≤ 4398046511104) (w : World) : (Instr.makeSlice 22 (.int .i64 (n : Int)) (.int .i64 (n : Int))).run Tryd.prog w = .ok (.slice (some ⟨w.heap.size, 0, none⟩) n n) (w.alloc (.cells (bytesArr (List.replicate n 0)) 5)) := by
  have h := run_make_row' (P := Tryd.prog) 22 5 (.int .u8 0) 1 Tryd.underlying22 infoU8 rfl .i64 .i64 n (by omega) (by omega) w
  rw [made_bytes] at h
  exact h
/-- bytes in a block -/
theorem bytes_block {w : World} {g : Nat} {l : List UInt8} (h : w.heap[g]? = some (.cells (bytesArr l) 5 (0, 0))) : BytesW w (.slice (some ⟨g, 0, none⟩) l.length l.length) l := by
  refine ⟨some ⟨g, 0, none⟩, l.length, rfl, fun _ => ⟨g, 0, rfl, lt_of_heap h, fun j u hj => ?_⟩⟩
  rw [Nat.zero_add, cell_of_heap h]
  simpa [bytesArr] using hj
theorem rec_block_at {w : World} {Q : Nat → Prop} {g : Nat} {l : List UInt8} (h : w.heap[g]? = some (.cells (bytesArr l) 5 (0, 0))) (hl : l.length ≤ 4398046511104) (hQ : Q g) : RecAt w Q (.slice (some ⟨g, 0, none⟩) l.length l.length) l :=
  ⟨⟨by simp, Or.inr ⟨g, l.length, bytesArr l, rfl, Nat.zero_le _, h, Nat.le_refl _, by unfold maxLen; omega, by simp [bytesArr], by simp [bytesArr, List.take_of_length_le]⟩⟩, fun k hk => (by have : g = k := Option.some.inj hk; exact this ▸ hQ)⟩
/-- a record that is being laid: j of its n bytes -/
def fillL (i j n : Nat) : List UInt8 := List.replicate j (UInt8.ofNat i) ++ List.replicate (n - j) 0
theorem fillL_len {i j n : Nat} (h : j ≤ n) : (fillL i j n).length = n := by simp [fillL]; omega
theorem fillL_end (i n : Nat) : fillL i n n = List.replicate n (UInt8.ofNat i) := by simp [fillL]
theorem fillL_zero (i n : Nat) : fillL i 0 n = List.replicate n 0 := by simp [fillL]
theorem fill_list (x : UInt8) (j n : Nat) (h : j < n) : (List.replicate j x ++ List.replicate (n - j) (0 : UInt8)).set j x = List.replicate (j + 1) x ++ List.replicate (n - (j + 1)) 0 := by
  obtain ⟨k, rfl⟩ : ∃ k, n = j + 1 + k := ⟨n - (j + 1), by omega⟩
  rw [show j + 1 + k - j = k + 1 by omega, show j + 1 + k - (j + 1) = k by omega, List.replicate_succ (n := k)]
  rw [List.set_append_right _ _ (by simp)]
  simp [List.replicate_succ', List.append_assoc]
theorem fill_set {i j n : Nat} (h : j < n) : (bytesArr (fillL i j n)).setIfInBounds j (byteV (UInt8.ofNat i)) = bytesArr (fillL i (j + 1) n) := by
  unfold bytesArr fillL
  rw [List.setIfInBounds_toArray, ← List.map_set, fill_list _ _ _ h]
theorem fill_at {i j n : Nat} (h : j < n) : (bytesArr (fillL i j n))[j]? = some (byteV 0) := by
  unfold bytesArr fillL
  simp [List.getElem?_append, List.getElem?_replicate, h]
  omega
section
variable {w wr wr' : World} {F : Nat → Prop} {d p fr mn : Nat} {M M' : DiskM} {L L' : LogS} {v : Value} {rs : List Value}
theorem PlayV.of (h : PlayAt w wr F d p fr mn M L v rs) (cs : Array Value) (t : TypeId) : PlayV w (wr.alloc (.cells cs t)) F d p fr mn wr.heap.size M L v rs (.cells cs t (0, 0)) := by
  have hb : Below wr.heap.size wr (wr.alloc (.cells cs t)) := (Below.refl _ _).alloc (Nat.le_refl _) _
  have h1 := h.later hb
  have hn : (wr.alloc (.cells cs t)).heap[wr.heap.size]? = some (.cells cs t (0, 0)) := heap_new_at rfl _
  have hl := lt_of_heap hn
  exact ⟨h1.below, h.sys.more hb _ (fun x hx => hx.imp id (fun e => ⟨by omega, by omega⟩)), h1.all, h.ge, fun hf => by have := h.flt _ hf; omega, h.below.size, hn⟩
theorem PlayV.put {q : Nat} {cs : Array Value} {t : TypeId} (h : PlayV w wr F d p fr mn q M L v rs (.cells cs t (0, 0))) (j : Nat) (x : Value) : PlayV w (wr.setCell ⟨q, j, none⟩ x) F d p fr mn q M L v rs (.cells (cs.setIfInBounds j x) t (0, 0)) := by
  have ho : Only (fun x => F x ∨ x = q) wr (wr.setCell ⟨q, j, none⟩ x) := (Only.refl (fun x => F x ∨ x = q) wr).setCell (p := ⟨q, j, none⟩) (Or.inr rfl) _
  exact ⟨h.below.setCell (p := ⟨q, j, none⟩) h.qB _, h.sys.grown ho (fun x hx => Or.inl hx), h.all.later (fun g hg => setCell_heap_ne (fun e => h.nq (e ▸ hg))) (fun _ h => h), h.ge, h.nq, h.qB, heap_setCell_same h.box x⟩
/-- one byte more -/
theorem PlayV.fill {g i j n : Nat} (h : PlayV w wr F d p fr mn g M L v rs (.cells (bytesArr (fillL i j n)) 5 (0, 0))) (hj : j < n) (hi : i < 256) : PlayV w (wr.setCell ⟨g, j, none⟩ (.int .u8 (i : Int))) F d p fr mn g M L v rs (.cells (bytesArr (fillL i (j + 1) n)) 5 (0, 0)) := by
  have e : (.int .u8 (i : Int) : Value) = byteV (UInt8.ofNat i) := by simp only [byteV, UInt8.toNat_ofNat']; congr 1; omega
  have := h.put j (byteV (UInt8.ofNat i))
  rw [fill_set hj] at this
  rw [e]; exact this
/-- a record is laid, and may be put: the law's own records are ls -/
structure PlayW (w wr : World) (F : Nat → Prop) (d p fr mn : Nat) (M : DiskM) (L : LogS) (v : Value) (rs : List Value) (ls : List (List UInt8)) (x : Value) (b : List UInt8) : Prop where
  below : Below w.heap.size w wr
  sys : Sys w.heap.size F wr d M p fr mn L
  all : AllIs F wr v rs ls
  one : RecAt wr F x b
  ge : ∀ x, F x → w.heap.size ≤ x
theorem PlayV.laid {g : Nat} {b : List UInt8} (h : PlayV w wr F d p fr mn g M L v rs (.cells (bytesArr b) 5 (0, 0))) (hb : b.length ≤ 4398046511104) : PlayW w wr (fun x => F x ∨ x = g) d p fr mn M L v rs L.recs (.slice (some ⟨g, 0, none⟩) b.length b.length) b :=
  ⟨h.below, h.sys, h.all.later (fun _ _ => rfl) (fun _ hx => Or.inl hx), rec_block_at h.box hb (Or.inr rfl), fun x hx => by rcases hx with hx | rfl; exact h.ge x hx; exact h.qB⟩
theorem PlayW.flt {ls : List (List UInt8)} {x : Value} {b : List UInt8} (h : PlayW w wr F d p fr mn M L v rs ls x b) : ∀ x, F x → x < wr.heap.size := by obtain ⟨S, T, hs⟩ := h.sys; exact hs.f_
theorem PlayW.later {ls : List (List UInt8)} {x : Value} {b : List UInt8} (h : PlayW w wr F d p fr mn M L v rs ls x b) (hb : Below wr.heap.size wr wr') : PlayW w wr' F d p fr mn M L v rs ls x b :=
  ⟨h.below.trans (hb.mono h.below.size), h.sys.later hb, h.all.later (fun g hg => hb.block g (h.flt g hg)) (fun _ h => h), h.one.later (fun g hg => hb.block g (h.flt g hg)) (fun _ h => h), h.ge⟩
theorem PlayW.step {ls : List (List UInt8)} {x : Value} {b : List UInt8} (h : PlayW w wr F d p fr mn M L v rs ls x b) (hs : Stays w.heap.size F wr wr') (hy : Sys w.heap.size F wr' d M' p fr mn L') : PlayW w wr' F d p fr mn M' L' v rs ls x b :=
  ⟨h.below.trans hs.below, hy, h.all.stays hs, h.one.later hs.blk (fun _ h => h), h.ge⟩
/-- it is one of the law's own -/
theorem PlayW.more {ls : List (List UInt8)} {x : Value} {b : List UInt8} (h : PlayW w wr F d p fr mn M L v rs ls x b) (hL : L.recs = ls ++ [b]) (hl : ls.length ≤ 100000) :
    ∃ ao cap w6, (Builtin.append_ #[66, 66] 66 #[v, .slice (some ⟨wr.heap.size, 0, none⟩) 1 1]).run Tryd.prog (wr.alloc (.cells #[x] 22)) = .ok (.slice ao (ls.length + 1) cap) w6 ∧ PlayAt w w6 (fun g => F g ∨ (wr.heap.size ≤ g ∧ g < w6.heap.size)) d p fr mn M L (.slice ao (ls.length + 1) cap) (rs ++ [x]) := by
  obtain ⟨ao, cap, w6, hr, ho, ha⟩ := h.all.more h.one hl h.flt
  have hB := h.below.size
  exact ⟨ao, cap, w6, hr, h.below.trans (ho.below hB h.ge), h.sys.grown ho (fun _ hx => hx), by rw [hL]; exact ha, fun x hx => by rcases hx with hx | hx; exact h.ge x hx; omega⟩
theorem PlayW.drop {ls : List (List UInt8)} {x : Value} {b : List UInt8} (h : PlayW w wr F d p fr mn M L v rs ls x b) (hL : L.recs = ls) : PlayAt w wr F d p fr mn M L v rs := ⟨h.below, h.sys, by rw [hL]; exact h.all, h.ge⟩
end
end Go.Proofs.YtldpflijgbcbhaaDoor.lg
