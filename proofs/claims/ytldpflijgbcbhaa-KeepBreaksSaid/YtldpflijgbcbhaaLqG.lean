/- LogPlays, in memory: the law's own records beside the log. -/
import Derived.Test.YtldpflijgbcbhaaLgE
import Derived.Deep.OwnRows
namespace Go.Proofs.Ytldpflijgbcbhaa.lg
open Go.RowKit

/-- others write into their own blocks, and make new ones, which are theirs -/
theorem Sys.grown {B : Nat} {F G : Nat → Prop} {w w' : World} {d p fr mn : Nat} {M : DiskM} {L : LogS} (h : Sys B F w d M p fr mn L) (ho : Only F w w') (hG : ∀ x, G x → F x ∨ (w.heap.size ≤ x ∧ x < w'.heap.size)) : Sys B G w' d M p fr mn L := by
  obtain ⟨S, T, h⟩ := h
  have hs := ho.size
  have hT : ∀ k, T k → w'.heap[k]? = w.heap[k]? := fun k hk => ho.block k (h.log.dom k hk) (h.t_ k hk).2
  refine ⟨S, T, h.disk.apart ho (fun x hx => (h.s_ x hx).2.1), h.log.later hT hs, fun x hx => ⟨(h.s_ x hx).1, fun hg => ?_, (h.s_ x hx).2.2⟩, fun x hx => ⟨(h.t_ x hx).1, fun hg => ?_⟩, Nat.le_trans h.size hs, fun x hx => ?_⟩
  · rcases hG x hg with hf | ⟨hf, _⟩
    · exact (h.s_ x hx).2.1 hf
    · have := diskAt_dom h.disk x hx; omega
  · rcases hG x hg with hf | ⟨hf, _⟩
    · exact (h.t_ x hx).2 hf
    · have := h.log.dom x hx; omega
  · rcases hG x hx with hf | ⟨_, hf⟩
    · exact Nat.lt_of_lt_of_le (h.f_ x hf) hs
    · exact hf
/-- the law's own records -/
structure AllIs (F : Nat → Prop) (w : World) (v : Value) (rs : List Value) (L : List (List UInt8)) : Prop where
  row : w.ownsRow 0 23 1 v L.length rs
  own : ∀ g, v.ownBlock = some g → F g
  each : ∀ (i : Nat) (b : List UInt8), L[i]? = some b → ∃ x, rs[i]? = some x ∧ RecAt w F x b
section
variable {F G : Nat → Prop} {w w' : World} {v : Value} {rs : List Value} {L : List (List UInt8)}
theorem AllIs.start (F : Nat → Prop) (w : World) : AllIs F w (.slice none 0 0) [] [] := ⟨World.ownsRow_nil _ _ _ _, fun g hg => (by cases hg), fun i b hi => (by simp at hi)⟩
theorem AllIs.later (h : AllIs F w v rs L) (hk : ∀ g, F g → w'.heap[g]? = w.heap[g]?) (hG : ∀ g, F g → G g) : AllIs G w' v rs L :=
  ⟨ownsRow_later h.row (fun g hg => hk g (h.own g hg)), fun g hg => hG g (h.own g hg), fun i b hi => by
    obtain ⟨x, hx, hr⟩ := h.each i b hi
    exact ⟨x, hx, hr.later hk hG⟩⟩
theorem AllIs.stays {B : Nat} (h : AllIs F w v rs L) (hs : Stays B F w w') : AllIs F w' v rs L := h.later hs.blk (fun _ h => h)
/-- one more: the blocks then -/
theorem AllIs.more (h : AllIs F w v rs L) {x : Value} {b : List UInt8} (hx : RecAt w F x b) (hL : L.length ≤ 100000) (hF : ∀ g, F g → g < w.heap.size) :
    ∃ ao cap w6, (Builtin.append_ #[56, 56] 56 #[v, .slice (some ⟨w.heap.size, 0, none⟩) 1 1]).run Try.prog (w.alloc (.cells #[x] 23)) = .ok (.slice ao (L.length + 1) cap) w6 ∧ Only F w w6 ∧ AllIs (fun g => F g ∨ (w.heap.size ≤ g ∧ g < w6.heap.size)) w6 (.slice ao (L.length + 1) cap) (rs ++ [x]) (L ++ [b]) := by
  obtain ⟨V, hV⟩ : ∃ V, V = w.alloc (.cells #[x] 23) := ⟨_, rfl⟩
  have hbV : Below w.heap.size w V := by rw [hV]; exact (Below.refl _ _).alloc (Nat.le_refl _) _
  have hnew : V.heap[w.heap.size]? = some (.cells #[x] 23 (0, 0)) := by rw [hV]; exact heap_new_at rfl _
  have hx1 : x.oneCell' = true := by
    rcases hx.1.2 with ⟨hv, _⟩ | ⟨g, cap, cur, hv, _⟩ <;> rw [hv] <;> rfl
  have hsV := hbV.size
  have hV5 : AllIs F V v rs L := h.later (fun g hg => hbV.block g (hF g hg)) (fun _ h => h)
  have hxV : RecAt V F x b := hx.later (fun g hg => hbV.block g (hF g hg)) (fun _ h => h)
  obtain ⟨v6, w6, hr, hown, hgrow, hblk⟩ := run_append_rec hV5.row (cell_of_heap hnew 0) hx1 (by omega) (Nat.zero_le _) 56
  have hos : Only (fun g => v.ownBlock = some g) V w6 := Only.of_grown hgrow
  have hs6 := hos.size
  have hne : ∀ (y : Value) (c : List UInt8) (Q : Nat → Prop), RecAt V Q y c → ∀ g, y.ownBlock = some g → w6.heap[g]? = V.heap[g]? := fun y c Q hy g hg => by
    obtain ⟨cc, hc⟩ := row_block hy.1 hg
    refine hos.block g (lt_of_heap hc) (fun e => ?_)
    obtain ⟨c2, hc2⟩ := row_block hV5.row e
    exact type_ne hc2 hc (by decide) rfl
  have hrl : rs.length = L.length := by have := hV5.row.1; omega
  obtain ⟨ao, cap, hv6, _⟩ := row_slice' hown
  subst hv6
  rw [hV] at hr
  have honly : Only F w w6 := (Only.of_below (S := F) hbV).trans hos (fun g hg hv => h.own g hv)
  refine ⟨ao, cap, w6, hr, honly, by rw [List.length_append]; exact hown, fun g hg => ?_, fun i c hc => ?_⟩
  · rcases hblk with e | e
    · rw [e] at hg; exact Or.inl (h.own g hg)
    · obtain ⟨cc, hcc⟩ := row_block hown hg
      rw [e] at hg
      have : V.heap.size = g := Option.some.inj hg
      exact Or.inr ⟨by omega, lt_of_heap hcc⟩
  · by_cases hi : i < L.length
    · rw [List.getElem?_append_left hi] at hc
      obtain ⟨y, hy, hry⟩ := hV5.each i c hc
      exact ⟨y, by rw [List.getElem?_append_left (by omega)]; exact hy, ownsRow_later hry.1 (hne y c _ hry), fun g hg => Or.inl (hry.2 g hg)⟩
    · have hi2 : i = L.length := by
        have := (List.getElem?_eq_some_iff.1 hc).1
        simp at this; omega
      subst hi2
      rw [List.getElem?_append_right (by omega), Nat.sub_self] at hc
      simp at hc
      subst hc
      exact ⟨x, by rw [List.getElem?_append_right (by omega), hrl, Nat.sub_self]; rfl, ownsRow_later hxV.1 (hne x b _ hxV), fun g hg => Or.inl (hxV.2 g hg)⟩
end
theorem Sys.of_op {B : Nat} {F : Nat → Prop} {w w1 : World} {d p fr mn : Nat} {M : DiskM} {L : LogS} (h : DiskF B F w d M) (ha : OpAt w w1 p d fr mn L) : Sys B F w1 d M p fr mn L := by
  obtain ⟨rv, sv, rs, ha⟩ := ha
  obtain ⟨S, g1, g2, g3, g4⟩ := h
  have hb := ha.below
  have hs := hb.size
  have hd := diskAt_dom g1
  exact ⟨S, Fresh w w1, g1.later hb, ⟨_, _, _, ha.log⟩, fun x hx => ⟨(g2 x hx).1, (g2 x hx).2, fun ht => by have := hd x hx; have := ht.1; omega⟩, fun x hx => ⟨by have := hx.1; omega, fun hf => by have := g4 x hf; have := hx.1; omega⟩, by omega, fun x hx => by have := g4 x hx; omega⟩

theorem fmtAll_len (M : DiskM) (fr n : Nat) : (fmtAll M fr n).now.length = M.now.length ∧ (fmtAll M fr n).steps = M.steps + n + 1 ∧ (fmtAll M fr n).since.length = 0 ∧ (Free M → Free (fmtAll M fr n)) := by
  have g := fmtGo_len M fr n
  exact ⟨g.1, by show (fmtGo M fr n).steps + 1 = _; rw [g.2.1], rfl, fun h => fmtGo_free h fr n⟩
theorem fmt_is {M : DiskM} (h : Free M) (fr n : Nat) (hn : fr + n ≤ M.now.length) : fmtR M fr 0 n = (fmtAll M fr n, 0) := by
  have e := fmtR_free h fr n 0 (by omega)
  rw [show fmtGo M fr 0 = M from rfl, Nat.zero_add] at e
  exact e
theorem putsR_ok {M : DiskM} {fr mn : Nat} {L : LogS} {b : List UInt8} (h : Free M) (hok : LogOk M.now fr mn L) (hfr : fr + mn ≤ M.now.length) (hr : L.stream.length + b.length + 2 ≤ 60 * (mn - 2)) : putsR M fr (L.add b) (L.stream.length / 60) (chunks L.stream (enc1 b)) = (putsAdd M fr L b, 0) := by
  have := appR_free h hok hfr hr
  unfold appR bareR LogS.bared at this
  rw [hok.bare] at this
  simpa using this
theorem made_bytes (n : Nat) : madeCells #[Value.int .u8 0] n = bytesArr (List.replicate n 0) := by
  apply Array.ext
  · simp [size_madeCells, bytesArr]
  · intro i h1 h2
    simp [madeCells, bytesArr, Nat.mod_one, byteV]
theorem make_bytes (n : Nat) (hn : n ≤ 4398046511104) (w : World) : (Instr.makeSlice 23 (.int .i64 (n : Int)) (.int .i64 (n : Int))).run Try.prog w = .ok (.slice (some ⟨w.heap.size, 0, none⟩) n n) (w.alloc (.cells (bytesArr (List.replicate n 0)) 5)) := by
  have h := run_make_row' (P := Try.prog) 23 5 (.int .u8 0) 1 Try.underlying23 infoU8 rfl .i64 .i64 n (by omega) (by omega) w
  rw [made_bytes] at h
  exact h
/-- bytes in a block -/
theorem bytes_block {w : World} {g : Nat} {l : List UInt8} (h : w.heap[g]? = some (.cells (bytesArr l) 5 (0, 0))) : BytesW w (.slice (some ⟨g, 0, none⟩) l.length l.length) l := by
  refine ⟨some ⟨g, 0, none⟩, l.length, rfl, fun _ => ⟨g, 0, rfl, lt_of_heap h, fun j u hj => ?_⟩⟩
  rw [Nat.zero_add, cell_of_heap h]
  simpa [bytesArr] using hj
theorem rec_block_at {w : World} {Q : Nat → Prop} {g : Nat} {l : List UInt8} (h : w.heap[g]? = some (.cells (bytesArr l) 5 (0, 0))) (hl : l.length ≤ 4398046511104) (hQ : Q g) : RecAt w Q (.slice (some ⟨g, 0, none⟩) l.length l.length) l :=
  ⟨⟨by simp, Or.inr ⟨g, l.length, bytesArr l, rfl, Nat.zero_le _, h, Nat.le_refl _, by unfold maxLen; omega, by simp [bytesArr], by simp [bytesArr, List.take_of_length_le]⟩⟩, fun k hk => (by have : g = k := Option.some.inj hk; exact this ▸ hQ)⟩
end Go.Proofs.Ytldpflijgbcbhaa.lg
