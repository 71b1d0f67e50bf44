/- keep: entries that are gathered in a row. -/
import Derived.Test.YtldpflijgbcbhaaKpA
import Derived.Test.YtldpflijgbcbhaaRowB
import Derived.Test.YtldpflijgbcbhaaLgE
import Derived.Deep.CutBlock
import Derived.Deep.DeepCutAuto
import Derived.Deep.RegionLaw
namespace Go.Proofs.Ytldpflijgbcbhaa.lg
open Go.RowKit

theorem infoEnt : (Try.prog.info? 30).map (fun i => (i.zero, i.size, i.bytes)) = some (some (.agg #[.string ⟨#[]⟩, .int .i64 0, .int .i64 0, .slice none 0 0]), 4, 56) := by kernel_rfl
/-- bytes as a text -/
theorem conv_at {w : World} {v : Value} {l : List UInt8} (h : BytesW w v l) : (convert 23 9 v).run Try.prog w = .ok (.string ⟨l.toArray⟩) w := by
  obtain ⟨sp, cap, rfl, h⟩ := h
  rcases Nat.eq_zero_or_pos l.length with h0 | h0
  · obtain rfl := List.length_eq_zero_iff.1 h0
    cases sp with
    | none => exact run_convert_bytes_nil _ _ _ Try.underlying23 Try.underlying5 0 cap _ Try.underlying9
    | some a => exact run_convert_bytes_back w _ _ _ a cap [] Try.underlying23 Try.underlying5 Try.underlying9 (fun j hj => by simp at hj)
  · obtain ⟨b, off, rfl, hlt, hx⟩ := h h0
    exact run_convert_bytes_back w _ _ _ ⟨b, off, none⟩ cap l Try.underlying23 Try.underlying5 Try.underlying9 (fun j hj => by
      rw [addr_add]
      exact hx j (byteV l[j]) (by simp [hj]))
theorem src_of_bytes {w : World} {sp : Option Addr} {n c : Nat} {l : List UInt8} (h : BytesW w (.slice sp n c) l) : SrcW w sp l := by
  obtain ⟨sp', c', e, hh⟩ := h
  injection e with e1 _ _
  subst e1
  intro h0
  obtain ⟨b, o, e, hlt, hc⟩ := hh h0
  exact ⟨b, o, e, hlt, fun j x hj => hc j (byteV x) (by rw [List.getElem?_map, hj]; rfl)⟩
theorem cell_congr {w w' : World} {b j : Nat} (h : w'.heap[b]? = w.heap[b]?) : w'.cell? ⟨b, j, none⟩ = w.cell? ⟨b, j, none⟩ := by
  unfold World.cell?
  rw [show ((⟨b, j, none⟩ : Addr)).block = b from rfl, h]
theorem LinesAt.keep {w w' : World} {lao : Option Addr} {t : List LineM} (h : LinesAt w lao t) (hk : ∀ b off, lao = some ⟨b, off, none⟩ → t ≠ [] → w'.heap[b]? = w.heap[b]?) (hs : w.heap.size ≤ w'.heap.size) : LinesAt w' lao t := by
  rcases h with h | ⟨b, off, e, hlt, hc⟩
  · exact Or.inl h
  · by_cases ht : t = []
    · exact Or.inl ht
    · have hb := hk b off e ht
      refine Or.inr ⟨b, off, e, Nat.lt_of_lt_of_le hlt hs, fun i x hi => ?_⟩
      obtain ⟨h1, h2, h3⟩ := hc i x hi
      exact ⟨(cell_congr hb).trans h1, (cell_congr hb).trans h2, (cell_congr hb).trans h3⟩
theorem LinesAt.lt {w : World} {lao : Option Addr} {t : List LineM} (h : LinesAt w lao t) {b off : Nat} (e : lao = some ⟨b, off, none⟩) (ht : t ≠ []) : b < w.heap.size := by
  rcases h with h | ⟨b', off', e', hlt, _⟩
  · exact absurd h ht
  · rw [e] at e'
    injection e' with e'
    injection e' with e' _ _
    omega
/-- an entry appended to a row of the call's own -/
theorem run_append_ent {w : World} {base : Nat} {v : Value} {n : Nat} {xs : List Value} (hown : w.ownsRow base 30 4 v n xs) {g : Nat} {c0 c1 c2 c3 : Value} {fz : Nat × Nat} (hg : w.heap[g]? = some (.cells #[c0, c1, c2, c3] 30 fz)) (h1 : ∀ u ∈ [c0, c1, c2, c3], u.oneCell' = true) (hn : n ≤ 4000000) (hbase : base ≤ w.heap.size) :
    ∀ ty, ∃ v' w', (Builtin.append_ #[22, 22] ty #[v, .slice (some ⟨g, 0, none⟩) 1 1]).run Try.prog w = .ok v' w' ∧ w'.ownsRow base 30 4 v' (n + 1) (xs ++ [c0, c1, c2, c3]) ∧ w.grownBy w' v.ownBlock ∧ (v'.ownBlock = v.ownBlock ∨ v'.ownBlock = some w.heap.size) := by
  intro ty
  obtain ⟨i0, hi0, hz0, hz1, hz2⟩ := info_parts infoEnt
  obtain ⟨v', w', hr, h2, h3, _, h5⟩ := run_append_own_at (P := Try.prog) w base 22 ty 30 i0 (.agg #[.string ⟨#[]⟩, .int .i64 0, .int .i64 0, .slice none 0 0]) 4 56 Try.underlying22 hi0 hz0 hz1 hz2 rfl (by decide) v n xs hown ⟨g, 0, none⟩ 1 1 [c0, c1, c2, c3] (by simp) (fun j u hj => by
    rw [addr_add, Nat.zero_add, cell_of_block9 hg]
    rw [show (#[c0, c1, c2, c3] : Array Value)[j]? = [c0, c1, c2, c3][j]? from by simp]; exact hj) h1 (by unfold maxLen; omega) (by omega) hbase
  exact ⟨v', w', hr, h2, h3, h5⟩
/-- the first k entries lie in a row of the call's own, and their lines in blocks of its own -/
structure OutE (w wr : World) (v : Value) (k : Nat) (es : List EntryM) : Prop where
  below : Below w.heap.size w wr
  ex : ∃ xs, wr.ownsRow w.heap.size 30 4 v k xs ∧ ∀ i x, i < k → es[i]? = some x → ∃ lao lc, xs[i * 4]? = some (.string x.ref) ∧ xs[i * 4 + 1]? = some (.int .i64 x.ent) ∧ xs[i * 4 + 2]? = some (.int .i64 x.per) ∧ xs[i * 4 + 3]? = some (.slice lao x.lines.length lc) ∧ LinesAt wr lao x.lines ∧ (∀ b off, lao = some ⟨b, off, none⟩ → x.lines ≠ [] → w.heap.size ≤ b ∧ v.ownBlock ≠ some b)
theorem OutE.start (w : World) (es : List EntryM) : OutE w w (.slice none 0 0) 0 es := ⟨Below.refl _ _, [], World.ownsRow_nil _ _ _ _, fun i x hi => absurd hi (by omega)⟩
theorem OutE.later {w wr wr' : World} {v : Value} {k : Nat} {es : List EntryM} (h : OutE w wr v k es) (hb : Below wr.heap.size wr wr') : OutE w wr' v k es := by
  obtain ⟨xs, hr, hx⟩ := h.ex
  refine ⟨h.below.trans (hb.mono h.below.size), xs, ownsRow_later hr (fun g hg => by obtain ⟨c, hc⟩ := row_block hr hg; exact hb.block g (lt_of_heap hc)), fun i x hi hxi => ?_⟩
  obtain ⟨lao, lc, h0, h1, h2, h3, h4, h5⟩ := hx i x hi hxi
  exact ⟨lao, lc, h0, h1, h2, h3, h4.below hb (Nat.le_refl _), h5⟩
/-- one more -/
theorem OutE.more {w wr w6 : World} {v : Value} {k : Nat} {es : List EntryM} {x : EntryM} {lao : Option Addr} {lc : Nat} (h : OutE w wr v k es) (hx : es[k]? = some x) (hb6 : Below wr.heap.size wr w6) (hl : LinesAt w6 lao x.lines) (hlo : ∀ b off, lao = some ⟨b, off, none⟩ → wr.heap.size ≤ b) (hk : k ≤ 100000) :
    ∃ ao cap w8, (Builtin.append_ #[22, 22] 22 #[v, .slice (some ⟨w6.heap.size, 0, none⟩) 1 1]).run Try.prog (w6.alloc (.cells #[.string x.ref, .int .i64 x.ent, .int .i64 x.per, .slice lao x.lines.length lc] 30)) = .ok (.slice ao (k + 1) cap) w8 ∧ OutE w w8 (.slice ao (k + 1) cap) (k + 1) es := by
  obtain ⟨V, hV⟩ : ∃ V, V = w6.alloc (.cells #[.string x.ref, .int .i64 x.ent, .int .i64 x.per, .slice lao x.lines.length lc] 30) := ⟨_, rfl⟩
  have hb7 : Below w6.heap.size w6 V := by rw [hV]; exact (Below.refl _ _).alloc (Nat.le_refl _) _
  have hbV : Below wr.heap.size wr V := hb6.trans (hb7.mono hb6.size)
  have hV5 := h.later hbV
  have hnew : V.heap[w6.heap.size]? = some (.cells #[.string x.ref, .int .i64 x.ent, .int .i64 x.per, .slice lao x.lines.length lc] 30 (0, 0)) := by rw [hV]; exact heap_new_at rfl _
  have hlV : LinesAt V lao x.lines := hl.below hb7 (Nat.le_refl _)
  have hsV := hbV.size
  have hws := h.below.size
  have hs7 := hb7.size
  have hs6 := hb6.size
  obtain ⟨xs, hrow, hxs⟩ := hV5.ex
  have hvl : ∀ g, v.ownBlock = some g → g < wr.heap.size := fun g hg => by
    obtain ⟨xs0, hr0, _⟩ := h.ex
    obtain ⟨c, hc⟩ := row_block hr0 hg
    exact lt_of_heap hc
  obtain ⟨v8, w8, hr, hown, hgrow, hblk⟩ := run_append_ent hrow hnew (fun u hu => by simp at hu; rcases hu with rfl | rfl | rfl | rfl <;> rfl) (by omega) (by omega) 22
  obtain ⟨ao, cap, hv8, _⟩ := row_slice' hown
  subst hv8
  rw [hV] at hr
  have hon : Only (fun g => v.ownBlock = some g) V w8 := Only.of_grown hgrow
  have hs8 := hon.size
  have hlen : xs.length = k * 4 := hrow.1
  have hbase : ∀ g, v.ownBlock = some g → w.heap.size ≤ g := fun g hg => by
    rcases hrow.2 with ⟨hv, _⟩ | ⟨g', c', cur, hv, hb, _⟩
    · rw [hv] at hg; cases hg
    · rw [hv] at hg
      have : g' = g := Option.some.inj hg
      omega
  have hne8 : ∀ b, b < V.heap.size → v.ownBlock ≠ some b → (Value.slice ao (k + 1) cap).ownBlock ≠ some b := fun b hb hne he => by
    rcases hblk with e | e
    · rw [e] at he; exact hne he
    · rw [e] at he
      have : V.heap.size = b := Option.some.inj he
      omega
  refine ⟨ao, cap, w8, hr, (hV5.below).trans (hon.below (by omega) hbase), xs ++ [.string x.ref, .int .i64 x.ent, .int .i64 x.per, .slice lao x.lines.length lc], hown, fun i y hi hy => ?_⟩
  by_cases hik : i < k
  · obtain ⟨la, lc', h0, h1, h2, h3, h4, h5⟩ := hxs i y hik hy
    refine ⟨la, lc', ?_, ?_, ?_, ?_, LinesAt.keep h4 (fun b off e ht => hon.block b (LinesAt.lt h4 e ht) (h5 b off e ht).2) hs8, fun b off e ht => ⟨(h5 b off e ht).1, hne8 b (LinesAt.lt h4 e ht) (h5 b off e ht).2⟩⟩
    · rw [List.getElem?_append_left (by omega)]; exact h0
    · rw [List.getElem?_append_left (by omega)]; exact h1
    · rw [List.getElem?_append_left (by omega)]; exact h2
    · rw [List.getElem?_append_left (by omega)]; exact h3
  · obtain rfl : i = k := by omega
    rw [hx] at hy
    injection hy with hy
    subst hy
    have hnv : ∀ b off, lao = some ⟨b, off, none⟩ → v.ownBlock ≠ some b := fun b off e he => by
      have := hlo b off e
      have := hvl b he
      omega
    refine ⟨lao, lc, ?_, ?_, ?_, ?_, LinesAt.keep hlV (fun b off e ht => hon.block b (LinesAt.lt hlV e ht) (hnv b off e)) hs8, fun b off e ht => ⟨by have := hlo b off e; omega, hne8 b (LinesAt.lt hlV e ht) (hnv b off e)⟩⟩
    · rw [List.getElem?_append_right (by omega), hlen, Nat.sub_self]; rfl
    · rw [List.getElem?_append_right (by omega), hlen, show i * 4 + 1 - i * 4 = 1 by omega]; rfl
    · rw [List.getElem?_append_right (by omega), hlen, show i * 4 + 2 - i * 4 = 2 by omega]; rfl
    · rw [List.getElem?_append_right (by omega), hlen, show i * 4 + 3 - i * 4 = 3 by omega]; rfl
/-- entries in memory, in blocks Q: they stay while these do -/
def EntsQ (w : World) (Q : Nat → Prop) (ao : Option Addr) (es : List EntryM) : Prop := ∀ w', (∀ k, Q k → w'.heap[k]? = w.heap[k]?) → w.heap.size ≤ w'.heap.size → EntsAt w' ao es
theorem EntsQ.at {w : World} {Q : Nat → Prop} {ao : Option Addr} {es : List EntryM} (h : EntsQ w Q ao es) : EntsAt w ao es := h w (fun _ _ => rfl) (Nat.le_refl _)
theorem EntsQ.later {w w' : World} {Q Q' : Nat → Prop} {ao : Option Addr} {es : List EntryM} (h : EntsQ w Q ao es) (hk : ∀ k, Q k → w'.heap[k]? = w.heap[k]?) (hs : w.heap.size ≤ w'.heap.size) (hq : ∀ k, Q k → Q' k) : EntsQ w' Q' ao es := fun w2 h2 h3 => h w2 (fun k hk' => (h2 k (hq k hk')).trans (hk k hk')) (Nat.le_trans hs h3)
theorem EntsQ.stays {B : Nat} {F : Nat → Prop} {w w' : World} {ao : Option Addr} {es : List EntryM} (h : EntsQ w F ao es) (hs : Stays B F w w') : EntsQ w' F ao es := h.later hs.blk hs.below.size (fun _ h => h)
theorem row_cells4 {w : World} {base : Nat} {e : TypeId} {g n cap : Nat} {xs : List Value} (h : w.ownsRow base e 4 (.slice (some ⟨g, 0, none⟩) n cap) n xs) {j : Nat} (hj : j < n * 4) : w.cell? ⟨g, j, none⟩ = xs[j]? := by
  rcases h.2 with ⟨hv, _⟩ | ⟨g', cap', cur, hv, _, hh, _, _, _, ht⟩
  · cases hv
  · injection hv with e1 _ _
    injection e1 with e1
    injection e1 with e1 _ _
    subst e1
    rw [cell_of_heap hh, ← ht, List.getElem?_take, if_pos (by omega), Array.getElem?_toList]
theorem OutE.ents {w wr : World} {ao : Option Addr} {cap : Nat} {es : List EntryM} (h : OutE w wr (.slice ao es.length cap) es.length es) : EntsQ wr (fun k => w.heap.size ≤ k ∧ k < wr.heap.size) ao es := by
  intro w2 hk hs
  obtain ⟨xs, hr, hx⟩ := h.ex
  rcases Nat.eq_zero_or_pos es.length with h0 | h0
  · exact Or.inl (List.length_eq_zero_iff.1 h0)
  · obtain ⟨g, cap', hv, hg, hlt, _⟩ := ownsRow_some hr h0
    injection hv with e1 _ _
    subst e1
    have hb := hk g ⟨hg, hlt⟩
    refine Or.inr ⟨g, 0, rfl, Nat.lt_of_lt_of_le hlt hs, fun i x hi => ?_⟩
    have hil := (List.getElem?_eq_some_iff.1 hi).1
    obtain ⟨lao, lc, q0, q1, q2, q3, q4, q5⟩ := hx i x hil hi
    rw [Nat.zero_add]
    exact ⟨lao, lc, (cell_congr hb).trans ((row_cells4 hr (by omega)).trans q0), (cell_congr hb).trans ((row_cells4 hr (by omega)).trans q1), (cell_congr hb).trans ((row_cells4 hr (by omega)).trans q2), (cell_congr hb).trans ((row_cells4 hr (by omega)).trans q3), LinesAt.keep q4 (fun b off e ht => hk b ⟨(q5 b off e ht).1, LinesAt.lt q4 e ht⟩) hs⟩
end Go.Proofs.Ytldpflijgbcbhaa.lg

/- keep.open walked. -/
namespace Go.Proofs.Ytldpflijgbcbhaa.lg
open Go.RowKit

theorem row_cell {w : World} {base : Nat} {e : TypeId} {g n cap : Nat} {xs : List Value} (h : w.ownsRow base e 1 (.slice (some ⟨g, 0, none⟩) n cap) n xs) {j : Nat} (hj : j < n) : w.cell? ⟨g, j, none⟩ = xs[j]? := by
  rcases h.2 with ⟨hv, _⟩ | ⟨g', cap', cur, hv, _, hh, _, _, _, ht⟩
  · cases hv
  · injection hv with e1 _ _
    injection e1 with e1
    injection e1 with e1 _ _
    subst e1
    rw [cell_of_heap hh, ← ht, List.getElem?_take, if_pos (by omega), Array.getElem?_toList]
/-- the records that All gave -/
def RecsAt (W : World) (g : Nat) (L : List (List UInt8)) : Prop := ∀ j b, L[j]? = some b → ∃ xo xc, W.cell? ⟨g, j, none⟩ = some (.slice xo b.length xc) ∧ BytesW W (.slice xo b.length xc) b ∧ b.length ≤ xc
theorem RecRows.recs {w0 W : World} {g n gc : Nat} {rs : List Value} {L : List (List UInt8)} (h : RecRows w0 W (.slice (some ⟨g, 0, none⟩) n gc) n rs L) (hn : n = L.length) : ∀ W', Below W.heap.size W W' → RecsAt W' g L := by
  intro W' hb
  have h := h.later hb
  subst hn
  intro j b hb
  have hj := (List.getElem?_eq_some_iff.1 hb).1
  obtain ⟨x, hx, hr⟩ := h.each j b hj hb
  obtain ⟨xo, xc, hxe, hxc⟩ := row_slice' hr.1
  subst hxe
  exact ⟨xo, xc, (row_cell h.row hj).trans hx, bytes_of_row hr.1 rfl, hxc⟩
set_option maxRecDepth 100000 in
set_option maxHeartbeats 8000000 in
theorem kopen_row (B : Nat) (F : Nat → Prop) (w : World) (d : Nat) (M : DiskM) (es : List EntryM) (L : LogS) (h : DiskF B F w d M) (h1 : 150 ≤ M.now.length) (hT : ∀ i c, i < 2 → blkOf M.now 0 150 i = some c → c.used < 60) (hL : L = openS (blkOf M.now 0 150) 150) (hrec : L.recs = headB :: es.map EntryM.bytes) (hes : ∀ x ∈ es, x.ok ∧ x.bytes.length ≤ 200) (hm : es.length ≤ 5000) :
    Calls Try.prog 61 #[.pointer (some ⟨d, 0, none⟩)] w (fun e w' => ∃ p ao cap n0 w5, e = .returned (.tuple #[.pointer (some ⟨p, 0, none⟩), .slice ao es.length cap, .nilIface]) ∧ w.heap.size ≤ n0 ∧ Below w.heap.size w w' ∧ Sys B (fun x => F x ∨ (n0 ≤ x ∧ x < w'.heap.size)) w' d M p 0 150 L ∧ n0 ≤ w5.heap.size ∧ OutE w5 w' (.slice ao es.length cap) es.length es) := by
  have h2 := (diskF_len h).1
  have hbl := blocksF B F w d M h
  have ho := open_any B F 0 150 w d M h (by omega) (by omega) (by omega) hT
  rw [← hL] at ho
  obtain ⟨nb, hnb⟩ : ∃ nb, nb = M.now.length := ⟨_, rfl⟩
  obtain ⟨n, hn⟩ : ∃ n, n = es.length := ⟨_, rfl⟩
  obtain ⟨m, hmn⟩ : ∃ m, m = n + 1 := ⟨_, rfl⟩
  have hlr : L.recs.length = m := by rw [hrec, hmn, hn]; simp
  rw [← hnb] at hbl h1 h2
  rw [← hn] at hm ⊢
  have HD := Lib.hid h
  have HN := Lib.hid hn
  have HRC := Lib.hid hrec
  have HES := Lib.hid hes
  have HLR := Lib.hid hlr
  have HMN := Lib.hid hmn
  have hm1 : 1 ≤ m := by omega
  have hm2 : m ≤ 5001 := by omega
  have HEACH : Hid (∀ b ∈ L.recs, 1 ≤ b.length ∧ b.length ≤ 200) := by
    show ∀ b ∈ L.recs, _
    rw [hrec]
    intro b hb
    rcases List.mem_cons.1 hb with rfl | hb
    · exact ⟨by show 1 ≤ 10; omega, by show 10 ≤ 200; omega⟩
    · obtain ⟨x, hx, rfl⟩ := List.mem_map.1 hb
      exact ⟨entry_len x, (hes x hx).2⟩
  clear h hT hL hrec hes hnb hn hlr hmn
  go_enter Try.func61, Try.ntmps61
  go_wp2_with fail
  refine hbl.mono ?_
  rintro e w1 ⟨rfl, rfl⟩
  clear hbl
  go_wp2_with fail
  refine ho.mono ?_
  rintro e w2 ⟨rfl, hop⟩
  obtain ⟨p, hp⟩ : ∃ p, p = w.heap.size := ⟨_, rfl⟩
  rw [← hp] at hop ⊢
  obtain ⟨hs2, hy2⟩ := Sys.of_disk HD.out hop
  have HB2 := Lib.hid hop.below
  have HY2 := Lib.hid hy2
  have HP := Lib.hid hp
  have hall : Hid (Calls Try.prog 24 #[.pointer (some ⟨p, 0, none⟩)] w2 fun e w' => ∃ v rs, e = .returned v ∧ RecRows w2 w' v L.recs.length rs L.recs) := by
    obtain ⟨S, T, hs⟩ := hy2
    exact all_any w2 T p d 0 150 L hs.log (by rw [HLR.out]; omega) HEACH.out
  rw [HLR.out] at hall
  clear ho hop hs2 hy2 hp HD
  go_wp2_with fail
  refine hall.out.mono ?_
  rintro e w3 ⟨v, rsv, rfl, hrr⟩
  obtain ⟨g, gc, hv, hg0, hglt, hgc⟩ := ownsRow_some hrr.row (by omega)
  subst hv
  have HB3 := Lib.hid (HB2.out.trans (hrr.below.mono HB2.out.size))
  have HY3 : Hid (Sys B F w3 d M p 0 150 L) := HY2.out.later hrr.below
  have HB23 := Lib.hid hrr.below
  have HRS : Hid (∀ W', Below w3.heap.size w3 W' → RecsAt W' g (headB :: es.map EntryM.bytes)) := by
    show ∀ W', _
    rw [← HRC.out]
    exact hrr.recs HLR.out.symm
  have hlen0 : ((m : Int) == 0) = false := by simp; omega
  have hlen1 : ¬ (m = 0) := by omega
  have hm0 : 0 < m := hm1
  have hw3d : Below w3.heap.size w3 w3.drew := (Below.refl _ _).drew
  obtain ⟨xo, xc, cx, bx, _⟩ := HRS.out _ hw3d 0 headB rfl
  have hcx := conv_at bx
  have HX : Hid (∀ W', Below w3.drew.heap.size w3.drew W' → W'.cell? ⟨g, 0, none⟩ = some (.slice xo 10 xc) ∧ (convert 23 9 (.slice xo 10 xc)).run Try.prog W' = .ok (.string ⟨headB.toArray⟩) W') := fun W' hb => by
    have hbx : BytesW W' (.slice xo 10 xc) headB := BytesW.keep' bx (fun g' _ hg' => hb.block g' hg') hb.size
    exact ⟨(hb.cell (p := ⟨g, 0, none⟩) (by show g < w3.heap.size; exact hglt)).trans cx, conv_at hbx⟩
  have hhd := head_any w3.drew
  have hb10 : headB.length = 10 := rfl
  rw [hb10] at cx hcx
  clear bx hb10 hall hrr HB2 HY2
  go_upto_region 7 with (fail)
  go_cut [39] (fun v wx => v = .bool false ∧ Hid (Below w3.heap.size w3 wx))
  case first =>
    go_region_law
      (first
        | (go_simp; go_at_call 60; refine hhd.mono ?_; rintro e w5 ⟨gh, rfl, hb5, hg1, hg2, hby⟩; obtain ⟨cx5, hcx5⟩ := HX.out _ hb5; have hcy5 := conv_at hby))
    all_goals
      have HB5 := Lib.hid (hw3d.trans hb5)
      clear cx5 hcx5 hcy5 hb5 hby cx hcx HX hhd
      go_wp2_with fail
      go_meet
      first
        | exact ⟨rfl, HB5⟩
        | exact ⟨by simp, HB5⟩
  case rest =>
    obtain ⟨rfl, HB5⟩ := hcut
    obtain ⟨w5, hw5⟩ : ∃ w5 : World, w5 = wc := ⟨_, rfl⟩
    subst hw5
    clear cx hcx HX hhd hw3d
    go_upto_region 10 with (fail)
    go_cut [42, 43, 44] (fun a l z wx => wx = w5 ∧ z = .int .i64 0 ∧ l = .int .i64 (n : Int) ∧ ∃ A cp, a = .slice A n cp ∧ (0 < n → A = some ⟨g, 1, none⟩))
    case first =>
      have hmi : (m : Int) = (n : Int) + 1 := by have := HMN.out; omega
      have hmn' : m - 1 = n := by have := HMN.out; omega
      by_cases hgc1 : gc = 1
      · go_wp2_with fail
        go_meet
        exact ⟨rfl, rfl, rfl, some ⟨g, 0, none⟩, 0, rfl, fun h => by omega⟩
      · go_wp2_with fail
        go_meet
        exact ⟨rfl, rfl, rfl, some ⟨g, 1, none⟩, gc - 1, rfl, fun h => rfl⟩
    case rest =>
      obtain ⟨hwc, rfl, rfl, A, cp, rfl, hA⟩ := hcut
      rw [hwc]
      clear hwc
      have HA := Lib.hid hA
      have HO0 := Lib.hid (OutE.start w5 es)
      clear hA
      go_wp2_with fail
      go_loopw [8, 44] (fun v z wr => ∃ k : Nat, k ≤ n ∧ z = .int .i64 (k : Int) ∧ Hid (OutE w5 wr v k es)) (fun _ z _ => n - (intOf z).toNat)
      case atStart => exact ⟨0, Nat.zero_le _, rfl, HO0.out⟩
      case round =>
        clear HO0
        obtain ⟨k, hk, rfl, HO⟩ := hrel
        by_cases hkn : k < n
        · have hAe := HA.out (by omega)
          subst hAe
          obtain ⟨x, hx⟩ : ∃ x, es[k]? = some x := ⟨es[k]'(by rw [← HN.out]; exact hkn), List.getElem?_eq_getElem _⟩
          have hxm := HES.out x (List.mem_of_getElem? hx)
          have hbr : Below w3.heap.size w3 wr := HB5.out.trans (HO.out.below.mono HB5.out.size)
          obtain ⟨yo, yc, cy, by_, hyc⟩ := HRS.out wr hbr (k + 1) x.bytes (by rw [List.getElem?_cons_succ, List.getElem?_map, hx]; rfl)
          have hre := readEntry_any wr yo yc x.bytes (src_of_bytes by_) hyc (by omega)
          have hrd : rdEntry x.bytes = some (x, []) := by have := entry_fwd x [] hxm.1; rwa [List.append_nil] at this
          obtain ⟨lb, hlb⟩ : ∃ lb, lb = x.bytes.length := ⟨_, rfl⟩
          rw [← hlb] at cy hre hyc
          rw [Nat.add_comm k 1] at cy
          have HX := Lib.hid hx
          have HRD := Lib.hid hrd
          have HLB := Lib.hid hlb
          clear hx hxm hbr by_ hrd hlb
          go_wp2_with fail
          refine hre.mono ?_
          rintro e w6 ⟨hb6, hq⟩
          rw [HRD.out] at hq
          obtain ⟨lao, lc, rfl, hl6, hlo⟩ := hq
          rw [show x.bytes.length - ([] : List UInt8).length = lb from HLB.out.symm]
          obtain ⟨W7, hW7⟩ : ∃ W7, W7 = w6.alloc (.cells #[.string x.ref, .int .i64 x.ent, .int .i64 x.per, .slice lao x.lines.length lc] 30) := ⟨_, rfl⟩
          have hb67 : Below w6.heap.size w6 W7 := by rw [hW7]; exact (Below.refl _ _).alloc (Nat.le_refl _) _
          have hbox : W7.heap[w6.heap.size]? = some (.cells #[.string x.ref, .int .i64 x.ent, .int .i64 x.per, .slice lao x.lines.length lc] 30 (0, 0)) := by rw [hW7]; exact heap_new_at rfl _
          have x0 : W7.cell? ⟨w6.heap.size, 0, none⟩ = some (.string x.ref) := cell_of_heap hbox 0
          have x1 : W7.cell? ⟨w6.heap.size, 1, none⟩ = some (.int .i64 x.ent) := cell_of_heap hbox 1
          have x2 : W7.cell? ⟨w6.heap.size, 2, none⟩ = some (.int .i64 x.per) := cell_of_heap hbox 2
          have x3 : W7.cell? ⟨w6.heap.size, 3, none⟩ = some (.slice lao x.lines.length lc) := cell_of_heap hbox 3
          have HAPP : Hid (∃ ao cap w8, (Builtin.append_ #[22, 22] 22 #[u8, .slice (some ⟨W7.heap.size, 0, none⟩) 1 1]).run Try.prog (W7.alloc (.cells #[.string x.ref, .int .i64 x.ent, .int .i64 x.per, .slice lao x.lines.length lc] 30)) = .ok (.slice ao (k + 1) cap) w8 ∧ Hid (OutE w5 w8 (.slice ao (k + 1) cap) (k + 1) es)) := HO.out.more HX.out (hb6.trans (hb67.mono hb6.size)) (hl6.below hb67 (Nat.le_refl _)) hlo (by omega)
          have hent : entryV x lao lc = .agg #[.string x.ref, .int .i64 x.ent, .int .i64 x.per, .slice lao x.lines.length lc] := rfl
          rw [hent]
          clear hent hre hb67 hb6 hl6 hlo hbox cy HO
          obtain ⟨ao8, cap8, w8, hr, HO8⟩ := HAPP.out
          have HW7 := Lib.hid hW7
          clear HAPP hW7
          go_upto_region 14 with (fail)
          rw [← HW7.out]
          go_wp2_with (at_builtin; refine Lib.wpList_append_run _ rfl _ _ _ _ rfl _ _ rfl rfl _ _ hr ?_)
          clear hr x0 x1 x2 x3
          go_wp2_with fail
          go_roundw
          case rel => exact ⟨k + 1, by omega, by go_num, HO8⟩
          case measure => simp [intOf]; omega
        · obtain rfl : k = n := by omega
          have HFIN : Hid (∃ ao cap, u8 = .slice ao k cap ∧ Below w.heap.size w wr ∧ Sys B (fun x => F x ∨ (w3.heap.size ≤ x ∧ x < wr.heap.size)) wr d M p 0 150 L ∧ w3.heap.size ≤ w5.heap.size ∧ OutE w5 wr (.slice ao k cap) k es) := by
            have hO := HO.out
            have hb5 := HB5.out
            have hb3r : Below w3.heap.size w3 wr := hb5.trans (hO.below.mono hb5.size)
            obtain ⟨xs, hr, _⟩ := hO.ex
            obtain ⟨ao, cap, hv, _⟩ := row_slice' hr
            subst hv
            refine ⟨ao, cap, rfl, HB3.out.trans (hb3r.mono HB3.out.size), HY3.out.more hb3r _ (fun x hx => hx), hb5.size, hO⟩
          obtain ⟨ao, cap, hv, hf1, hf2, hf3⟩ := HFIN.out
          subst hv
          have HR : Hid (w.heap.size ≤ w3.heap.size ∧ Below w.heap.size w wr ∧ Sys B (fun x => F x ∨ (w3.heap.size ≤ x ∧ x < wr.heap.size)) wr d M p 0 150 L ∧ w3.heap.size ≤ w5.heap.size ∧ OutE w5 wr (.slice ao k cap) k es) := ⟨HB3.out.size, hf1, hf2, hf3⟩
          clear HFIN hf1 hf2 hf3 HO
          go_wp2_with fail
          exact bodyPost_ret (v := .tuple #[.pointer (some ⟨p, 0, none⟩), .slice ao k cap, .nilIface]) (by simp [results, Try.results61, go_sem]) rfl ⟨p, ao, cap, w3.heap.size, w5, rfl, HR.out⟩
theorem kopen_any (B : Nat) (F : Nat → Prop) (w : World) (d : Nat) (M : DiskM) (es : List EntryM) (L : LogS) (h : DiskF B F w d M) (h1 : 150 ≤ M.now.length) (hT : ∀ i c, i < 2 → blkOf M.now 0 150 i = some c → c.used < 60) (hL : L = openS (blkOf M.now 0 150) 150) (hrec : L.recs = headB :: es.map EntryM.bytes) (hes : ∀ x ∈ es, x.ok ∧ x.bytes.length ≤ 200) (hm : es.length ≤ 5000) :
    Calls Try.prog 61 #[.pointer (some ⟨d, 0, none⟩)] w (fun e w' => ∃ p ao cap n0, e = .returned (.tuple #[.pointer (some ⟨p, 0, none⟩), .slice ao es.length cap, .nilIface]) ∧ w.heap.size ≤ n0 ∧ Below w.heap.size w w' ∧ Sys B (fun x => F x ∨ (n0 ≤ x ∧ x < w'.heap.size)) w' d M p 0 150 L ∧ EntsQ w' (fun x => n0 ≤ x ∧ x < w'.heap.size) ao es) := by
  refine (kopen_row B F w d M es L h h1 hT hL hrec hes hm).mono ?_
  rintro e w' ⟨p, ao, cap, n0, w5, h1, h2, h3, h4, h5, h6⟩
  exact ⟨p, ao, cap, n0, h1, h2, h3, h4, (OutE.ents h6).later (fun _ _ => rfl) (Nat.le_refl _) (fun x hx => ⟨Nat.le_trans h5 hx.1, hx.2⟩)⟩
end Go.Proofs.Ytldpflijgbcbhaa.lg

/- keep, in plain terms: what Save does, on a disk that doesn't stop. -/
namespace Go.Proofs.Ytldpflijgbcbhaa.lg
open Go.RowKit

/-- what is wrong with an entry -/
def chkE (x : EntryM) : Int := if x.code = 0 then (if 200 < x.bytes.length then 4 else 0) else x.code
def saveL : List EntryM → List EntryM → Int
  | _, [] => 0
  | [], x :: l => if chkE x = 0 then saveL [] l else chkE x
  | o :: old, x :: l => if chkE x = 0 then (if o.bytes = x.bytes then saveL old l else 5) else chkE x
def need (t : List EntryM) : Nat := (t.map fun x => x.bytes.length + 2).sum
def saveC (old l : List EntryM) (room : Nat) : Int := if l.length < old.length then 5 else if saveL old l = 0 then (if room < need (l.drop old.length) then 4 else 0) else saveL old l
theorem chkE_zero {x : EntryM} : chkE x = 0 ↔ x.ok ∧ x.bytes.length ≤ 200 := by
  unfold chkE
  rw [← entry_code x]
  split
  · split <;> simp_all <;> omega
  · simp_all
theorem drop_cons {α : Type} {l : List α} {i : Nat} {x : α} (h : l[i]? = some x) : l.drop i = x :: l.drop (i + 1) := by
  obtain ⟨hi, he⟩ := List.getElem?_eq_some_iff.1 h
  rw [List.drop_eq_getElem_cons hi, he]
theorem saveL_old {old l : List EntryM} {i : Nat} {x o : EntryM} (hx : l[i]? = some x) (ho : old[i]? = some o) : saveL (old.drop i) (l.drop i) = if chkE x = 0 then (if o.bytes = x.bytes then saveL (old.drop (i + 1)) (l.drop (i + 1)) else 5) else chkE x := by
  rw [drop_cons hx, drop_cons ho]; rfl
theorem saveL_new {old l : List EntryM} {i : Nat} {x : EntryM} (hx : l[i]? = some x) (ho : old.length ≤ i) : saveL (old.drop i) (l.drop i) = if chkE x = 0 then saveL (old.drop (i + 1)) (l.drop (i + 1)) else chkE x := by
  rw [drop_cons hx, List.drop_eq_nil_of_le ho, List.drop_eq_nil_of_le (show old.length ≤ i + 1 by omega)]; rfl
theorem saveL_end {old l : List EntryM} {i : Nat} (h : l.length ≤ i) : saveL (old.drop i) (l.drop i) = 0 := by
  rw [List.drop_eq_nil_of_le h]; cases old.drop i <;> rfl
theorem saveL_zero : ∀ {old l : List EntryM}, saveL old l = 0 → (∀ x ∈ l, x.ok ∧ x.bytes.length ≤ 200) ∧ (old.length ≤ l.length → l.map EntryM.bytes = old.map EntryM.bytes ++ (l.drop old.length).map EntryM.bytes)
  | old, [], _ => by
      refine ⟨fun x hx => (by cases hx), fun h => ?_⟩
      have : old = [] := List.length_eq_zero_iff.1 (Nat.le_zero.1 h)
      subst this; rfl
  | [], x :: l, h => by
      have h' : (if chkE x = 0 then saveL [] l else chkE x) = 0 := h
      split at h'
      · rename_i hc
        have ih := saveL_zero h'
        exact ⟨fun y hy => (by rcases List.mem_cons.1 hy with rfl | hy; exact chkE_zero.1 hc; exact ih.1 y hy), fun _ => rfl⟩
      · contradiction
  | o :: old, x :: l, h => by
      have h' : (if chkE x = 0 then (if o.bytes = x.bytes then saveL old l else 5) else chkE x) = 0 := h
      split at h'
      · rename_i hc
        split at h'
        · rename_i hb
          have ih := saveL_zero h'
          refine ⟨fun y hy => (by rcases List.mem_cons.1 hy with rfl | hy; exact chkE_zero.1 hc; exact ih.1 y hy), fun hl => ?_⟩
          have := ih.2 (by simpa using hl)
          simp only [List.map_cons, List.length_cons, List.drop_succ_cons, List.cons_append]
          rw [this, hb]
        · contradiction
      · contradiction
theorem need_snoc (t : List EntryM) (x : EntryM) : need (t ++ [x]) = need t + (x.bytes.length + 2) := by simp [need]
theorem need_le {t : List EntryM} (h : ∀ x ∈ t, x.bytes.length ≤ 200) : need t ≤ 202 * t.length := by
  induction t with
  | nil => simp [need]
  | cons y t ih =>
    have := ih (fun x hx => h x (by simp [hx]))
    have := h y (by simp)
    simp only [need, List.map_cons, List.sum_cons, List.length_cons] at *
    omega
/-- entries behind the first m, up to the i-th -/
def midE (l : List EntryM) (m i : Nat) : List EntryM := (l.take i).drop m
theorem midE_le {l : List EntryM} {m i : Nat} (h : i ≤ m) : midE l m i = [] := List.drop_eq_nil_of_le (by rw [List.length_take]; omega)
theorem midE_succ {l : List EntryM} {m i : Nat} {x : EntryM} (h : l[i]? = some x) (hm : m ≤ i) : midE l m (i + 1) = midE l m i ++ [x] := by
  obtain ⟨hi, he⟩ := List.getElem?_eq_some_iff.1 h
  unfold midE
  rw [List.take_succ_eq_append_getElem hi, he, List.drop_append_of_le_length (by rw [List.length_take]; omega)]
theorem midE_all {l : List EntryM} {m i : Nat} (h : l.length ≤ i) : midE l m i = l.drop m := by unfold midE; rw [List.take_of_length_le h]
theorem midE_len {l : List EntryM} {m i : Nat} (h : i ≤ l.length) : (midE l m i).length = i - m := by unfold midE; simp; omega
theorem midE_mem {l : List EntryM} {m i : Nat} {x : EntryM} (h : x ∈ midE l m i) : x ∈ l := List.mem_of_mem_take (List.mem_of_mem_drop h)

/-- a log that is written, and its disk -/
structure KRun (M : DiskM) (L : LogS) (ep s : Nat) : Prop where
  free : Free M
  len : 150 ≤ M.now.length ∧ M.now.length ≤ 200
  ok : LogOk M.now 0 150 L
  ep : L.epoch ≤ ep
  steps : M.steps ≤ s
  since : M.since.length ≤ s
theorem chunks_le5 {s x : List UInt8} (h : x.length ≤ 202) : chunks s x ≤ 5 := by unfold chunks; rw [List.length_append]; omega
theorem KRun.add {M : DiskM} {L : LogS} {ep s : Nat} (h : KRun M L ep s) (hep : ep ≤ 65000) {b : List UInt8} (h1 : 1 ≤ b.length) (h2 : b.length ≤ 200) (hr : L.stream.length + b.length + 2 ≤ 60 * (150 - 2)) :
    putsR M 0 (L.add b) (L.stream.length / 60) (chunks L.stream (enc1 b)) = (putsAdd M 0 L b, 0) ∧ KRun (putsAdd M 0 L b) (L.add b) ep (s + 5) := by
  have hl := h.len
  refine ⟨putsR_ok h.free h.ok (by omega) hr, ?_⟩
  have hch : chunks L.stream (enc1 b) ≤ 5 := chunks_le5 (by rw [enc1_len]; omega)
  have hp := puts_len M 0 (L.stream ++ enc1 b) L.epoch (1 - L.safe) (L.stream.length / 60) (chunks L.stream (enc1 b))
  have e : puts M 0 (L.stream ++ enc1 b) L.epoch (1 - L.safe) (L.stream.length / 60) (chunks L.stream (enc1 b)) = putsAdd M 0 L b := rfl
  rw [e] at hp
  have hok := ok_append h.ok (by have := h.ep; omega) (by omega) h1 h2 hr
  generalize putsAdd M 0 L b = M2 at *
  obtain ⟨q1, q2, q3, q4⟩ := hp
  have := h.steps
  have := h.since
  exact ⟨q4.trans h.free, by omega, hok, h.ep, by omega, by omega⟩
theorem KRun.sync {M : DiskM} {L : LogS} {ep s : Nat} (h : KRun M L ep s) : KRun M.flush L.sync ep (s + 1) :=
  ⟨h.free, h.len, ok_sync h.ok, h.ep, by have := h.steps; show M.steps + 1 ≤ _; omega, Nat.zero_le _⟩
/-- what is kept: the head, and records behind it -/
def Kept (M : DiskM) (rs : List (List UInt8)) (ep s : Nat) : Prop := ∃ L, KRun M L ep s ∧ L.dirty = false ∧ L.recs = headB :: rs
theorem Kept.opened {M : DiskM} {rs : List (List UInt8)} {ep s : Nat} (h : Kept M rs ep s) : KRun M (openS (blkOf M.now 0 150) 150) (ep + 1) s ∧ (openS (blkOf M.now 0 150) 150).recs = headB :: rs ∧ (openS (blkOf M.now 0 150) 150).stream = enc (headB :: rs) ∧ (∀ i c, i < 2 → blkOf M.now 0 150 i = some c → c.used < 60) := by
  obtain ⟨L, hk, hd, hr⟩ := h
  obtain ⟨h1, h2, h3, h4⟩ := ok_open hk.ok hd
  have := hk.ep
  exact ⟨⟨hk.free, hk.len, h4, by omega, hk.steps, hk.since⟩, h1.trans hr, by rw [h2, hk.ok.recs, hr], fun i c hi hc => hk.ok.cons.turn i c hi hc⟩
theorem Kept.mono {M : DiskM} {rs : List (List UInt8)} {ep s ep' s' : Nat} (h : Kept M rs ep s) (he : ep ≤ ep') (hs : s ≤ s') : Kept M rs ep' s' := by
  obtain ⟨L, hk, hd, hr⟩ := h
  have h1 := hk.ep; have h2 := hk.steps; have h3 := hk.since
  exact ⟨L, ⟨hk.free, hk.len, hk.ok, by omega, by omega, by omega⟩, hd, hr⟩
theorem kept_format {M : DiskM} (h : Free M) (h1 : 150 ≤ M.now.length) (h2 : M.now.length ≤ 200) {s : Nat} (hs : M.steps + 200 ≤ s) : Kept (kfmt M) [] 1 s := by
  obtain ⟨_, hK, hst, hsi, hl⟩ := kfmt_is h h1 h2
  exact ⟨_, ⟨hK.free, by omega, hK.ok, hK.ep, by omega, by rw [hsi]; exact Nat.zero_le _⟩, hK.clean, hK.recs⟩
theorem enc_need (t : List EntryM) : (enc (t.map EntryM.bytes)).length = need t := by
  induction t with
  | nil => rfl
  | cons x t ih => rw [List.map_cons, enc_cons, List.length_append, enc1_len, ih]; simp [need]
/-- records gathered in a row, in blocks made since w4 -/
structure MoreI (w4 wr : World) (v : Value) (rs : List Value) (ms : List (List UInt8)) : Prop where
  below : Below w4.heap.size w4 wr
  all : AllIs (fun x => w4.heap.size ≤ x ∧ x < wr.heap.size) wr v rs ms
theorem MoreI.start (w : World) : MoreI w w (.slice none 0 0) [] [] := ⟨Below.refl _ _, AllIs.start _ _⟩
theorem MoreI.later {w4 wr wr' : World} {v : Value} {rs : List Value} {ms : List (List UInt8)} (h : MoreI w4 wr v rs ms) (hb : Below wr.heap.size wr wr') : MoreI w4 wr' v rs ms :=
  ⟨h.below.trans (hb.mono h.below.size), h.all.later (fun g hg => hb.block g hg.2) (fun g hg => ⟨hg.1, Nat.lt_of_lt_of_le hg.2 hb.size⟩)⟩
theorem MoreI.more {w4 wr : World} {v x : Value} {rs : List Value} {ms : List (List UInt8)} {b : List UInt8} (h : MoreI w4 wr v rs ms) (hx : RecAt wr (fun g => w4.heap.size ≤ g ∧ g < wr.heap.size) x b) (hk : ms.length ≤ 100000) :
    ∃ ao cap w6, (Builtin.append_ #[56, 56] 56 #[v, .slice (some ⟨wr.heap.size, 0, none⟩) 1 1]).run Try.prog (wr.alloc (.cells #[x] 23)) = .ok (.slice ao (ms.length + 1) cap) w6 ∧ MoreI w4 w6 (.slice ao (ms.length + 1) cap) (rs ++ [x]) (ms ++ [b]) := by
  obtain ⟨ao, cap, w6, hr, ho, ha⟩ := h.all.more hx hk (fun g hg => hg.2)
  have hs := ho.size
  exact ⟨ao, cap, w6, hr, h.below.trans (ho.below h.below.size (fun x hx => hx.1)), ha.later (fun _ _ => rfl) (fun g hg => by rcases hg with hg | hg <;> have := h.below.size <;> exact ⟨by omega, by omega⟩)⟩
end Go.Proofs.Ytldpflijgbcbhaa.lg
