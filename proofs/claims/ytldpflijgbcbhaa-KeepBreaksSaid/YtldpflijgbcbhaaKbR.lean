/- The entries that KeepBreaks saves: what they are, and how they lie in memory beside the disk. -/
import Derived.Test.YtldpflijgbcbhaaKbS
import Derived.Test.YtldpflijgbcbhaaKbE
import Derived.Test.YtldpflijgbcbhaaKbP
namespace Go.Proofs.Ytldpflijgbcbhaa.lg
open Go.RowKit

theorem numB_short {n : Int} (h1 : -8000 ≤ n) (h2 : n ≤ 8000) : (numB n).length ≤ 2 := by
  have hz : zig n < 16384 := by unfold zig; split <;> omega
  unfold numB
  by_cases h : zig n < 128
  · rw [varint_small h]; simp
  · rw [varint_big (by omega), varint_small (by omega)]; simp
theorem text_short {s : ByteArray} {k : Nat} (h : s.size ≤ k) (hk : k ≤ 8000) : (Go.Proofs.Ytldpflijgbcbhaa.textB s).length ≤ k + 2 := by
  unfold Go.Proofs.Ytldpflijgbcbhaa.textB
  have := numB_short (n := (s.size : Int)) (by omega) (by omega)
  rw [List.length_append, size_list]; omega
theorem ref_size {n : Nat} (h : n ≤ 900) : (refT n).size ≤ 4 := by
  show (101 :: qb.textB (n : Int)).toArray.size ≤ 4
  rw [List.size_toArray, List.length_cons]
  have hd := qb.digR_len 3 n n (by omega)
  have : (qb.textB (n : Int)).length ≤ 3 := by
    unfold qb.textB
    split
    · simp
    · rw [List.length_reverse, List.length_append, if_neg (by omega)]
      simpa using hd
  omega
theorem entM_ok {n : Nat} (h : n ≤ 900) : (entM n).ok ∧ (entM n).bytes.length ≤ 34 := by
  have hr := ref_size h
  have b1 : (⟨#[49, 48]⟩ : ByteArray).size = 2 := rfl
  have b2 : (⟨#[50, 48]⟩ : ByteArray).size = 2 := rfl
  have b3 : (⟨#[69, 85, 82]⟩ : ByteArray).size = 3 := rfl
  refine ⟨⟨by show (refT n).size ≤ 24; omega, ⟨by show (0 : Int) ≤ 1 + ((n % 12 : Nat) : Int); omega, by show 1 + ((n % 12 : Nat) : Int) ≤ 200; omega⟩, ⟨by show (0 : Int) ≤ 1 + ((n % 120 : Nat) : Int); omega, by show 1 + ((n % 120 : Nat) : Int) ≤ 200; omega⟩, by show 2 ≤ 20; omega, fun x hx => ?_⟩, ?_⟩
  · simp only [entM, List.mem_cons, List.not_mem_nil, or_false] at hx
    rcases hx with rfl | rfl
    · exact ⟨by rw [b1]; omega, by rw [b3]; omega, by unfold bigA; simp only; omega, by unfold bigA; simp only; omega⟩
    · exact ⟨by rw [b2]; omega, by rw [b3]; omega, by unfold bigA; simp only; omega, by unfold bigA; simp only; omega⟩
  · have t1 := text_short hr (by omega)
    have t2 := text_short (s := ⟨#[49, 48]⟩) (k := 2) (by rw [b1]; omega) (by omega)
    have t3 := text_short (s := ⟨#[50, 48]⟩) (k := 2) (by rw [b2]; omega) (by omega)
    have t4 := text_short (s := ⟨#[69, 85, 82]⟩) (k := 3) (by rw [b3]; omega) (by omega)
    have n1 := numB_short (n := 1 + ((n % 12 : Nat) : Int)) (by omega) (by omega)
    have n2 := numB_short (n := 1 + ((n % 120 : Nat) : Int)) (by omega) (by omega)
    have n3 := numB_short (n := ((2 : Nat) : Int)) (by omega) (by omega)
    have n4 := numB_short (n := (n : Int) + 1) (by omega) (by omega)
    have n5 := numB_short (n := -(n : Int) - 1) (by omega) (by omega)
    show (Go.Proofs.Ytldpflijgbcbhaa.textB (refT n) ++ (numB (1 + ((n % 12 : Nat) : Int)) ++ (numB (1 + ((n % 120 : Nat) : Int)) ++ (numB ((2 : Nat) : Int) ++ ((Go.Proofs.Ytldpflijgbcbhaa.textB ⟨#[49, 48]⟩ ++ (Go.Proofs.Ytldpflijgbcbhaa.textB ⟨#[69, 85, 82]⟩ ++ numB ((n : Int) + 1))) ++ ((Go.Proofs.Ytldpflijgbcbhaa.textB ⟨#[50, 48]⟩ ++ (Go.Proofs.Ytldpflijgbcbhaa.textB ⟨#[69, 85, 82]⟩ ++ numB (-(n : Int) - 1))) ++ [])))))).length ≤ 34
    simp only [List.length_append, List.length_nil]
    omega
def entL (k : Nat) : List EntryM := (List.range k).map entM
theorem entL_len (k : Nat) : (entL k).length = k := by simp [entL]
theorem entL_get {k i : Nat} (h : i < k) : (entL k)[i]? = some (entM i) := by
  unfold entL
  rw [List.getElem?_map, List.getElem?_range h]; rfl
theorem entL_some {k i : Nat} {x : EntryM} (h : (entL k)[i]? = some x) : i < k ∧ x = entM i := by
  have hk : i < k := by have := (List.getElem?_eq_some_iff.1 h).1; rwa [entL_len] at this
  rw [entL_get hk] at h
  exact ⟨hk, (Option.some.inj h).symm⟩
theorem entL_mem {k : Nat} {x : EntryM} (h : x ∈ entL k) : ∃ i, i < k ∧ x = entM i := by
  obtain ⟨i, hi⟩ := List.getElem?_of_mem h
  obtain ⟨h1, h2⟩ := entL_some hi
  exact ⟨i, h1, h2⟩
/-- all that may ever be saved -/
def recs0 : List (List UInt8) := headB :: (entL 110).map EntryM.bytes
theorem recs0_len : recs0.length = 111 := by simp [recs0, entL_len]
theorem recs0_each : ∀ b ∈ recs0, 1 ≤ b.length ∧ b.length ≤ 200 := by
  intro b hb
  rcases List.mem_cons.1 hb with rfl | hb
  · exact ⟨by show 1 ≤ 10; omega, by show 10 ≤ 200; omega⟩
  · obtain ⟨x, hx, rfl⟩ := List.mem_map.1 hb
    obtain ⟨i, hi, rfl⟩ := entL_mem hx
    have := (entM_ok (n := i) (by omega)).2
    exact ⟨entry_len _, by omega⟩
theorem recs0_enc : (enc recs0).length ≤ 8880 := by
  have h : ∀ (l : List (List UInt8)), (∀ b ∈ l, b.length ≤ 34) → (enc l).length ≤ 36 * l.length := by
    intro l
    induction l with
    | nil => intro _; simp [enc]
    | cons b l ih =>
      intro hb
      have h1 := ih (fun c hc => hb c (by simp [hc]))
      have h2 := hb b (by simp)
      rw [enc_cons, List.length_append, enc1_len, List.length_cons]; omega
  unfold recs0
  have h1 := h ((entL 110).map EntryM.bytes) (fun b hb => by
    obtain ⟨x, hx, rfl⟩ := List.mem_map.1 hb
    obtain ⟨i, hi, rfl⟩ := entL_mem hx
    exact (entM_ok (n := i) (by omega)).2)
  rw [List.length_map, entL_len] at h1
  rw [enc_cons, List.length_append, enc1_len]
  show 10 + 2 + _ ≤ 8880
  omega
theorem recs0_take {k : Nat} (h : k ≤ 110) : recs0.take (k + 1) = headB :: (entL k).map EntryM.bytes := by
  unfold recs0
  rw [List.take_succ_cons, ← List.map_take]
  congr 2
  unfold entL
  rw [← List.map_take, List.take_range, Nat.min_eq_left h]
theorem recs0_drop {k q : Nat} (h : k + q ≤ 110) : (recs0.drop (k + 1)).take q = ((entL (k + q)).drop k).map EntryM.bytes := by
  have h1 := recs0_take h
  have e : (recs0.drop (k + 1)).take q = (recs0.take (k + q + 1)).drop (k + 1) := by
    rw [List.drop_take]
    congr 1; omega
  rw [e, h1, List.drop_succ_cons, List.map_drop]

theorem one4 (a : ByteArray) (b c : Int) (g : Option Addr) : ∀ u ∈ [Value.string a, .int .i64 b, .int .i64 c, .slice g 2 2], u.oneCell' = true := by
  intro u hu
  simp at hu
  rcases hu with rfl | rfl | rfl | rfl <;> rfl
/-- the entries up to k lie in a row, beside the disk -/
structure LawE (B : Nat) (F : Nat → Prop) (w : World) (M : DiskM) (v : Value) (k : Nat) (xs : List Value) : Prop where
  disk : DiskF B F w B M
  row : w.ownsRow B 30 4 v k xs
  rowF : ∀ g, v.ownBlock = some g → F g
  each : ∀ i, i < k → ∃ lao lc, xs[i * 4]? = some (.string (entM i).ref) ∧ xs[i * 4 + 1]? = some (.int .i64 (entM i).ent) ∧ xs[i * 4 + 2]? = some (.int .i64 (entM i).per) ∧ xs[i * 4 + 3]? = some (.slice lao (entM i).lines.length lc) ∧ LinesAt w lao (entM i).lines ∧ (∀ b off, lao = some ⟨b, off, none⟩ → F b ∧ v.ownBlock ≠ some b)
section
variable {B : Nat} {F : Nat → Prop} {w w' : World} {M M' : DiskM} {v : Value} {k : Nat} {xs : List Value}
theorem LawE.later (h : LawE B F w M v k xs) (hb : Below w.heap.size w w') : LawE B F w' M v k xs := by
  refine ⟨h.disk.later hb, ownsRow_later h.row (fun g hg => by obtain ⟨c, hc⟩ := row_block h.row hg; exact hb.block g (lt_of_heap hc)), h.rowF, fun i hi => ?_⟩
  obtain ⟨lao, lc, h0, h1, h2, h3, h4, h5⟩ := h.each i hi
  exact ⟨lao, lc, h0, h1, h2, h3, h4.below hb (Nat.le_refl _), h5⟩
theorem LawE.step (h : LawE B F w M v k xs) (hs : Stays B F w w') (hd : DiskF B F w' B M') : LawE B F w' M' v k xs := by
  refine ⟨hd, ownsRow_later h.row (fun g hg => hs.blk g (h.rowF g hg)), h.rowF, fun i hi => ?_⟩
  obtain ⟨lao, lc, h0, h1, h2, h3, h4, h5⟩ := h.each i hi
  exact ⟨lao, lc, h0, h1, h2, h3, LinesAt.keep h4 (fun b off e _ => hs.blk b (h5 b off e).1) hs.below.size, h5⟩
theorem LawE.ents {ao : Option Addr} {cap : Nat} (h : LawE B F w M (.slice ao k cap) k xs) : EntsAt w ao (entL k) := by
  rcases Nat.eq_zero_or_pos k with h0 | h0
  · subst h0; exact Or.inl rfl
  · obtain ⟨g, cap', hv, hg, hlt, _⟩ := ownsRow_some h.row h0
    injection hv with e1 _ _
    subst e1
    refine Or.inr ⟨g, 0, rfl, hlt, fun i x hi => ?_⟩
    obtain ⟨hik, rfl⟩ := entL_some hi
    obtain ⟨lao, lc, q0, q1, q2, q3, q4, q5⟩ := h.each i hik
    rw [Nat.zero_add]
    exact ⟨lao, lc, (row_cells4 h.row (by omega)).trans q0, (row_cells4 h.row (by omega)).trans q1, (row_cells4 h.row (by omega)).trans q2, (row_cells4 h.row (by omega)).trans q3, q4⟩
theorem LawE.entsQ {ao : Option Addr} {cap : Nat} (h : LawE B F w M (.slice ao k cap) k xs) : ∀ w', Stays B F w w' → EntsAt w' ao (entL k) := by
  intro w' hs
  rcases Nat.eq_zero_or_pos k with h0 | h0
  · subst h0; exact Or.inl rfl
  · obtain ⟨g, cap', hv, hg, hlt, _⟩ := ownsRow_some h.row h0
    injection hv with e1 _ _
    subst e1
    have hb := hs.blk g (h.rowF g rfl)
    refine Or.inr ⟨g, 0, rfl, Nat.lt_of_lt_of_le hlt hs.below.size, fun i x hi => ?_⟩
    obtain ⟨hik, rfl⟩ := entL_some hi
    obtain ⟨lao, lc, q0, q1, q2, q3, q4, q5⟩ := h.each i hik
    rw [Nat.zero_add]
    exact ⟨lao, lc, (cell_congr hb).trans ((row_cells4 h.row (by omega)).trans q0), (cell_congr hb).trans ((row_cells4 h.row (by omega)).trans q1), (cell_congr hb).trans ((row_cells4 h.row (by omega)).trans q2), (cell_congr hb).trans ((row_cells4 h.row (by omega)).trans q3), LinesAt.keep q4 (fun b off e _ => hs.blk b (q5 b off e).1) hs.below.size⟩
/-- what was loaded -/
theorem LawE.of_out {n0 : Nat} {w5 : World} (hd : DiskF B (fun x => F x ∨ (n0 ≤ x ∧ x < w'.heap.size)) w' B M) (ho : OutE w5 w' v k (entL k)) (h5 : n0 ≤ w5.heap.size) (hB : B ≤ w5.heap.size) : ∃ xs, LawE B (fun x => n0 ≤ x ∧ x < w'.heap.size) w' M v k xs := by
  obtain ⟨xs, hr, hx⟩ := ho.ex
  obtain ⟨S, g1, g2, g3, g4⟩ := hd
  refine ⟨xs, ⟨S, g1, fun x hx => ⟨(g2 x hx).1, fun hf => (g2 x hx).2 (Or.inr hf)⟩, g3, fun x hx => hx.2⟩, ownsRow_base hr B, fun g hg => ?_, fun i hi => ?_⟩
  · obtain ⟨c, hc⟩ := row_block hr hg
    have hlt := lt_of_heap hc
    rcases hr.2 with ⟨hv, _⟩ | ⟨g', c', cur, hv, hb, _⟩
    · rw [hv] at hg; cases hg
    · rw [hv] at hg
      have : g' = g := Option.some.inj hg
      exact ⟨by omega, hlt⟩
  · obtain ⟨lao, lc, q0, q1, q2, q3, q4, q5⟩ := hx i (entM i) hi (entL_get hi)
    refine ⟨lao, lc, q0, q1, q2, q3, q4, fun b off e => ?_⟩
    have hne : (entM i).lines ≠ [] := by simp [entM]
    have h6 := q5 b off e hne
    exact ⟨⟨by omega, LinesAt.lt q4 e hne⟩, h6.2⟩
/-- one more -/
theorem LawE.more {w6 : World} {g : Nat} (h : LawE B F w M v k xs) (hb6 : Below w.heap.size w w6) (hl : LinesAt w6 (some ⟨g, 0, none⟩) (entM k).lines) (hg : w.heap.size ≤ g) (hk : k ≤ 100000) :
    ∃ ao cap w8 F' xs', (Builtin.append_ #[22, 22] 22 #[v, .slice (some ⟨w6.heap.size, 0, none⟩) 1 1]).run Try.prog (w6.alloc (.cells #[.string (entM k).ref, .int .i64 (entM k).ent, .int .i64 (entM k).per, .slice (some ⟨g, 0, none⟩) 2 2] 30)) = .ok (.slice ao (k + 1) cap) w8 ∧ LawE B F' w8 M (.slice ao (k + 1) cap) (k + 1) xs' ∧ Below B w w8 ∧ (∀ x, F x → F' x) ∧ (∀ x, x < w.heap.size → v.ownBlock ≠ some x → w8.heap[x]? = w.heap[x]? ∧ (Value.slice ao (k + 1) cap).ownBlock ≠ some x) := by
  obtain ⟨V, hV⟩ : ∃ V, V = w6.alloc (.cells #[.string (entM k).ref, .int .i64 (entM k).ent, .int .i64 (entM k).per, .slice (some ⟨g, 0, none⟩) 2 2] 30) := ⟨_, rfl⟩
  have hb7 : Below w6.heap.size w6 V := by rw [hV]; exact (Below.refl _ _).alloc (Nat.le_refl _) _
  have hbV : Below w.heap.size w V := hb6.trans (hb7.mono hb6.size)
  have hsV := hbV.size
  have hs6 := hb6.size
  have hs7 := hb7.size
  have hV5 := h.later hbV
  have hnew : V.heap[w6.heap.size]? = some (.cells #[.string (entM k).ref, .int .i64 (entM k).ent, .int .i64 (entM k).per, .slice (some ⟨g, 0, none⟩) 2 2] 30 (0, 0)) := by rw [hV]; exact heap_new_at rfl _
  have hlV : LinesAt V (some ⟨g, 0, none⟩) (entM k).lines := hl.below hb7 (Nat.le_refl _)
  have hgV : g < w6.heap.size := LinesAt.lt hl rfl (by simp [entM])
  have hBw : B ≤ w.heap.size := by obtain ⟨S, _, _, h3, _⟩ := h.disk; exact h3
  have hFw : ∀ x, F x → x < w.heap.size := by obtain ⟨S, _, _, _, h4⟩ := h.disk; exact h4
  obtain ⟨v8, w8, hr, hown, hgrow, hblk⟩ := run_append_ent hV5.row hnew (one4 _ _ _ _) (by omega) (by omega) 22
  obtain ⟨ao, cap, hv8, _⟩ := row_slice' hown
  subst hv8
  rw [hV] at hr
  have hon : Only (fun x => v.ownBlock = some x) V w8 := Only.of_grown hgrow
  have hs8 := hon.size
  have hlen : xs.length = k * 4 := h.row.1
  have hvF : ∀ x, v.ownBlock = some x → F x := h.rowF
  have hne8 : ∀ b, b < V.heap.size → v.ownBlock ≠ some b → (Value.slice ao (k + 1) cap).ownBlock ≠ some b := fun b hb hne he => by
    rcases hblk with e | e
    · rw [e] at he; exact hne he
    · rw [e] at he
      have : V.heap.size = b := Option.some.inj he
      omega
  have hdV : DiskF B (fun x => F x ∨ (w.heap.size ≤ x ∧ x < V.heap.size)) V B M := h.disk.more hbV _ (fun x hx => hx)
  have hd8 := hdV.stays (hon.mono (T := fun x => F x ∨ (w.heap.size ≤ x ∧ x < V.heap.size)) (fun x _ hx => Or.inl (hvF x hx)))
  have hd9 : DiskF B (fun x => F x ∨ (w.heap.size ≤ x ∧ x < w8.heap.size)) w8 B M := by
    obtain ⟨S, g1, g2, g3, g4⟩ := hdV
    have hdom := diskAt_dom g1
    exact ⟨S, g1.apart hon (fun x hx he => (g2 x hx).2 (Or.inl (hvF x he))), fun x hx => ⟨(g2 x hx).1, fun hf => by
      rcases hf with hf | hf
      · exact (g2 x hx).2 (Or.inl hf)
      · exact (g2 x hx).2 (Or.inr ⟨hf.1, hdom x hx⟩)⟩, by omega, fun x hx => by
        rcases hx with hx | hx
        · have := hFw x hx; omega
        · exact hx.2⟩
  refine ⟨ao, cap, w8, fun x => F x ∨ (w.heap.size ≤ x ∧ x < w8.heap.size), xs ++ [.string (entM k).ref, .int .i64 (entM k).ent, .int .i64 (entM k).per, .slice (some ⟨g, 0, none⟩) 2 2], hr, ⟨hd9, hown, fun x hx => ?_, fun i hi => ?_⟩, (hbV.mono hBw).trans (hon.below (by omega) (fun x hx => by
    rcases h.row.2 with ⟨hv, _⟩ | ⟨g', c', cur, hv, hb, _⟩
    · rw [hv] at hx; cases hx
    · rw [hv] at hx
      have : g' = x := Option.some.inj hx
      omega)), fun x hx => Or.inl hx, fun x hx hne => ⟨(hon.block x (by omega) hne).trans (hbV.block x hx), hne8 x (by omega) hne⟩⟩
  · obtain ⟨c, hc⟩ := row_block hown hx
    rcases hblk with e | e
    · rw [e] at hx; exact Or.inl (hvF x hx)
    · rw [e] at hx
      have : V.heap.size = x := Option.some.inj hx
      exact Or.inr ⟨by omega, lt_of_heap hc⟩
  · by_cases hik : i < k
    · obtain ⟨la, lc', h0, h1, h2, h3, h4, h5⟩ := hV5.each i hik
      have hln : (entM i).lines ≠ [] := by simp [entM]
      refine ⟨la, lc', ?_, ?_, ?_, ?_, LinesAt.keep h4 (fun b off e ht => hon.block b (LinesAt.lt h4 e ht) (h5 b off e).2) hs8, fun b off e => ⟨Or.inl (h5 b off e).1, hne8 b (LinesAt.lt h4 e hln) (h5 b off e).2⟩⟩
      · rw [List.getElem?_append_left (by omega)]; exact h0
      · rw [List.getElem?_append_left (by omega)]; exact h1
      · rw [List.getElem?_append_left (by omega)]; exact h2
      · rw [List.getElem?_append_left (by omega)]; exact h3
    · obtain rfl : i = k := by omega
      have hnv : v.ownBlock ≠ some g := fun he => by have := hFw g (hvF g he); omega
      have hgb : ∀ (b off : Nat), (some (⟨g, 0, none⟩ : Addr)) = some (⟨b, off, none⟩ : Addr) → b = g := fun b off e => (congrArg Addr.block (Option.some.inj e)).symm
      have hlk : LinesAt w8 (some ⟨g, 0, none⟩) (entM i).lines := LinesAt.keep hlV (fun b off e _ => by rw [hgb b off e]; exact hon.block g (by omega) hnv) hs8
      have hl2 : (entM i).lines.length = 2 := rfl
      refine ⟨some ⟨g, 0, none⟩, 2, ?_, ?_, ?_, ?_, hlk, fun b off e => by rw [hgb b off e]; exact ⟨Or.inr ⟨hg, by omega⟩, hne8 g (by omega) hnv⟩⟩
      · rw [List.getElem?_append_right (by omega), hlen, Nat.sub_self]; rfl
      · rw [List.getElem?_append_right (by omega), hlen, show i * 4 + 1 - i * 4 = 1 by omega]; rfl
      · rw [List.getElem?_append_right (by omega), hlen, show i * 4 + 2 - i * 4 = 2 by omega]; rfl
      · rw [List.getElem?_append_right (by omega), hlen, show i * 4 + 3 - i * 4 = 3 by omega]; rfl
end
set_option maxRecDepth 100000 in
set_option maxHeartbeats 1000000 in
theorem kload_row (B : Nat) (F : Nat → Prop) (w : World) (d : Nat) (M : DiskM) (es : List EntryM) (h : DiskF B F w d M) (h1 : 150 ≤ M.now.length) (hT : ∀ i c, i < 2 → blkOf M.now 0 150 i = some c → c.used < 60) (hrec : (openS (blkOf M.now 0 150) 150).recs = headB :: es.map EntryM.bytes) (hes : ∀ x ∈ es, x.ok ∧ x.bytes.length ≤ 200) (hm : es.length ≤ 5000) :
    Calls Try.prog 30 #[.pointer (some ⟨d, 0, none⟩)] w (fun e w' => ∃ ao cap n0 w5, e = .returned (.tuple #[.slice ao es.length cap, .nilIface]) ∧ w.heap.size ≤ n0 ∧ Below w.heap.size w w' ∧ DiskF B (fun x => F x ∨ (n0 ≤ x ∧ x < w'.heap.size)) w' d M ∧ n0 ≤ w5.heap.size ∧ OutE w5 w' (.slice ao es.length cap) es.length es) := by
  have hop := kopen_row B F w d M es _ h h1 hT rfl hrec hes hm
  obtain ⟨n, hn⟩ : ∃ n, n = es.length := ⟨_, rfl⟩
  rw [← hn] at hop ⊢
  clear h hes hrec hT hn hm
  go_enter Try.func30, Try.ntmps30
  go_wp2_with fail
  refine hop.mono ?_
  rintro e w4 ⟨p, ao, cap, n0, w5, rfl, hn0, hb4, hy4, h5, he4⟩
  have HF : Hid (w.heap.size ≤ n0 ∧ Below w.heap.size w w4 ∧ DiskF B (fun x => F x ∨ (n0 ≤ x ∧ x < w4.heap.size)) w4 d M ∧ n0 ≤ w5.heap.size ∧ OutE w5 w4 (.slice ao n cap) n es) := ⟨hn0, hb4, hy4.diskF, h5, he4⟩
  clear hop hn0 hb4 hy4 he4 h5
  go_wp2_with fail
  exact bodyPost_ret (v := .tuple #[.slice ao n cap, .nilIface]) (by simp [results, Try.results30, go_sem]) rfl ⟨ao, cap, n0, w5, rfl, HF.out⟩
end Go.Proofs.Ytldpflijgbcbhaa.lg

/- KeepBreaks: the state of a round; rows of integers. -/
namespace Go.Proofs.Ytldpflijgbcbhaa.lg
open Go.RowKit

/-- rows of integers -/
def IntRows (w : World) (ao : Option Addr) (zss : List (List Int)) : Prop :=
  zss = [] ∨ ∃ b off, ao = some ⟨b, off, none⟩ ∧ b < w.heap.size ∧ ∀ (i : Nat) (r : List Int), zss[i]? = some r → ∃ ra rc, w.cell? ⟨b, off + i, none⟩ = some (.slice ra r.length rc) ∧ IntsAt w ra r ∧ (r.length ≤ rc ∧ r.length ≤ 9223372036854775807) ∧ ∀ z ∈ r, -9223372036854775808 ≤ z ∧ z ≤ 9223372036854775807
theorem rows_at {w : World} {ao : Option Addr} {zss : List (List Int)} (h : IntRows w ao zss) {i : Nat} {r : List Int} (hi : zss[i]? = some r) : ∃ b off ra rc, ao = some ⟨b, off, none⟩ ∧ (∀ z ∈ r, -9223372036854775808 ≤ z ∧ z ≤ 9223372036854775807) ∧ (r.length ≤ rc ∧ r.length ≤ 9223372036854775807) ∧ ∀ wx, Below w.heap.size w wx → wx.cell? ⟨b, off + i, none⟩ = some (.slice ra r.length rc) ∧ IntsAt wx ra r := by
  rcases h with rfl | ⟨b, off, rfl, hb, hc⟩
  · simp at hi
  · obtain ⟨ra, rc, h1, h2, h3, h4⟩ := hc i r hi
    exact ⟨b, off, ra, rc, rfl, h4, h3, fun wx hbx => ⟨(hbx.cell (p := ⟨b, off + i, none⟩) hb).trans h1, h2.laterN hbx⟩⟩
/-- the first three, 0 where there is none -/
def fst3 (r : List Int) (j k : Nat) : Int := if k < j then r.getD k 0 else 0
def box3 (r : List Int) (j : Nat) : Obj := .cells #[.int .i64 (fst3 r j 0), .int .i64 (fst3 r j 1), .int .i64 (fst3 r j 2)] 68 (0, 0)
theorem fst3_all {r : List Int} {j : Nat} (h : r.length ≤ j ∨ 3 ≤ j) {i : Nat} (hi : i < 3) : fst3 r j i = r.getD i 0 := by
  unfold fst3
  split
  · rfl
  · rename_i hn
    rcases h with h | h
    · simp [List.getElem?_eq_none (show r.length ≤ i by omega)]
    · omega
theorem getD_int {r : List Int} (h : ∀ z ∈ r, -9223372036854775808 ≤ z ∧ z ≤ 9223372036854775807) (i : Nat) : -9223372036854775808 ≤ r.getD i 0 ∧ r.getD i 0 ≤ 9223372036854775807 := by
  by_cases hi : i < r.length
  · have := h r[i] (List.getElem_mem hi)
    simpa [hi] using this
  · simp [List.getElem?_eq_none (show r.length ≤ i by omega)]
/-- while the numbers of an event are taken into a box q -/
structure RndA (w0 wr : World) (B : Nat) (F : Nat → Prop) (q : Nat) (M : DiskM) (v : Value) (k : Nat) (xs : List Value) (o : Obj) : Prop where
  below : Below B w0 wr
  disk : DiskF B (fun x => F x ∨ x = q) wr B M
  row : wr.ownsRow B 30 4 v k xs
  rowF : ∀ g, v.ownBlock = some g → F g
  each : ∀ i, i < k → ∃ lao lc, xs[i * 4]? = some (.string (entM i).ref) ∧ xs[i * 4 + 1]? = some (.int .i64 (entM i).ent) ∧ xs[i * 4 + 2]? = some (.int .i64 (entM i).per) ∧ xs[i * 4 + 3]? = some (.slice lao (entM i).lines.length lc) ∧ LinesAt wr lao (entM i).lines ∧ (∀ b off, lao = some ⟨b, off, none⟩ → F b ∧ v.ownBlock ≠ some b)
  lt : ∀ x, F x → x < q
  box : wr.heap[q]? = some o
  qB : B ≤ q
section
variable {w0 wr wr' : World} {B q k : Nat} {F : Nat → Prop} {M M' : DiskM} {v : Value} {xs : List Value} {o : Obj}
theorem RndA.start (hb : Below B w0 wr) (h : LawE B F wr M v k xs) (r : List Int) : RndA w0 (wr.alloc (.cells #[.int .i64 0, .int .i64 0, .int .i64 0] 68)) B F wr.heap.size M v k xs (box3 r 0) := by
  have hbn : Below wr.heap.size wr (wr.alloc (.cells #[.int .i64 0, .int .i64 0, .int .i64 0] 68)) := (Below.refl _ _).alloc (Nat.le_refl _) _
  have h2 := h.later hbn
  have hB : B ≤ wr.heap.size := by obtain ⟨S, _, _, h3, _⟩ := h.disk; exact h3
  have hF : ∀ x, F x → x < wr.heap.size := by obtain ⟨S, _, _, _, h4⟩ := h.disk; exact h4
  exact ⟨hb.trans (hbn.mono hB), h.disk.more hbn _ (fun x hx => hx.imp id (fun e => ⟨by omega, by rw [e]; simp⟩)), h2.row, h2.rowF, h2.each, hF, heap_new_at rfl _, hB⟩
theorem RndA.set {j : Nat} {r : List Int} (h : RndA w0 wr B F q M v k xs (box3 r j)) (hj : j < 3) : RndA w0 (wr.setCell ⟨q, j, none⟩ (.int .i64 (r.getD j 0))) B F q M v k xs (box3 r (j + 1)) := by
  have ho : Only (fun x => x = q) wr (wr.setCell ⟨q, j, none⟩ (.int .i64 (r.getD j 0))) := only_set wr q j _
  have hne : ∀ x, F x → x ≠ q := fun x hx e => by have := h.lt x hx; omega
  refine ⟨h.below.setCell (p := ⟨q, j, none⟩) h.qB _, h.disk.stays (ho.mono (fun x _ hx => Or.inr hx)), ownsRow_later h.row (fun g hg => Below.heap_setCell _ _ _ _ (hne g (h.rowF g hg))), h.rowF, fun i hi => ?_, h.lt, ?_, h.qB⟩
  · obtain ⟨lao, lc, q0, q1, q2, q3, q4, q5⟩ := h.each i hi
    exact ⟨lao, lc, q0, q1, q2, q3, LinesAt.keep q4 (fun b off e _ => Below.heap_setCell _ _ _ _ (hne b (q5 b off e).1)) ho.size, q5⟩
  · rw [heap_setCell_same h.box]
    match j, hj with
    | 0, _ => simp [box3, fst3]
    | 1, _ => simp [box3, fst3]
    | 2, _ => simp [box3, fst3]
theorem RndA.at {j : Nat} {r : List Int} (h : RndA w0 wr B F q M v k xs (box3 r j)) {i : Nat} (hi : i < 3) : wr.cell? ⟨q, i, none⟩ = some (.int .i64 (fst3 r j i)) := by
  have := cell_of_heap h.box i
  match i, hi with
  | 0, _ => exact this
  | 1, _ => exact this
  | 2, _ => exact this
theorem RndA.free {j : Nat} {r : List Int} (h : RndA w0 wr B F q M v k xs (box3 r j)) (i : Nat) : wr.frozen? ⟨q, i, none⟩ = false := free_of_heap h.box i
/-- an event's round: the disk, the entries, the box -/
structure RndB (w0 wr : World) (B : Nat) (F : Nat → Prop) (q : Nat) (M : DiskM) (v : Value) (k : Nat) (xs : List Value) (a b c : Int) : Prop where
  below : Below B w0 wr
  law : LawE B F wr M v k xs
  box : wr.heap[q]? = some (.cells #[.int .i64 a, .int .i64 b, .int .i64 c] 68 (0, 0))
  qF : F q
  qv : v.ownBlock ≠ some q
theorem RndA.done {j : Nat} {r : List Int} (h : RndA w0 wr B F q M v k xs (box3 r j)) (hj : r.length ≤ j ∨ 3 ≤ j) : RndB w0 wr B (fun x => F x ∨ x = q) q M v k xs (r.getD 0 0) (r.getD 1 0) (r.getD 2 0) := by
  refine ⟨h.below, ⟨h.disk, h.row, fun g hg => Or.inl (h.rowF g hg), fun i hi => ?_⟩, ?_, Or.inr rfl, fun hv => by have := h.lt q (h.rowF q hv); omega⟩
  · obtain ⟨lao, lc, q0, q1, q2, q3, q4, q5⟩ := h.each i hi
    exact ⟨lao, lc, q0, q1, q2, q3, q4, fun b off e => ⟨Or.inl (q5 b off e).1, (q5 b off e).2⟩⟩
  · rw [h.box, box3, fst3_all hj (by omega), fst3_all hj (by omega), fst3_all hj (by omega)]
variable {a b c : Int}
theorem RndB.at (h : RndB w0 wr B F q M v k xs a b c) : wr.cell? ⟨q, 0, none⟩ = some (.int .i64 a) ∧ wr.cell? ⟨q, 1, none⟩ = some (.int .i64 b) ∧ wr.cell? ⟨q, 2, none⟩ = some (.int .i64 c) := ⟨cell_of_heap h.box 0, cell_of_heap h.box 1, cell_of_heap h.box 2⟩
theorem RndB.later (h : RndB w0 wr B F q M v k xs a b c) (hb : Below wr.heap.size wr wr') : RndB w0 wr' B F q M v k xs a b c := by
  have hB : B ≤ wr.heap.size := by obtain ⟨S, _, _, h3, _⟩ := h.law.disk; exact h3
  exact ⟨h.below.trans (hb.mono hB), h.law.later hb, (hb.block q (lt_of_heap h.box)).trans h.box, h.qF, h.qv⟩
theorem RndB.step (h : RndB w0 wr B F q M v k xs a b c) (hs : Stays B F wr wr') (hd : DiskF B F wr' B M') : RndB w0 wr' B F q M' v k xs a b c :=
  ⟨h.below.trans hs.below, h.law.step hs hd, (hs.blk q h.qF).trans h.box, h.qF, h.qv⟩
theorem RndB.more {w6 : World} {g : Nat} (h : RndB w0 wr B F q M v k xs a b c) (hb6 : Below wr.heap.size wr w6) (hl : LinesAt w6 (some ⟨g, 0, none⟩) (entM k).lines) (hg : wr.heap.size ≤ g) (hk : k ≤ 100000) :
    ∃ ao cap w8 F' xs', (Builtin.append_ #[22, 22] 22 #[v, .slice (some ⟨w6.heap.size, 0, none⟩) 1 1]).run Try.prog (w6.alloc (.cells #[.string (entM k).ref, .int .i64 (entM k).ent, .int .i64 (entM k).per, .slice (some ⟨g, 0, none⟩) 2 2] 30)) = .ok (.slice ao (k + 1) cap) w8 ∧ RndB w0 w8 B F' q M (.slice ao (k + 1) cap) (k + 1) xs' a b c := by
  obtain ⟨ao, cap, w8, F', xs', h1, h2, h3, h4, h5⟩ := h.law.more hb6 hl hg hk
  obtain ⟨g1, g2⟩ := h5 q (lt_of_heap h.box) h.qv
  exact ⟨ao, cap, w8, F', xs', h1, h.below.trans h3, h2, g1.trans h.box, h4 q h.qF, g2⟩
end
/-- the first entry's slice -/
theorem LawE.first {B : Nat} {F : Nat → Prop} {w w6 : World} {M : DiskM} {g : Nat} (hd : DiskF B F w B M) (hb6 : Below w.heap.size w w6) (hl : LinesAt w6 (some ⟨g, 0, none⟩) (entM 0).lines) (hg : w.heap.size ≤ g) :
    ∃ xs, LawE B (fun x => w.heap.size ≤ x ∧ x < w6.heap.size + 1) (w6.alloc (.cells #[.string (entM 0).ref, .int .i64 (entM 0).ent, .int .i64 (entM 0).per, .slice (some ⟨g, 0, none⟩) 2 2] 30)) M (.slice (some ⟨w6.heap.size, 0, none⟩) 1 1) 1 xs := by
  obtain ⟨V, hV⟩ : ∃ V, V = w6.alloc (.cells #[.string (entM 0).ref, .int .i64 (entM 0).ent, .int .i64 (entM 0).per, .slice (some ⟨g, 0, none⟩) 2 2] 30) := ⟨_, rfl⟩
  have hb7 : Below w6.heap.size w6 V := by rw [hV]; exact (Below.refl _ _).alloc (Nat.le_refl _) _
  have hbV : Below w.heap.size w V := hb6.trans (hb7.mono hb6.size)
  have hsz : V.heap.size = w6.heap.size + 1 := by rw [hV]; exact Array.size_push _
  have hs6 := hb6.size
  have hnew : V.heap[w6.heap.size]? = some (.cells #[.string (entM 0).ref, .int .i64 (entM 0).ent, .int .i64 (entM 0).per, .slice (some ⟨g, 0, none⟩) 2 2] 30 (0, 0)) := by rw [hV]; exact heap_new_at rfl _
  have hlV : LinesAt V (some ⟨g, 0, none⟩) (entM 0).lines := hl.below hb7 (Nat.le_refl _)
  have hgV : g < w6.heap.size := LinesAt.lt hl rfl (by simp [entM])
  have hB : B ≤ w.heap.size := by obtain ⟨S, _, _, h3, _⟩ := hd; exact h3
  rw [← hV]
  have hd2 : DiskF B (fun x => w.heap.size ≤ x ∧ x < w6.heap.size + 1) V B M := hd.more hbV _ (fun x hx => Or.inr ⟨hx.1, by omega⟩)
  refine ⟨[.string (entM 0).ref, .int .i64 (entM 0).ent, .int .i64 (entM 0).per, .slice (some ⟨g, 0, none⟩) 2 2], hd2, ⟨rfl, Or.inr ⟨w6.heap.size, 1, _, rfl, by omega, hnew, Nat.le_refl _, by decide, rfl, rfl⟩⟩, fun x hx => ?_, fun i hi => ?_⟩
  · have : w6.heap.size = x := Option.some.inj hx
    exact ⟨by omega, by omega⟩
  · obtain rfl : i = 0 := by omega
    have hgb : ∀ (b off : Nat), (some (⟨g, 0, none⟩ : Addr)) = some (⟨b, off, none⟩ : Addr) → b = g := fun b off e => (congrArg Addr.block (Option.some.inj e)).symm
    refine ⟨some ⟨g, 0, none⟩, 2, rfl, rfl, rfl, rfl, hlV, fun b off e => ?_⟩
    rw [hgb b off e]
    exact ⟨⟨hg, by omega⟩, fun hx => by have : w6.heap.size = g := Option.some.inj hx; omega⟩
/-- a disk that keeps -/
theorem Cons.of_take {blk : Nat → Option Chk} {F : List UInt8} {n E : Nat} (h : Cons blk (F.take n) E) (hn : n ≤ F.length) : Cons blk F E :=
  ⟨fun i c hc => by have := h.len i c hc; rw [take_len hn] at this; omega, fun i c hc => by rw [h.bytes i c hc]; exact chunk_take (by have := h.len i c hc; rwa [take_len hn] at this), h.ep, h.pos, h.turn, h.own⟩
theorem kb_of_kept {M : DiskM} {rs0 rs : List (List UInt8)} {j ep s : Nat} (h : Kept M rs ep s) (hl : M.now.length = 150) (hsafe : M.safe = M.now) (hsince : M.since = []) (hj : headB :: rs = rs0.take j) (hjl : j ≤ rs0.length) (h8 : (enc rs0).length ≤ 8880) : KB rs0 j ep s M ∧ Free M := by
  obtain ⟨L, hk, hd, hr⟩ := h
  have hok := hk.ok
  have hst : L.stream = (enc rs0).take (posR rs0 j) := by rw [hok.recs, hr, hj, enc_pos]
  have hC := hok.cons
  have hH := hok.holds
  rw [hd] at hH
  simp only [Bool.false_eq_true, if_false] at hH
  have hp := posR_le rs0 j
  have hlen : L.stream.length = posR rs0 j := by rw [hst, take_len hp]
  have ho := open_holds hC hH (by omega) (L.stream.length / 60) 152 0 op0 (by omega) (by omega) (by simp [op0]) (Nat.zero_le _) (fun c j hj => by omega) (fun _ => rfl)
  have hol : (openGo (blkD M.now) 152 0 op0).stream.length = posR rs0 j := by
    show (openGo (blkOf M.now 0 150) 152 0 op0).stream.length = _
    rw [ho.1]; exact hlen
  rw [hst] at hC
  exact ⟨⟨hl, hsafe, hsince, hk.steps, (Cons.of_take hC hp).up hk.ep, hjl, Nat.le_of_eq hol.symm, fun hlt => by rw [hol]; exact posR_step hlt⟩, hk.free⟩
/-- what the records that are there are opened as: for keep.Save and keep.Load -/
theorem KB.recs {k E s : Nat} {M M1 : DiskM} (h : KB recs0 (k + 1) E s M) (hk : k ≤ 110) (hE : E < 64000) (e1 : M1.now = M.now) (e2 : M1.safe = M.safe) (e3 : M1.since = M.since) :
    (openS (blkOf M1.now 0 150) 150).recs = headB :: (entL k).map EntryM.bytes ∧ (openS (blkOf M1.now 0 150) 150).stream = enc (headB :: (entL k).map EntryM.bytes) ∧ (openS (blkOf M1.now 0 150) 150).epoch ≤ E + 1 ∧ (openS (blkOf M1.now 0 150) 150).safe < 2 ∧ (openS (blkOf M1.now 0 150) 150).broken = false ∧ ((openS (blkOf M1.now 0 150) 150).bare = true → (openS (blkOf M1.now 0 150) 150).stream.length % 60 ≠ 0) ∧ (∀ i c, i < 2 → blkOf M1.now 0 150 i = some c → c.used < 60) := by
  obtain ⟨o1, o2, o3, o4, hA⟩ := h.opened recs0_each recs0_enc (by omega) M1 e1 e2 e3
  rw [recs0_take hk] at o1 o2
  rw [e1]
  refine ⟨o1, o2, o3, hA.saf.2, o4, fun hb => ?_, fun i c hi hc => h.cons.turn i c hi hc⟩
  have h1 := (hA.first hb).2.2.2
  rw [o2, ← recs0_take hk]
  exact h1
end Go.Proofs.Ytldpflijgbcbhaa.lg
