/- quarterdaybig: Text in the base of 10, String; the document's Digits walked. -/
import Derived.Test.YtldpflijgbcbhaaQ3
import Derived.Deep.CutBlock
import Derived.Deep.DeepCutAuto
namespace Go.Proofs.Ytldpflijgbcbhaa.qb
open Go.RowKit

/-- a number's digits, the last one first -/
def digR : Nat → Nat → List UInt8
  | 0, _ => []
  | f + 1, n => if n = 0 then [] else UInt8.ofNat (48 + n % 10) :: digR f (n / 10)
theorem digR_more : ∀ (f g n : Nat), n ≤ f → n ≤ g → digR f n = digR g n
  | 0, g, n, h, _ => by
    obtain rfl : n = 0 := by omega
    cases g <;> simp [digR]
  | f + 1, 0, n, _, h => by
    obtain rfl : n = 0 := by omega
    simp [digR]
  | f + 1, g + 1, n, h1, h2 => by
    simp only [digR]
    split
    · rfl
    · rw [digR_more f g (n / 10) (by omega) (by omega)]
theorem digR_step {n : Nat} (h : n ≠ 0) : digR n n = UInt8.ofNat (48 + n % 10) :: digR (n / 10) (n / 10) := by
  obtain ⟨m, rfl⟩ : ∃ m, n = m + 1 := ⟨n - 1, by omega⟩
  rw [show digR (m + 1) (m + 1) = if m + 1 = 0 then [] else UInt8.ofNat (48 + (m + 1) % 10) :: digR m ((m + 1) / 10) from rfl, if_neg h, digR_more m ((m + 1) / 10) ((m + 1) / 10) (by omega) (Nat.le_refl _)]
theorem digR_len : ∀ (k f n : Nat), n < 10 ^ k → (digR f n).length ≤ k
  | k, 0, _, _ => Nat.zero_le _
  | 0, f + 1, n, h => by
    have : n = 0 := by simpa using h
    subst this; simp [digR]
  | k + 1, f + 1, n, h => by
    simp only [digR]
    split
    · exact Nat.zero_le _
    · have := digR_len k f (n / 10) (by rw [Nat.div_lt_iff_lt_mul (by omega)]; rw [Nat.pow_succ] at h; exact h)
      simp only [List.length_cons]; omega
/-- a number as text -/
def textB (z : Int) : List UInt8 := if z = 0 then [48] else (digR z.natAbs z.natAbs ++ if z < 0 then [45] else []).reverse
theorem words_dig {l : List Nat} (h : okW l) : (digR (valW l) (valW l)).length ≤ 10 * l.length := by
  apply digR_len
  have h1 := valW_lt h
  have h2 : 4294967296 ^ l.length ≤ (10 ^ 10) ^ l.length := Nat.pow_le_pow_left (by omega) _
  rw [← Nat.pow_mul] at h2
  omega

theorem run_append_byte {w : World} {base : Nat} {v : Value} {n : Nat} {xs : List Value} (hown : w.ownsRow base 5 1 v n xs) (x : Value) (hx : x.oneCell' = true) (hn : n ≤ 4000000) (hbase : base ≤ w.heap.size) :
    ∃ ao cap w', (Builtin.append_ #[23, 23] 23 #[v, .slice (some ⟨w.heap.size, 0, none⟩) 1 1]).run Try.prog (w.alloc (.cells #[x] 5)) = .ok (.slice ao (n + 1) cap) w' ∧ w'.ownsRow base 5 1 (.slice ao (n + 1) cap) (n + 1) (xs ++ [x]) ∧ Moved w w' v (.slice ao (n + 1) cap) := by
  obtain ⟨i0, hi0, hz0, hz1, hz2⟩ := info_parts infoU8
  obtain ⟨V, hV⟩ : ∃ V, V = w.alloc (.cells #[x] 5) := ⟨_, rfl⟩
  have hbV : Below w.heap.size w V := by rw [hV]; exact (Below.refl _ _).alloc (Nat.le_refl _) _
  have hnew : V.heap[w.heap.size]? = some (.cells #[x] 5 (0, 0)) := by rw [hV]; exact heap_new_at rfl _
  have hsz : V.heap.size = w.heap.size + 1 := by rw [hV]; exact Array.size_push _
  have hownV : V.ownsRow base 5 1 v n xs := by rw [hV]; exact hown.alloc _
  obtain ⟨v', w', hr, h2, h3, _, h5⟩ := run_append_own_at (P := Try.prog) V base 23 23 5 i0 (.int .u8 0) 1 1 Try.underlying23 hi0 hz0 hz1 hz2 rfl (by decide) v n xs hownV ⟨w.heap.size, 0, none⟩ 1 1 [x] rfl (fun j u hj => by
    match j, hj with
    | 0, hj => simp at hj; subst hj; rw [addr_add, cell_of_heap hnew]; rfl) (fun u hu => by simp at hu; subst hu; exact hx) (by unfold maxLen; omega) (by omega) (by omega)
  obtain ⟨ao, cap, rfl⟩ : ∃ ao cap, v' = .slice ao (n + 1) cap := by
    rcases h2.2 with ⟨_, h0⟩ | ⟨g, cap, cur, rfl, _⟩
    · omega
    · exact ⟨_, _, rfl⟩
  rw [hV] at hr
  refine ⟨ao, cap, w', hr, h2, ?_⟩
  rw [hV] at h3
  exact Moved.append h3 (by rw [hsz] at h5; exact h5)
theorem conv_bytes {w : World} {g n cap : Nat} {l : List UInt8} (hn : n = l.length) (hc : ∀ j x, l[j]? = some x → w.cell? ⟨g, j, none⟩ = some (byteV x)) : (convert 23 9 (.slice (some ⟨g, 0, none⟩) n cap)).run Try.prog w = .ok (.string ⟨l.toArray⟩) w := by
  subst hn
  exact run_convert_bytes_back w _ _ _ ⟨g, 0, none⟩ cap l Try.underlying23 Try.underlying5 Try.underlying9 (fun j hj => by
    rw [addr_add, Nat.zero_add]
    exact hc j l[j] (by simp [hj]))

/-! turning bytes round -/
def revAt (D : List UInt8) (i p : Nat) : UInt8 := if p < i ∨ D.length - i ≤ p then D.getD (D.length - 1 - p) 0 else D.getD p 0
structure RevI (n0 : Nat) (w wr : World) (g : Nat) (D : List UInt8) (i : Nat) : Prop where
  below : Below n0 w wr
  ge : n0 ≤ g
  ex : ∃ cur, wr.heap[g]? = some (.cells cur 5 (0, 0)) ∧ ∀ p, p < D.length → cur[p]? = some (byteV (revAt D i p))
theorem RevI.cell {n0 : Nat} {w wr : World} {g : Nat} {D : List UInt8} {i p : Nat} (h : RevI n0 w wr g D i) (hp : p < D.length) : wr.cell? ⟨g, p, none⟩ = some (byteV (revAt D i p)) ∧ wr.frozen? ⟨g, p, none⟩ = false := by
  obtain ⟨cur, h1, h2⟩ := h.ex
  exact ⟨by rw [cell_of_heap h1]; exact h2 p hp, free_of_heap h1 p⟩
theorem RevI.step {n0 : Nat} {w wr : World} {g : Nat} {D : List UInt8} {i : Nat} (h : RevI n0 w wr g D i) (hi : i < D.length - 1 - i) : RevI n0 w ((wr.setCell ⟨g, i, none⟩ (byteV (revAt D i (D.length - 1 - i)))).setCell ⟨g, D.length - 1 - i, none⟩ (byteV (revAt D i i))) g D (i + 1) := by
  obtain ⟨cur, h1, h2⟩ := h.ex
  refine ⟨(h.below.setCell (p := ⟨g, i, none⟩) h.ge _).setCell (p := ⟨g, D.length - 1 - i, none⟩) h.ge _, h.ge, _, heap_setCell_same (heap_setCell_same h1 _) _, fun p hp => ?_⟩
  have hsz : D.length ≤ cur.size := by
    have := h2 (D.length - 1) (by omega)
    obtain ⟨hh, _⟩ := Array.getElem?_eq_some_iff.1 this
    omega
  rw [Array.getElem?_setIfInBounds, Array.getElem?_setIfInBounds]
  by_cases e1 : D.length - 1 - i = p
  · subst e1
    rw [if_pos rfl, if_pos (by simp; omega)]
    congr 2
    unfold revAt
    rw [if_neg (by omega), if_pos (by omega)]
    congr 1; omega
  · rw [if_neg e1]
    by_cases e2 : i = p
    · subst e2
      rw [if_pos rfl, if_pos (by omega)]
      congr 2
      unfold revAt
      rw [if_neg (by omega), if_pos (by omega)]
    · rw [if_neg e2, h2 p hp]
      congr 2
      unfold revAt
      by_cases c : p < i ∨ D.length - i ≤ p
      · rw [if_pos c, if_pos (by omega)]
      · rw [if_neg c, if_neg (by omega)]
theorem RevI.done {n0 : Nat} {w wr : World} {g : Nat} {D : List UInt8} {i : Nat} (h : RevI n0 w wr g D i) (hi : ¬ i < D.length - 1 - i) : ∀ j x, D.reverse[j]? = some x → wr.cell? ⟨g, j, none⟩ = some (byteV x) := by
  intro j x hj
  obtain ⟨hj1, hj2⟩ := List.getElem?_eq_some_iff.1 hj
  rw [List.length_reverse] at hj1
  rw [(h.cell hj1).1]
  congr 2
  rw [List.getElem_reverse] at hj2
  unfold revAt
  split
  · rw [List.getD_eq_getElem?_getD, List.getElem?_eq_getElem (by omega), ← hj2]; rfl
  · rw [List.getD_eq_getElem?_getD, List.getElem?_eq_getElem hj1, ← hj2]
    have e : D.length - 1 - j = j := by omega
    simp only [e]; rfl
theorem rev_start {n0 : Nat} {w wr : World} {ao : Option Addr} {n cap : Nat} {D : List UInt8} (hb : Below n0 w wr) (h : wr.ownsRow n0 5 1 (.slice ao n cap) n (D.map byteV)) (hn : n = D.length) (h0 : 0 < n) : ∃ g, ao = some ⟨g, 0, none⟩ ∧ RevI n0 w wr g D 0 := by
  subst hn
  rcases h.2 with ⟨e, h1⟩ | ⟨g, cap', cur, e, hg, hh, hc, _, _, ht⟩
  · omega
  · injection e with e _ _
    subst e
    refine ⟨g, rfl, hb, hg, cur, hh, fun p hp => ?_⟩
    have : (cur.toList.take (D.length * 1))[p]? = some (byteV (D.getD p 0)) := by
      rw [ht, List.getElem?_map, List.getD_eq_getElem?_getD, List.getElem?_eq_getElem hp]; rfl
    rw [List.getElem?_take_of_lt (by omega), Array.getElem?_toList] at this
    unfold revAt
    rw [if_neg (by omega)]
    exact this

theorem row_later {w w' : World} {base : Nat} {e : TypeId} {sz : Nat} {v : Value} {n : Nat} {xs : List Value} (h : w.ownsRow base e sz v n xs) (hk : ∀ g, v.ownBlock = some g → w'.heap[g]? = w.heap[g]?) : w'.ownsRow base e sz v n xs := by
  obtain ⟨h1, h2⟩ := h
  refine ⟨h1, ?_⟩
  rcases h2 with h2 | ⟨g, cap, cur, hv, hg, hh, hr⟩
  · exact Or.inl h2
  · exact Or.inr ⟨g, cap, cur, hv, hg, (hk g (by rw [hv]; rfl)).trans hh, hr⟩
theorem W32.keep' {w w' : World} {v : Value} {l : List Nat} (h : W32 w v l) (hk : 0 < l.length → ∀ g, g < w.heap.size → v.ownBlock = some g → w'.heap[g]? = w.heap[g]?) (hs : w.heap.size ≤ w'.heap.size) : W32 w' v l := by
  by_cases h0 : 0 < l.length
  · exact h.keep (hk h0) hs
  · obtain ⟨sp, c, rfl, hc, _⟩ := h
    exact ⟨sp, c, rfl, hc, fun h => absurd h h0⟩
theorem W32.lt {w : World} {v : Value} {l : List Nat} (h : W32 w v l) (h0 : 0 < l.length) : ∀ g, v.ownBlock = some g → g < w.heap.size := by
  obtain ⟨sp, c, rfl, _, hx⟩ := h
  obtain ⟨b, o, rfl, hlt, _⟩ := hx h0
  intro g hg
  have : b = g := Option.some.inj hg
  omega
/-- while digits are written -/
structure DigI (w wr : World) (m : Nat) (b a : Value) (D : List UInt8) (lk : List Nat) : Prop where
  below : Below w.heap.size w wr
  row : wr.ownsRow w.heap.size 5 1 b D.length (D.map byteV)
  words : W32 wr a lk
  ge : ∀ g, a.ownBlock = some g → w.heap.size ≤ g
  ok : okW lk
  tight : tightW lk
  dig : D ++ digR (valW lk) (valW lk) = digR m m
  sep : 0 < lk.length → ∀ g, b.ownBlock = some g → a.ownBlock ≠ some g
theorem DigI.more {w wr w2 : World} {m : Nat} {b a a2 : Value} {D : List UInt8} {lk : List Nat} {r : Nat} (h : DigI w wr m b a D lk) (hk : 0 < lk.length) (hr : r = valW lk % 10) (hb2 : Below wr.heap.size wr w2) (hn2 : New32 wr.heap.size w2 a2 (trimW (quoW 10 lk))) (hD : D.length ≤ 1000000) :
    ∃ ao cap w3, (Builtin.append_ #[23, 23] 23 #[b, .slice (some ⟨w2.heap.size, 0, none⟩) 1 1]).run Try.prog (w2.alloc (.cells #[.int .u8 (48 + (r : Int))] 5)) = .ok (.slice ao (D.length + 1) cap) w3 ∧ DigI w w3 m (.slice ao (D.length + 1) cap) a2 (D ++ [UInt8.ofNat (48 + r)]) (trimW (quoW 10 lk)) := by
  have hr10 : r < 10 := by rw [hr]; exact Nat.mod_lt _ (by omega)
  have hbl : ∀ g, b.ownBlock = some g → w.heap.size ≤ g ∧ g < wr.heap.size := fun g hg => row_block' h.row hg
  have hs := h.below.size
  have hs2 := hb2.size
  have hrow2 : w2.ownsRow w.heap.size 5 1 b D.length (D.map byteV) := row_later h.row (fun g hg => hb2.block g (hbl g hg).2)
  obtain ⟨ao, cap, w3, e1, e2, e3⟩ := run_append_byte hrow2 (.int .u8 (48 + (r : Int))) rfl (by omega) (by omega)
  have hx : byteV (UInt8.ofNat (48 + r)) = .int .u8 (48 + (r : Int)) := by
    unfold byteV
    rw [UInt8.toNat_ofNat', Nat.mod_eq_of_lt (by omega)]
    congr 1
  have hv : valW (trimW (quoW 10 lk)) = valW lk / 10 := by rw [valW_trim, valW_quo (by omega)]
  refine ⟨ao, cap, w3, e1, ⟨(h.below.trans (hb2.mono hs)).trans (e3.only.below (by omega) (fun k hk => (hbl k hk).1)), ?_, ?_, fun g hg => Nat.le_trans hs (hn2.2 g hg), okW_trim (okW_quo (by omega) h.ok), tight_trim _, ?_, ?_⟩⟩
  · have e : (D ++ [UInt8.ofNat (48 + r)]).map byteV = D.map byteV ++ [.int .u8 (48 + (r : Int))] := by rw [List.map_append, ← hx]; rfl
    rw [e, List.length_append]
    exact e2
  · exact hn2.1.keep' (fun h0 g hg hgv => e3.only.block g hg (fun hb => by have := hn2.2 g hgv; have := (hbl g hb).2; omega)) e3.only.size
  · rw [hv, List.append_assoc, List.singleton_append, hr, ← digR_step (by have := tight_pos h.tight (by intro e; rw [e] at hk; simp at hk); omega)]
    exact h.dig
  · intro h0 g hg hga
    have h1 := hn2.1.lt h0 g hga
    have h2 := hn2.2 g hga
    rcases e3.blk with e | ⟨g', e, hge⟩
    · rw [e] at hg
      have := (hbl g hg).2
      omega
    · rw [e] at hg
      have : g' = g := Option.some.inj hg
      omega
def lenV : Value → Nat
  | .slice _ n _ => n
  | _ => 0

def TextPost (w : World) (z : Int) (e : Ending) (w' : World) : Prop := e = .returned (.string ⟨(textB z).toArray⟩) ∧ Below w.heap.size w w'
set_option maxRecDepth 100000 in
set_option maxHeartbeats 8000000 in
theorem text_any (n0 q : Nat) (z : Int) (w : World) (h : IntAt n0 w q z) (hz : (digR z.natAbs z.natAbs).length ≤ 100000) :
    Calls Try.prog 86 #[.pointer (some ⟨q, 0, none⟩), .int .i64 10] w (TextPost w z) := by
  obtain ⟨neg, v, l, hI, hzv, hl⟩ := h
  have c0 : w.cell? ⟨q, 0, none⟩ = some (.bool neg) := cell_of_heap hI.heap 0
  have c1 : w.cell? ⟨q, 1, none⟩ = some v := cell_of_heap hI.heap 1
  have htw := twin_any v l w hI.words hl
  obtain ⟨sp, c, rfl, _⟩ := id hI.words
  obtain ⟨n, hn⟩ : ∃ n, n = l.length := ⟨_, rfl⟩
  rw [← hn] at c1 htw
  have HI := Lib.hid hI
  have HZ := Lib.hid hzv
  have HZL := Lib.hid hz
  have HN := Lib.hid hn
  have HL := Lib.hid hl
  clear hI hzv hz hl hn
  rcases Nat.eq_zero_or_pos n with h0 | h0
  · subst h0
    have HOUT : Hid (TextPost w z (.returned (.string ⟨#[48]⟩)) w) := by
      have hl0 : l = [] := List.length_eq_zero_iff.1 HN.out.symm
      have hz0 : z = 0 := by rw [HZ.out, hl0]; unfold valI; split <;> rfl
      exact ⟨by rw [hz0]; rfl, Below.refl _ _⟩
    clear htw
    go_enter Try.func86, Try.ntmps86
    go_wp2_with fail
    go_ret
    exact HOUT.out
  · obtain ⟨m, hm⟩ : ∃ m, m = valW l := ⟨_, rfl⟩
    have hmz : z.natAbs = m := by rw [HZ.out, hm]; unfold valI; split <;> omega
    have HM := Lib.hid hm
    have HMZ := Lib.hid hmz
    have HB10 : Hid ((digR m m).length ≤ 100000) := by show _ ≤ _; rw [← hmz]; exact HZL.out
    clear hm hmz
    have hn0 : ((n : Int) == 0) = false := by simp; omega
    go_enter Try.func86, Try.ntmps86
    go_wp2_with fail
    refine htw.mono ?_
    rintro e w1 ⟨v1, rfl, hn1, hb1⟩
    have HN1 := Lib.hid hn1
    have HB1 := Lib.hid hb1
    clear htw hn1 hb1 hn0
    go_upto_block 0 with (fail)
    go_cut [5] (fun b wx => ∃ (ao : Option Addr) (cap k : Nat), b = .slice ao k cap ∧ Hid (k = (digR m m).length) ∧ Hid (Below w.heap.size w wx) ∧ Hid (wx.ownsRow w.heap.size 5 1 b k ((digR m m).map byteV)))
    case first =>
      obtain ⟨sp1, cp1, hv1, _⟩ := id HN1.out.1
      rw [← HN.out] at hv1
      subst hv1
      go_wp2_with fail
      go_loopw [5, 6] (fun b a wr => ∃ (D : List UInt8) (lk : List Nat) (ao : Option Addr) (cap k : Nat) (sp2 : Option Addr) (c2 j : Nat), b = .slice ao k cap ∧ a = .slice sp2 j c2 ∧ k ≤ 100000 ∧ j ≤ 1000000 ∧ Hid (k = D.length) ∧ Hid (j = lk.length) ∧ Hid (DigI w wr m (.slice ao k cap) (.slice sp2 j c2) D lk)) (fun b _ _ => 200000 - lenV b)
      case atStart => exact ⟨[], l, none, 0, 0, sp1, cp1, n, rfl, rfl, by omega, by have := HL.out; have := HN.out; omega, rfl, HN.out, ⟨HB1.out, World.ownsRow_nil _ _ _ _, HN1.out.1, HN1.out.2, HI.out.ok, HI.out.tight, by rw [HM.out]; rfl, fun _ g hg => by cases hg⟩⟩
      case round =>
        obtain ⟨D, lk, ao, cap, k, sp2, c2, j, rfl, rfl, hk, hj, hkD, hjl, hDI⟩ := hrel
        rcases Nat.eq_zero_or_pos j with hj0 | hj0
        · have HEND : Hid (k = (digR m m).length ∧ Below w.heap.size w wr ∧ wr.ownsRow w.heap.size 5 1 (.slice ao k cap) k ((digR m m).map byteV)) := by
            have hl0 : lk = [] := List.length_eq_zero_iff.1 (by rw [← hjl.out]; exact hj0)
            have hd := hDI.out.dig
            rw [hl0] at hd
            have hd2 : D = digR m m := by simpa [valW, digR] using hd
            have hr := hDI.out.row
            rw [← hkD.out, hd2] at hr
            exact ⟨by rw [hkD.out, hd2], hDI.out.below, hr⟩
          subst hj0
          clear hkD hjl hDI
          go_wp2_with fail
          go_meet
          exact ⟨ao, cap, k, rfl, HEND.out.1, HEND.out.2.1, HEND.out.2.2⟩
        · have hsm := small_any sp2 c2 j 10 lk wr hjl.out hDI.out.words hDI.out.ok (by omega) (by omega) (by omega)
          obtain ⟨r, hr⟩ : ∃ r, r = valW lk % 10 := ⟨_, rfl⟩
          rw [← hr] at hsm
          have hr10 : r < 10 := by rw [hr]; exact Nat.mod_lt _ (by omega)
          have HR := Lib.hid hr
          have hsm : Calls Try.prog 94 #[.slice sp2 j c2, .int .u32 10] wr fun e w' => ∃ v', e = .returned (.tuple #[v', .int .u32 (r : Int)]) ∧ New32 wr.heap.size w' v' (trimW (quoW 10 lk)) ∧ Below wr.heap.size wr w' := hsm
          clear hr
          go_wp2_with fail
          refine hsm.mono ?_
          rintro e w2 ⟨a2, rfl, hn2, hb2⟩
          obtain ⟨ao3, cap3, w3, hrun, hDI3⟩ := hDI.out.more (by rw [← hjl.out]; exact hj0) HR.out hb2 hn2 (by rw [← hkD.out]; omega)
          rw [← hkD.out] at hrun hDI3
          obtain ⟨sp3, c3, ha2, _⟩ := id hn2.1
          obtain ⟨j3, hj3⟩ : ∃ j3, j3 = (trimW (quoW 10 lk)).length := ⟨_, rfl⟩
          rw [← hj3] at ha2
          subst ha2
          have HJ3 := Lib.hid hj3
          have HDI3 := Lib.hid hDI3
          have HK3 : Hid (k + 1 = (D ++ [UInt8.ofNat (48 + r)]).length) := by show _ = _; rw [List.length_append, ← hkD.out]; rfl
          have hj3b : j3 ≤ 1000000 := by
            have h1 := trimN_le (quoW 10 lk) (quoW 10 lk).length
            rw [hj3]; unfold trimW
            rw [List.length_take, quoW_len, ← hjl.out]; omega
          have hk3 : k + 1 ≤ 100000 := by
            have h1 := congrArg List.length hDI3.dig
            have h2 := HB10.out
            rw [List.length_append, ← HK3.out] at h1
            omega
          have hm8 : ((48 : Int) + (r : Int)) % 256 = 48 + (r : Int) := by omega
          clear hsm hn2 hb2 hDI hkD hjl hj3 hDI3
          go_wp2_with (at_builtin; refine Lib.wpList_append_run _ rfl _ _ _ _ rfl _ _ rfl rfl _ _ hrun ?_)
          clear hrun hm8
          go_wp2_with fail
          go_roundw
          case rel => exact ⟨_, _, ao3, cap3, k + 1, sp3, c3, j3, rfl, rfl, hk3, hj3b, HK3, HJ3, HDI3⟩
          case measure => simp [lenV]; omega
    case rest =>
      obtain ⟨ao, cap, k, rfl, hk, hB, hrow⟩ := hcut
      obtain ⟨w2, hw2⟩ : ∃ wq : World, wq = wc := ⟨_, rfl⟩
      subst hw2
      clear HN1 HB1
      have cq : w2.cell? ⟨q, 0, none⟩ = some (.bool neg) := (hB.out.cell (p := ⟨q, 0, none⟩) (lt_of_heap HI.out.heap)).trans c0
      clear c0 c1
      go_upto_if 52 with (fail)
      go_cut [5] (fun b wx => ∃ (D : List UInt8) (ao : Option Addr) (cap k : Nat), b = .slice ao k cap ∧ 1 ≤ k ∧ k ≤ 100001 ∧ Hid (k = D.length) ∧ Hid (textB z = D.reverse) ∧ Hid (Below w.heap.size w wx) ∧ Hid (wx.ownsRow w.heap.size 5 1 b k (D.map byteV)))
      case first =>
        have hm0 : 0 < m := by
          rw [HM.out]
          exact tight_pos HI.out.tight (by intro e; have := HN.out; rw [e] at this; simp at this; omega)
        have hz0 : z ≠ 0 := by have := HMZ.out; omega
        have hk1 : 1 ≤ k := by rw [hk.out, digR_step (by omega)]; simp
        have hk2 : k ≤ 100000 := by rw [hk.out]; exact HB10.out
        cases neg with
        | false =>
          have hzn : ¬ z < 0 := by rw [HZ.out]; unfold valI; simp
          have HT : Hid (textB z = (digR m m).reverse) := by show _ = _; unfold textB; rw [if_neg hz0, HMZ.out, if_neg hzn, List.append_nil]
          clear hzn hz0 hm0 cq
          go_wp2_with fail
          go_meet
          exact ⟨digR m m, ao, cap, k, rfl, hk1, by omega, hk, HT, hB, hrow⟩
        | true =>
          have hzn : z < 0 := by
            have := HZ.out
            unfold valI at this
            rw [if_pos rfl, ← HM.out] at this
            omega
          have HT : Hid (textB z = (digR m m ++ [45]).reverse) := by show _ = _; unfold textB; rw [if_neg hz0, HMZ.out, if_pos hzn]
          obtain ⟨ao3, cap3, w3, hrun, hrow3, hmv⟩ := run_append_byte hrow.out (.int .u8 45) rfl (by omega) hB.out.size
          have HB3 : Hid (Below w.heap.size w w3) := hB.out.trans (hmv.only.below hB.out.size (fun g hg => (row_block' hrow.out hg).1))
          have HR3 : Hid (w3.ownsRow w.heap.size 5 1 (.slice ao3 (k + 1) cap3) (k + 1) ((digR m m ++ [45]).map byteV)) := by
            rw [List.map_append]; exact hrow3
          have HK3 : Hid (k + 1 = (digR m m ++ [45]).length) := by show _ = _; rw [List.length_append, ← hk.out]; rfl
          clear hzn hz0 hm0 cq hrow3 hmv
          go_wp2_with (at_builtin; refine Lib.wpList_append_run _ rfl _ _ _ _ rfl _ _ rfl rfl _ _ hrun ?_)
          clear hrun
          go_wp2_with fail
          go_meet
          exact ⟨_, ao3, cap3, k + 1, rfl, by omega, by omega, HK3, HT, HB3, HR3⟩
      case rest =>
        obtain ⟨D, ao, cap, k, rfl, hk1, hk2, hkD, hT, hB, hrow⟩ := hcut
        obtain ⟨w4, hw4⟩ : ∃ wq : World, wq = wc := ⟨_, rfl⟩
        subst hw4
        obtain ⟨g, rfl, hrev⟩ := rev_start hB.out hrow.out hkD.out (by omega)
        have HREV := Lib.hid hrev
        clear cq hB hrow hrev
        go_wp2_with fail
        go_loopw [8, 9] (fun x y wr => ∃ i : Nat, i ≤ k ∧ x = .int .i64 (i : Int) ∧ y = .int .i64 ((k : Int) - 1 - (i : Int)) ∧ Hid (RevI w.heap.size w wr g D i)) (fun x _ _ => k - (intOf x).toNat)
        case atStart => exact ⟨0, Nat.zero_le _, rfl, by simp, HREV.out⟩
        case round =>
          clear HREV
          obtain ⟨i, hi, rfl, rfl, hR⟩ := hrel
          by_cases hlt : i < k - 1 - i
          · obtain ⟨j, hj⟩ : ∃ j, j = k - 1 - i := ⟨_, rfl⟩
            have hji : ((k : Int) - 1 - (i : Int)) = (j : Int) := by omega
            have hst := hR.out.step (by rw [← hkD.out]; exact hlt)
            rw [← hkD.out, ← hj] at hst
            obtain ⟨ci, fi⟩ := hR.out.cell (p := i) (by rw [← hkD.out]; omega)
            obtain ⟨cj, fj⟩ := hR.out.cell (p := j) (by rw [← hkD.out]; omega)
            obtain ⟨a, ha⟩ : ∃ a, a = (revAt D i i).toNat := ⟨_, rfl⟩
            obtain ⟨b, hb⟩ : ∃ b, b = (revAt D i j).toNat := ⟨_, rfl⟩
            have hav : byteV (revAt D i i) = .int .u8 (a : Int) := by rw [ha]; rfl
            have hbv : byteV (revAt D i j) = .int .u8 (b : Int) := by rw [hb]; rfl
            rw [hav] at ci
            rw [hbv] at cj
            rw [hav, hbv] at hst
            have HST := Lib.hid hst
            have hij : i ≠ j := by omega
            have hjk : j < k := by omega
            have hik : i < k := by omega
            have hlt2 : i < j := by omega
            have hjn : (k : Int) - 1 - ((i : Int) + 1) = (j : Int) - 1 := by omega
            rw [hji]
            clear hR hst ha hb hav hbv hji hj hlt
            go_wp2_with fail
            go_roundw
            case rel => exact ⟨i + 1, by omega, by go_num, by rw [show ((i + 1 : Nat) : Int) = (i : Int) + 1 from rfl, hjn], HST⟩
            case measure => simp [intOf]; omega
          · have hd := hR.out.done (by rw [← hkD.out]; exact hlt)
            have hcv := conv_bytes (n := k) (cap := cap) (by rw [List.length_reverse, ← hkD.out]) hd
            obtain ⟨S, hS⟩ : ∃ S, S = (⟨D.reverse.toArray⟩ : ByteArray) := ⟨_, rfl⟩
            rw [← hS] at hcv
            have HOUT : Hid (TextPost w z (.returned (.string S)) wr) := ⟨by rw [hT.out, hS], hR.out.below⟩
            have hlt2 : ¬ (i : Int) < (k : Int) - 1 - (i : Int) := by omega
            have hge : (k : Int) - 1 - (i : Int) ≤ (i : Int) := by omega
            clear hd hS hR
            go_wp2_with fail
            go_ret
            exact HOUT.out
end Go.Proofs.Ytldpflijgbcbhaa.qb

/- The document's Digits walked. -/
namespace Go.Proofs.Ytldpflijgbcbhaa.qb
open Go.RowKit

set_option maxHeartbeats 1000000 in
theorem string_any (n0 q : Nat) (z : Int) (w : World) (h : IntAt n0 w q z) (hz : (digR z.natAbs z.natAbs).length ≤ 100000) :
    Calls Try.prog 77 #[.pointer (some ⟨q, 0, none⟩)] w (TextPost w z) := by
  have ht := text_any n0 q z w h hz
  obtain ⟨S, hS⟩ : ∃ S, S = (⟨(textB z).toArray⟩ : ByteArray) := ⟨_, rfl⟩
  unfold TextPost at ht ⊢
  rw [← hS] at ht ⊢
  clear h hz hS
  go_enter Try.func77, Try.ntmps77
  go_wp2_with fail
  refine ht.mono ?_
  rintro e w1 ⟨rfl, hb⟩
  have HB := Lib.hid hb
  clear ht hb
  go_wp2_with fail
  go_ret
  exact ⟨rfl, HB.out⟩
set_option maxHeartbeats 1000000 in
theorem big_any (z : Int) (w : World) (h1 : -9223372036854775808 ≤ z) (h2 : z ≤ 9223372036854775807) :
    Calls Try.prog 76 #[.int .i64 z] w fun e w' => e = .returned (.pointer (some ⟨w.heap.size, 0, none⟩)) ∧ IntAt w.heap.size w' w.heap.size z ∧ Below w.heap.size w w' := by
  have hcall := newint_any z w h1 h2
  have hw : IntKind.i64.wrap z = z := wrap_i64 h1 h2
  go_enter Try.func76, Try.ntmps76
  go_wp2_with fail
  refine hcall.mono ?_
  rintro e w3 ⟨rfl, h3, h4⟩
  have HOUT : Hid (IntAt w.heap.size w3 w.heap.size z ∧ Below w.heap.size w w3) := ⟨h3, h4⟩
  clear hcall h3 h4
  go_wp2_with fail
  go_ret
  exact ⟨rfl, HOUT.out⟩
theorem dig_short {z : Int} (h1 : -9223372036854775808 ≤ z) (h2 : z ≤ 9223372036854775807) : (digR z.natAbs z.natAbs).length ≤ 20 :=
  digR_len 20 _ _ (by have : z.natAbs ≤ 9223372036854775808 := by omega
                      exact Nat.lt_of_le_of_lt this (by decide))
set_option maxHeartbeats 1000000 in
theorem digits_any (z : Int) (w : World) (h1 : -9223372036854775808 ≤ z) (h2 : z ≤ 9223372036854775807) :
    Calls Try.prog 62 #[.int .i64 z] w (TextPost w z) := by
  have hbig := big_any z w h1 h2
  have hsh := dig_short h1 h2
  obtain ⟨S, hS⟩ : ∃ S, S = (⟨(textB z).toArray⟩ : ByteArray) := ⟨_, rfl⟩
  have hst : ∀ w2, IntAt w.heap.size w2 w.heap.size z → Calls Try.prog 77 #[.pointer (some ⟨w.heap.size, 0, none⟩)] w2 fun e w' => e = .returned (.string S) ∧ Below w2.heap.size w2 w' := fun w2 hi => by
    have := string_any w.heap.size w.heap.size z w2 hi (by omega)
    unfold TextPost at this
    rw [← hS] at this
    exact this
  unfold TextPost
  rw [← hS]
  have HST := Lib.hid hst
  clear hst hsh hS h1 h2
  go_enter Try.func62, Try.ntmps62
  go_wp2_with fail
  refine hbig.mono ?_
  rintro e w3 ⟨rfl, h3, h4⟩
  have hcall := HST.out w3 h3
  have HB := Lib.hid h4
  clear hbig h3 h4
  go_wp2_with fail
  refine hcall.mono ?_
  rintro e w4 ⟨rfl, h5⟩
  have HB2 : Hid (Below w.heap.size w w4) := HB.out.trans (h5.mono HB.out.size)
  clear hcall h5
  go_wp2_with fail
  go_ret
  exact ⟨rfl, HB2.out⟩
end Go.Proofs.Ytldpflijgbcbhaa.qb
