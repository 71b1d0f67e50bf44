/- quarterdaybig: words of 32 bits; trim, words walked. -/
import Derived.Test.YtldpflijgbcbhaaBlk1
import Derived.Test.YtldpflijgbcbhaaStays
import Derived.Deep.OwnRows
import Derived.Lib.Hide
import Derived.Deep.AppendSrc
import Derived.Lib.AppendZeros
namespace Go.Proofs.Ytldpflijgbcbhaa.qb
open Go.RowKit

/-- the value of words, the least first -/
def valW : List Nat → Nat
  | [] => 0
  | x :: r => x + 4294967296 * valW r
def okW (l : List Nat) : Prop := ∀ x ∈ l, x < 4294967296
/-- how many words count of the first k -/
def trimN (l : List Nat) : Nat → Nat
  | 0 => 0
  | k + 1 => if l.getD k 0 = 0 then trimN l k else k + 1
def trimW (l : List Nat) : List Nat := l.take (trimN l l.length)
theorem trimN_le (l : List Nat) : ∀ k, trimN l k ≤ k := by
  intro k
  induction k with
  | zero => exact Nat.le_refl _
  | succ k ih => unfold trimN; split <;> omega
theorem valW_append (a b : List Nat) : valW (a ++ b) = valW a + 4294967296 ^ a.length * valW b := by
  induction a with
  | nil => simp [valW]
  | cons x r ih => simp only [List.cons_append, valW, ih, List.length_cons, Nat.pow_succ, Nat.mul_add]; rw [Nat.mul_comm (4294967296 ^ r.length) 4294967296, Nat.mul_assoc]; omega
theorem valW_take (l : List Nat) : ∀ k, k ≤ l.length → valW (l.take (trimN l k)) = valW (l.take k) := by
  intro k
  induction k with
  | zero => intro _; rfl
  | succ k ih =>
    intro hk
    unfold trimN
    by_cases h : l.getD k 0 = 0
    · rw [if_pos h, ih (by omega), List.take_succ_eq_append_getElem (by omega), valW_append]
      have : l[k]'(by omega) = 0 := by rw [List.getD_eq_getElem?_getD, List.getElem?_eq_getElem (by omega)] at h; exact h
      rw [this]; simp [valW]
    · rw [if_neg h]
theorem valW_trim (l : List Nat) : valW (trimW l) = valW l := by
  unfold trimW
  rw [valW_take l l.length (Nat.le_refl _), List.take_length]
theorem okW_trim {l : List Nat} (h : okW l) : okW (trimW l) := fun x hx => h x (List.mem_of_mem_take hx)
/-- no nought at the end -/
def tightW (l : List Nat) : Prop := ∀ x, l.getLast? = some x → x ≠ 0
theorem trimN_last (l : List Nat) : ∀ k, k ≤ l.length → trimN l k = 0 ∨ l.getD (trimN l k - 1) 0 ≠ 0 := by
  intro k
  induction k with
  | zero => intro _; exact Or.inl rfl
  | succ k ih =>
    intro hk
    unfold trimN
    by_cases h : l.getD k 0 = 0
    · rw [if_pos h]; exact ih (by omega)
    · rw [if_neg h]; exact Or.inr h
theorem tight_trim (l : List Nat) : tightW (trimW l) := by
  intro x hx
  have hle := trimN_le l l.length
  unfold trimW at hx
  rcases trimN_last l l.length (Nat.le_refl _) with h | h
  · rw [h] at hx; simp at hx
  · by_cases h0 : trimN l l.length = 0
    · rw [h0] at hx; simp at hx
    · rw [List.getLast?_eq_getElem?, List.length_take, Nat.min_eq_left hle, List.getElem?_take_of_lt (by omega)] at hx
      rw [List.getD_eq_getElem?_getD, hx] at h
      exact h
theorem valW_lt {l : List Nat} (h : okW l) : valW l < 4294967296 ^ l.length := by
  induction l with
  | nil => simp [valW]
  | cons x r ih =>
    have h1 := ih (fun y hy => h y (by simp [hy]))
    have h2 := h x (by simp)
    simp only [valW, List.length_cons, Nat.pow_succ]
    omega
theorem tight_pos {l : List Nat} (h : tightW l) (hl : l ≠ []) : 0 < valW l := by
  induction l with
  | nil => exact absurd rfl hl
  | cons x r ih =>
    cases r with
    | nil =>
      have := h x rfl
      simp only [valW]; omega
    | cons y r =>
      have := ih (fun z hz => h z (by rw [List.getLast?_cons_cons]; exact hz)) (by simp)
      simp only [valW] at *; omega
theorem tight_zero {l : List Nat} (h : tightW l) : valW l = 0 ↔ l = [] := by
  constructor
  · intro h0
    by_cases hl : l = []
    · exact hl
    · have := tight_pos h hl; omega
  · rintro rfl; rfl

/-- words in memory -/
def W32 (w : World) (v : Value) (l : List Nat) : Prop := ∃ sp c, v = .slice sp l.length c ∧ l.length ≤ c ∧ (0 < l.length → ∃ b o, sp = some ⟨b, o, none⟩ ∧ b < w.heap.size ∧ ∀ (j x : Nat), l[j]? = some x → w.cell? ⟨b, o + j, none⟩ = some (.int .u32 (x : Int)))
theorem W32.keep {w w' : World} {v : Value} {l : List Nat} (h : W32 w v l) (hk : ∀ g, g < w.heap.size → v.ownBlock = some g → w'.heap[g]? = w.heap[g]?) (hs : w.heap.size ≤ w'.heap.size) : W32 w' v l := by
  obtain ⟨sp, c, rfl, hc, hx⟩ := h
  refine ⟨sp, c, rfl, hc, fun h0 => ?_⟩
  obtain ⟨b, o, rfl, hlt, hcc⟩ := hx h0
  refine ⟨b, o, rfl, Nat.lt_of_lt_of_le hlt hs, fun j x hj => ?_⟩
  rw [← hcc j x hj]
  unfold World.cell?
  rw [show ((⟨b, o + j, none⟩ : Addr)).block = b from rfl, hk b hlt rfl]
theorem W32.later {w w' : World} {v : Value} {l : List Nat} (h : W32 w v l) (hb : Below w.heap.size w w') : W32 w' v l := h.keep (fun g hg _ => hb.block g hg) hb.size
theorem W32.nil (w : World) : W32 w (.slice none 0 0) [] := ⟨none, 0, rfl, Nat.le_refl _, fun h => absurd h (by simp)⟩

def TrimPost (w : World) (sp : Option Addr) (n c : Nat) (e : Ending) (w' : World) : Prop := e = .returned (.slice sp n c) ∧ Below w.heap.size w w'
set_option maxRecDepth 100000 in
set_option maxHeartbeats 2000000 in
theorem trim_run (sp : Option Addr) (c n : Nat) (l : List Nat) (w : World) (hn : n = l.length) (h : W32 w (.slice sp n c) l) (hl : l.length ≤ 1000000000) :
    Calls Try.prog 108 #[.slice sp n c] w (TrimPost w sp (trimN l n) c) := by
  obtain ⟨sp', c', e, hc, hx⟩ := h
  injection e with e1 e2 e3
  subst e1; subst e3
  clear e2
  rw [← hn] at hl hc
  have HN := Lib.hid hn
  have HX := Lib.hid hx
  clear hx hn
  go_enter Try.func108, Try.ntmps108
  go_wp2_with fail
  go_loopw [3] (fun z wr => ∃ k : Nat, k ≤ n ∧ z = .int .i64 (k : Int) ∧ Hid (trimN l n = trimN l k) ∧ Hid (Below w.heap.size w wr)) (fun z _ => (intOf z).toNat)
  case atStart => exact ⟨n, Nat.le_refl _, rfl, rfl, Below.refl _ _⟩
  case round =>
    obtain ⟨k, hk, rfl, hT, hB⟩ := hrel
    rcases Nat.eq_zero_or_pos k with h0 | h0
    · subst h0
      have HOUT : Hid (TrimPost w sp (trimN l n) c (.returned (.slice sp 0 c)) wr) := ⟨by rw [hT.out]; rfl, hB.out⟩
      clear hT hB
      go_wp2_with fail
      go_ret
      exact HOUT.out
    · obtain ⟨j, rfl⟩ : ∃ j, k = j + 1 := ⟨k - 1, by omega⟩
      obtain ⟨b, o, rfl, hlt, hcc⟩ := HX.out (by rw [← HN.out]; omega)
      obtain ⟨x, hxj⟩ : ∃ x, l[j]? = some x := ⟨l[j]'(by rw [← HN.out]; omega), List.getElem?_eq_getElem _⟩
      have hcell : wr.cell? ⟨b, o + j, none⟩ = some (.int .u32 (x : Int)) := (hB.out.cell (p := ⟨b, o + j, none⟩) hlt).trans (hcc j x hxj)
      have hgd : Hid (l.getD j 0 = x) := by show _ = _; rw [List.getD_eq_getElem?_getD, hxj]; rfl
      have hj1 : ((j : Int) + 1) - 1 = (j : Int) := by omega
      clear hcc hxj hlt
      by_cases hz : x = 0
      · have HT2 : Hid (trimN l n = trimN l j) := by show _ = _; rw [hT.out]; show (if l.getD j 0 = 0 then _ else _) = _; rw [hgd.out, if_pos hz]
        clear hT hgd
        subst hz
        go_wp2_with fail
        go_roundw
        case rel => exact ⟨j, by omega, by go_num, HT2, hB⟩
        case measure => simp [intOf]
      · have HOUT : Hid (TrimPost w (some ⟨b, o, none⟩) (trimN l n) c (.returned (.slice (some ⟨b, o, none⟩) (j + 1) c)) wr) := ⟨by rw [hT.out]; show _ = Ending.returned (.slice _ (if l.getD j 0 = 0 then _ else _) _); rw [hgd.out, if_neg hz], hB.out⟩
        have hz2 : ((x : Int) == 0) = false := by simp; exact hz
        clear hT hB hgd
        go_wp2_with fail
        go_ret
        exact HOUT.out
theorem W32.trim {w : World} {sp : Option Addr} {n c : Nat} {l : List Nat} (h : W32 w (.slice sp n c) l) (hn : n = l.length) : W32 w (.slice sp (trimN l n) c) (trimW l) := by
  obtain ⟨sp', c', e, hc, hx⟩ := h
  injection e with e1 e2 e3
  subst e1; subst e3
  have hle := trimN_le l n
  have hlen : (trimW l).length = trimN l n := by unfold trimW; rw [← hn, List.length_take]; omega
  refine ⟨sp, c, by rw [hlen], by omega, fun h0 => ?_⟩
  obtain ⟨b, o, e, hlt, hcc⟩ := hx (by omega)
  refine ⟨b, o, e, hlt, fun j x hj => hcc j x ?_⟩
  have hjl := (List.getElem?_eq_some_iff.1 hj).1
  unfold trimW at hj
  rwa [List.getElem?_take_of_lt (by rw [← hn]; omega)] at hj
/-- words that lie in blocks from n0 on -/
def New32 (n0 : Nat) (w : World) (v : Value) (l : List Nat) : Prop := W32 w v l ∧ ∀ g, v.ownBlock = some g → n0 ≤ g
theorem trim_any (v : Value) (l : List Nat) (n0 : Nat) (w : World) (h : New32 n0 w v l) (hl : l.length ≤ 1000000000) :
    Calls Try.prog 108 #[v] w fun e w' => ∃ v', e = .returned v' ∧ New32 n0 w' v' (trimW l) ∧ Below w.heap.size w w' := by
  obtain ⟨hw, hn⟩ := h
  obtain ⟨sp, c, rfl, hc, hx⟩ := id hw
  refine (trim_run sp c l.length l w rfl hw hl).mono ?_
  rintro e w' ⟨rfl, hb⟩
  exact ⟨_, rfl, ⟨(hw.trim rfl).later hb, fun g hg => hn g (by cases sp with | none => cases hg | some a => exact hg)⟩, hb⟩
end Go.Proofs.Ytldpflijgbcbhaa.qb

/- quarterdaybig: words walked. -/
namespace Go.Proofs.Ytldpflijgbcbhaa.qb
open Go.RowKit

theorem new_two {w : World} {g a b : Nat} (h : w.heap[g]? = some (.cells #[.int .u32 (a : Int), .int .u32 (b : Int)] 146 (0, 0))) : W32 w (.slice (some ⟨g, 0, none⟩) 2 2) [a, b] := by
  refine ⟨some ⟨g, 0, none⟩, 2, rfl, Nat.le_refl _, fun _ => ⟨g, 0, rfl, lt_of_heap h, fun j x hj => ?_⟩⟩
  rw [cell_of_heap h, Nat.zero_add]
  match j, hj with
  | 0, hj => simp at hj; subst hj; rfl
  | 1, hj => simp at hj; subst hj; rfl
set_option maxHeartbeats 1000000 in
theorem words_any (x : Nat) (w : World) (hx : x < 18446744073709551616) :
    Calls Try.prog 107 #[.int .u64 (x : Int)] w fun e w' => ∃ v', e = .returned v' ∧ New32 w.heap.size w' v' (trimW [x % 4294967296, x / 4294967296]) ∧ Below w.heap.size w w' := by
  go_enter Try.func107, Try.ntmps107
  go_wp2_with fail
  obtain ⟨w1, hw1⟩ : ∃ w1, w1 = w.alloc (.cells #[.int .u32 ((x : Int) % 4294967296), .int .u32 ((x : Int) / 4294967296)] 146) := ⟨_, rfl⟩
  have hb1 : Below w.heap.size w w1 := by rw [hw1]; exact (Below.refl _ _).alloc (Nat.le_refl _) _
  have hn : New32 w.heap.size w1 (.slice (some ⟨w.heap.size, 0, none⟩) 2 2) [x % 4294967296, x / 4294967296] := by
    refine ⟨new_two (by rw [hw1, Int.natCast_emod, Int.natCast_ediv]; exact heap_new_at rfl _), fun g hg => ?_⟩
    have : w.heap.size = g := Option.some.inj hg
    omega
  rw [← hw1]
  refine (trim_any _ _ w.heap.size w1 hn (by simp)).mono ?_
  rintro e w2 ⟨v', rfl, hn2, hb2⟩
  have HOUT : Hid (∃ v2, Ending.returned v' = .returned v2 ∧ New32 w.heap.size w2 v2 (trimW [x % 4294967296, x / 4294967296]) ∧ Below w.heap.size w w2) := ⟨v', rfl, hn2, hb1.trans (hb2.mono hb1.size)⟩
  clear hw1 hb1 hn hn2 hb2
  go_wp2_with fail
  go_ret
  exact HOUT.out

/-! division by one word -/
def quoW (d : Nat) : List Nat → List Nat
  | [] => []
  | x :: r => (valW r % d * 4294967296 + x) / d :: quoW d r
theorem quoW_len (d : Nat) (l : List Nat) : (quoW d l).length = l.length := by
  induction l with
  | nil => rfl
  | cons x r ih => simp [quoW, ih]
theorem valW_quo {d : Nat} (hd : 0 < d) (l : List Nat) : valW (quoW d l) = valW l / d := by
  induction l with
  | nil => simp [quoW, valW]
  | cons x r ih =>
    simp only [quoW, valW, ih]
    have h := Nat.div_add_mod (valW r) d
    have e : x + 4294967296 * valW r = (valW r % d * 4294967296 + x) + d * (4294967296 * (valW r / d)) := by
      conv => lhs; rw [← h]
      rw [Nat.mul_add, ← Nat.mul_assoc, Nat.mul_comm 4294967296 d, Nat.mul_assoc]
      omega
    rw [e, Nat.add_mul_div_left _ _ hd]
theorem okW_quo {d : Nat} (hd : 0 < d) {l : List Nat} (h : okW l) : okW (quoW d l) := by
  induction l with
  | nil => intro x hx; cases hx
  | cons x r ih =>
    intro y hy
    rcases List.mem_cons.1 hy with rfl | hy
    · have h1 := Nat.mod_lt (valW r) hd
      have h2 := h x (by simp)
      rw [Nat.div_lt_iff_lt_mul hd]
      have h3 : (valW r % d + 1) * 4294967296 ≤ d * 4294967296 := Nat.mul_le_mul_right _ h1
      rw [Nat.mul_comm 4294967296 d]
      omega
    · exact ih (fun z hz => h z (by simp [hz])) y hy
theorem quoW_at {d : Nat} : ∀ {l : List Nat} {j x : Nat}, l[j]? = some x → (quoW d l)[j]? = some ((valW (l.drop (j + 1)) % d * 4294967296 + x) / d)
  | y :: r, 0, x, h => by simp at h; subst h; rfl
  | y :: r, j + 1, x, h => by
    simp only [List.getElem?_cons_succ] at h
    simp only [quoW, List.getElem?_cons_succ, List.drop_succ_cons]
    exact quoW_at h
theorem rem_at {d : Nat} {l : List Nat} {j x : Nat} (h : l[j]? = some x) : (valW (l.drop (j + 1)) % d * 4294967296 + x) % d = valW (l.drop j) % d := by
  obtain ⟨hj, he⟩ := List.getElem?_eq_some_iff.1 h
  rw [List.drop_eq_getElem_cons hj, he]
  simp only [valW]
  rw [Nat.mul_comm (valW (l.drop (j + 1)) % d), Nat.add_comm, Nat.add_mod, Nat.mul_mod, Nat.mod_mod, ← Nat.mul_mod, ← Nat.add_mod]
/-- the words that are laid so far, from above -/
def quoK (d : Nat) (l : List Nat) (k : Nat) : List Nat := List.replicate k 0 ++ (quoW d l).drop k
theorem quoK_len {d : Nat} {l : List Nat} {k : Nat} (hk : k ≤ l.length) : (quoK d l k).length = l.length := by simp [quoK, quoW_len]; omega
def arrW (l : List Nat) : Array Value := (l.map fun (x : Nat) => Value.int .u32 (x : Int)).toArray
theorem quoK_step {d : Nat} {l : List Nat} {j x : Nat} (h : l[j]? = some x) : (arrW (quoK d l (j + 1))).setIfInBounds j (.int .u32 (((valW (l.drop (j + 1)) % d * 4294967296 + x) / d : Nat) : Int)) = arrW (quoK d l j) := by
  obtain ⟨hj, he⟩ := List.getElem?_eq_some_iff.1 h
  have hq := quoW_at (d := d) h
  have hqj := (List.getElem?_eq_some_iff.1 hq).1
  apply Array.ext'
  simp only [arrW, Array.toList_setIfInBounds]
  apply List.ext_getElem?
  intro i
  rw [List.getElem?_set]
  have hl1 := quoK_len (d := d) (show j + 1 ≤ l.length by omega)
  have hl2 := quoK_len (d := d) (show j ≤ l.length by omega)
  by_cases hi : j = i
  · subst hi
    rw [if_pos rfl, if_pos (by rw [List.length_map, hl1]; exact hj), List.getElem?_map]
    have : (quoK d l j)[j]? = (quoW d l)[j]? := by unfold quoK; rw [List.getElem?_append_right (by simp)]; simp
    rw [this, hq]; rfl
  · rw [if_neg hi, List.getElem?_map, List.getElem?_map]
    congr 1
    unfold quoK
    rcases Nat.lt_or_ge i j with h' | h'
    · rw [List.getElem?_append_left (by simp; omega), List.getElem?_append_left (by simp; omega), List.getElem?_replicate, List.getElem?_replicate, if_pos (by omega), if_pos h']
    · rw [List.getElem?_append_right (by simp; omega), List.getElem?_append_right (by simp; omega)]
      simp only [List.length_replicate, List.getElem?_drop]
      congr 1; omega
theorem block_w32 {w : World} {g n : Nat} {l : List Nat} (h : w.heap[g]? = some (.cells (arrW l) 146 (0, 0))) (hn : n = l.length) : W32 w (.slice (some ⟨g, 0, none⟩) n n) l := by
  subst hn
  refine ⟨some ⟨g, 0, none⟩, l.length, rfl, Nat.le_refl _, fun _ => ⟨g, 0, rfl, lt_of_heap h, fun j x hj => ?_⟩⟩
  rw [cell_of_heap h, Nat.zero_add, arrW, List.getElem?_toArray, List.getElem?_map, hj]; rfl
theorem infoU32 : (Try.prog.info? 146).map (fun i => (i.zero, i.size, i.bytes)) = some (some (.int .u32 0), 1, 4) := by kernel_rfl
theorem made_words (n : Nat) : madeCells #[Value.int .u32 0] n = arrW (List.replicate n 0) := by
  apply Array.ext
  · simp [size_madeCells, arrW]
  · intro i h1 h2
    simp [madeCells, arrW, Nat.mod_one]
theorem make_words (n : Nat) (hn : n ≤ 1099511627776) (w : World) : (Instr.makeSlice 142 (.int .i64 (n : Int)) (.int .i64 (n : Int))).run Try.prog w = .ok (.slice (some ⟨w.heap.size, 0, none⟩) n n) (w.alloc (.cells (arrW (List.replicate n 0)) 146)) := by
  have h := run_make_row' (P := Try.prog) 142 146 (.int .u32 0) 4 Try.underlying142 infoU32 rfl .i64 .i64 n (by omega) (by omega) w
  rw [made_words] at h
  exact h
theorem or_word {r x : Nat} (hr : r < 4294967296) (hx : x < 4294967296) : bits .or .u64 ((r : Int) * 4294967296) (x : Int) = ((r * 4294967296 + x : Nat) : Int) := by
  have e : (r : Int) * 4294967296 = ((r * 4294967296 : Nat) : Int) := by omega
  rw [e, bits_u64_or _ _ (by omega) (by omega)]
  have e2 : (2 : Nat) ^ 32 = 4294967296 := by rfl
  have h := Nat.shiftLeft_add_eq_or_of_lt (i := 32) (b := x) (by rw [e2]; exact hx) r
  rw [Nat.shiftLeft_eq, e2] at h
  rw [← h]

/-- while the words are divided -/
structure DivI (w wr : World) (G d n k : Nat) (l : List Nat) : Prop where
  below : Below w.heap.size w wr
  ge : w.heap.size ≤ G
  blk : wr.heap[G]? = some (.cells (arrW (quoK d l k)) 146 (0, 0))
theorem DivI.step {w wr : World} {G d n j x : Nat} {l : List Nat} (h : DivI w wr G d n (j + 1) l) (hx : l[j]? = some x) : DivI w (wr.setCell ⟨G, j, none⟩ (.int .u32 (((valW (l.drop (j + 1)) % d * 4294967296 + x) / d : Nat) : Int))) G d n j l :=
  ⟨h.below.setCell (p := ⟨G, j, none⟩) h.ge _, h.ge, by rw [heap_setCell_same h.blk, quoK_step hx]⟩

set_option maxRecDepth 100000 in
set_option maxHeartbeats 4000000 in
theorem small_any (sp : Option Addr) (c n d : Nat) (l : List Nat) (w : World) (hn : n = l.length) (h : W32 w (.slice sp n c) l) (hok : okW l) (hd : 0 < d) (hd2 : d < 4294967296) (hl : n ≤ 1000000000) :
    Calls Try.prog 94 #[.slice sp n c, .int .u32 (d : Int)] w fun e w' => ∃ v', e = .returned (.tuple #[v', .int .u32 ((valW l % d : Nat) : Int)]) ∧ New32 w.heap.size w' v' (trimW (quoW d l)) ∧ Below w.heap.size w w' := by
  obtain ⟨sp', c', e, hc, hx⟩ := h
  injection e with e1 e2 e3
  subst e1; subst e3
  clear e2
  rw [← hn] at hc
  have HN := Lib.hid hn
  have HX := Lib.hid hx
  have HOK := Lib.hid hok
  have hmk := make_words n (by omega) w
  have HDI : Hid (DivI w (w.alloc (.cells (arrW (List.replicate n 0)) 146)) w.heap.size d n n l) := by
    refine ⟨(Below.refl _ _).alloc (Nat.le_refl _) _, Nat.le_refl _, ?_⟩
    have e : quoK d l n = List.replicate n 0 := by unfold quoK; rw [List.drop_of_length_le (by rw [quoW_len, HN.out]; exact Nat.le_refl _), List.append_nil]
    rw [e]
    exact heap_new_at rfl _
  obtain ⟨G, hG⟩ : ∃ G, G = w.heap.size := ⟨_, rfl⟩
  have HG := Lib.hid hG
  clear hx hn hok
  go_enter Try.func94, Try.ntmps94
  go_wp2_with fail
  rw [← hG] at hmk HDI ⊢
  clear hG
  go_loopw [7, 8] (fun r z wr => ∃ (k r0 : Nat), k ≤ n ∧ z = .int .i64 ((k : Int) - 1) ∧ r = .int .u64 (r0 : Int) ∧ r0 < d ∧ Hid (r0 = valW (l.drop k) % d) ∧ Hid (DivI w wr G d n k l)) (fun _ z _ => (intOf z + 1).toNat)
  case atStart => exact ⟨n, 0, Nat.le_refl _, rfl, rfl, hd, by show _ = _; rw [List.drop_of_length_le (by rw [HN.out]; exact Nat.le_refl _)]; simp [valW], HDI.out⟩
  case round =>
    clear HDI hmk
    obtain ⟨k, r0, hk, rfl, rfl, hr0, hR, hDI⟩ := hrel
    have hGl := lt_of_heap hDI.out.blk
    rcases Nat.eq_zero_or_pos k with h0 | h0
    · subst h0
      have htr := trim_any (.slice (some ⟨G, 0, none⟩) n n) (quoW d l) w.heap.size wr ⟨block_w32 (l := quoW d l) hDI.out.blk (by rw [quoW_len, HN.out]), fun g hg => by have : G = g := Option.some.inj hg; have := hDI.out.ge; omega⟩ (by rw [quoW_len, ← HN.out]; exact hl)
      have hm : (r0 : Int) % 4294967296 = (r0 : Int) := by omega
      have HB := Lib.hid hDI.out.below
      clear hDI hGl
      go_wp2_with fail
      refine htr.mono ?_
      rintro e w2 ⟨v', rfl, hn2, hb2⟩
      have HOUT : Hid (∃ v2, Ending.returned (.tuple #[v', .int .u32 (r0 : Int)]) = .returned (.tuple #[v2, .int .u32 ((valW l % d : Nat) : Int)]) ∧ New32 w.heap.size w2 v2 (trimW (quoW d l)) ∧ Below w.heap.size w w2) := ⟨v', by rw [hR.out]; rfl, hn2, HB.out.trans (hb2.mono HB.out.size)⟩
      clear htr hn2 hb2
      go_wp2_with fail
      exact bodyPost_ret (v := .tuple #[v', .int .u32 (r0 : Int)]) (by simp [results, Try.results94, go_sem]) rfl HOUT.out
    · obtain ⟨j, rfl⟩ : ∃ j, k = j + 1 := ⟨k - 1, by omega⟩
      obtain ⟨b, o, rfl, hlt, hcc⟩ := HX.out (by rw [← HN.out]; omega)
      obtain ⟨x, hxj⟩ : ∃ x, l[j]? = some x := ⟨l[j]'(by rw [← HN.out]; omega), List.getElem?_eq_getElem _⟩
      have hx32 := HOK.out x (List.mem_of_getElem? hxj)
      have hcell : wr.cell? ⟨b, o + j, none⟩ = some (.int .u32 (x : Int)) := (hDI.out.below.cell (p := ⟨b, o + j, none⟩) hlt).trans (hcc j x hxj)
      have hor := or_word (r := r0) (x := x) (by omega) hx32
      have hDI2 := hDI.out.step hxj
      have hrem := rem_at (d := d) hxj
      rw [← hR.out] at hDI2 hrem
      obtain ⟨T, hT⟩ : ∃ T, T = r0 * 4294967296 + x := ⟨_, rfl⟩
      rw [← hT] at hor hDI2 hrem
      have hT64 : T < 18446744073709551616 := by omega
      have hTq : T / d < 4294967296 := by
        rw [Nat.div_lt_iff_lt_mul hd]
        have h3 : (r0 + 1) * 4294967296 ≤ d * 4294967296 := Nat.mul_le_mul_right _ hr0
        rw [Nat.mul_comm 4294967296 d]
        omega
      have hTm : T % d < d := Nat.mod_lt _ hd
      have hd0 : ¬ d = 0 := by omega
      obtain ⟨Q, hQ⟩ : ∃ Q, Q = T / d := ⟨_, rfl⟩
      obtain ⟨R2, hR2⟩ : ∃ R2, R2 = T % d := ⟨_, rfl⟩
      rw [← hQ] at hTq hDI2
      rw [← hR2] at hTm hrem
      have hq1 : (T : Int).tdiv (d : Int) = (Q : Int) := by rw [hQ]; exact Int.ofNat_tdiv T d
      have hq2 : (T : Int).tmod (d : Int) = (R2 : Int) := by rw [hR2]; exact Int.ofNat_tmod T d
      have hwx : IntKind.u64.wrap (x : Int) = (x : Int) := by rw [wrap_u64]; omega
      have hwq : IntKind.u64.wrap (Q : Int) = (Q : Int) := by rw [wrap_u64]; omega
      have hq3 : (Q : Int) % 4294967296 = (Q : Int) := by omega
      have hfz := free_of_heap hDI.out.blk j
      have hcG : ∃ u, wr.cell? ⟨G, j, none⟩ = some u := by
        rw [cell_of_heap hDI.out.blk]
        have hl1 := quoK_len (d := d) (l := l) (k := j + 1) (by rw [← HN.out]; exact hk)
        exact ⟨_, Array.getElem?_eq_getElem (by simp [arrW, hl1, ← HN.out]; omega)⟩
      obtain ⟨u, hcG⟩ := hcG
      have HDI2 := Lib.hid hDI2
      have HREM := Lib.hid hrem
      clear hcc hxj hlt hT hQ hR2 hDI2 hrem hR hDI hx32
      go_wp2_with fail
      go_roundw
      case rel => exact ⟨j, R2, by omega, rfl, rfl, hTm, HREM, HDI2.out⟩
      case measure => simp [intOf]
end Go.Proofs.Ytldpflijgbcbhaa.qb

/- quarterdaybig: twin, give, SetInt64, NewInt walked. -/
namespace Go.Proofs.Ytldpflijgbcbhaa.qb
open Go.RowKit

def wordV (x : Nat) : Value := .int .u32 (x : Int)
theorem wordV_one (l : List Nat) : ∀ u ∈ l.map wordV, u.oneCell' = true := by
  intro u hu
  obtain ⟨x, _, rfl⟩ := List.mem_map.1 hu
  rfl
theorem row_block' {w : World} {BASE n : Nat} {ty : TypeId} {sz : Nat} {v : Value} {xs : List Value} (h : w.ownsRow BASE ty sz v n xs) {g : Nat} (hg : v.ownBlock = some g) : BASE ≤ g ∧ g < w.heap.size := by
  rcases h.2 with ⟨rfl, _⟩ | ⟨g', cap, cur, rfl, h1, h2, _⟩
  · cases hg
  · have : g' = g := Option.some.inj hg
    subst this
    exact ⟨h1, lt_of_heap h2⟩
theorem row_w32 {w : World} {BASE n : Nat} {v : Value} {l : List Nat} (h : w.ownsRow BASE 146 1 v n (l.map wordV)) (hn : n = l.length) : W32 w v l := by
  subst hn
  rcases h.2 with ⟨rfl, h0⟩ | ⟨g, cap, cur, rfl, hg, hh, hc, _, _, ht⟩
  · have : l = [] := List.length_eq_zero_iff.1 h0
    subst this
    exact W32.nil w
  · refine ⟨some ⟨g, 0, none⟩, cap, rfl, hc, fun _ => ⟨g, 0, rfl, lt_of_heap hh, fun j x hj => ?_⟩⟩
    have hjl := (List.getElem?_eq_some_iff.1 hj).1
    rw [cell_of_heap hh, Nat.zero_add]
    have : (cur.toList.take (l.length * 1))[j]? = some (wordV x) := by rw [ht, List.getElem?_map, hj]; rfl
    rw [List.getElem?_take_of_lt (by omega), Array.getElem?_toList] at this
    exact this
theorem run_append_words {w : World} {base : Nat} {v : Value} {n : Nat} {xs : List Value} (hown : w.ownsRow base 146 1 v n xs) {vx : Value} {l : List Nat} (hl : W32 w vx l) (hn : n + l.length ≤ 4000000) (hbase : base ≤ w.heap.size) :
    ∀ ty, ∃ v' w', (Builtin.append_ #[142, 142] ty #[v, vx]).run Try.prog w = .ok v' w' ∧ w'.ownsRow base 146 1 v' (n + l.length) (xs ++ l.map wordV) ∧ w.grownBy w' v.ownBlock ∧ (v'.ownBlock = v.ownBlock ∨ v'.ownBlock = some w.heap.size) := by
  intro ty
  obtain ⟨i0, hi0, hz0, hz1, hz2⟩ := info_parts infoU32
  obtain ⟨so, sc, rfl, _, hc⟩ := hl
  have some_case : ∀ ad : Addr, (∀ j u, (l.map wordV)[j]? = some u → w.cell? (ad.add j) = some u) → ∃ v' w', (Builtin.append_ #[142, 142] ty #[v, .slice (some ad) l.length sc]).run Try.prog w = .ok v' w' ∧ w'.ownsRow base 146 1 v' (n + l.length) (xs ++ l.map wordV) ∧ w.grownBy w' v.ownBlock ∧ (v'.ownBlock = v.ownBlock ∨ v'.ownBlock = some w.heap.size) := fun ad hc => by
    obtain ⟨v', w', hr, h2, h3, _, h5⟩ := run_append_own_at (P := Try.prog) w base 142 ty 146 i0 (.int .u32 0) 1 4 Try.underlying142 hi0 hz0 hz1 hz2 rfl (by decide) v n xs hown ad l.length sc (l.map wordV) (by simp) hc (wordV_one l) (by unfold maxLen; omega) (by omega) hbase
    exact ⟨v', w', hr, h2, h3, h5⟩
  rcases Nat.eq_zero_or_pos l.length with h0 | h0
  · obtain rfl := List.length_eq_zero_iff.1 h0
    cases so with
    | some ad => exact some_case ad (fun j u h => by simp at h)
    | none =>
      refine ⟨v, w, ?_, by simpa using hown, ⟨rfl, rfl, rfl, Nat.le_refl _, fun _ _ _ => rfl⟩, Or.inl rfl⟩
      rcases hown.2 with ⟨rfl, hn0⟩ | ⟨g, cap, cur, rfl, hg, hh, hcap, _⟩
      · simp [Builtin.append_, run_underlying Try.underlying142, sizeOf, typeInfo, hi0, Builtin.lenOf, Builtin.firstCells]
      · have := run_append_room_src (P := Try.prog) (w := w) 142 142 ty 146 i0 Try.underlying142 hi0 g 0 n cap _ 0 [] (Src.ofNil w Try.underlying142 sc) (by omega) (fun j hj => by cases hj) (fun j hj => by cases hj)
        simpa [World.setCells] using this
  · obtain ⟨b, o, rfl, _, hcc⟩ := hc h0
    exact some_case _ (fun j u hj => by
      rw [addr_add]
      rw [List.getElem?_map] at hj
      cases hx : l[j]? with
      | none => rw [hx] at hj; cases hj
      | some x => rw [hx] at hj; obtain rfl := Option.some.inj hj; exact hcc j x hx)
set_option maxRecDepth 100000 in
set_option maxHeartbeats 1000000 in
theorem twin_any (v : Value) (l : List Nat) (w : World) (h : W32 w v l) (hl : l.length ≤ 1000000) :
    Calls Try.prog 93 #[v] w fun e w' => ∃ v', e = .returned v' ∧ New32 w.heap.size w' v' l ∧ Below w.heap.size w w' := by
  obtain ⟨v', w', hr, hown, hgrow, _⟩ := run_append_words (World.ownsRow_nil w w.heap.size 146 1) h (by omega) (Nat.le_refl _) 142
  have hb : Below w.heap.size w w' := (Only.of_grown hgrow).below (Nat.le_refl _) (fun k hk => by cases hk)
  have HOUT : Hid (∃ v2, Ending.returned v' = .returned v2 ∧ New32 w.heap.size w' v2 l ∧ Below w.heap.size w w') := ⟨v', rfl, ⟨row_w32 (by simpa using hown) (by omega), fun g hg => (row_block' hown hg).1⟩, hb⟩
  obtain ⟨sp, c, rfl, _⟩ := h
  clear hown hgrow hb
  go_enter Try.func93, Try.ntmps93
  go_wp2_with (at_builtin; refine Lib.wpList_append_run _ rfl _ _ _ _ rfl _ _ rfl rfl _ _ hr ?_)
  go_ret
  exact HOUT.out

/-- a whole number in memory: a sign and words; all its blocks lie from n0 on -/
structure IntIs (n0 : Nat) (w : World) (q : Nat) (neg : Bool) (v : Value) (l : List Nat) : Prop where
  heap : w.heap[q]? = some (.cells #[.bool neg, v] 144 (0, 0))
  words : W32 w v l
  ok : okW l
  tight : tightW l
  sign : neg = true → l ≠ []
  ge : n0 ≤ q
  own : ∀ g, v.ownBlock = some g → n0 ≤ g ∧ g ≠ q
def valI (neg : Bool) (l : List Nat) : Int := if neg = true then -(valW l : Int) else (valW l : Int)
def IntAt (n0 : Nat) (w : World) (q : Nat) (z : Int) : Prop := ∃ neg v l, IntIs n0 w q neg v l ∧ z = valI neg l ∧ l.length ≤ 1000000
theorem IntAt.later {n0 : Nat} {w w' : World} {q : Nat} {z : Int} (h : IntAt n0 w q z) (hb : Below w.heap.size w w') : IntAt n0 w' q z := by
  obtain ⟨neg, v, l, h, hz⟩ := h
  exact ⟨neg, v, l, ⟨(hb.block q (lt_of_heap h.heap)).trans h.heap, h.words.later hb, h.ok, h.tight, h.sign, h.ge, h.own⟩, hz⟩

def posB (l : List Nat) : Bool := decide (0 < l.length)
set_option maxRecDepth 100000 in
set_option maxHeartbeats 2000000 in
theorem give_run (q : Nat) (neg neg0 : Bool) (sp : Option Addr) (v0 : Value) (n c : Nat) (w : World) (h : w.heap[q]? = some (.cells #[.bool neg0, v0] 144 (0, 0))) :
    Calls Try.prog 106 #[.pointer (some ⟨q, 0, none⟩), .bool neg, .slice sp n c] w fun e w' => e = .returned (.pointer (some ⟨q, 0, none⟩)) ∧ w' = (w.setCell ⟨q, 1, none⟩ (.slice sp n c)).setCell ⟨q, 0, none⟩ (.bool (neg && decide (0 < n))) := by
  have c0 := cell_of_heap h 0
  have c1 := cell_of_heap h 1
  have f0 := free_of_heap h 0
  have f1 := free_of_heap h 1
  have c0 : w.cell? ⟨q, 0, none⟩ = some (.bool neg0) := c0
  have c1 : w.cell? ⟨q, 1, none⟩ = some v0 := c1
  go_enter Try.func106, Try.ntmps106
  cases neg
  · go_wp2_with fail
    go_ret
    exact ⟨rfl, rfl⟩
  · go_wp2_with fail
    go_ret
    exact ⟨rfl, by simp⟩
theorem give_any (n0 q : Nat) (neg neg0 : Bool) (v v0 : Value) (l : List Nat) (w : World) (h : w.heap[q]? = some (.cells #[.bool neg0, v0] 144 (0, 0))) (hw : W32 w v l) (hok : okW l) (ht : tightW l) (hl : l.length ≤ 1000000) (hq : n0 ≤ q) (hv : ∀ g, v.ownBlock = some g → n0 ≤ g ∧ g ≠ q) :
    Calls Try.prog 106 #[.pointer (some ⟨q, 0, none⟩), .bool neg, v] w fun e w' => e = .returned (.pointer (some ⟨q, 0, none⟩)) ∧ IntAt n0 w' q (valI neg l) ∧ Only (fun k => k = q) w w' := by
  obtain ⟨sp, c, rfl, hc⟩ := id hw
  refine (give_run q neg neg0 sp v0 l.length c w h).mono ?_
  rintro e w' ⟨rfl, rfl⟩
  have ho : Only (fun k => k = q) w ((w.setCell ⟨q, 1, none⟩ (.slice sp l.length c)).setCell ⟨q, 0, none⟩ (.bool (neg && decide (0 < l.length)))) := ((Only.refl (fun k => k = q) w).setCell (p := ⟨q, 1, none⟩) (show q = q from rfl) _).setCell (p := ⟨q, 0, none⟩) (show q = q from rfl) _
  refine ⟨rfl, ⟨neg && decide (0 < l.length), .slice sp l.length c, l, ⟨?_, ?_, hok, ht, ?_, hq, hv⟩, ?_, hl⟩, ho⟩
  · rw [heap_setCell_same (heap_setCell_same h _) _]; rfl
  · exact hw.keep (fun g hg hgv => ho.block g hg (fun e => (hv g hgv).2 e)) ho.size
  · intro h0
    simp only [Bool.and_eq_true, decide_eq_true_eq] at h0
    intro e; subst e; exact absurd h0.2 (by simp)
  · unfold valI
    by_cases hl0 : 0 < l.length
    · simp [hl0]
    · have : l = [] := List.length_eq_zero_iff.1 (by omega)
      subst this
      simp [valW]
set_option maxRecDepth 100000 in
set_option maxHeartbeats 2000000 in
theorem setint_any (n0 q : Nat) (z : Int) (neg0 : Bool) (v0 : Value) (w : World) (h : w.heap[q]? = some (.cells #[.bool neg0, v0] 144 (0, 0))) (hq : n0 ≤ q) (h1 : -9223372036854775808 ≤ z) (h2 : z ≤ 9223372036854775807) :
    Calls Try.prog 92 #[.pointer (some ⟨q, 0, none⟩), .int .i64 z] w fun e w' => e = .returned (.pointer (some ⟨q, 0, none⟩)) ∧ IntAt n0 w' q z ∧ Only (fun k => k = q) w w' := by
  have hql := lt_of_heap h
  obtain ⟨m, hm⟩ : ∃ m, m = z.natAbs := ⟨_, rfl⟩
  have hm64 : m < 18446744073709551616 := by omega
  have hcall := words_any m w hm64
  have HV : Hid (valW (trimW [m % 4294967296, m / 4294967296]) = m) := by
    show _ = _
    rw [valW_trim]; simp only [valW]; omega
  have HOK : Hid (okW (trimW [m % 4294967296, m / 4294967296])) := okW_trim (fun x hx => by simp at hx; omega)
  have HT : Hid (tightW (trimW [m % 4294967296, m / 4294967296])) := tight_trim _
  have HLN : Hid ((trimW [m % 4294967296, m / 4294967296]).length ≤ 1000000) := by
    show _ ≤ _
    unfold trimW; rw [List.length_take]; simp; omega
  generalize trimW [m % 4294967296, m / 4294967296] = l at *
  have HH := Lib.hid h
  have HM := Lib.hid hm
  have hcall2 : ∀ (w2 : World) (v' : Value), New32 w.heap.size w2 v' l → Below w.heap.size w w2 → ∀ neg, Hid (valI neg l = z) → Calls Try.prog 106 #[.pointer (some ⟨q, 0, none⟩), .bool neg, v'] w2 fun e w' => e = .returned (.pointer (some ⟨q, 0, none⟩)) ∧ IntAt n0 w' q z ∧ Only (fun k => k = q) w w' := by
    intro w2 v' hn hb neg hz
    refine (give_any n0 q neg neg0 v' v0 l w2 ((hb.block q hql).trans HH.out) hn.1 HOK.out HT.out HLN.out hq (fun g hg => ⟨by have := hn.2 g hg; omega, by have := hn.2 g hg; omega⟩)).mono ?_
    rintro e w' ⟨rfl, h3, h4⟩
    rw [hz.out] at h3
    exact ⟨rfl, h3, (Only.of_below hb).trans h4 (fun _ _ h => h)⟩
  have HC2 := Lib.hid hcall2
  by_cases hz0 : z < 0
  · have hneg : (if z < 0 then IntKind.u64.wrap (-(IntKind.u64.wrap z)) else IntKind.u64.wrap z) = (m : Int) := by rw [if_pos hz0, wrap_u64, wrap_u64]; omega
    have HZ : Hid (valI true l = z) := by show _ = _; unfold valI; rw [if_pos rfl, HV.out]; omega
    have hd : decide (z < 0) = true := decide_eq_true hz0
    have hwz : IntKind.u64.wrap z = 18446744073709551616 - (m : Int) := by rw [wrap_u64]; omega
    have hwn : IntKind.u64.wrap (-(18446744073709551616 - (m : Int))) = (m : Int) := by rw [wrap_u64]; omega
    clear hcall2 hm HV HOK HT HLN hneg h
    go_enter Try.func92, Try.ntmps92
    go_wp2_with fail
    refine hcall.mono ?_
    rintro e w2 ⟨v', rfl, hn2, hb2⟩
    have hgive := HC2.out w2 v' hn2 hb2 true HZ
    obtain ⟨sp, c, rfl, _⟩ := hn2.1
    clear hcall hwz hwn hn2 hb2
    go_wp2_with fail
    refine hgive.mono ?_
    rintro e w3 ⟨rfl, h3, h4⟩
    have HOUT : Hid (IntAt n0 w3 q z ∧ Only (fun k => k = q) w w3) := ⟨h3, h4⟩
    clear hgive h3 h4
    go_wp2_with fail
    go_ret
    exact ⟨rfl, HOUT.out⟩
  · have HZ : Hid (valI false l = z) := by show _ = _; unfold valI; rw [if_neg (by simp), HV.out]; omega
    have hd : decide (z < 0) = false := decide_eq_false hz0
    have hwz : IntKind.u64.wrap z = (m : Int) := by rw [wrap_u64]; omega
    clear hcall2 hm HV HOK HT HLN h
    go_enter Try.func92, Try.ntmps92
    go_wp2_with fail
    refine hcall.mono ?_
    rintro e w2 ⟨v', rfl, hn2, hb2⟩
    have hgive := HC2.out w2 v' hn2 hb2 false HZ
    obtain ⟨sp, c, rfl, _⟩ := hn2.1
    clear hcall hwz hn2 hb2
    go_wp2_with fail
    refine hgive.mono ?_
    rintro e w3 ⟨rfl, h3, h4⟩
    have HOUT : Hid (IntAt n0 w3 q z ∧ Only (fun k => k = q) w w3) := ⟨h3, h4⟩
    clear hgive h3 h4
    go_wp2_with fail
    go_ret
    exact ⟨rfl, HOUT.out⟩
theorem infoInt : (Try.prog.info? 144).map (fun i => (i.zero, i.size, i.bytes)) = some (some (.agg #[.bool false, .slice none 0 0]), 2, 32) := by kernel_rfl
set_option maxHeartbeats 1000000 in
theorem newint_any (z : Int) (w : World) (h1 : -9223372036854775808 ≤ z) (h2 : z ≤ 9223372036854775807) :
    Calls Try.prog 85 #[.int .i64 z] w fun e w' => e = .returned (.pointer (some ⟨w.heap.size, 0, none⟩)) ∧ IntAt w.heap.size w' w.heap.size z ∧ Below w.heap.size w w' := by
  have hb : ∀ w1, w1 = w.alloc (.cells #[.bool false, .slice none 0 0] 144) → Calls Try.prog 92 #[.pointer (some ⟨w.heap.size, 0, none⟩), .int .i64 z] w1 fun e w' => e = .returned (.pointer (some ⟨w.heap.size, 0, none⟩)) ∧ IntAt w.heap.size w' w.heap.size z ∧ Below w.heap.size w w' := by
    rintro w1 rfl
    refine (setint_any w.heap.size w.heap.size z false (.slice none 0 0) _ (heap_new_at rfl _) (Nat.le_refl _) h1 h2).mono ?_
    rintro e w' ⟨rfl, h3, h4⟩
    have ha : Below w.heap.size w (w.alloc (.cells #[.bool false, .slice none 0 0] 144)) := (Below.refl _ _).alloc (Nat.le_refl _) _
    exact ⟨rfl, h3, ha.trans (h4.below ha.size (fun k hk => by omega))⟩
  have hcall := hb _ rfl
  clear hb
  go_enter Try.func85, Try.ntmps85
  go_wp2_with fail
  refine hcall.mono ?_
  rintro e w3 ⟨rfl, h3, h4⟩
  have HOUT : Hid (IntAt w.heap.size w3 w.heap.size z ∧ Below w.heap.size w w3) := ⟨h3, h4⟩
  clear hcall h3 h4
  go_wp2_with fail
  go_ret
  exact ⟨rfl, HOUT.out⟩
end Go.Proofs.Ytldpflijgbcbhaa.qb
