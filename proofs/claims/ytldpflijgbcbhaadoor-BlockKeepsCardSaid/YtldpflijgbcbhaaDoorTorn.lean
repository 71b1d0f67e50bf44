/- BlockTorn: the walk up to its last statement. -/
import Derived.Test.YtldpflijgbcbhaaDoorDisk
import Derived.Test.YtldpflijgbcbhaaDoorTold
namespace Go.Proofs.YtldpflijgbcbhaaDoor.torn
open Go.RowKit

/-- the disk in the law: new; written at n; crashed: torn there; crashed again; written again -/
def D0 : DiskM := DiskM.new 4
def D1 (n : Nat) (b : List UInt8) : DiskM := D0.write n b
def D2 (n : Nat) (b : List UInt8) : DiskM := (D1 n b).crash [0] 0
def D3 (n : Nat) (b : List UInt8) : DiskM := (D2 n b).crash [0, 1] 5
def D4 (n : Nat) (b c : List UInt8) : DiskM := (D3 n b).write n c

theorem D0_code (n : Nat) (h : n < 4) (l : List UInt8) (hl : l.length ≤ 64) : D0.wcode n l.length = 0 ∧ D0.wr n l = D1 n l := by
  have e : D0.wcode n l.length = 0 := by
    rw [DiskM.wcode, if_neg (by simp [D0, DiskM.new, DiskM.stopped]), if_neg (by simp [D0, DiskM.new]; omega), if_neg (by omega)]
  exact ⟨e, by rw [DiskM.wr, e, if_pos rfl]; rfl⟩
theorem D2_now (n : Nat) (b : List UInt8) : (D2 n b).now = (List.replicate 4 (some zeros64)).set n none ∧ (D2 n b).safe = (List.replicate 4 (some zeros64)).set n none ∧ (D2 n b).since = [] ∧ (D2 n b).steps = 0 ∧ (D2 n b).stop = -1 := by
  refine ⟨?_, ?_, rfl, rfl, rfl⟩ <;> simp [D2, D1, D0, DiskM.crash, DiskM.write, DiskM.new, crashTo, memB]
theorem D3_eq (n : Nat) (b : List UInt8) : D3 n b = D2 n b := by
  obtain ⟨h1, h2, h3, h4, h5⟩ := D2_now n b
  unfold D3 DiskM.crash
  rw [h3]
  simp only [List.length_nil, crashTo]
  cases hd : D2 n b with
  | mk a1 a2 a3 a4 a5 =>
    rw [hd] at h1 h2 h3 h4 h5
    dsimp only at h1 h2 h3 h4 h5
    subst h1 h2 h3 h4 h5
    rfl
theorem D3_code (n : Nat) (h : n < 4) (b l : List UInt8) (hl : l.length ≤ 64) : (D3 n b).wcode n l.length = 0 ∧ (D3 n b).wr n l = D4 n b l := by
  have e : (D3 n b).wcode n l.length = 0 := by
    rw [D3_eq]
    obtain ⟨h1, h2, h3, h4, h5⟩ := D2_now n b
    rw [DiskM.wcode, if_neg (by simp [DiskM.stopped, h4, h5]), if_neg (by rw [h1]; simp; omega), if_neg (by omega)]
  exact ⟨e, by rw [DiskM.wr, e, if_pos rfl]; rfl⟩
theorem D4_now (n : Nat) (h : n < 4) (b c : List UInt8) : (D4 n b c).now[n]? = some (some (padTo c)) := by
  have e : (D3 n b).now.length = 4 := by rw [D3_eq, (D2_now n b).1]; simp
  simp [D4, DiskM.write, List.getElem?_set, e, h]
theorem D2_at (n i : Nat) (hi : i < 4) (b : List UInt8) : (D2 n b).now[i]? = some (if i = n then none else some zeros64) := by
  rw [(D2_now n b).1, List.getElem?_set]
  by_cases e : n = i
  · subst e; simp [hi]
  · rw [if_neg e, if_neg (fun h => e h.symm)]
    match i, hi with
    | 0, _ | 1, _ | 2, _ | 3, _ => rfl

theorem diskB_alloc {B : Nat} {w : World} {d : Nat} {M : DiskM} (h : DiskB B w d M) (o : Obj) : DiskB B (w.alloc o) d M := h.later ((Below.refl _ _).alloc (Nat.le_refl _) o)
theorem ints1 (w : World) (a : Int) : IntsAt (w.alloc (.cells #[.int .i64 a] 3)) (some ⟨w.heap.size, 0, none⟩) [a] := by
  refine Or.inr ⟨w.heap.size, 0, rfl, fun i hi => ?_⟩
  rw [World.cell?_alloc_at _ _ _ _ rfl]
  match i, hi with
  | 0, _ => rfl
theorem ints2 (w : World) (a b : Int) : IntsAt (w.alloc (.cells #[.int .i64 a, .int .i64 b] 3)) (some ⟨w.heap.size, 0, none⟩) [a, b] := by
  refine Or.inr ⟨w.heap.size, 0, rfl, fun i hi => ?_⟩
  rw [World.cell?_alloc_at _ _ _ _ rfl]
  match i, hi with
  | 0, _ | 1, _ => rfl

/-- bytes as a text -/
theorem conv_in {w : World} {v : Value} {l : List UInt8} (h : BytesW w v l) (m : Nat) : (convert 22 9 v).run Tryd.prog (w.drewN m) = .ok (.string ⟨l.toArray⟩) (w.drewN m) := by
  obtain ⟨sp, cap, rfl, h⟩ := h
  rcases Nat.eq_zero_or_pos l.length with h0 | h0
  · obtain rfl := List.length_eq_zero_iff.1 h0
    cases sp with
    | none => exact run_convert_bytes_nil _ _ _ Tryd.underlying22 Tryd.underlying5 0 cap _ Tryd.underlying9
    | some a => exact run_convert_bytes_back (w.drewN m) _ _ _ a cap [] Tryd.underlying22 Tryd.underlying5 Tryd.underlying9 (fun j hj => by simp at hj)
  · obtain ⟨b, off, rfl, hlt, hx⟩ := h h0
    exact run_convert_bytes_back (w.drewN m) _ _ _ ⟨b, off, none⟩ cap l Tryd.underlying22 Tryd.underlying5 Tryd.underlying9 (fun j hj => by
      rw [addr_add]
      exact hx j (byteV l[j]) (by simp [hj]))
theorem row_take {w : World} {base g cg n : Nat} {l : List UInt8} (h : w.ownsRow base 5 1 (.slice (some ⟨g, 0, none⟩) n cg) n (l.map byteV)) {c : List UInt8} (hc : c <+: l) : BytesIn w (.slice (some ⟨g, 0, none⟩) c.length cg) c := by
  have hl : l.length = n := by have := h.1; rw [List.length_map] at this; omega
  have h' := BytesIn.of_row (l := l) (by rw [hl]; exact h)
  have hle := hc.length_le
  rcases h' with ⟨h', _⟩ | ⟨b, off, cap, hv, h3, h4, h5⟩
  · cases h'
  · injection hv with hv _ hcap
    injection hv with hv
    injection hv with e1 e2 _
    subst e1 e2 hcap
    refine Or.inr ⟨g, 0, cg, rfl, by omega, h4, fun j x hj => h5 j x ?_⟩
    obtain ⟨t, rfl⟩ := hc
    have := (List.getElem?_eq_some_iff.1 hj).1
    rw [List.getElem?_append_left this]
    exact hj

set_option maxRecDepth 100000 in
set_option maxHeartbeats 8000000 in
theorem walk_in (n : Nat) (v1 v2 : Value) (b c : List UInt8) (w : World) (hg : Door w) (hn : n < 4) (hb : b.length ≤ 64) (hc : c.length ≤ 64) (h1 : BytesW w v1 b) (h2 : BytesW w v2 c) :
    Calls Tryd.prog 5 #[.int .i64 n, v1, v2] w fun e w' => e = .returned (.bool true) ∧ Below w.heap.size w w' := by
  have hpos := hg.pos
  have hlt1 := fun h0 => h1.lt h0
  have hlt2 := fun h0 => h2.lt h0
  obtain ⟨s1, k1, e1, -⟩ := id h1
  obtain ⟨s2, k2, e2, -⟩ := id h2
  have hnew := new_b 4 w (by omega) (by omega)
  subst e1 e2
  have H1 := Lib.hid h1
  have H2 := Lib.hid h2
  have HL1 := Lib.hid hlt1
  have HL2 := Lib.hid hlt2
  have HG := Lib.hid hg
  have hn0 : decide ((n : Int) < 0) = false := decide_eq_false (by omega)
  have hn3 : decide ((3 : Int) < (n : Int)) = false := decide_eq_false (by omega)
  clear h1 h2 hlt1 hlt2 hg
  go_enter Tryd.func5, Tryd.ntmps5
  go_wp2_with fail
  refine hnew.mono ?_
  rintro e w1 ⟨rfl, hb1, hd1⟩
  obtain ⟨dc, dw⟩ := D0_code n hn b hb
  have hwr := write_any w.heap.size n (.slice s1 b.length k1) b w1 w.heap.size D0 hd1 (by decide) (by decide) (by omega) (H1.out.below hb1 HL1.out) HL1.out
  rw [dc, dw, errV_zero] at hwr
  have hdn1 : decide ((64 : Int) < (b.length : Int)) = false := decide_eq_false (by omega)
  have hdn2 : decide ((64 : Int) < (c.length : Int)) = false := decide_eq_false (by omega)
  clear hnew hd1 dc dw
  go_wp2_with fail
  refine hwr.mono ?_
  rintro e w2 ⟨rfl, hb2, hd2⟩
  clear hwr
  go_wp2_with fail
  have hbl2 : Below w.heap.size w w2 := hb1.trans hb2
  have hsz2 := hbl2.size
  have hcr := crash_b w.heap.size (some ⟨w2.heap.size, 0, none⟩) 1 [0] 0 _ w.heap.size (D1 n b) (diskB_alloc hd2 (.cells #[.int .i64 0] 3)) (ints1 w2 0) (by decide) (by simp [D1, D0, DiskM.write, DiskM.new])
  have hbl3 := hbl2.alloc hsz2 (.cells #[.int .i64 0] 3)
  refine hcr.mono ?_
  rintro e w3 ⟨rfl, hb3, hd3⟩
  have hbl4 := hbl3.trans hb3
  have hrd := read_any w.heap.size n none w3 w.heap.size (D2 n b) hd3 (by rw [D2_at n n hn]; simp)
  clear hcr hd2 hb1 hb2 hbl2 hbl3 hb3 hsz2
  go_wp2_with fail
  refine hrd.mono ?_
  rintro e w4 ⟨rfl, hb4⟩
  have hd4 := hd3.later hb4
  have hbl5 := hbl4.trans (hb4.mono hbl4.size)
  have her := error_any 9 9 w4 (HG.out.below hbl5 hpos)
  clear hrd hd3 hb4 hbl4
  go_wp2_with fail
  refine her.mono ?_
  rintro e w5 ⟨rfl, hb5⟩
  have hd5 := hd4.later hb5
  have hbl6 := hbl5.trans (hb5.mono hbl5.size)
  have h99 : ((9 : Int) == 9) = true := rfl
  rw [h99]
  clear her hd4 hb5 hbl5 h99
  go_wp2_with fail
  go_loopw [6, 13] (fun r i wr => ∃ k : Nat, k ≤ 4 ∧ r = .bool false ∧ i = .int .i64 k ∧ Below w.heap.size w wr ∧ DiskB w.heap.size wr w.heap.size (D2 n b)) (fun _ i _ => 4 - (intOf i).toNat)
  case atStart => exact ⟨0, by omega, rfl, rfl, hbl6, hd5⟩
  case round =>
    clear hbl6 hd5
    obtain ⟨k, hk, rfl, rfl, hbr, hdr⟩ := hrel
    by_cases hlt : k < 4
    · have hd4k : decide ((k : Int) < 4) = true := decide_eq_true (by omega)
      by_cases hkn : k = n
      · subst hkn
        have hrd := read_any w.heap.size k none wr w.heap.size (D2 k b) hdr (by rw [D2_at k k hlt]; simp)
        have hkk : ((k : Int) != (k : Int)) = false := by simp
        go_wp2_with fail
        refine hrd.mono ?_
        rintro e w6 ⟨rfl, hb6⟩
        have hdn := hdr.later hb6
        have hbn := hbr.trans (hb6.mono hbr.size)
        clear hrd hb6 hdr hbr
        go_wp2_with fail
        go_roundw
        case rel => exact ⟨k + 1, by omega, rfl, by go_num, hbn, hdn⟩
        case measure => simp [intOf]; omega
      · have hrd := read_any w.heap.size k (some zeros64) wr w.heap.size (D2 n b) hdr (by rw [D2_at n k hlt, if_neg hkn])
        have hkk : ((k : Int) != (n : Int)) = true := by simp; omega
        go_wp2_with fail
        refine hrd.mono ?_
        rintro e w6 ⟨⟨g, cg, rfl, _, _⟩, hb6⟩
        have hdn := hdr.later hb6
        have hbn := hbr.trans (hb6.mono hbr.size)
        clear hrd hb6 hdr hbr
        go_wp2_with fail
        go_roundw
        case rel => exact ⟨k + 1, by omega, rfl, by go_num, hbn, hdn⟩
        case measure => simp [intOf]; omega
    · obtain rfl : k = 4 := by omega
      have hcr := crash_b w.heap.size (some ⟨wr.heap.size, 0, none⟩) 2 [0, 1] 5 _ w.heap.size (D2 n b) (diskB_alloc hdr (.cells #[.int .i64 0, .int .i64 1] 3)) (ints2 wr 0 1) (by decide) (by rw [(D2_now n b).2.2.1]; decide)
      have hbr2 := hbr.alloc hbr.size (.cells #[.int .i64 0, .int .i64 1] 3)
      go_wp2_with fail
      refine hcr.mono ?_
      rintro e w7 ⟨rfl, hb7, hd7⟩
      have hbl7 := hbr2.trans hb7
      have hrd := read_any w.heap.size n none w7 w.heap.size (D3 n b) hd7 (by rw [D3_eq, D2_at n n hn]; simp)
      clear hcr hdr hbr hbr2 hb7
      go_wp2_with fail
      refine hrd.mono ?_
      rintro e w8 ⟨rfl, hb8⟩
      have hd8 := hd7.later hb8
      have hbl8 := hbl7.trans (hb8.mono hbl7.size)
      have her := error_any 9 9 w8 (HG.out.below hbl8 hpos)
      clear hrd hd7 hb8 hbl7
      go_wp2_with fail
      refine her.mono ?_
      rintro e w9 ⟨rfl, hb9⟩
      have hd9 := hd8.later hb9
      have hbl9 := hbl8.trans (hb9.mono hbl8.size)
      have h99 : ((9 : Int) == 9) = true := rfl
      rw [h99]
      obtain ⟨dc, dw⟩ := D3_code n hn b c hc
      have hst9 := D3_eq n b
      have hwr := write_any w.heap.size n (.slice s2 c.length k2) c w9 w.heap.size (D3 n b) hd9 (by rw [hst9, (D2_now n b).2.2.2.1]; decide) (by rw [hst9, (D2_now n b).2.2.1]; decide) (by omega) (H2.out.below hbl9 HL2.out) HL2.out
      rw [dc, dw, errV_zero] at hwr
      clear her hd8 hb9 hbl8 h99 hd9 dc dw hst9
      go_wp2_with fail
      refine hwr.mono ?_
      rintro e w10 ⟨rfl, hb10, hd10⟩
      have hbl10 := hbl9.trans hb10
      have hrd := read_any w.heap.size n (some (padTo c)) w10 w.heap.size (D4 n b c) hd10 (D4_now n (by omega) b c)
      clear hwr hd10 hb10 hbl9
      go_wp2_with fail
      refine hrd.mono ?_
      rintro e w11 ⟨⟨g, cg, rfl, hrow, hl64⟩, hb11⟩
      have hbl11 := hbl10.trans (hb11.mono hbl10.size)
      clear hrd
      have k1' := conv_in (row_take hrow (List.prefix_append c (List.replicate (64 - c.length) 0))).toW
      have k2' := conv_in (H2.out.below hbl11 HL2.out)
      have hcg : 64 ≤ cg := by
        obtain ⟨_, h2⟩ := hrow
        rcases h2 with ⟨h2, _⟩ | ⟨g', c', cur, hv, _, _, hc', _⟩
        · cases h2
        · injection hv with _ _ hv; subst hv; exact hc'
      have hc1 : (c.length : Int) ≤ (cg : Int) := by omega
      have hc0 : (0 : Int) ≤ (c.length : Int) := by omega
      clear hrow hb11 hbl10
      go_wp2_with fail
      go_quiet (fail)
      go_wp2_with fail
      go_ret
      exact ⟨rfl, below_drewN hbl11 _⟩
end Go.Proofs.YtldpflijgbcbhaaDoor.torn
