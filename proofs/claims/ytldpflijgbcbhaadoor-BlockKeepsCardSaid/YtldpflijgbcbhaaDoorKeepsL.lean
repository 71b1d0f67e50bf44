/- BlockKeeps: what the disk is at each step of the law, in plain terms. -/
import Derived.Test.YtldpflijgbcbhaaDoorDiskF
import Derived.Test.YtldpflijgbcbhaaDoorBytesOf
namespace Go.Proofs.YtldpflijgbcbhaaDoor
open Go.RowKit

/-- an error for bytes that are too many -/
def ecd (n : Nat) : Int := if 64 < n then 4 else 0
theorem wcode_free {M : DiskM} (h : M.stop = -1) {i : Int} (h0 : 0 ≤ i) (hi : i < (M.now.length : Int)) (n : Nat) : M.wcode i n = ecd n := by
  have hs : M.stopped = false := by simp [DiskM.stopped, h]
  unfold DiskM.wcode ecd
  rw [if_neg (by simp [hs]), if_neg (by omega)]
theorem wr_len (M : DiskM) (i : Int) (l : List UInt8) : (M.wr i l).now.length = M.now.length := by
  unfold DiskM.wr; split
  · simp [DiskM.write]
  · rfl
theorem wr_stop (M : DiskM) (i : Int) (l : List UInt8) : (M.wr i l).stop = M.stop := by
  unfold DiskM.wr; split
  · rfl
  · rfl
theorem wr_steps (M : DiskM) (i : Int) (l : List UInt8) : (M.wr i l).steps ≤ M.steps + 1 := by
  unfold DiskM.wr; split
  · exact Nat.le_refl _
  · omega
theorem wr_since (M : DiskM) (i : Int) (l : List UInt8) : (M.wr i l).since.length ≤ M.since.length + 1 := by
  unfold DiskM.wr; split
  · simp [DiskM.write]
  · omega
theorem wr_safe (M : DiskM) (i : Int) (l : List UInt8) : (M.wr i l).safe = M.safe := by
  unfold DiskM.wr; split
  · rfl
  · rfl
theorem wr_ok {M : DiskM} (h : M.stop = -1) {i : Nat} (hi : i < M.now.length) {l : List UInt8} (hl : l.length ≤ 64) : M.wr i l = M.write i l := by
  unfold DiskM.wr
  rw [wcode_free h (by omega) (by omega), if_pos (by unfold ecd; rw [if_neg (by omega)])]
  rfl
theorem fl_free {M : DiskM} (h : M.stop = -1) : M.fl = M.flush := by simp [DiskM.fl, DiskM.stopped, h]
theorem fcode_free {M : DiskM} (h : M.stop = -1) : M.fcode = 0 := by simp [DiskM.fcode, DiskM.stopped, h]

namespace keeps
def E0 : DiskM := DiskM.new 3
def E1 (x : List UInt8) : DiskM := E0.wr 0 x
def E2 (x y : List UInt8) : DiskM := (E1 x).wr 1 y
def E3 (x y : List UInt8) : DiskM := (E2 x y).flush
def E4 (x y z : List UInt8) : DiskM := (E3 x y).wr 1 z
def E5 (x y z : List UInt8) : DiskM := (E4 x y z).wr 2 x
def E6 (x y z : List UInt8) (keep : List Int) (torn : Int) : DiskM := (E5 x y z).crash keep torn

theorem p0 : E0.stop = -1 ∧ E0.now.length = 3 ∧ E0.steps = 0 ∧ E0.since.length = 0 := by simp [E0, DiskM.new]
theorem p1 (x : List UInt8) : (E1 x).stop = -1 ∧ (E1 x).now.length = 3 ∧ (E1 x).steps ≤ 1 ∧ (E1 x).since.length ≤ 1 := by
  obtain ⟨h1, h2, h3, h4⟩ := p0
  refine ⟨by rw [E1, wr_stop, h1], by rw [E1, wr_len, h2], ?_, ?_⟩
  · have := wr_steps E0 0 x; rw [E1]; omega
  · have := wr_since E0 0 x; rw [E1]; omega
theorem p2 (x y : List UInt8) : (E2 x y).stop = -1 ∧ (E2 x y).now.length = 3 ∧ (E2 x y).steps ≤ 2 ∧ (E2 x y).since.length ≤ 2 := by
  obtain ⟨h1, h2, h3, h4⟩ := p1 x
  refine ⟨by rw [E2, wr_stop, h1], by rw [E2, wr_len, h2], ?_, ?_⟩
  · have := wr_steps (E1 x) 1 y; rw [E2]; omega
  · have := wr_since (E1 x) 1 y; rw [E2]; omega
theorem p3 (x y : List UInt8) : (E3 x y).stop = -1 ∧ (E3 x y).now.length = 3 ∧ (E3 x y).steps ≤ 3 ∧ (E3 x y).since.length ≤ 0 := by
  obtain ⟨h1, h2, h3, h4⟩ := p2 x y
  refine ⟨h1, h2, ?_, Nat.le_refl _⟩
  show (E2 x y).steps + 1 ≤ 3
  omega
theorem p4 (x y z : List UInt8) : (E4 x y z).stop = -1 ∧ (E4 x y z).now.length = 3 ∧ (E4 x y z).steps ≤ 4 ∧ (E4 x y z).since.length ≤ 1 := by
  obtain ⟨h1, h2, h3, h4⟩ := p3 x y
  refine ⟨by rw [E4, wr_stop, h1], by rw [E4, wr_len, h2], ?_, ?_⟩
  · have := wr_steps (E3 x y) 1 z; rw [E4]; omega
  · have := wr_since (E3 x y) 1 z; rw [E4]; omega
theorem p5 (x y z : List UInt8) : (E5 x y z).stop = -1 ∧ (E5 x y z).now.length = 3 ∧ (E5 x y z).steps ≤ 5 ∧ (E5 x y z).since.length ≤ 2 := by
  obtain ⟨h1, h2, h3, h4⟩ := p4 x y z
  refine ⟨by rw [E5, wr_stop, h1], by rw [E5, wr_len, h2], ?_, ?_⟩
  · have := wr_steps (E4 x y z) 2 x; rw [E5]; omega
  · have := wr_since (E4 x y z) 2 x; rw [E5]; omega

theorem e6_now (x y z : List UInt8) (keep : List Int) (torn : Int) (hx : x.length ≤ 64) (hy : y.length ≤ 64) (hz : z.length ≤ 64) :
    (E6 x y z keep torn).now[0]? = some (some (padTo x)) ∧
    (E6 x y z keep torn).now[1]? = some (if memB keep 0 = true then (if (0 : Int) = torn then none else some (padTo z)) else some (padTo y)) ∧
    (E6 x y z keep torn).steps = 0 := by
  have h1 : E1 x = E0.write 0 x := wr_ok (M := E0) (i := 0) p0.1 (by rw [p0.2.1]; decide) hx
  have h2 : E2 x y = (E1 x).write 1 y := wr_ok (M := E1 x) (i := 1) (p1 x).1 (by rw [(p1 x).2.1]; decide) hy
  have h4 : E4 x y z = (E3 x y).write 1 z := wr_ok (M := E3 x y) (i := 1) (p3 x y).1 (by rw [(p3 x y).2.1]; decide) hz
  have h5 : E5 x y z = (E4 x y z).write 2 x := wr_ok (M := E4 x y z) (i := 2) (p4 x y z).1 (by rw [(p4 x y z).2.1]; decide) hx
  have hs : (E5 x y z).since = [(1, padTo z), (2, padTo x)] := by rw [h5, h4]; rfl
  have hf : (E5 x y z).safe = [some (padTo x), some (padTo y), some zeros64] := by rw [h5, h4, E3, h2, h1]; rfl
  have hn : (E6 x y z keep torn).now = crashTo [(1, padTo z), (2, padTo x)] keep torn [some (padTo x), some (padTo y), some zeros64] 2 := by
    rw [E6, DiskM.crash, hs, hf]; rfl
  rw [hn]
  refine ⟨?_, ?_, rfl⟩
  · simp only [crashTo, List.getElem?_cons_zero, List.getElem?_cons_succ]
    split <;> split <;> simp
  · simp only [crashTo, List.getElem?_cons_zero, List.getElem?_cons_succ]
    by_cases hm : memB keep 0 = true
    · have hm' : memB keep ((0 : Nat) : Int) = true := hm
      rw [if_pos hm, if_pos hm']
      split <;> simp
    · have hm' : ¬ memB keep ((0 : Nat) : Int) = true := hm
      rw [if_neg hm, if_neg hm']
      split <;> simp

/-- what is so behind each call: the disk, the three slices of bytes -/
structure KS (w : World) (F : Nat → Prop) (vx vy vz : Value) (x y z : List UInt8) (M : DiskM) (wi : World) : Prop where
  below : Below w.heap.size w wi
  disk : DiskF w.heap.size F wi w.heap.size M
  bx : BytesW wi vx x
  hx : ∀ b, vx.ownBlock = some b → F b
  by_ : BytesW wi vy y
  hy : ∀ b, vy.ownBlock = some b → F b
  bz : BytesW wi vz z
  hz : ∀ b, vz.ownBlock = some b → F b
theorem KS.step {w : World} {F : Nat → Prop} {vx vy vz : Value} {x y z : List UInt8} {M M' : DiskM} {wi wj : World} (h : KS w F vx vy vz x y z M wi) (hs : Stays w.heap.size F wi wj) (hd : DiskF w.heap.size F wj w.heap.size M') : KS w F vx vy vz x y z M' wj :=
  ⟨h.below.trans hs.below, hd, h.bx.stays hs (fun _ b e => Or.inr (h.hx b e)), h.hx, h.by_.stays hs (fun _ b e => Or.inr (h.hy b e)), h.hy, h.bz.stays hs (fun _ b e => Or.inr (h.hz b e)), h.hz⟩
theorem KS.later {w : World} {F : Nat → Prop} {vx vy vz : Value} {x y z : List UInt8} {M : DiskM} {wi wj : World} (h : KS w F vx vy vz x y z M wi) (hb : Below wi.heap.size wi wj) : KS w F vx vy vz x y z M wj :=
  h.step (Stays.of_below hb h.below.size h.disk.lt.2) (h.disk.later hb)
theorem bw_of_row {w : World} {base : Nat} {v : Value} {l : List UInt8} (h : w.ownsRow base 5 1 v l.length (l.map byteV)) : BytesW w v l ∧ ∀ b, v.ownBlock = some b → base ≤ b ∧ b < w.heap.size := by
  refine ⟨(BytesIn.of_row h).toW, fun b hb => ?_⟩
  rcases h.2 with ⟨hv, _⟩ | ⟨g, cap, cur, hv, hg, hh, _⟩
  · rw [hv] at hb; simp [Value.ownBlock] at hb
  · rw [hv] at hb
    simp only [Value.ownBlock, Option.some.injEq] at hb
    subst hb
    exact ⟨hg, lt_of_heap hh⟩
theorem KS.start {w w1 w2 w3 w4 : World} {vx vy vz : Value} {x y z : List UInt8} {M : DiskM} (h1 : Below w.heap.size w w1) (hd : DiskF w.heap.size (fun _ => False) w1 w.heap.size M)
    (rx : w2.ownsRow w1.heap.size 5 1 vx x.length (x.map byteV)) (b2 : Below w1.heap.size w1 w2) (ry : w3.ownsRow w2.heap.size 5 1 vy y.length (y.map byteV)) (b3 : Below w2.heap.size w2 w3)
    (rz : w4.ownsRow w3.heap.size 5 1 vz z.length (z.map byteV)) (b4 : Below w3.heap.size w3 w4) : KS w (fun k => w1.heap.size ≤ k ∧ k < w4.heap.size) vx vy vz x y z M w4 := by
  obtain ⟨x1, x2⟩ := bw_of_row rx
  obtain ⟨y1, y2⟩ := bw_of_row ry
  obtain ⟨z1, z2⟩ := bw_of_row rz
  have s2 := b2.size
  have s3 := b3.size
  have s4 := b4.size
  have b14 : Below w1.heap.size w1 w4 := (b2.trans (b3.mono s2)).trans (b4.mono (by omega))
  have b24 : Below w2.heap.size w2 w4 := b3.trans (b4.mono s3)
  exact ⟨h1.trans (b14.mono h1.size), hd.more b14 _ (fun k hk => Or.inr hk), x1.below b24 (fun _ b e => (x2 b e).2), fun b e => ⟨(x2 b e).1, by have := (x2 b e).2; omega⟩,
    y1.below b4 (fun _ b e => (y2 b e).2), fun b e => ⟨by have := (y2 b e).1; omega, by have := (y2 b e).2; omega⟩, z1, fun b e => ⟨by have := (z2 b e).1; omega, (z2 b e).2⟩⟩
theorem mem_none (zs : List Int) : memB (zs.take 0) 0 = false := by simp [memB]
theorem mem_more {zs : List Int} {k : Nat} (h : k < zs.length) : memB (zs.take (k + 1)) 0 = (memB (zs.take k) 0 || (zs.getD k 0 == 0)) := by
  unfold memB
  rw [List.take_succ_eq_append_getElem h, Bool.eq_iff_iff]
  have e : zs.getD k 0 = zs[k] := by simp [List.getD, h]
  rw [e]
  simp only [List.contains_eq_mem, decide_eq_true_eq, List.mem_append, List.mem_singleton, Bool.or_eq_true, beq_iff_eq]
  exact or_congr Iff.rfl ⟨Eq.symm, Eq.symm⟩
theorem errV_ecd_small {n : Nat} (h : n ≤ 64) : errV (ecd n) = .nilIface := by rw [ecd, if_neg (by omega), errV_zero]
theorem errV_ecd_big {n : Nat} (h : 64 < n) : errV (ecd n) = .iface 102 (.int .i64 4) := by rw [ecd, if_pos h, errV_some (by decide)]
end keeps
end Go.Proofs.YtldpflijgbcbhaaDoor
