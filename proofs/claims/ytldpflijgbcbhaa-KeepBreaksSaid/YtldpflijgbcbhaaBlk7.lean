/- A new disk. -/
import Derived.Test.YtldpflijgbcbhaaBlk6e
import Derived.Deep.RegionLaw
import Derived.Deep.AppendLies
namespace Go.Proofs.Ytldpflijgbcbhaa
open Go.RowKit

def DiskM.new (n : Nat) : DiskM := { now := List.replicate n (some zeros64), safe := List.replicate n (some zeros64), since := [], steps := 0, stop := -1 }

set_option maxHeartbeats 1000000 in
theorem new_range (n : Int) (w : World) (hn : n < 1 ∨ 200 < n) :
    Calls Try.prog 18 #[.int .i64 n] w fun e w' => e = .returned (.tuple #[.pointer none, errV 1]) ∧ w = w' := by
  rcases hn with hn | hn
  · go_enter Try.func18, Try.ntmps18
    go_wp2_with fail
    go_ret2
    exact ⟨rfl, rfl⟩
  · have h1 : ¬ n < 1 := by omega
    go_enter Try.func18, Try.ntmps18
    go_wp2_with fail
    go_ret2
    exact ⟨rfl, rfl⟩

structure NewRel (w : World) (d k : Nat) (na : Option Addr) (nc : Nat) (ns : List Value) (wr : World) : Prop where
  own : Own wr d (.slice na k nc) (.slice none 0 0) (.slice none 0 0) 0 (-1)
  row : wr.ownsRow (d + 1) 23 1 (.slice na k nc) k ns
  blk : ∀ (i : Nat), i < k → ∃ x, ns[i]? = some x ∧ BlkAt wr (fun g => d < g ∧ g < wr.heap.size) x (some zeros64)
  below : Below d w wr

/-- what a round does -/
theorem new_step {w wr w1 : World} {d k : Nat} {na : Option Addr} {nc g cap : Nat} {ns : List Value} (h : NewRel w d k na nc ns wr)
    (hown1 : w1.ownsRow (d + 1) 23 1 (.slice (some ⟨g, 0, none⟩) (k + 1) cap) (k + 1) (ns ++ [.slice (some ⟨wr.heap.size, 0, none⟩) 64 64]))
    (hgrow : (((wr.alloc (.cells (bytesArr zeros64) 5)).alloc (.cells #[.slice (some ⟨wr.heap.size, 0, none⟩) 64 64] 23)).drew).grownBy w1 (Value.slice na k nc).ownBlock) :
    NewRel w d (k + 1) (some ⟨g, 0, none⟩) cap (ns ++ [.slice (some ⟨wr.heap.size, 0, none⟩) 64 64]) (w1.setCell ⟨d, 0, none⟩ (.slice (some ⟨g, 0, none⟩) (k + 1) cap)) ∧
      w1.cell? ⟨d, 0, none⟩ = some (.slice na k nc) ∧ w1.frozen? ⟨d, 0, none⟩ = false := by
  have hd : d < wr.heap.size := lt_of_heap h.own.heap
  have hrow : ∀ b, (Value.slice na k nc).ownBlock = some b → d + 1 ≤ b ∧ ∃ cur, wr.heap[b]? = some (.cells cur 23 (0, 0)) := fun b hb => by
    obtain ⟨_, h2⟩ := h.row
    rcases h2 with ⟨h2, _⟩ | ⟨g2, _, cur, hv2, hg2, hh2, _⟩
    · rw [h2] at hb; simp [Value.ownBlock] at hb
    · rw [hv2] at hb
      simp only [Value.ownBlock, Option.some.injEq] at hb
      subst hb
      exact ⟨hg2, cur, hh2⟩
  have hsz : wr.heap.size + 2 ≤ w1.heap.size := by have := hgrow.size; simpa using this
  have hk : ∀ b, b < wr.heap.size → (Value.slice na k nc).ownBlock ≠ some b → w1.heap[b]? = wr.heap[b]? := fun b hb hn => by
    rw [hgrow.block b (by simp; omega) (fun e => hn e.symm)]
    show ((wr.alloc _).alloc _).heap[b]? = _
    rw [Below.heap_alloc _ _ _ (by simp; omega), Below.heap_alloc _ _ _ hb]
  have hd1 : w1.heap[d]? = wr.heap[d]? := hk d hd (fun e => by have := (hrow d e).1; omega)
  have ho1 : Own w1 d (.slice na k nc) (.slice none 0 0) (.slice none 0 0) 0 (-1) := ⟨by rw [hd1]; exact h.own.heap⟩
  have hz : w1.heap[wr.heap.size]? = some (.cells (bytesArr zeros64) 5 (0, 0)) := by
    rw [hgrow.block _ (by simp; omega) (fun e => by
      obtain ⟨_, cur, hc⟩ := hrow _ e.symm
      have := lt_of_heap hc; omega)]
    show ((wr.alloc _).alloc _).heap[wr.heap.size]? = _
    rw [Below.heap_alloc _ _ _ (by simp)]
    exact heap_alloc_at rfl _
  have hkd : ∀ b, b ≠ d → (w1.setCell ⟨d, 0, none⟩ (.slice (some ⟨g, 0, none⟩) (k + 1) cap)).heap[b]? = w1.heap[b]? := fun b hb => setCell_heap_ne hb
  have hss : (w1.setCell ⟨d, 0, none⟩ (.slice (some ⟨g, 0, none⟩) (k + 1) cap)).heap.size = w1.heap.size := by simp
  refine ⟨⟨ho1.set0 _, ownsRow_later hown1 (fun b hb => ?_), fun i hi => ?_, ?_⟩, ho1.c0, ho1.free 0⟩
  · simp only [Value.ownBlock, Option.some.injEq] at hb
    subst hb
    refine hkd _ ?_
    obtain ⟨_, h2⟩ := hown1
    rcases h2 with ⟨h2, _⟩ | ⟨g2, _, cur, hv2, hg2, _⟩
    · cases h2
    · injection hv2 with hv2 _ _
      injection hv2 with hv2
      injection hv2 with hv2 _ _
      omega
  · have hlen : ns.length = k := by have := h.row.1; omega
    by_cases hik : i < k
    · obtain ⟨x, hx, hb⟩ := h.blk i hik
      refine ⟨x, by rw [List.getElem?_append_left (by omega)]; exact hx, hb.later (fun b l hg hh => ?_) (fun b hb => ⟨hb.1, by rw [hss]; omega⟩)⟩
      rw [hkd b (by omega), hk b hg.2 (fun e => by
        obtain ⟨_, cur, hc⟩ := hrow _ e
        exact (type_ne hh hc (by decide)) rfl)]
    · have : i = k := by omega
      subst this
      refine ⟨_, by rw [List.getElem?_append_right (by omega), show i - ns.length = 0 by omega]; rfl, by simp [zeros64], wr.heap.size, rfl, ⟨hd, by rw [hss]; omega⟩, ?_⟩
      rw [hkd _ (by omega)]
      exact hz
  · refine Below.setCell ?_ (Nat.le_refl d) _
    refine ((((h.below.alloc (by omega) _).alloc (by simp; omega) _).drew).grown hgrow (by simp; omega) (fun b hb => ?_))
    have := (hrow b hb).1
    omega

theorem new_end {w wr w3 : World} {d n b nc g cap : Nat} {ns : List Value} (h : NewRel w d n (some ⟨b, 0, none⟩) nc ns wr) (h1 : 1 ≤ n) (h2 : n ≤ 200) (hown3 : w3.ownsRow 0 23 1 (.slice (some ⟨g, 0, none⟩) n cap) n ns) (hb3 : Below wr.heap.size wr w3) (hg : wr.heap.size ≤ g) :
    Below d w (w3.setCell ⟨d, 1, none⟩ (.slice (some ⟨g, 0, none⟩) n cap)) ∧
      DiskAt (w3.setCell ⟨d, 1, none⟩ (.slice (some ⟨g, 0, none⟩) n cap)) (fun k => d ≤ k ∧ k < (w3.setCell ⟨d, 1, none⟩ (.slice (some ⟨g, 0, none⟩) n cap)).heap.size) d (DiskM.new n) := by
  have hd : d < wr.heap.size := lt_of_heap h.own.heap
  have ho3 := h.own.later hb3
  have hkd : ∀ k, k ≠ d → (w3.setCell ⟨d, 1, none⟩ (.slice (some ⟨g, 0, none⟩) n cap)).heap[k]? = w3.heap[k]? := fun k hk => setCell_heap_ne hk
  have hss : (w3.setCell ⟨d, 1, none⟩ (.slice (some ⟨g, 0, none⟩) n cap)).heap.size = w3.heap.size := by simp
  have hsz := hb3.size
  have hbg : d + 1 ≤ b ∧ b < wr.heap.size := by
    obtain ⟨_, h3⟩ := h.row
    rcases h3 with ⟨_, h3⟩ | ⟨b', c, cur, hv, hb, hh, _⟩
    · omega
    · injection hv with hv _ _
      injection hv with hv
      injection hv with hv _ _
      rw [hv]; exact ⟨hb, lt_of_heap hh⟩
  have hg3 : g < w3.heap.size := by
    obtain ⟨g', c', hv, _, hlt, _⟩ := ownsRow_some hown3 (by omega)
    injection hv with hv _ _
    injection hv with hv
    injection hv with hv _ _
    rw [hv]; exact hlt
  refine ⟨(h.below.trans (hb3.mono (by omega))).setCell (Nat.le_refl d) _, b, nc, g, cap, .slice none 0 0, ns, ns, [], ?_⟩
  have e1 : (DiskM.new n).now.length = n := by simp [DiskM.new]
  have e2 : (DiskM.new n).safe.length = n := by simp [DiskM.new]
  have hblk : ∀ (i : Nat) (m : Option (List UInt8)), (List.replicate n (some zeros64))[i]? = some m → ∃ x, ns[i]? = some x ∧ BlkAt (w3.setCell ⟨d, 1, none⟩ (.slice (some ⟨g, 0, none⟩) n cap)) (fun k => (d ≤ k ∧ k < (w3.setCell ⟨d, 1, none⟩ (.slice (some ⟨g, 0, none⟩) n cap)).heap.size) ∧ k ≠ d) x m := by
    intro i m hm
    rw [List.getElem?_replicate] at hm
    split at hm
    · rename_i hi
      injection hm with hm
      subst hm
      obtain ⟨x, hx, hb⟩ := h.blk i hi
      refine ⟨x, hx, hb.later (fun k l hk hh => ?_) (fun k hk => ⟨⟨by omega, by rw [hss]; omega⟩, by omega⟩)⟩
      rw [hkd k (by omega), hb3.block k hk.2]
    · cases hm
  refine ⟨?_, ⟨Nat.le_refl _, by rw [hss]; omega⟩, ⟨?_, ⟨by omega, by rw [hss]; omega⟩, by omega, hblk⟩, ⟨?_, ⟨by omega, by rw [hss]; omega⟩, by omega, hblk⟩, ⟨World.ownsRow_nil _ _ _ _, (fun k hk => by simp [Value.ownBlock] at hk), (fun i p hp => by simp [DiskM.new] at hp)⟩, by rw [e1, e2], by omega, by rw [e1]; omega, by rw [e1]; omega, (fun k hk => hk.2), by simp [DiskM.new]⟩
  · rw [e1, e2]; exact (ho3.set1 _).heap
  · rw [e1]
    exact ownsRow_later (ownsRow_base h.row 0) (fun k hk => by
      simp only [Value.ownBlock, Option.some.injEq] at hk
      subst hk
      rw [hkd _ (by omega), hb3.block _ hbg.2])
  · rw [e2]
    exact ownsRow_later hown3 (fun k hk => by
      simp only [Value.ownBlock, Option.some.injEq] at hk
      subst hk
      exact hkd _ (by omega))

set_option maxRecDepth 100000 in
set_option maxHeartbeats 4000000 in
theorem new_ok (n : Nat) (w : World) (h1 : 1 ≤ n) (h2 : n ≤ 200) :
    Calls Try.prog 18 #[.int .i64 n] w fun e w' => e = .returned (.tuple #[.pointer (some ⟨w.heap.size, 0, none⟩), .nilIface]) ∧ Below w.heap.size w w' ∧ DiskAt w' (fun k => w.heap.size ≤ k ∧ k < w'.heap.size) w.heap.size (DiskM.new n) := by
  have hd1 : decide ((200 : Int) < (n : Int)) = false := decide_eq_false (by omega)
  have hd0 : decide ((n : Int) < 1) = false := decide_eq_false (by omega)
  obtain ⟨d, hd⟩ : ∃ d, d = w.heap.size := ⟨_, rfl⟩
  have hst : NewRel w d 0 none 0 [] (w.alloc (.cells #[.slice none 0 0, .slice none 0 0, .slice none 0 0, .int .i64 0, .int .i64 (-1)] 94)) :=
    ⟨⟨by rw [hd]; exact heap_alloc_at rfl _⟩, World.ownsRow_nil _ _ _ _, (fun i hi => by omega), by rw [hd]; exact (Below.refl _ _).alloc (Nat.le_refl _) _⟩
  go_enter Try.func18, Try.ntmps18
  go_wp2_with fail
  rw [← hd]
  have HD := Lib.hid hd
  clear hd
  go_loopw [15] (fun i wr => ∃ (k : Nat) (na : Option Addr) (nc : Nat) (ns : List Value), k ≤ n ∧ i = .int .i64 k ∧ NewRel w d k na nc ns wr) (fun i _ => n - (intOf i).toNat)
  case atStart => exact ⟨0, none, 0, [], Nat.zero_le _, rfl, hst⟩
  case round =>
    clear hst
    obtain ⟨k, na, nc, ns, hk, rfl, hR⟩ := hrel
    by_cases hlt : k < n
    · have hdl : d < wr.heap.size := lt_of_heap hR.own.heap
      have c0 := hR.own.c0
      have f0 := hR.own.free 0
      have hrow := hR.row
      have hdne : (Value.slice na k nc).ownBlock ≠ some d := fun e => by
        obtain ⟨_, h2⟩ := hrow
        rcases h2 with ⟨h2, _⟩ | ⟨g2, _, cur, hv2, hg2, _⟩
        · rw [h2] at e; simp [Value.ownBlock] at e
        · rw [hv2] at e; simp only [Value.ownBlock, Option.some.injEq] at e; omega
      obtain ⟨i0, hi0, hz0, hz1, hz2⟩ := info_parts infoSl
      have HI0 := Lib.hid hi0
      have HZ0 := Lib.hid hz0
      have HZ1 := Lib.hid hz1
      have HZ2 := Lib.hid hz2
      have hmk := mk64
      have HR := Lib.hid hR
      clear hi0 hz0 hz1 hz2 hR
      go_wp2_with fail
      go_region_law
        ((refine step_append_lies _ (by rfl) _ _ _ (by rfl) (d + 1) 23 i0 _ 1 24 Try.underlying56 HI0.out HZ0.out HZ1.out HZ2.out rfl (by omega) (.slice na k nc) k ns (by rfl) (((hrow.alloc _).alloc _).drew)
            ⟨wr.heap.size + 1, 0, none⟩ 1 1 [.slice (some ⟨wr.heap.size, 0, none⟩) 64 64] (by rfl) (by rfl) (World.news_of_block (cs := #[.slice (some ⟨wr.heap.size, 0, none⟩) 64 64]) (t := 23) (fr := (0, 0)) (by exact heap_alloc_at (by simp) _)) (by simp [Value.oneCell'])
            (by omega) (by unfold maxLen; omega) (by omega) (by simp; omega) (wr.heap.size + 1 + 1) (by simp) ?_; intro g cap w1 hown1 hgrow hat hlt1; have kf := (new_step HR.out hown1 hgrow).2.2; have kc := (new_step HR.out hown1 hgrow).2.1))
      all_goals
        have R := (new_step HR.out hown1 hgrow).1
        clear hown1 hgrow hat hlt1 kf kc hmk hrow hdne
        go_wp2_with fail
        go_roundw
        case rel => exact ⟨k + 1, some ⟨g, 0, none⟩, cap, _, by omega, by go_num, R⟩
        case measure => simp [intOf]; omega
    · have hkn : k = n := by omega
      subst hkn
      obtain ⟨_, h3⟩ := hR.row
      have hna : ∃ b, na = some ⟨b, 0, none⟩ ∧ d + 1 ≤ b ∧ b < wr.heap.size := by
        rcases h3 with ⟨_, h3⟩ | ⟨b, c, cur, hv, hb, hh, _⟩
        · omega
        · injection hv with hv _ _
          exact ⟨b, hv, hb, lt_of_heap hh⟩
      obtain ⟨b, rfl, hb1, hb2⟩ := hna
      have hone : ∀ v ∈ ns, v.oneCell' = true := by
        intro v hv
        obtain ⟨i, hi, rfl⟩ := List.getElem_of_mem hv
        have hl := hR.row.1
        obtain ⟨x, hx, _, g, hx2, _⟩ := hR.blk i (by omega)
        rw [List.getElem?_eq_getElem hi] at hx
        injection hx with hx
        rw [hx, hx2]; rfl
      have hcl := clone_rows b nc k ns wr (ownsRow_base hR.row 0) (by omega) (by omega) hone
      have c0 := hR.own.c0
      have HR := Lib.hid hR
      clear hR h3 hone
      go_wp2_with fail
      refine hcl.mono ?_
      rintro e w3 ⟨g, cap', rfl, hg, hown3, hb3⟩
      have ho3 := HR.out.own.later hb3
      have c1 := ho3.c1
      have f1 := ho3.free 1
      have hfin := new_end HR.out h1 h2 hown3 hb3 hg
      have HFIN := Lib.hid hfin
      clear hcl ho3 hown3 hb3 hfin c0
      go_wp2_with fail
      go_ret2
      have hd := HD.out
      subst hd
      exact ⟨rfl, HFIN.out⟩
end Go.Proofs.Ytldpflijgbcbhaa
