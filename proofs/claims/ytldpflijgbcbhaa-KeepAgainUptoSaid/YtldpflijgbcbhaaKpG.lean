/- keep.Load; daysame.Entries at what is the same; two disks in one world. -/
import Derived.Test.YtldpflijgbcbhaaKpE
namespace Go.Proofs.Ytldpflijgbcbhaa.lg
open Go.RowKit

set_option maxRecDepth 100000 in
set_option maxHeartbeats 1000000 in
theorem kload_any (B : Nat) (F : Nat → Prop) (w : World) (d : Nat) (M : DiskM) (es : List EntryM) (ep s : Nat) (h : DiskF B F w d M) (hk : Kept M (es.map EntryM.bytes) ep s) (hes : ∀ x ∈ es, x.ok ∧ x.bytes.length ≤ 200) (hm : es.length ≤ 1000) :
    Calls Try.prog 30 #[.pointer (some ⟨d, 0, none⟩)] w (fun e w' => ∃ ao cap n0, e = .returned (.tuple #[.slice ao es.length cap, .nilIface]) ∧ w.heap.size ≤ n0 ∧ Below w.heap.size w w' ∧ DiskF B (fun x => F x ∨ (n0 ≤ x ∧ x < w'.heap.size)) w' d M ∧ EntsQ w' (fun x => n0 ≤ x ∧ x < w'.heap.size) ao es) := by
  obtain ⟨hkr, hrec, _, hT⟩ := hk.opened
  have hop := kopen_any B F w d M es _ h hkr.len.1 hT rfl hrec hes hm
  obtain ⟨n, hn⟩ : ∃ n, n = es.length := ⟨_, rfl⟩
  rw [← hn] at hop ⊢
  clear h hk hes hkr hrec hT hn hm
  go_enter Try.func30, Try.ntmps30
  go_wp2_with fail
  refine hop.mono ?_
  rintro e w4 ⟨p, ao, cap, n0, rfl, hn0, hb4, hy4, he4⟩
  have HF : Hid (w.heap.size ≤ n0 ∧ Below w.heap.size w w4 ∧ DiskF B (fun x => F x ∨ (n0 ≤ x ∧ x < w4.heap.size)) w4 d M ∧ EntsQ w4 (fun x => n0 ≤ x ∧ x < w4.heap.size) ao es) := ⟨hn0, hb4, hy4.diskF, he4⟩
  clear hop hn0 hb4 hy4 he4
  go_wp2_with fail
  exact bodyPost_ret (v := .tuple #[.slice ao n cap, .nilIface]) (by simp [results, Try.results30, go_sem]) rfl ⟨ao, cap, n0, rfl, HF.out⟩
theorem EntsAt.take' {w : World} {ao : Option Addr} {t : List EntryM} (h : EntsAt w ao t) (k : Nat) : EntsAt w ao (t.take k) := by
  rcases h with h | ⟨b, off, e, hlt, hc⟩
  · exact Or.inl (by rw [h]; simp)
  · refine Or.inr ⟨b, off, e, hlt, fun i x hi => hc i x ?_⟩
    by_cases hik : i < k
    · rwa [List.getElem?_take_of_lt hik] at hi
    · rw [List.getElem?_take, if_neg hik] at hi; cases hi
set_option maxRecDepth 100000 in
set_option maxHeartbeats 2000000 in
theorem entries_same (es : List EntryM) (w : World) (a b : Option Addr) (ca cb : Nat) (ha : EntsAt w a es) (hb : EntsAt w b es) (hm : ∀ x ∈ es, x.lines.length ≤ 9223372036854775807) (hl : es.length ≤ 100000) :
    Calls Try.prog 31 #[.slice a es.length ca, .slice b es.length cb] w fun e w' => e = .returned (.bool true) ∧ Below w.heap.size w w' := by
  obtain ⟨n, hn⟩ : ∃ n, n = es.length := ⟨_, rfl⟩
  rw [← hn] at hl ⊢
  have HN := Lib.hid hn
  have HA := Lib.hid ha
  have HB := Lib.hid hb
  have HM := Lib.hid hm
  have hnn : ((n : Int) != (n : Int)) = false := by simp
  have HB0 : Hid (Below w.heap.size w w) := Below.refl _ _
  clear ha hb hm hn
  go_enter Try.func31, Try.ntmps31
  go_wp2_with fail
  go_loopw [5] (fun z wr => ∃ k : Nat, k ≤ n ∧ z = .int .i64 (k : Int) ∧ Hid (Below w.heap.size w wr)) (fun z _ => n - (intOf z).toNat)
  case atStart => exact ⟨0, Nat.zero_le _, rfl, HB0⟩
  case round =>
    clear HB0
    obtain ⟨k, hk, rfl, HBW⟩ := hrel
    by_cases hkn : k < n
    · obtain ⟨x, hx⟩ : ∃ x, es[k]? = some x := ⟨es[k]'(by rw [← HN.out]; exact hkn), List.getElem?_eq_getElem _⟩
      have hbd : Below w.heap.size w wr.drew := HBW.out.drew
      obtain ⟨b1, o1, la, lc, rfl, hb1, x0, x1, x2, x3, xl⟩ := ents_at (HA.out.below hbd (Nat.le_refl _)) hx
      obtain ⟨b2, o2, lb, ld, rfl, hb2, y0, y1, y2, y3, yl⟩ := ents_at (HB.out.below hbd (Nat.le_refl _)) hx
      have hsame := entry_same x wr.drew la lb lc ld xl yl (HM.out x (List.mem_of_getElem? hx))
      unfold entryV at hsame
      have HBD := Lib.hid hbd
      clear hb1 hb2 xl yl hx HBW hbd
      go_wp2_with fail
      go_region_law
        (first
          | (go_simp; go_at_call 14; refine hsame.mono ?_; rintro e w8 ⟨rfl, hb8⟩))
      all_goals
        have HB8 : Hid (Below w.heap.size w w8) := HBD.out.trans (hb8.mono HBD.out.size)
        clear hsame hb8 x0 x1 x2 x3 y0 y1 y2 y3
        go_wp2_with fail
        go_roundw
        case rel => exact ⟨k + 1, by omega, by go_num, HB8⟩
        case measure => simp [intOf]; omega
    · obtain rfl : k = n := by omega
      go_wp2_with fail
      go_ret
      exact ⟨rfl, HBW.out⟩
/-- two disks in one world, from block B on, beside others' blocks F -/
def Duo (B : Nat) (F : Nat → Prop) (w : World) (a : Nat) (Ma : DiskM) (b : Nat) (Mb : DiskM) : Prop := ∃ Sa Sb, DiskAt w Sa a Ma ∧ DiskAt w Sb b Mb ∧ (∀ x, Sa x → B ≤ x ∧ ¬ F x ∧ ¬ Sb x) ∧ (∀ x, Sb x → B ≤ x ∧ ¬ F x) ∧ B ≤ w.heap.size ∧ ∀ x, F x → x < w.heap.size
theorem Duo.swap {B : Nat} {F : Nat → Prop} {w : World} {a b : Nat} {Ma Mb : DiskM} (h : Duo B F w a Ma b Mb) : Duo B F w b Mb a Ma := by
  obtain ⟨Sa, Sb, h1, h2, h3, h4, h5, h6⟩ := h
  exact ⟨Sb, Sa, h2, h1, fun x hx => ⟨(h4 x hx).1, (h4 x hx).2, fun ha => (h3 x ha).2.2 hx⟩, fun x hx => ⟨(h3 x hx).1, (h3 x hx).2.1⟩, h5, h6⟩
theorem DiskAt.keep {w w' : World} {S : Nat → Prop} {d : Nat} {M : DiskM} (h : DiskAt w S d M) (hk : ∀ k, S k → w'.heap[k]? = w.heap[k]?) (hs : w.heap.size ≤ w'.heap.size) : DiskAt w' S d M := by
  obtain ⟨bn, cn, bs, cs, sv, ns, ss, xs, h⟩ := h
  exact ⟨bn, cn, bs, cs, sv, ns, ss, xs, h.later hk hs⟩
/-- a step of the first; new blocks N may be others' -/
theorem Duo.one {B : Nat} {F : Nat → Prop} {w : World} {a b : Nat} {Ma Mb : DiskM} (h : Duo B F w a Ma b Mb) : ∃ G, (∀ x, F x → G x) ∧ DiskF B G w a Ma ∧ (∀ w' Ma', Stays B G w w' → DiskF B G w' a Ma' → Duo B F w' a Ma' b Mb) ∧
    ∀ w' Ma' (N : Nat → Prop), Stays B G w w' → (∀ x, N x → w.heap.size ≤ x ∧ x < w'.heap.size) → DiskF B (fun x => G x ∨ N x) w' a Ma' → Duo B (fun x => F x ∨ N x) w' a Ma' b Mb := by
  obtain ⟨Sa, Sb, h1, h2, h3, h4, h5, h6⟩ := h
  have hdb := diskAt_dom h2
  refine ⟨fun x => F x ∨ Sb x, fun x hx => Or.inl hx, ⟨Sa, h1, fun x hx => ⟨(h3 x hx).1, fun hg => hg.elim (h3 x hx).2.1 (h3 x hx).2.2⟩, h5, fun x hx => hx.elim (h6 x) (hdb x)⟩, ?_, ?_⟩
  · rintro w' Ma' hs ⟨Sa', g1, g2, g3, g4⟩
    exact ⟨Sa', Sb, g1, DiskAt.keep h2 (fun k hk => hs.blk k (Or.inr hk)) hs.below.size, fun x hx => ⟨(g2 x hx).1, fun hf => (g2 x hx).2 (Or.inl hf), fun hb => (g2 x hx).2 (Or.inr hb)⟩, h4, g3, fun x hx => g4 x (Or.inl hx)⟩
  · rintro w' Ma' N hs hN ⟨Sa', g1, g2, g3, g4⟩
    exact ⟨Sa', Sb, g1, DiskAt.keep h2 (fun k hk => hs.blk k (Or.inr hk)) hs.below.size, fun x hx => ⟨(g2 x hx).1, fun hf => (g2 x hx).2 (hf.elim (fun h => Or.inl (Or.inl h)) Or.inr), fun hb => (g2 x hx).2 (Or.inl (Or.inr hb))⟩, fun x hx => ⟨(h4 x hx).1, fun hf => hf.elim (h4 x hx).2 (fun hn => by have := (hN x hn).1; have := hdb x hx; omega)⟩, g3, fun x hx => g4 x (hx.elim (fun h => Or.inl (Or.inl h)) Or.inr)⟩
/-- a second disk is made -/
theorem Duo.new {B : Nat} {w1 w2 : World} {a : Nat} {Ma Mb : DiskM} (h : DiskF B (fun _ => False) w1 a Ma) (hb : Below w1.heap.size w1 w2) (h2 : DiskF w1.heap.size (fun _ => False) w2 w1.heap.size Mb) : Duo B (fun _ => False) w2 a Ma w1.heap.size Mb := by
  obtain ⟨Sa, g1, g2, g3, g4⟩ := h
  obtain ⟨Sb, k1, k2, k3, k4⟩ := h2
  have hda := diskAt_dom g1
  exact ⟨Sa, Sb, g1.later hb, k1, fun x hx => ⟨(g2 x hx).1, fun h => h, fun hb' => by have := (k2 x hb').1; have := hda x hx; omega⟩, fun x hx => ⟨by have := (k2 x hx).1; omega, fun h => h⟩, Nat.le_trans g3 hb.size, fun x hx => hx.elim⟩
end Go.Proofs.Ytldpflijgbcbhaa.lg

/- KeepAgain walked. -/
namespace Go.Proofs.Ytldpflijgbcbhaa.lg
open Go.RowKit

theorem Duo.later {B : Nat} {F : Nat → Prop} {w w' : World} {a b : Nat} {Ma Mb : DiskM} (h : Duo B F w a Ma b Mb) (hb : Below w.heap.size w w') : Duo B F w' a Ma b Mb := by
  obtain ⟨Sa, Sb, h1, h2, h3, h4, h5, h6⟩ := h
  exact ⟨Sa, Sb, h1.later hb, h2.later hb, h3, h4, Nat.le_trans h5 hb.size, fun x hx => Nat.lt_of_lt_of_le (h6 x hx) hb.size⟩
theorem saveC_zero {old l : List EntryM} {R : Nat} (h : saveC old l R = 0) : saveL old l = 0 := by
  unfold saveC at h
  split at h
  · contradiction
  · split at h
    · assumption
    · assumption
theorem saveL_same : ∀ {es : List EntryM}, (∀ x ∈ es, x.ok ∧ x.bytes.length ≤ 200) → saveL es es = 0
  | [], _ => rfl
  | x :: es, h => by
      show (if chkE x = 0 then (if x.bytes = x.bytes then saveL es es else 5) else chkE x) = 0
      rw [if_pos (chkE_zero.2 (h x (by simp))), if_pos rfl]
      exact saveL_same (fun y hy => h y (by simp [hy]))
theorem saveL_nil : ∀ {es : List EntryM}, (∀ x ∈ es, x.ok ∧ x.bytes.length ≤ 200) → saveL [] es = 0
  | [], _ => rfl
  | x :: es, h => by
      show (if chkE x = 0 then saveL [] es else chkE x) = 0
      rw [if_pos (chkE_zero.2 (h x (by simp)))]
      exact saveL_nil (fun y hy => h y (by simp [hy]))
theorem saveC_same {es : List EntryM} (h : ∀ x ∈ es, x.ok ∧ x.bytes.length ≤ 200) (R : Nat) : saveC es es R = 0 := by
  unfold saveC
  rw [if_neg (by omega), saveL_same h, if_pos rfl, List.drop_length, if_neg (by show ¬ R < 0; omega)]
theorem saveC_new {es : List EntryM} (h : ∀ x ∈ es, x.ok ∧ x.bytes.length ≤ 200) {R : Nat} (hR : 202 * es.length ≤ R) : saveC [] es R = 0 := by
  unfold saveC
  have := need_le (fun x hx => (h x hx).2)
  rw [if_neg (by simp), saveL_nil h, if_pos rfl, if_neg (by show ¬ R < need es; omega)]
theorem new_free (n : Nat) : Free (DiskM.new n) ∧ (DiskM.new n).now.length = n ∧ (DiskM.new n).steps = 0 ∧ (DiskM.new n).since.length = 0 := ⟨rfl, by simp [DiskM.new], rfl, rfl⟩
/-- what is kept, on the first disk, after i saves -/
structure AgI (B : Nat) (w wr : World) (a b : Nat) (Mb : DiskM) (es : List EntryM) (ep s : Nat) (Ma : DiskM) : Prop where
  below : Below B w wr
  duo : Duo B (fun _ => False) wr a Ma b Mb
  kept : Kept Ma (es.map EntryM.bytes) ep s
  ok : ∀ x ∈ es, x.ok ∧ x.bytes.length ≤ 200
theorem AgI.later {B : Nat} {w wr wr' : World} {a b : Nat} {Mb : DiskM} {es : List EntryM} {ep s : Nat} {Ma : DiskM} (h : AgI B w wr a b Mb es ep s Ma) (hb : Below wr.heap.size wr wr') : AgI B w wr' a b Mb es ep s Ma := by
  have hB : B ≤ wr.heap.size := by obtain ⟨_, _, _, _, _, _, h5, _⟩ := h.duo; exact h5
  exact ⟨h.below.trans (hb.mono hB), h.duo.later hb, h.kept, h.ok⟩
theorem AgI.mono {B : Nat} {w wr : World} {a b : Nat} {Mb : DiskM} {es : List EntryM} {ep s ep' s' : Nat} {Ma : DiskM} (h : AgI B w wr a b Mb es ep s Ma) (he : ep ≤ ep') (hs : s ≤ s') : AgI B w wr a b Mb es ep' s' Ma := ⟨h.below, h.duo, h.kept.mono he hs, h.ok⟩
def roomOf (es : List EntryM) : Nat := 60 * (150 - 2) - (enc (headB :: es.map EntryM.bytes)).length
theorem AgI.save {B : Nat} {w wr : World} {a b : Nat} {Mb : DiskM} {es : List EntryM} {ep s : Nat} {Ma : DiskM} (h : AgI B w wr a b Mb es ep s Ma) (hwB : w.heap.size ≤ B) (l : List EntryM) (lao : Option Addr) (cap ep' s' : Nat) (hz : EntsAt w lao l ∨ l = []) (hf : ∀ x ∈ l, x.fair) (hes : es.length ≤ 1000) (hl : l.length ≤ 1000) (hep : ep ≤ 60000) (hs : s ≤ 1000000) (he' : ep + 1 ≤ ep') (hs' : s + 5 * l.length + 1 ≤ s') :
    Calls Try.prog 29 #[.pointer (some ⟨a, 0, none⟩), .slice lao l.length cap] wr (fun e w' => e = .returned (errV (saveC es l (roomOf es))) ∧ Below B w w' ∧ (saveC es l (roomOf es) = 0 → ∃ Ma', AgI B w w' a b Mb l ep' s' Ma')) := by
  obtain ⟨G, _, hda, hk, _⟩ := h.duo.one
  refine (ksave_any B G wr a Ma es l lao cap ep s _ hda h.kept h.ok hes hep (by omega) (fun w' hs' => ?_) hf (by omega) rfl).mono ?_
  · rcases hz with hz | hz
    · exact hz.below (h.below.trans hs'.below) hwB
    · exact Or.inl hz
  · rintro e w' ⟨he, hst, hd⟩
    refine ⟨he, h.below.trans hst.below, fun hC => ?_⟩
    rw [show (60 * (150 - 2) - (enc (headB :: es.map EntryM.bytes)).length) = roomOf es from rfl] at hd
    rw [if_pos hC] at hd
    obtain ⟨Ma', hd', hk'⟩ := hd
    exact ⟨Ma', h.below.trans hst.below, hk w' Ma' hst hd', hk'.mono he' hs', (saveL_zero (saveC_zero hC)).1⟩
theorem take_succ_len {l : List EntryM} {i : Nat} (h : i ≤ l.length) : (l.take i).length = i := by simp; omega

set_option maxRecDepth 100000 in
set_option maxHeartbeats 8000000 in
theorem again_any (lao : Option Addr) (lcap : Nat) (l : List EntryM) (w : World) (hz : EntsAt w lao l) (hf : ∀ x ∈ l, x.fair) (hm : l.length ≤ 9223372036854775807) (hcap : l.length ≤ lcap) :
    Calls Try.prog 7 #[.slice lao l.length lcap] w fun e w' => e = .returned (.bool true) ∧ Below w.heap.size w w' := by
  obtain ⟨B, hB⟩ : ∃ B, B = w.heap.size := ⟨_, rfl⟩
  obtain ⟨len, hlen⟩ : ∃ len, len = l.length := ⟨_, rfl⟩
  have hn1 := newF 150 w (by omega) (by omega)
  have hn2 : ∀ w1, Hid (Calls Try.prog 18 #[.int .i64 200] w1 (fun e w' => e = .returned (.tuple #[.pointer (some ⟨w1.heap.size, 0, none⟩), .nilIface]) ∧ Below w1.heap.size w1 w' ∧ DiskF w1.heap.size (fun _ => False) w' w1.heap.size (DiskM.new 200))) := fun w1 => newF 200 w1 (by omega) (by omega)
  have HZ := Lib.hid hz
  have HF := Lib.hid hf
  rw [← hlen] at hm hcap ⊢
  rw [← hB] at hn1 ⊢
  have HLEN := Lib.hid hlen
  have HBB := Lib.hid hB
  clear hz hf hlen hB
  go_enter Try.func7, Try.ntmps7
  go_wp2_with fail
  refine hn1.mono ?_
  rintro e w1 ⟨rfl, hb1, hd1⟩
  have hn3 := hn2 w1
  obtain ⟨b, hbb⟩ : ∃ b, b = w1.heap.size := ⟨_, rfl⟩
  rw [← hbb] at hn3
  have HB1 := Lib.hid hb1
  have HD1 := Lib.hid hd1
  have HBN := Lib.hid hbb
  clear hn1 hn2 hb1 hd1 hbb
  go_wp2_with fail
  refine hn3.out.mono ?_
  rintro e w2 ⟨rfl, hb2, hd2⟩
  obtain ⟨Ma, hMa⟩ : ∃ Ma, Ma = DiskM.new 150 := ⟨_, rfl⟩
  obtain ⟨Mb, hMb⟩ : ∃ Mb, Mb = DiskM.new 200 := ⟨_, rfl⟩
  have hduo : Duo B (fun _ => False) w2 B Ma b Mb := by
    rw [HBN.out, hMa, hMb]
    rw [HBN.out] at hb2 hd2
    exact Duo.new HD1.out hb2 hd2
  have hfa : Free Ma ∧ Ma.now.length = 150 ∧ Ma.steps = 0 ∧ Ma.since.length = 0 := by rw [hMa]; exact new_free 150
  have hfb : Free Mb ∧ Mb.now.length = 200 ∧ Mb.steps = 0 ∧ Mb.since.length = 0 := by rw [hMb]; exact new_free 200
  have HBW2 : Hid (Below B w w2) := by
    show Below _ _ _
    exact HB1.out.trans (hb2.mono (by rw [HBN.out, HBB.out]; exact (by have := HB1.out.size; exact this)))
  obtain ⟨G, hG, hda, hk1, _⟩ := hduo.one
  have hfm := kformat_any B G w2 B Ma hda hfa.1 (by omega) (by omega) (by omega)
  have HK1 := Lib.hid hk1
  have HFA := Lib.hid hfa
  have HFB := Lib.hid hfb
  clear hn3 hb2 hd2 hMa hMb hduo hG hda hk1 hfa hfb HB1 HD1
  go_wp2_with fail
  refine hfm.mono ?_
  rintro e w3 ⟨rfl, hs3, hd3⟩
  have hduo3 := HK1.out w3 _ hs3 hd3
  have HBW3 : Hid (Below B w w3) := HBW2.out.trans hs3.below
  obtain ⟨G3, hG3, hdb3, hk3, _⟩ := hduo3.swap.one
  have hfm3 := kformat_any B G3 w3 b Mb hdb3 HFB.out.1 (by have := HFB.out.2.1; omega) (by have := HFB.out.2.2.1; omega) (by have := HFB.out.2.2.2; omega)
  have HK3 := Lib.hid hk3
  clear hfm hs3 hd3 hduo3 hG3 hdb3 hk3 HK1 HBW2
  go_wp2_with fail
  refine hfm3.mono ?_
  rintro e w4 ⟨rfl, hs4, hd4⟩
  have hduo4 := (HK3.out w4 _ hs4 hd4).swap
  have hka : Kept (kfmt Ma) ([].map EntryM.bytes) 1 1000 := kept_format HFA.out.1 (by have := HFA.out.2.1; omega) (by have := HFA.out.2.1; omega) (by have := HFA.out.2.2.1; omega)
  have hkb : Kept (kfmt Mb) ([].map EntryM.bytes) 1 1000 := kept_format HFB.out.1 (by have := HFB.out.2.1; omega) (by have := HFB.out.2.1; omega) (by have := HFB.out.2.2.1; omega)
  generalize kfmt Ma = Ma4 at *
  generalize kfmt Mb = Mb4 at *
  have HKB := Lib.hid hkb
  have HKA := Lib.hid hka
  have HD4 := Lib.hid hduo4
  have HBW4 : Hid (Below B w w4) := HBW3.out.trans hs4.below
  clear hfm3 hs4 hd4 hduo4 hka hkb HK3 HBW3 HFA HFB
  go_wp2_with fail
  obtain ⟨W4, hW4⟩ : ∃ W4, W4 = w4.alloc (.cells #[] 30) := ⟨_, rfl⟩
  have hbW : Below w4.heap.size w4 W4 := by rw [hW4]; exact (Below.refl _ _).alloc (Nat.le_refl _) _
  have hag4 : AgI B w w4 B b Mb4 [] 1 1000 Ma4 := ⟨HBW4.out, HD4.out, HKA.out, fun x hx => by cases hx⟩
  have hsv := (hag4.later hbW).save (by rw [HBB.out]; exact Nat.le_refl _) [] (some ⟨w4.heap.size, 0, none⟩) 0 2 1100 (Or.inr rfl) (fun x hx => by cases hx) (by simp) (by simp) (by omega) (by omega) (by omega) (by simp)
  rw [saveC_same (fun x hx => by cases hx), errV_zero] at hsv
  rw [← hW4]
  clear hW4 hbW hag4 HKA HD4 HBW4
  refine hsv.mono ?_
  rintro e w5 ⟨rfl, _, hag5⟩
  obtain ⟨Ma5, hag5⟩ := hag5 rfl
  have HAG5 := Lib.hid hag5
  clear hsv hag5
  obtain ⟨n, hn⟩ : ∃ n : Nat, n = min len 10 := ⟨_, rfl⟩
  have hn10 : n ≤ 10 := by omega
  have hnl : n ≤ len := by omega
  have HNN := Lib.hid hn
  clear hn
  go_upto_if 50 with (fail)
  go_cut [8] (fun v wx => wx = w5 ∧ v = .int .i64 (n : Int))
  case first =>
    have hn := HNN.out
    by_cases h10 : 10 < len
    · have e : n = 10 := by omega
      have hd : decide ((10 : Int) < (len : Int)) = true := decide_eq_true (by omega)
      clear hn
      go_wp2_with fail
      go_meet
      exact ⟨rfl, by rw [e]; rfl⟩
    · have e : n = len := by omega
      have hd : decide ((10 : Int) < (len : Int)) = false := decide_eq_false (by omega)
      clear hn
      go_wp2_with fail
      go_meet
      exact ⟨rfl, by rw [e]⟩
  case rest =>
    obtain ⟨hwc, rfl⟩ := hcut
    rw [hwc]
    clear hwc
    have HI0 : Hid (AgI B w w5 B b Mb4 (l.take (1 - 1)) (3 + 1) (1200 + 100 * 1) Ma5) := HAG5.out.mono (by omega) (by omega)
    clear HAG5 hag5
    go_wp2_with fail
    go_loopw [9] (fun z wr => ∃ (k : Nat) (Ma : DiskM), 1 ≤ k ∧ k ≤ n + 1 ∧ z = .int .i64 (k : Int) ∧ Hid (AgI B w wr B b Mb4 (l.take (k - 1)) (3 + k) (1200 + 100 * k) Ma)) (fun z _ => n + 1 - (intOf z).toNat)
    case atStart => exact ⟨1, Ma5, by omega, by omega, rfl, HI0.out⟩
    case round =>
      clear HI0
      obtain ⟨k, Ma, hk1, hk2, rfl, HI⟩ := hrel
      by_cases hkn : k ≤ n
      · obtain ⟨C, hC⟩ : ∃ C, C = saveC (l.take (k - 1)) (l.take k) (roomOf (l.take (k - 1))) := ⟨_, rfl⟩
        have hkl : (l.take k).length = k := take_succ_len (by rw [← HLEN.out]; omega)
        have hsv := HI.out.save (by rw [HBB.out]; exact Nat.le_refl _) (l.take k) lao lcap (3 + (k + 1)) (1200 + 100 * (k + 1)) (Or.inl (EntsAt.take' HZ.out k)) (fun x hx => HF.out x (List.mem_of_mem_take hx)) (by simp; omega) (by rw [hkl]; omega) (by omega) (by omega) (by omega) (by rw [hkl]; omega)
        rw [← hC, hkl] at hsv
        have hkc : (k : Int) ≤ (lcap : Int) := by omega
        have hk0 : (0 : Int) ≤ (k : Int) := by omega
        clear hC hkl HI
        by_cases hC0 : C = 0
        · rw [hC0, errV_zero] at hsv
          clear hC0
          go_wp2_with fail
          refine hsv.mono ?_
          rintro e w6 ⟨rfl, _, hag⟩
          obtain ⟨Ma6, hag⟩ := hag trivial
          have HAG := Lib.hid hag
          clear hsv hag
          go_wp2_with fail
          go_roundw
          case rel => exact ⟨k + 1, Ma6, by omega, by omega, by go_num, HAG⟩
          case measure => simp [intOf]; omega
        · rw [errV_some hC0] at hsv
          clear hC0
          go_wp2_with fail
          refine hsv.mono ?_
          rintro e w6 ⟨rfl, hb6, _⟩
          have HB6 := Lib.hid hb6
          clear hsv hb6
          go_wp2_with fail
          go_ret
          exact ⟨rfl, HB6.out⟩
      · obtain rfl : k = n + 1 := by omega
        obtain ⟨es, hes⟩ : ∃ es, es = l.take n := ⟨_, rfl⟩
        have hesl : es.length = n := by rw [hes]; exact take_succ_len (by rw [← HLEN.out]; omega)
        have hI := HI.out
        rw [show n + 1 - 1 = n by omega, ← hes] at hI
        have hze : EntsAt w lao es := by rw [hes]; exact EntsAt.take' HZ.out n
        have hsv := hI.save (by rw [HBB.out]; exact Nat.le_refl _) es lao lcap 20 3000 (Or.inl hze) (fun x hx => HF.out x (by rw [hes] at hx; exact List.mem_of_mem_take hx)) (by omega) (by omega) (by omega) (by omega) (by omega) (by omega)
        rw [saveC_same hI.ok, errV_zero, hesl] at hsv
        have HES := Lib.hid hesl
        have HOKE := Lib.hid hI.ok
        have HZE := Lib.hid hze
        have hnc : (n : Int) ≤ (lcap : Int) := by omega
        have hn0 : (0 : Int) ≤ (n : Int) := by omega
        clear hesl hI hze HI hes
        go_wp2_with fail
        refine hsv.mono ?_
        rintro e w6 ⟨rfl, _, hag⟩
        obtain ⟨Ma6, hag⟩ := hag trivial
        obtain ⟨G6, hG6, hda6, _, hk6⟩ := hag.duo.one
        have hld := kload_any B G6 w6 B Ma6 es 20 3000 hda6 hag.kept hag.ok (by rw [HES.out]; omega)
        rw [HES.out] at hld
        have HK6 := Lib.hid hk6
        have HB6 := Lib.hid hag.below
        have HBL6 : Hid (B ≤ w6.heap.size ∧ ∀ x, G6 x → x < w6.heap.size) := by
          obtain ⟨S, g1, g2, g3, g4⟩ := hda6
          exact ⟨g3, g4⟩
        clear hsv hag hG6 hda6 hk6
        go_wp2_with fail
        refine hld.mono ?_
        rintro e w7 ⟨xao, xcap, n0, rfl, hn0', hb7, hd7, hx7⟩
        have hd7' := HK6.out w7 Ma6 (fun x => n0 ≤ x ∧ x < w7.heap.size) (Stays.of_below hb7 HBL6.out.1 HBL6.out.2) (fun x hx => ⟨by omega, hx.2⟩) hd7
        obtain ⟨G7, hG7, hdb7, hk7, _⟩ := hd7'.swap.one
        have hsb := ksave_any B G7 w7 b Mb4 [] es xao xcap 1 1000 (roomOf []) hdb7 HKB.out (fun x hx => by cases hx) (by simp) (by omega) (by omega) (fun w' hs => hx7 w' (fun k hk => hs.blk k (hG7 k (Or.inr hk))) hs.below.size) (fun x hx => fair_of_ok (HOKE.out x hx).1) (by rw [HES.out]; omega) rfl
        rw [saveC_new HOKE.out (by rw [HES.out]; show 202 * n ≤ 8880 - 12; omega), HES.out] at hsb
        have HB7 : Hid (Below B w w7) := HB6.out.trans (hb7.mono HBL6.out.1)
        have HK7 := Lib.hid hk7
        have HG7 := Lib.hid hG7
        have HX7 := Lib.hid hx7
        clear hld hb7 hd7 hx7 hd7' hG7 hdb7 hk7 hn0' HK6 HBL6 HB6 HKB
        go_wp2_with fail
        refine hsb.mono ?_
        rintro e w8 ⟨rfl, hs8, hp8⟩
        rw [if_pos rfl] at hp8
        obtain ⟨Mb8, hd8, hkb8⟩ := hp8
        have hduo8 := HK7.out w8 Mb8 hs8 hd8
        have HX8 : Hid (EntsQ w8 (fun x => n0 ≤ x ∧ x < w7.heap.size) xao es) := HX7.out.later (fun k hk => hs8.blk k (HG7.out k (Or.inr hk))) hs8.below.size (fun _ h => h)
        have HB8 : Hid (Below B w w8) := HB7.out.trans hs8.below
        have hs78 : w7.heap.size ≤ w8.heap.size := hs8.below.size
        obtain ⟨G8, hG8, hdb8, _, _⟩ := hduo8.one
        have hld8 := kload_any B G8 w8 b Mb8 es _ _ hdb8 hkb8 HOKE.out (by rw [HES.out]; omega)
        rw [HES.out] at hld8
        have HBL8 : Hid (B ≤ w8.heap.size) := by
          obtain ⟨S, g1, g2, g3, g4⟩ := hdb8
          exact g3
        rw [errV_zero]
        clear hsb hs8 hd8 hkb8 hduo8 hG8 hdb8 HX7 HG7 HK7 HB7
        go_wp2_with fail
        refine hld8.mono ?_
        rintro e w9 ⟨yao, ycap, n1, rfl, hn1', hb9, _, hy9⟩
        have hB9 : Below B w w9 := HB8.out.trans (hb9.mono HBL8.out)
        have hx9 : EntsAt w9 xao es := HX8.out w9 (fun k hk => hb9.block k (by omega)) hb9.size
        have hz9 : EntsAt w9 lao es := HZE.out.below hB9 (by rw [HBB.out]; exact Nat.le_refl _)
        have hlen : ∀ x ∈ es, x.lines.length ≤ 9223372036854775807 := fun x hx => by have := EntryM.ok_few (HOKE.out x hx).1; omega
        have hen := entries_same es w9 xao lao xcap lcap hx9 hz9 hlen (by rw [HES.out]; omega)
        rw [HES.out] at hen
        have HX9 := Lib.hid hx9
        have HY9 := Lib.hid hy9.at
        have HB9 := Lib.hid hB9
        have HL := Lib.hid hlen
        have HBS9 : Hid (B ≤ w9.heap.size) := Nat.le_trans HBL8.out hb9.size
        clear hld8 hn1' hb9 hy9 hB9 hx9 hz9 hlen HX8 HB8 HBL8
        go_wp2_with fail
        refine hen.mono ?_
        rintro e w10 ⟨rfl, hb10⟩
        have hen2 := entries_same es w10 yao xao ycap xcap (HY9.out.below hb10 (Nat.le_refl _)) (HX9.out.below hb10 (Nat.le_refl _)) HL.out (by rw [HES.out]; omega)
        rw [HES.out] at hen2
        have HB10 : Hid (Below B w w10) := HB9.out.trans (hb10.mono HBS9.out)
        have HBS10 : Hid (B ≤ w10.heap.size) := Nat.le_trans HBS9.out hb10.size
        clear hen hb10 HX9 HY9 HB9
        go_wp2_with fail
        refine hen2.mono ?_
        rintro e w11 ⟨rfl, hb11⟩
        have HF11 : Hid (Below B w w11) := HB10.out.trans (hb11.mono HBS10.out)
        clear hen2 hb11
        go_wp2_with fail
        go_ret
        exact ⟨rfl, HF11.out⟩
end Go.Proofs.Ytldpflijgbcbhaa.lg
