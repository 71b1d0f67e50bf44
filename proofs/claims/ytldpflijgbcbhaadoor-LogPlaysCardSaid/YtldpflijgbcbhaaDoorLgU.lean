/- (*log.Log).put walked: a chunk of the stream is written. -/
import Derived.Test.YtldpflijgbcbhaaDoorLgA
import Derived.Test.YtldpflijgbcbhaaDoorLgV
import Derived.Deep.RegionHeldLaw
namespace Go.Proofs.YtldpflijgbcbhaaDoor.lg
open Go.RowKit

theorem or64i {n : Nat} (h : n < 64) : bits .or .u8 64 (n : Int) = 64 + (n : Int) := by have := or64 h; rw [this]; simp
theorem min_chunk {k n c : Nat} (hk : 60 * k < n) (hc : c = min 60 (n - 60 * k)) : (if ((k : Int) + 1) * 60 < (n : Int) then ((k : Int) + 1) * 60 else (n : Int)) = (k : Int) * 60 + (c : Int) := by
  split <;> omega
theorem row_new4 {w : World} {g : Nat} {a b c d : Value} (h : w.heap[g]? = some (.cells #[a, b, c, d] 5 (0, 0))) : w.ownsRow g 5 1 (.slice (some ⟨g, 0, none⟩) 4 4) 4 [a, b, c, d] :=
  ⟨rfl, Or.inr ⟨g, 4, _, rfl, Nat.le_refl _, h, Nat.le_refl _, by decide, rfl, rfl⟩⟩
theorem put_run {w : World} {g cap n k c E : Nat} {s : List UInt8} (hb : BytesW w (.slice (some ⟨g, 0, none⟩) n cap) s) (hn : n = s.length) (hg : g < w.heap.size) (hc : c = min 60 (n - 60 * k)) (hk : 60 * k < n) (hk2 : k ≤ 255) (hE : E ≤ 65535) :
    ∃ v3 w3, (Builtin.append_ #[22, 22] 22 #[.slice (some ⟨w.heap.size, 0, none⟩) 4 4, .slice (some ⟨g, k * 60, none⟩) c (cap - k * 60)]).run Tryd.prog
        ((w.alloc (.cells #[.int .u8 (64 + (c : Int)), .int .u8 (k : Int), .int .u8 ((E : Int) / 256), .int .u8 ((E : Int) % 256)] 5)).drew.drew.drew) = .ok v3 w3 ∧ BytesW w3 v3 (putBytes s E k) ∧ Below w.heap.size w w3 ∧ (∀ b, v3.ownBlock = some b → w.heap.size ≤ b ∧ b < w3.heap.size) := by
  obtain ⟨V, hV⟩ : ∃ V, V = (w.alloc (.cells #[.int .u8 (64 + (c : Int)), .int .u8 (k : Int), .int .u8 ((E : Int) / 256), .int .u8 ((E : Int) % 256)] 5)).drew.drew.drew := ⟨_, rfl⟩
  have hbV : Below w.heap.size w V := by rw [hV]; exact ((Below.refl _ _).alloc (Nat.le_refl _) _).drew.drew.drew
  have hnew : V.heap[w.heap.size]? = some (.cells #[.int .u8 (64 + (c : Int)), .int .u8 (k : Int), .int .u8 ((E : Int) / 256), .int .u8 ((E : Int) % 256)] 5 (0, 0)) := by rw [hV]; exact heap_new_at rfl _
  have hcl : (chunkOf s k 60).length = c := by rw [chunk60_len, ← hn, hc]
  have hsrc : BytesW V (.slice (some ⟨g, k * 60, none⟩) c (cap - k * 60)) (chunkOf s k 60) := by
    have h1 := bytes_cut (c' := cap - k * 60) (by rw [← hn]; exact hb) (60 * k) c (by omega)
    have h2 : (s.drop (60 * k)).take c = chunkOf s k 60 := by
      unfold chunkOf
      refine List.take_eq_take_iff.2 ?_
      rw [List.length_drop]; omega
    rw [h2] at h1
    rw [show k * 60 = 0 + 60 * k by omega, show cap - (0 + 60 * k) = cap - k * 60 by omega]
    exact BytesW.keep h1 (fun g' hg' => by
      have hgg : g = g' := Option.some.inj hg'
      subst hgg
      exact hbV.block g hg) hbV.size
  obtain ⟨v3, w3, hr, hown, hgrow, hblk⟩ := run_append_bytes (row_new4 hnew) hsrc (by rw [hcl]; omega) (Nat.le_of_lt (lt_of_heap hnew)) 22
  rw [← hV]
  have hb3 : Below w.heap.size w w3 := hbV.trans ((Only.of_grown hgrow).below hbV.size (fun k hk => by
    have : w.heap.size = k := Option.some.inj hk
    omega))
  refine ⟨v3, w3, hr, ?_, hb3, fun b hb' => ?_⟩
  · have hbytes : ([.int .u8 (64 + (c : Int)), .int .u8 (k : Int), .int .u8 ((E : Int) / 256), .int .u8 ((E : Int) % 256)] ++ (chunkOf s k 60).map byteV : List Value) = (putBytes s E k).map byteV := by
      simp only [putBytes, List.map_cons, byteV, UInt8.toNat_ofNat', hcl, List.cons_append, List.nil_append]
      have e1 : (((64 + c) % 2 ^ 8 : Nat) : Int) = 64 + (c : Int) := by omega
      have e2 : ((k % 2 ^ 8 : Nat) : Int) = (k : Int) := by omega
      have e3 : ((E / 256 % 2 ^ 8 : Nat) : Int) = (E : Int) / 256 := by omega
      have e4 : ((E % 2 ^ 8 : Nat) : Int) = (E : Int) % 256 := by omega
      rw [e1, e2, e3, e4]
    rw [hbytes] at hown
    exact bytes_of_row hown (by simp only [putBytes, List.length_cons, hcl]; omega)
  · obtain ⟨cur, hcur⟩ := row_block hown hb'
    refine ⟨?_, lt_of_heap hcur⟩
    rcases hblk with e | e
    · rw [e] at hb'
      have : w.heap.size = b := Option.some.inj hb'
      omega
    · rw [e] at hb'
      have h1 : V.heap.size = b := Option.some.inj hb'
      have := hbV.size
      omega
theorem Sys.head {B : Nat} {F : Nat → Prop} {w : World} {d p fr mn : Nat} {M : DiskM} {L : LogS} (h : Sys B F w d M p fr mn L) : w.cell? ⟨p, 0, none⟩ = some (.pointer (some ⟨d, 0, none⟩)) ∧ w.cell? ⟨p, 1, none⟩ = some (.int .i64 fr) := by
  obtain ⟨rv, sv, h⟩ := h.own
  exact ⟨h.c0, h.c1⟩
set_option maxRecDepth 100000 in
set_option maxHeartbeats 4000000 in
theorem put_any (B : Nat) (F : Nat → Prop) (k : Nat) (w : World) (p d fr mn : Nat) (M : DiskM) (L : LogS) (h : Sys B F w d M p fr mn L) (hk : 60 * k < L.stream.length) (hlen : L.stream.length ≤ 12000) (hsf : L.safe < 2) (hE : L.epoch ≤ 65535) (hfr : fr ≤ 1000) (hst : M.steps ≤ 1000000000) (hsi : M.since.length ≤ 1000000000) :
    Calls Tryd.prog 76 #[.pointer (some ⟨p, 0, none⟩), .int .i64 k] w (StepL B F w d (errV (putC M fr L k)) (putM M fr L k) p fr mn L) := by
  obtain ⟨g, cap, c, hsv, hgl, hc1, hc2, hcap, hB⟩ : ∃ (g cap c : Nat), w.cell? ⟨p, 4, none⟩ = some (.slice (some ⟨g, 0, none⟩) L.stream.length cap) ∧ (BytesW w (.slice (some ⟨g, 0, none⟩) L.stream.length cap) L.stream ∧ g < w.heap.size) ∧ c = min 60 (L.stream.length - 60 * k) ∧ 0 < c ∧ L.stream.length ≤ cap ∧ B ≤ w.heap.size := by
    obtain ⟨S, T, hs⟩ := h
    obtain ⟨rv, sv, rs, hl⟩ := hs.log
    obtain ⟨g, cap, rfl, _, hlt, hcap⟩ := ownsRow_some hl.stream (by omega)
    exact ⟨g, cap, _, hl.self.c4, ⟨bytes_of_row hl.stream rfl, hlt⟩, rfl, by omega, hcap, hs.size⟩
  obtain ⟨rv, sv, hown⟩ := h.own
  have c0 := hown.c0
  have c1 := hown.c1
  have c5 := hown.c5
  have c6 := hown.c6
  have hplt := hown.lt
  have HSYS := Lib.hid h
  have HC1 := Lib.hid hc1
  clear hown h
  have hn : L.stream.length ≤ 12000 := hlen
  obtain ⟨n, hnn⟩ : ∃ n, n = L.stream.length := ⟨_, rfl⟩
  obtain ⟨E, hEE⟩ : ∃ E, E = L.epoch := ⟨_, rfl⟩
  obtain ⟨sf, hsff⟩ : ∃ sf, sf = L.safe := ⟨_, rfl⟩
  have HG := Lib.hid hgl
  rw [← hnn] at hsv hcap hk hc1 hn
  rw [← hEE] at c5 hE
  rw [← hsff] at c6 hsf
  have HN := Lib.hid hnn
  have HEE := Lib.hid hEE
  have HSF := Lib.hid hsff
  have hcn : c ≤ 60 := by omega
  have hcc : 60 * k + c ≤ n := by omega
  have hwk : IntKind.i64.wrap ((k : Int) * 60) = (k : Int) * 60 := IntWalk.i64_in _ (by omega)
  have HCM := Lib.hid hc1
  obtain ⟨A, hAe⟩ : ∃ A, A = putAt L.stream (1 - L.safe) k := ⟨_, rfl⟩
  have HA : Hid ((c < 60 ∧ A + sf = 1) ∨ (60 ≤ c ∧ A = 2 + k)) := by
    show _ ∨ _
    rw [hAe]
    unfold putAt
    split <;> omega
  obtain ⟨ev, hev⟩ : ∃ ev, ev = errV (putC M fr L k) := ⟨_, rfl⟩
  obtain ⟨v3, w3, hr3, hbw3, hb3, hblk3⟩ := put_run (w := w) (g := g) (cap := cap) (n := n) (k := k) (c := c) (E := E) (s := L.stream) (by rw [hnn]; exact hgl.1) hnn hgl.2 hc1 hk (by omega) hE
  have hcall : ∀ I : Int, I = (A : Int) → Calls Tryd.prog 23 #[.pointer (some ⟨d, 0, none⟩), .int .i64 ((fr : Int) + I), v3] w3 (StepL B F w d ev (putM M fr L k) p fr mn L) := by
    rintro I rfl
    have hF : ∀ x, F x → x < w.heap.size := by obtain ⟨S, T, hs⟩ := HSYS.out; exact hs.f_
    have h3 := HSYS.out.more hb3 (fun x => F x ∨ (w.heap.size ≤ x ∧ x < w3.heap.size)) (fun x hx => hx)
    have hbw : BytesW w3 v3 (putBytes L.stream L.epoch k) := by rw [← hEE]; exact hbw3
    have h4 := h3.disk_step (fun G hG hd => writeF B G ((fr + A : Nat) : Int) v3 (putBytes L.stream L.epoch k) w3 d M hd (by omega) hsi (by have := putBytes_len L.stream L.epoch k; omega) hbw (fun _ b hb => Or.inr (hG b (Or.inr (hblk3 b hb)))))
    rw [Int.natCast_add] at h4
    refine h4.mono ?_
    rintro e w9 ⟨rfl, hs9, hy9⟩
    refine ⟨?_, (Stays.of_below hb3 hB hF).trans (hs9.mono (fun x hx => Or.inl hx)), ?_⟩
    · rw [hev, hAe]; rfl
    · have h5 := hy9.less (G := F) (fun x hx => Or.inl hx)
      rw [← Int.natCast_add, hAe] at h5
      exact h5
  have HS3 : Hid (w3.cell? ⟨p, 0, none⟩ = some (.pointer (some ⟨d, 0, none⟩)) ∧ w3.cell? ⟨p, 1, none⟩ = some (.int .i64 fr)) := ⟨(hb3.cell (p := ⟨p, 0, none⟩) hplt).trans c0, (hb3.cell (p := ⟨p, 1, none⟩) hplt).trans c1⟩
  have HCALL := Lib.hid hcall
  rw [← hev]
  have HR3 := Lib.hid hr3
  clear hnn hEE hsff hgl hlen hAe hev hcall hbw3 hb3 hblk3 hr3 hst hsi
  go_enter Tryd.func76, Tryd.ntmps76
  go_wp2_with fail
  have hmin := min_chunk hk hc1
  clear hc1 hwk
  go_big_region
  all_goals clear hmin
  all_goals go_wp2_with fail
  all_goals have ho := or64i (show c < 64 by omega)
  all_goals go_big_region
  all_goals go_wp2_with fail
  all_goals have hr3 := HR3.out
  all_goals first
    | have e1 : (1 : Int) - (sf : Int) = (A : Int) := by have := HA.out; omega
    | have e1 : (2 : Int) + (k : Int) = (A : Int) := by have := HA.out; omega
  all_goals have HE1 := Lib.hid e1
  all_goals clear e1
  all_goals have hwI : IntKind.i64.wrap ((fr : Int) + (1 - (sf : Int))) = (fr : Int) + (1 - (sf : Int)) := IntWalk.i64_in _ (by omega)
  all_goals have hwJ : IntKind.i64.wrap ((fr : Int) + (2 + (k : Int))) = (fr : Int) + (2 + (k : Int)) := IntWalk.i64_in _ (by omega)
  all_goals go_region_held3 (fun w' => w'.cell? ⟨p, 0, none⟩ = some (.pointer (some ⟨d, 0, none⟩)) ∧ w'.cell? ⟨p, 1, none⟩ = some (.int .i64 fr))
        (first | exact HS3.out | exact hy9.head | go_keep)
        (first | (refine step_append_run (by rfl) _ _ _ _ (by rfl) _ _ (by rfl) (by rfl) _ _ hr3 ?_) | (go_at_call 23; refine (HCALL.out _ HE1.out).mono ?_; rintro e w9 ⟨rfl, hs9, hy9⟩))
  all_goals have HS9 := Lib.hid hs9
  all_goals have HY9 := Lib.hid hy9
  all_goals clear hs9 hy9 hr3
  all_goals go_wp2_with fail
  all_goals go_ret
  all_goals exact ⟨rfl, HS9.out, HY9.out⟩
end Go.Proofs.YtldpflijgbcbhaaDoor.lg
