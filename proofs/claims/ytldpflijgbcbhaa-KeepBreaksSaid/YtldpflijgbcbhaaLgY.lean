/- slices.Clone of bytes, (*log.Log).Room, Len walked. -/
import Derived.Test.YtldpflijgbcbhaaLgA
import Derived.Test.YtldpflijgbcbhaaLgO
import Derived.Test.YtldpflijgbcbhaaLgV
import Derived.Deep.RegionHeldLaw
namespace Go.Proofs.Ytldpflijgbcbhaa.lg
open Go.RowKit

theorem ownsRow_cast {w : World} {base : Nat} {e : TypeId} {sz : Nat} {v : Value} {n n' : Nat} {xs xs' : List Value} (h : w.ownsRow base e sz v n xs) (hn : n = n') (hx : xs = xs') : w.ownsRow base e sz v n' xs' := by subst hn hx; exact h
theorem row_slice {BASE n sz : Nat} {ty : TypeId} {w : World} {v : Value} {xs : List Value} (h : w.ownsRow BASE ty sz v n xs) : ∃ ao cap, v = .slice ao n cap := by
  rcases h.2 with ⟨rfl, h0⟩ | ⟨g, cap, cur, rfl, _⟩
  · exact ⟨none, 0, by rw [h0]⟩
  · exact ⟨some ⟨g, 0, none⟩, cap, rfl⟩
set_option maxRecDepth 100000 in
set_option maxHeartbeats 1000000 in
theorem clone_bytes (v : Value) (l : List UInt8) (w : World) (hl : BytesW w v l) (h0 : 0 < l.length) (hn : l.length ≤ 100000) :
    Calls Try.prog 55 #[v] w fun e w' => Below w.heap.size w w' ∧ ∃ v', e = .returned v' ∧ RecAt w' (fun k => w.heap.size ≤ k ∧ k < w'.heap.size) v' l := by
  obtain ⟨sp, c, rfl, hc⟩ := id hl
  obtain ⟨b, o, rfl, _, _⟩ := hc h0
  have hnil := fun wx => Lib.run_eql_slice_nil (P := Try.prog) wx 23 5 (some ⟨b, o, none⟩) l.length c 0 0 Try.underlying23
  have hown0 : (w.alloc (.cells #[] 5)).ownsRow w.heap.size 5 1 (.slice (some ⟨w.heap.size, 0, none⟩) 0 0) 0 [] :=
    ⟨rfl, Or.inr ⟨w.heap.size, 0, #[], rfl, Nat.le_refl _, heap_new_at rfl _, Nat.le_refl _, by decide, rfl, rfl⟩⟩
  have hbel : Below w.heap.size w (w.alloc (.cells #[] 5)) := (Below.refl _ _).alloc (Nat.le_refl _) _
  have hl1 : BytesW (w.alloc (.cells #[] 5)) (.slice (some ⟨b, o, none⟩) l.length c) l := BytesW.keep hl (fun g hg => by
    obtain ⟨b', o', e, hlt, _⟩ := hc h0
    injection e with e
    injection e with e _
    have : b = g := Option.some.inj hg
    exact hbel.block g (by omega)) hbel.size
  obtain ⟨v', w1, hr, hown, hgrow, hblk⟩ := run_append_bytes hown0 hl1 (by omega) hbel.size 23
  have hb1 : Below w.heap.size w w1 := hbel.trans ((Only.of_grown hgrow).below hbel.size (fun k hk => by simp [Value.ownBlock] at hk; omega))
  have HO : Hid (RecAt w1 (fun k => w.heap.size ≤ k ∧ k < w1.heap.size) v' l) := by
    have hown' : w1.ownsRow w.heap.size 5 1 v' l.length (l.map byteV) := ownsRow_cast hown (by omega) (by simp)
    refine ⟨?_, fun g hg => ?_⟩
    · rcases hown'.2 with ⟨e1, e2⟩ | ⟨g, cap, cur, e1, e2, e3⟩
      · exact ⟨hown'.1, Or.inl ⟨e1, e2⟩⟩
      · exact ⟨hown'.1, Or.inr ⟨g, cap, cur, e1, Nat.zero_le _, e3⟩⟩
    · obtain ⟨cur, hcur⟩ := row_block hown' hg
      rcases hown'.2 with ⟨e1, e2⟩ | ⟨g', cap, cur, e1, e2, e3⟩
      · rw [e1] at hg; cases hg
      · rw [e1] at hg
        have : g' = g := Option.some.inj hg
        exact ⟨by omega, lt_of_heap hcur⟩
  have HB := Lib.hid hb1
  clear hown0 hbel hown hgrow hblk hl hl1 hb1 hc
  go_enter Try.func55, Try.ntmps55
  go_wp2_with (at_builtin; refine Lib.wpList_append_run _ rfl _ _ _ _ rfl _ _ rfl rfl _ _ hr ?_)
  go_ret
  exact ⟨HB.out, _, rfl, HO.out⟩

/-- what the log's block tells of its sizes -/
structure SizeL (w : World) (p mn n m : Nat) : Prop where
  c2 : w.cell? ⟨p, 2, none⟩ = some (.int .i64 mn)
  c4 : ∃ ao cap, w.cell? ⟨p, 4, none⟩ = some (.slice ao n cap)
  c3 : ∃ ao cap, w.cell? ⟨p, 3, none⟩ = some (.slice ao m cap)
theorem LogIs.size {w : World} {T : Nat → Prop} {p d fr mn : Nat} {L : LogS} {rv sv : Value} {rs : List Value} (h : LogIs w T p d fr mn L rv sv rs) : SizeL w p mn L.stream.length L.recs.length := by
  obtain ⟨a1, b1, e1⟩ := row_slice h.stream
  obtain ⟨a2, b2, e2⟩ := row_slice h.recs
  exact ⟨h.self.c2, ⟨a1, b1, by rw [← e1]; exact h.self.c4⟩, ⟨a2, b2, by rw [← e2]; exact h.self.c3⟩⟩
theorem Sys.size' {B : Nat} {F : Nat → Prop} {w : World} {d p fr mn : Nat} {M : DiskM} {L : LogS} (h : Sys B F w d M p fr mn L) : SizeL w p mn L.stream.length L.recs.length := by
  obtain ⟨S, T, h⟩ := h
  obtain ⟨rv, sv, rs, hl⟩ := h.log
  exact hl.size
theorem max_room {mn n : Nat} (h : 2 ≤ mn ∨ True) : (if (0 : Int) < ((mn : Int) - 2) * 60 - (n : Int) then ((mn : Int) - 2) * 60 - (n : Int) else 0) = ((60 * (mn - 2) - n : Nat) : Int) := by
  split <;> omega
set_option maxHeartbeats 1000000 in
theorem room_any (w : World) (p mn n m : Nat) (h : SizeL w p mn n m) (hmn : mn ≤ 200) (hn : n ≤ 12000) :
    Calls Try.prog 56 #[.pointer (some ⟨p, 0, none⟩)] w fun e w' => e = .returned (.int .i64 ((60 * (mn - 2) - n : Nat) : Int)) ∧ Below w.heap.size w w' := by
  obtain ⟨c2, ⟨ao, cap, c4⟩, _⟩ := h
  have hmax := max_room (mn := mn) (n := n) (Or.inr trivial)
  obtain ⟨R, hR⟩ : ∃ R, R = 60 * (mn - 2) - n := ⟨_, rfl⟩
  rw [← hR]
  have HR := Lib.hid hR
  clear hR hmax
  go_enter Try.func56, Try.ntmps56
  go_wp2_with fail
  go_quiet (fail)
  all_goals go_wp2_with fail
  all_goals go_ret
  all_goals refine ⟨?_, below_drewN (Below.refl _ _) _⟩
  · have e : ((mn : Int) - 2) * 60 - (n : Int) = (R : Int) := by have := HR.out; omega
    rw [← e]; rfl
  · have e : (0 : Int) = (R : Int) := by have := HR.out; omega
    rw [← e]; rfl
set_option maxHeartbeats 1000000 in
theorem len_any (w : World) (p mn n m : Nat) (h : SizeL w p mn n m) :
    Calls Try.prog 23 #[.pointer (some ⟨p, 0, none⟩)] w fun e w' => e = .returned (.int .i64 (m : Int)) ∧ w = w' := by
  obtain ⟨c2, _, ⟨ao, cap, c3⟩⟩ := h
  go_enter Try.func23, Try.ntmps23
  go_wp2_with fail
  go_ret
  exact ⟨rfl, rfl⟩
end Go.Proofs.Ytldpflijgbcbhaa.lg

/- (*log.Log).put walked: a chunk of the stream is written. -/
namespace Go.Proofs.Ytldpflijgbcbhaa.lg
open Go.RowKit

theorem or64i {n : Nat} (h : n < 64) : bits .or .u8 64 (n : Int) = 64 + (n : Int) := by have := or64 h; rw [this]; simp
theorem min_chunk {k n c : Nat} (hk : 60 * k < n) (hc : c = min 60 (n - 60 * k)) : (if ((k : Int) + 1) * 60 < (n : Int) then ((k : Int) + 1) * 60 else (n : Int)) = (k : Int) * 60 + (c : Int) := by
  split <;> omega
theorem row_new4 {w : World} {g : Nat} {a b c d : Value} (h : w.heap[g]? = some (.cells #[a, b, c, d] 5 (0, 0))) : w.ownsRow g 5 1 (.slice (some ⟨g, 0, none⟩) 4 4) 4 [a, b, c, d] :=
  ⟨rfl, Or.inr ⟨g, 4, _, rfl, Nat.le_refl _, h, Nat.le_refl _, by decide, rfl, rfl⟩⟩
theorem put_run {w : World} {g cap n k c E : Nat} {s : List UInt8} (hb : BytesW w (.slice (some ⟨g, 0, none⟩) n cap) s) (hn : n = s.length) (hg : g < w.heap.size) (hc : c = min 60 (n - 60 * k)) (hk : 60 * k < n) (hk2 : k ≤ 255) (hE : E ≤ 65535) :
    ∃ v3 w3, (Builtin.append_ #[23, 23] 23 #[.slice (some ⟨w.heap.size, 0, none⟩) 4 4, .slice (some ⟨g, k * 60, none⟩) c (cap - k * 60)]).run Try.prog
        ((w.alloc (.cells #[.int .u8 (64 + (c : Int)), .int .u8 (k : Int), .int .u8 ((E : Int) / 256), .int .u8 ((E : Int) % 256)] 5)).drew.drew.drew) = .ok v3 w3 ∧ BytesW w3 v3 (putBytes s E k) ∧ Below w.heap.size w w3 ∧ (∀ b, v3.ownBlock = some b → w.heap.size ≤ b ∧ b < w3.heap.size) := by
  obtain ⟨V, hV⟩ : ∃ V, V = (w.alloc (.cells #[.int .u8 (64 + (c : Int)), .int .u8 (k : Int), .int .u8 ((E : Int) / 256), .int .u8 ((E : Int) % 256)] 5)).drew.drew.drew := ⟨_, rfl⟩
  have hbV : Below w.heap.size w V := by rw [hV]; exact ((Below.refl _ _).alloc (Nat.le_refl _) _).drew.drew.drew
  have hnew : V.heap[w.heap.size]? = some (.cells #[.int .u8 (64 + (c : Int)), .int .u8 (k : Int), .int .u8 ((E : Int) / 256), .int .u8 ((E : Int) % 256)] 5 (0, 0)) := by rw [hV]; exact heap_new_at rfl _
  have hcl : (chunkOf s k 60).length = c := by rw [chunk60_len, ← hn, hc]
  have hsrc : BytesW V (.slice (some ⟨g, k * 60, none⟩) c (cap - k * 60)) (chunkOf s k 60) := by
    have h1 := bytes_cut (c' := cap - k * 60) (by rw [← hn]; exact hb) (60 * k) c (by omega)
    have h2 : (s.drop (60 * k)).take c = chunkOf s k 60 := by
      unfold chunkOf
      refine List.take_eq_take_iff.2 ?_
      rw [List.length_drop]; omega
    rw [h2] at h1
    rw [show k * 60 = 0 + 60 * k by omega, show cap - (0 + 60 * k) = cap - k * 60 by omega]
    exact BytesW.keep h1 (fun g' hg' => by
      have hgg : g = g' := Option.some.inj hg'
      subst hgg
      exact hbV.block g hg) hbV.size
  obtain ⟨v3, w3, hr, hown, hgrow, hblk⟩ := run_append_bytes (row_new4 hnew) hsrc (by rw [hcl]; omega) (Nat.le_of_lt (lt_of_heap hnew)) 23
  rw [← hV]
  have hb3 : Below w.heap.size w w3 := hbV.trans ((Only.of_grown hgrow).below hbV.size (fun k hk => by
    have : w.heap.size = k := Option.some.inj hk
    omega))
  refine ⟨v3, w3, hr, ?_, hb3, fun b hb' => ?_⟩
  · have hbytes : ([.int .u8 (64 + (c : Int)), .int .u8 (k : Int), .int .u8 ((E : Int) / 256), .int .u8 ((E : Int) % 256)] ++ (chunkOf s k 60).map byteV : List Value) = (putBytes s E k).map byteV := by
      simp only [putBytes, List.map_cons, byteV, UInt8.toNat_ofNat', hcl, List.cons_append, List.nil_append]
      have e1 : (((64 + c) % 2 ^ 8 : Nat) : Int) = 64 + (c : Int) := by omega
      have e2 : ((k % 2 ^ 8 : Nat) : Int) = (k : Int) := by omega
      have e3 : ((E / 256 % 2 ^ 8 : Nat) : Int) = (E : Int) / 256 := by omega
      have e4 : ((E % 2 ^ 8 : Nat) : Int) = (E : Int) % 256 := by omega
      rw [e1, e2, e3, e4]
    rw [hbytes] at hown
    exact bytes_of_row hown (by simp only [putBytes, List.length_cons, hcl]; omega)
  · obtain ⟨cur, hcur⟩ := row_block hown hb'
    refine ⟨?_, lt_of_heap hcur⟩
    rcases hblk with e | e
    · rw [e] at hb'
      have : w.heap.size = b := Option.some.inj hb'
      omega
    · rw [e] at hb'
      have h1 : V.heap.size = b := Option.some.inj hb'
      have := hbV.size
      omega
theorem Sys.head {B : Nat} {F : Nat → Prop} {w : World} {d p fr mn : Nat} {M : DiskM} {L : LogS} (h : Sys B F w d M p fr mn L) : w.cell? ⟨p, 0, none⟩ = some (.pointer (some ⟨d, 0, none⟩)) ∧ w.cell? ⟨p, 1, none⟩ = some (.int .i64 fr) := by
  obtain ⟨rv, sv, h⟩ := h.own
  exact ⟨h.c0, h.c1⟩
set_option maxRecDepth 100000 in
set_option maxHeartbeats 4000000 in
theorem put_any (B : Nat) (F : Nat → Prop) (k : Nat) (w : World) (p d fr mn : Nat) (M : DiskM) (L : LogS) (h : Sys B F w d M p fr mn L) (hk : 60 * k < L.stream.length) (hlen : L.stream.length ≤ 12000) (hsf : L.safe < 2) (hE : L.epoch ≤ 65535) (hfr : fr ≤ 1000) (hst : M.steps ≤ 1000000000) (hsi : M.since.length ≤ 1000000000) :
    Calls Try.prog 57 #[.pointer (some ⟨p, 0, none⟩), .int .i64 k] w (StepL B F w d (errV (putC M fr L k)) (putM M fr L k) p fr mn L) := by
  obtain ⟨g, cap, c, hsv, hgl, hc1, hc2, hcap, hB⟩ : ∃ (g cap c : Nat), w.cell? ⟨p, 4, none⟩ = some (.slice (some ⟨g, 0, none⟩) L.stream.length cap) ∧ (BytesW w (.slice (some ⟨g, 0, none⟩) L.stream.length cap) L.stream ∧ g < w.heap.size) ∧ c = min 60 (L.stream.length - 60 * k) ∧ 0 < c ∧ L.stream.length ≤ cap ∧ B ≤ w.heap.size := by
    obtain ⟨S, T, hs⟩ := h
    obtain ⟨rv, sv, rs, hl⟩ := hs.log
    obtain ⟨g, cap, rfl, _, hlt, hcap⟩ := ownsRow_some hl.stream (by omega)
    exact ⟨g, cap, _, hl.self.c4, ⟨bytes_of_row hl.stream rfl, hlt⟩, rfl, by omega, hcap, hs.size⟩
  obtain ⟨rv, sv, hown⟩ := h.own
  have c0 := hown.c0
  have c1 := hown.c1
  have c5 := hown.c5
  have c6 := hown.c6
  have hplt := hown.lt
  have HSYS := Lib.hid h
  have HC1 := Lib.hid hc1
  clear hown h
  have hn : L.stream.length ≤ 12000 := hlen
  obtain ⟨n, hnn⟩ : ∃ n, n = L.stream.length := ⟨_, rfl⟩
  obtain ⟨E, hEE⟩ : ∃ E, E = L.epoch := ⟨_, rfl⟩
  obtain ⟨sf, hsff⟩ : ∃ sf, sf = L.safe := ⟨_, rfl⟩
  have HG := Lib.hid hgl
  rw [← hnn] at hsv hcap hk hc1 hn
  rw [← hEE] at c5 hE
  rw [← hsff] at c6 hsf
  have HN := Lib.hid hnn
  have HEE := Lib.hid hEE
  have HSF := Lib.hid hsff
  have hcn : c ≤ 60 := by omega
  have hcc : 60 * k + c ≤ n := by omega
  have hwk : IntKind.i64.wrap ((k : Int) * 60) = (k : Int) * 60 := IntWalk.i64_in _ (by omega)
  have HCM := Lib.hid hc1
  obtain ⟨A, hAe⟩ : ∃ A, A = putAt L.stream (1 - L.safe) k := ⟨_, rfl⟩
  have HA : Hid ((c < 60 ∧ A + sf = 1) ∨ (60 ≤ c ∧ A = 2 + k)) := by
    show _ ∨ _
    rw [hAe]
    unfold putAt
    split <;> omega
  obtain ⟨ev, hev⟩ : ∃ ev, ev = errV (putC M fr L k) := ⟨_, rfl⟩
  obtain ⟨v3, w3, hr3, hbw3, hb3, hblk3⟩ := put_run (w := w) (g := g) (cap := cap) (n := n) (k := k) (c := c) (E := E) (s := L.stream) (by rw [hnn]; exact hgl.1) hnn hgl.2 hc1 hk (by omega) hE
  have hcall : ∀ I : Int, I = (A : Int) → Calls Try.prog 52 #[.pointer (some ⟨d, 0, none⟩), .int .i64 ((fr : Int) + I), v3] w3 (StepL B F w d ev (putM M fr L k) p fr mn L) := by
    rintro I rfl
    have hF : ∀ x, F x → x < w.heap.size := by obtain ⟨S, T, hs⟩ := HSYS.out; exact hs.f_
    have h3 := HSYS.out.more hb3 (fun x => F x ∨ (w.heap.size ≤ x ∧ x < w3.heap.size)) (fun x hx => hx)
    have hbw : BytesW w3 v3 (putBytes L.stream L.epoch k) := by rw [← hEE]; exact hbw3
    have h4 := h3.disk_step (fun G hG hd => writeF B G ((fr + A : Nat) : Int) v3 (putBytes L.stream L.epoch k) w3 d M hd (by omega) hsi (by have := putBytes_len L.stream L.epoch k; omega) hbw (fun _ b hb => Or.inr (hG b (Or.inr (hblk3 b hb)))))
    rw [Int.natCast_add] at h4
    refine h4.mono ?_
    rintro e w9 ⟨rfl, hs9, hy9⟩
    refine ⟨?_, (Stays.of_below hb3 hB hF).trans (hs9.mono (fun x hx => Or.inl hx)), ?_⟩
    · rw [hev, hAe]; rfl
    · have h5 := hy9.less (G := F) (fun x hx => Or.inl hx)
      rw [← Int.natCast_add, hAe] at h5
      exact h5
  have HS3 : Hid (w3.cell? ⟨p, 0, none⟩ = some (.pointer (some ⟨d, 0, none⟩)) ∧ w3.cell? ⟨p, 1, none⟩ = some (.int .i64 fr)) := ⟨(hb3.cell (p := ⟨p, 0, none⟩) hplt).trans c0, (hb3.cell (p := ⟨p, 1, none⟩) hplt).trans c1⟩
  have HCALL := Lib.hid hcall
  rw [← hev]
  have HR3 := Lib.hid hr3
  clear hnn hEE hsff hgl hlen hAe hev hcall hbw3 hb3 hblk3 hr3 hst hsi
  go_enter Try.func57, Try.ntmps57
  go_wp2_with fail
  have hmin := min_chunk hk hc1
  clear hc1 hwk
  go_big_region
  all_goals clear hmin
  all_goals go_wp2_with fail
  all_goals have ho := or64i (show c < 64 by omega)
  all_goals go_big_region
  all_goals go_wp2_with fail
  all_goals have hr3 := HR3.out
  all_goals first
    | have e1 : (1 : Int) - (sf : Int) = (A : Int) := by have := HA.out; omega
    | have e1 : (2 : Int) + (k : Int) = (A : Int) := by have := HA.out; omega
  all_goals have HE1 := Lib.hid e1
  all_goals clear e1
  all_goals have hwI : IntKind.i64.wrap ((fr : Int) + (1 - (sf : Int))) = (fr : Int) + (1 - (sf : Int)) := IntWalk.i64_in _ (by omega)
  all_goals have hwJ : IntKind.i64.wrap ((fr : Int) + (2 + (k : Int))) = (fr : Int) + (2 + (k : Int)) := IntWalk.i64_in _ (by omega)
  all_goals go_region_held3 (fun w' => w'.cell? ⟨p, 0, none⟩ = some (.pointer (some ⟨d, 0, none⟩)) ∧ w'.cell? ⟨p, 1, none⟩ = some (.int .i64 fr))
        (first | exact HS3.out | exact hy9.head | go_keep)
        (first | (refine step_append_run (by rfl) _ _ _ _ (by rfl) _ _ (by rfl) (by rfl) _ _ hr3 ?_) | (go_at_call 52; refine (HCALL.out _ HE1.out).mono ?_; rintro e w9 ⟨rfl, hs9, hy9⟩))
  all_goals have HS9 := Lib.hid hs9
  all_goals have HY9 := Lib.hid hy9
  all_goals clear hs9 hy9 hr3
  all_goals go_wp2_with fail
  all_goals go_ret
  all_goals exact ⟨rfl, HS9.out, HY9.out⟩
end Go.Proofs.Ytldpflijgbcbhaa.lg

/- (*log.Log).Sync walked. -/
namespace Go.Proofs.Ytldpflijgbcbhaa.lg
open Go.RowKit

/-- a step that may fail: then the disk alone is told of -/
def StepR (B : Nat) (F : Nat → Prop) (w : World) (d : Nat) (r : Value) (C : Int) (M' : DiskM) (p fr mn : Nat) (L' : LogS) (e : Ending) (w' : World) : Prop :=
  e = .returned r ∧ Stays B F w w' ∧ (C = 0 → Sys B F w' d M' p fr mn L') ∧ DiskF B F w' d M'
theorem StepR.ok {B : Nat} {F : Nat → Prop} {w w' : World} {d p fr mn : Nat} {r : Value} {C : Int} {M' : DiskM} {L' : LogS} {e : Ending} (he : e = .returned r) (hs : Stays B F w w') (h : Sys B F w' d M' p fr mn L') : StepR B F w d r C M' p fr mn L' e w' := ⟨he, hs, fun _ => h, h.diskF⟩
/-- the log's own block is written: all else stays -/
theorem Sys.own_set {B : Nat} {F : Nat → Prop} {w w' : World} {d p fr mn : Nat} {M : DiskM} {L L' : LogS} (h : Sys B F w d M p fr mn L) (ho : Only (fun k => k = p) w w')
    (hs : ∀ rv sv, OwnL w p d fr mn rv sv L.epoch L.safe L.dirty L.bare L.broken → OwnL w' p d fr mn rv sv L'.epoch L'.safe L'.dirty L'.bare L'.broken) (e1 : L'.recs = L.recs) (e2 : L'.stream = L.stream) : Stays B F w w' ∧ Sys B F w' d M p fr mn L' := by
  obtain ⟨S, T, h⟩ := h
  obtain ⟨rv, sv, rs, hl⟩ := h.log
  obtain ⟨h1, h2⟩ := hl.own_end (L' := L') ho (hs rv sv hl.self) e1 e2
  obtain ⟨g1, g2⟩ := h.own_step h1 h2
  exact ⟨g1, S, _, g2⟩
theorem only_set (w : World) (p j : Nat) (v : Value) : Only (fun k => k = p) w (w.setCell ⟨p, j, none⟩ v) := (Only.refl (fun k => k = p) w).setCell (p := ⟨p, j, none⟩) (show p = p from rfl) v
def LogS.mark (L : LogS) : LogS := { L with broken := true }
theorem Sys.set9 {B : Nat} {F : Nat → Prop} {w : World} {d p fr mn : Nat} {M : DiskM} {L : LogS} (h : Sys B F w d M p fr mn L) : Stays B F w (w.setCell ⟨p, 9, none⟩ (.bool true)) ∧ Sys B F (w.setCell ⟨p, 9, none⟩ (.bool true)) d M p fr mn L.mark :=
  h.own_set (L' := L.mark) (only_set _ _ _ _) (fun rv sv h => h.set9 true) rfl rfl
theorem Sys.set7 {B : Nat} {F : Nat → Prop} {w : World} {d p fr mn : Nat} {M : DiskM} {L : LogS} (b : Bool) (h : Sys B F w d M p fr mn L) : Stays B F w (w.setCell ⟨p, 7, none⟩ (.bool b)) ∧ Sys B F (w.setCell ⟨p, 7, none⟩ (.bool b)) d M p fr mn { L with dirty := b } :=
  h.own_set (L' := { L with dirty := b }) (only_set _ _ _ _) (fun rv sv h => h.set7 b) rfl rfl
theorem Sys.set8 {B : Nat} {F : Nat → Prop} {w : World} {d p fr mn : Nat} {M : DiskM} {L : LogS} (b : Bool) (h : Sys B F w d M p fr mn L) : Stays B F w (w.setCell ⟨p, 8, none⟩ (.bool b)) ∧ Sys B F (w.setCell ⟨p, 8, none⟩ (.bool b)) d M p fr mn { L with bare := b } :=
  h.own_set (L' := { L with bare := b }) (only_set _ _ _ _) (fun rv sv h => h.set8 b) rfl rfl
theorem Sys.set6 {B : Nat} {F : Nat → Prop} {w : World} {d p fr mn : Nat} {M : DiskM} {L : LogS} (b : Nat) (h : Sys B F w d M p fr mn L) : Stays B F w (w.setCell ⟨p, 6, none⟩ (.int .i64 (b : Int))) ∧ Sys B F (w.setCell ⟨p, 6, none⟩ (.int .i64 (b : Int))) d M p fr mn { L with safe := b } :=
  h.own_set (L' := { L with safe := b }) (only_set _ _ _ _) (fun rv sv h => h.set6 b) rfl rfl
/-- the log's cells, by their values -/
structure CellsL (w : World) (p d fr mn : Nat) (L : LogS) : Prop where
  c0 : w.cell? ⟨p, 0, none⟩ = some (.pointer (some ⟨d, 0, none⟩))
  c5 : w.cell? ⟨p, 5, none⟩ = some (.int .i64 L.epoch)
  c6 : w.cell? ⟨p, 6, none⟩ = some (.int .i64 L.safe)
  c7 : w.cell? ⟨p, 7, none⟩ = some (.bool L.dirty)
  c8 : w.cell? ⟨p, 8, none⟩ = some (.bool L.bare)
  c9 : w.cell? ⟨p, 9, none⟩ = some (.bool L.broken)
  fz : ∀ j, w.frozen? ⟨p, j, none⟩ = false
theorem Sys.cells {B : Nat} {F : Nat → Prop} {w : World} {d p fr mn : Nat} {M : DiskM} {L : LogS} (h : Sys B F w d M p fr mn L) : CellsL w p d fr mn L := by
  obtain ⟨rv, sv, h⟩ := h.own
  exact ⟨h.c0, h.c5, h.c6, h.c7, h.c8, h.c9, h.free⟩
theorem sync_eq1 {L : LogS} (hd : L.dirty = true) (h : L.stream.length % 60 ≠ 0) : L.sync = { L with safe := 1 - L.safe, dirty := false } := by
  unfold LogS.sync; simp [hd, h]
theorem sync_eq2 {L : LogS} (h : L.dirty = false ∨ L.stream.length % 60 = 0) : L.sync = { L with dirty := false } := by
  unfold LogS.sync; rcases h with h | h <;> simp [h]

set_option maxRecDepth 100000 in
set_option maxHeartbeats 2000000 in
theorem sync_any (B : Nat) (F : Nat → Prop) (w : World) (p d fr mn : Nat) (M : DiskM) (L : LogS) (h : Sys B F w d M p fr mn L) (hbr : L.broken = false) (hst : M.steps ≤ 1000000000) (hsf : L.safe < 2) (hlen : L.stream.length ≤ 12000) :
    Calls Try.prog 22 #[.pointer (some ⟨p, 0, none⟩)] w (StepR B F w d (errV M.fcode) M.fcode M.fl p fr mn L.sync) := by
  have hcall := h.disk_step (fun G hG hd => flushF B G w d M hd (by omega))
  have hc := h.cells
  obtain ⟨c0, _, _, _, _, c9, _⟩ := hc
  rw [hbr] at c9
  have hE1 := @sync_eq1 L
  have hE2 := @sync_eq2 L
  have hE1 := Lib.hid hE1
  have HE2 := Lib.hid hE2
  have HE1 : Hid _ := hE1
  generalize hCC : M.fcode = C at *
  generalize hMM : M.fl = M2 at *
  clear hE1 hE2 hMM hCC h hst
  by_cases hC : C = 0
  · subst hC
    rw [errV_zero] at hcall ⊢
    obtain ⟨sf, hs0⟩ : ∃ sf, sf = L.safe := ⟨_, rfl⟩
    obtain ⟨n, hn0⟩ : ∃ n, n = L.stream.length := ⟨_, rfl⟩
    rw [← hs0] at hsf
    rw [← hn0] at hlen
    have HS0 := Lib.hid hs0
    have HN0 := Lib.hid hn0
    clear hs0 hn0
    go_enter Try.func22, Try.ntmps22
    go_wp2_with fail
    refine hcall.mono ?_
    rintro e w1 ⟨rfl, hs1, hy1⟩
    obtain ⟨_, ⟨ao, cap, c4⟩, _⟩ := hy1.size'
    have hk := hy1.cells
    have c6 := hk.c6
    have c7 := hk.c7
    have f6 := hk.fz 6
    have f7 := hk.fz 7
    rw [← HS0.out] at c6
    rw [← HN0.out] at c4
    have HY1 := Lib.hid hy1
    have HS1 := Lib.hid hs1
    clear hk hcall hs1 hy1 c9 c0
    cases hd : L.dirty with
    | false =>
      rw [hd] at c7
      have h7 := HY1.out.set7 false
      have HR : Hid (Stays B F w1 (w1.setCell ⟨p, 7, none⟩ (.bool false)) ∧ Sys B F (w1.setCell ⟨p, 7, none⟩ (.bool false)) d M2 p fr mn L.sync) := by
        show _ ∧ _
        rw [HE2.out (Or.inl hd)]; exact h7
      clear h7 hd HE1 HE2
      go_wp2_with fail
      go_ret
      exact StepR.ok rfl (HS1.out.trans HR.out.1) HR.out.2
    | true =>
      rw [hd] at c7
      by_cases h0 : n % 60 = 0
      · have h7 := HY1.out.set7 false
        have HR : Hid (Stays B F w1 (w1.setCell ⟨p, 7, none⟩ (.bool false)) ∧ Sys B F (w1.setCell ⟨p, 7, none⟩ (.bool false)) d M2 p fr mn L.sync) := by
          show _ ∧ _
          rw [HE2.out (Or.inr (by rw [← HN0.out]; exact h0))]; exact h7
        clear h7 hd HE1 HE2
        go_wp2_with fail
        go_ret
        exact StepR.ok rfl (HS1.out.trans HR.out.1) HR.out.2
      · obtain ⟨hs6, hy6⟩ := HY1.out.set6 (1 - sf)
        obtain ⟨hs7, hy7⟩ := hy6.set7 false
        have hcast : ((1 - sf : Nat) : Int) = 1 - (sf : Int) := by omega
        rw [hcast] at hs6 hs7 hy7
        have HR : Hid (Stays B F w1 ((w1.setCell ⟨p, 6, none⟩ (.int .i64 (1 - (sf : Int)))).setCell ⟨p, 7, none⟩ (.bool false)) ∧ Sys B F ((w1.setCell ⟨p, 6, none⟩ (.int .i64 (1 - (sf : Int)))).setCell ⟨p, 7, none⟩ (.bool false)) d M2 p fr mn L.sync) := by
          show _ ∧ _
          rw [HE1.out hd (by rw [← HN0.out]; exact h0)]
          rw [← HS0.out]
          exact ⟨hs6.trans hs7, hy7⟩
        clear hs6 hy6 hs7 hy7 hcast hd HE1 HE2
        go_wp2_with fail
        go_ret
        exact StepR.ok rfl (HS1.out.trans HR.out.1) HR.out.2
  · have hv := errV_some hC
    rw [hv] at hcall ⊢
    clear hv
    go_enter Try.func22, Try.ntmps22
    go_wp2_with fail
    refine hcall.mono ?_
    rintro e w1 ⟨rfl, hs1, hy1⟩
    have f9 := hy1.cells.fz 9
    have c9' := hy1.cells.c9
    have HR := Lib.hid hy1.set9
    have HS1 := Lib.hid hs1
    clear hcall hs1 hy1 c9 c0 HE1 HE2
    go_wp2_with fail
    go_ret
    exact ⟨rfl, HS1.out.trans HR.out.1, fun e => absurd e hC, HR.out.2.diskF⟩
end Go.Proofs.Ytldpflijgbcbhaa.lg
