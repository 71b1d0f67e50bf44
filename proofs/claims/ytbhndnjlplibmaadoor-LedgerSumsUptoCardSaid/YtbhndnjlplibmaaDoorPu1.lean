/- dayref2.Put: a balance to others, in its place. -/
import Derived.Test.YtbhndnjlplibmaaDoorMpA
import Derived.Test.YtbhndnjlplibmaaDoorMpR
import Derived.Test.YtbhndnjlplibmaaDoorAhB
import Derived.Deep.QuietTactic
import Derived.BigQuiet
import Derived.Deep.RegionHeld3
import Derived.Laws.OwnMore
namespace Go.Proofs.YtbhndnjlplibmaaDoor.lg
open Go.RowKit

/-- balances with their room -/
structure BalsC (w : World) (lo : Option Addr) (lc : Nat) (l : List BalM) : Prop where
  lies : BalsAt w lo l
  cap : l.length ≤ lc
  form : (lo = none ∧ lc = 0) ∨ ∃ g, lo = some ⟨g, 0, none⟩
def ahB (y x : BalM) : Bool := decide (balCmp y x < 0)
/-- how many stand ahead of it -/
def posB (x : BalM) : List BalM → Nat
  | [] => 0
  | y :: r => if ahB y x = true then posB x r + 1 else 0
theorem posB_le (x : BalM) : ∀ l, posB x l ≤ l.length
  | [] => Nat.le_refl _
  | y :: r => by
    unfold posB
    have := posB_le x r
    split <;> simp <;> omega
theorem posB_drop {x y : BalM} {l : List BalM} {k : Nat} (h : l[k]? = some y) : k + posB x (l.drop k) = if ahB y x = true then (k + 1) + posB x (l.drop (k + 1)) else k := by
  obtain ⟨hk, rfl⟩ := List.getElem?_eq_some_iff.1 h
  rw [List.drop_eq_getElem_cons hk, posB]
  split <;> omega
def addB (y x : BalM) : BalM := { y with amt := wrap64 (y.amt + x.amt) }
def putB (l : List BalM) (x : BalM) : List BalM := match l[posB x l]? with
  | some y => if ahB x y = true then l.take (posB x l) ++ x :: l.drop (posB x l) else l.set (posB x l) (addB y x)
  | none => l ++ [x]
theorem put_in {l : List BalM} {x y : BalM} {k : Nat} (hk : posB x l = k) (h : l[k]? = some y) (ha : ahB x y = true) : putB l x = l.take k ++ x :: l.drop k := by
  unfold putB; rw [hk, h]; simp only [ha, if_true]
theorem put_add {l : List BalM} {x y : BalM} {k : Nat} (hk : posB x l = k) (h : l[k]? = some y) (ha : ahB x y = false) : putB l x = l.set k (addB y x) := by
  unfold putB; rw [hk, h]; simp only [ha]; rfl
theorem put_end {l : List BalM} {x : BalM} {k : Nat} (hk : posB x l = k) (h : l.length ≤ k) : putB l x = l.take k ++ x :: l.drop k := by
  unfold putB; rw [hk, List.getElem?_eq_none h, List.take_of_length_le h, List.drop_of_length_le h]
theorem flat_set : ∀ (l : List BalM) (k : Nat) (y : BalM) (v : Int), l[k]? = some y → (l.flatMap encB).set (k * 4 + 3) (.int .i64 v) = (l.set k { y with amt := v }).flatMap encB
  | [], _, _, _, h => by simp at h
  | z :: r, 0, y, v, h => by
    simp only [List.getElem?_cons_zero, Option.some.injEq] at h
    subst h
    rfl
  | z :: r, k + 1, y, v, h => by
    have ih := flat_set r k y v (by simpa using h)
    rw [List.set_cons_succ, List.flatMap_cons, List.flatMap_cons, ← ih]
    rw [show (k + 1) * 4 + 3 = (encB z).length + (k * 4 + 3) by simp [encB]; omega]
    rw [List.set_append_right _ _ (by omega)]
    congr 2
    omega
theorem BalsC.below {w w' : World} {lo : Option Addr} {lc : Nat} {l : List BalM} (h : BalsC w lo lc l) (hb : Below w.heap.size w w') : BalsC w' lo lc l := ⟨h.lies.below hb, h.cap, h.form⟩
theorem BalsAt.take {w : World} {lo : Option Addr} {l : List BalM} (h : BalsAt w lo l) (k : Nat) : BalsAt w lo (l.take k) := by
  rcases h with h | ⟨b, off, e, hlt, hc⟩
  · exact Or.inl (by rw [h]; simp)
  · refine Or.inr ⟨b, off, e, hlt, fun i x hx => hc i x ?_⟩
    rw [List.getElem?_take] at hx
    split at hx
    · exact hx
    · cases hx
theorem bals_drop {w : World} {b off : Nat} {l : List BalM} (h : BalsAt w (some ⟨b, off, none⟩) l) (k : Nat) : BalsAt w (some ⟨b, off + k * 4, none⟩) (l.drop k) := by
  rcases h with h | ⟨b', off', e, hlt, hc⟩
  · exact Or.inl (by rw [h]; simp)
  · simp only [Option.some.injEq, Addr.mk.injEq, and_true] at e
    obtain ⟨rfl, rfl⟩ := e
    refine Or.inr ⟨b, off + k * 4, rfl, hlt, fun i x hx => ?_⟩
    rw [List.getElem?_drop] at hx
    have := hc (k + i) x hx
    rw [show off + (k + i) * 4 = off + k * 4 + i * 4 by omega] at this
    exact this
theorem balsC_of_row {w : World} {base : Nat} {e : TypeId} {v : Value} {n : Nat} {l : List BalM} (h : w.ownsRow base e 4 v n (l.flatMap encB)) (hn : n = l.length) : ∃ ao cap, v = .slice ao l.length cap ∧ BalsC w ao cap l := by
  obtain ⟨ao, cap, h1, h2, h3, h4⟩ := bals_of_row_cap h hn
  refine ⟨ao, cap, h1, h2, h3, ?_⟩
  rcases h.2 with ⟨rfl, _⟩ | ⟨g, c, cur, rfl, _⟩
  · simp only [Value.slice.injEq] at h1
    exact Or.inl ⟨h1.1.symm, h1.2.2.symm⟩
  · simp only [Value.slice.injEq] at h1
    exact Or.inr ⟨g, h1.1.symm⟩
theorem bals_one4 {w : World} {b : Nat} {x : BalM} (h : w.heap[b]? = some (.cells #[.int .i64 x.ent, .string x.acc, .string x.cur, .int .i64 x.amt] 77 (0, 0))) : BalsAt w (some ⟨b, 0, none⟩) [x] := by
  refine Or.inr ⟨b, 0, rfl, lt_of_heap h, fun i y hy => ?_⟩
  have hi : i = 0 := by
    have := (List.getElem?_eq_some_iff.1 hy).1
    simp at this
    exact this
  subst hi
  simp only [List.getElem?_cons_zero, Option.some.injEq] at hy
  subst hy
  exact ⟨cell_of_heap h 0, cell_of_heap h 1, cell_of_heap h 2, cell_of_heap h 3⟩
def PutPost (B : Nat) (w : World) (r : List BalM) (e : Ending) (w' : World) : Prop := Below B w w' ∧ ∃ ro rc, e = .returned (.slice ro r.length rc) ∧ BalsC w' ro rc r

set_option maxRecDepth 100000 in
set_option maxHeartbeats 16000000 in
theorem put_any (lo : Option Addr) (lc : Nat) (l : List BalM) (x : BalM) (w : World) (hl : BalsC w lo lc l) (hn : l.length ≤ 2000000) :
    Calls Tryd.prog 58 #[.slice lo l.length lc, balV x] w (PutPost w.heap.size w (putB l x)) := by
  obtain ⟨W, hW⟩ : ∃ W, W = w.alloc (.cells #[.int .i64 x.ent, .string x.acc, .string x.cur, .int .i64 x.amt] 77) := ⟨_, rfl⟩
  obtain ⟨B3, hB3⟩ : ∃ B3, B3 = w.heap.size := ⟨_, rfl⟩
  have hb0 : Below w.heap.size w W := by rw [hW]; exact (Below.refl _ _).alloc (Nat.le_refl _) _
  have hbx : W.heap[B3]? = some (.cells #[.int .i64 x.ent, .string x.acc, .string x.cur, .int .i64 x.amt] 77 (0, 0)) := by rw [hW, hB3]; exact heap_new_at rfl _
  have HB0 := Lib.hid hb0
  have HBX := Lib.hid hbx
  have HL := Lib.hid (hl.below hb0)
  have HW := Lib.hid hW
  have HB3 := Lib.hid hB3
  obtain ⟨P, hP⟩ : ∃ P, posB x l = P := ⟨_, rfl⟩
  have HP := Lib.hid hP
  unfold balV
  clear hl hW hb0 hbx hB3 hP
  go_enter Tryd.func58, Tryd.ntmps58
  go_wp2_with fail
  rw [← HW.out, ← HB3.out]
  go_loopw [5] (fun i wr => ∃ k : Nat, k ≤ l.length ∧ i = .int .i64 (k : Int) ∧ Hid (k + posB x (l.drop k) = P) ∧ Hid (Below W.heap.size W wr)) (fun i _ => l.length - (intOf i).toNat)
  case atStart => exact ⟨0, Nat.zero_le _, rfl, by show _ = _; rw [List.drop_zero, Nat.zero_add]; exact HP.out, Below.refl _ _⟩
  case round =>
    obtain ⟨k, hk, rfl, HK, HBW⟩ := hrel
    have hbxr := (HBW.out.block B3 (lt_of_heap HBX.out)).trans HBX.out
    have p0 : wr.cell? ⟨B3, 0, none⟩ = some (.int .i64 x.ent) := cell_of_heap hbxr 0
    have p1 : wr.cell? ⟨B3, 1, none⟩ = some (.string x.acc) := cell_of_heap hbxr 1
    have p2 : wr.cell? ⟨B3, 2, none⟩ = some (.string x.cur) := cell_of_heap hbxr 2
    have p3 : wr.cell? ⟨B3, 3, none⟩ = some (.int .i64 x.amt) := cell_of_heap hbxr 3
    have hB3lt : B3 < wr.heap.size := lt_of_heap hbxr
    have hi0 : (0 : Int) ≤ (k : Int) := by omega
    clear hbxr
    by_cases hlt : k < l.length
    · obtain ⟨y, hy⟩ := getElem?_ex hlt
      obtain ⟨b9, off, rfl, hb9, hcc⟩ := (HL.out.lies.below HBW.out).resolve_left (fun e => by rw [e] at hlt; simp at hlt)
      obtain ⟨x0, x1, x2, x3⟩ := hcc k y hy
      have hi1 : (k : Int) < (l.length : Int) := by omega
      have hd1 : decide ((k : Int) < (l.length : Int)) = true := decide_eq_true hi1
      have HY := Lib.hid hy
      have hpd := posB_drop (x := x) hy
      rw [HK.out] at hpd
      have HPD := Lib.hid hpd
      have KEEP : ∀ w9, Below wr.drew.heap.size wr.drew w9 → w9.cell? ⟨b9, off + k * 4, none⟩ = some (.int .i64 y.ent) ∧ w9.cell? ⟨b9, off + k * 4 + 1, none⟩ = some (.string y.acc) ∧ w9.cell? ⟨b9, off + k * 4 + 2, none⟩ = some (.string y.cur) ∧ w9.cell? ⟨b9, off + k * 4 + 3, none⟩ = some (.int .i64 y.amt) ∧
          w9.cell? ⟨B3, 0, none⟩ = some (.int .i64 x.ent) ∧ w9.cell? ⟨B3, 1, none⟩ = some (.string x.acc) ∧ w9.cell? ⟨B3, 2, none⟩ = some (.string x.cur) ∧ w9.cell? ⟨B3, 3, none⟩ = some (.int .i64 x.amt) := fun w9 hb9' =>
        ⟨(hb9'.cell (p := ⟨b9, off + k * 4, none⟩) hb9).trans x0, (hb9'.cell (p := ⟨b9, off + k * 4 + 1, none⟩) hb9).trans x1, (hb9'.cell (p := ⟨b9, off + k * 4 + 2, none⟩) hb9).trans x2, (hb9'.cell (p := ⟨b9, off + k * 4 + 3, none⟩) hb9).trans x3,
          (hb9'.cell (p := ⟨B3, 0, none⟩) hB3lt).trans p0, (hb9'.cell (p := ⟨B3, 1, none⟩) hB3lt).trans p1, (hb9'.cell (p := ⟨B3, 2, none⟩) hB3lt).trans p2, (hb9'.cell (p := ⟨B3, 3, none⟩) hB3lt).trans p3⟩
      have HKEEP := Lib.hid KEEP
      have hcm := ahead_any y x wr.drew
      rw [show decide (balCmp y x < 0) = ahB y x from rfl] at hcm
      unfold balV at hcm
      have HLV := Lib.hid hb9
      clear hcc hy hpd KEEP HK
      cases hah : ahB y x with
      | true =>
        rw [hah] at hcm
        have HK2 : Hid ((k + 1) + posB x (l.drop (k + 1)) = P) := by have := HPD.out; rw [hah, if_pos rfl] at this; exact this.symm
        clear hah HPD
        go_wp2_with fail
        go_region_held3 (fun w' => w'.cell? ⟨b9, off + k * 4, none⟩ = some (.int .i64 y.ent) ∧ w'.cell? ⟨b9, off + k * 4 + 1, none⟩ = some (.string y.acc) ∧ w'.cell? ⟨b9, off + k * 4 + 2, none⟩ = some (.string y.cur) ∧ w'.cell? ⟨b9, off + k * 4 + 3, none⟩ = some (.int .i64 y.amt) ∧
            w'.cell? ⟨B3, 0, none⟩ = some (.int .i64 x.ent) ∧ w'.cell? ⟨B3, 1, none⟩ = some (.string x.acc) ∧ w'.cell? ⟨B3, 2, none⟩ = some (.string x.cur) ∧ w'.cell? ⟨B3, 3, none⟩ = some (.int .i64 x.amt))
          (first | exact HKEEP.out _ hb9' | exact ⟨x0, x1, x2, x3, p0, p1, p2, p3⟩ | go_keep)
          (first
            | (go_at_call 80; refine hcm.mono ?_; rintro e w9 ⟨rfl, hb9'⟩))
        have HB9 : Hid (Below W.heap.size W w9) := HBW.out.drew.trans (hb9'.mono (show W.heap.size ≤ wr.drew.heap.size from HBW.out.size))
        clear hcm HKEEP hb9' x0 x1 x2 x3 p0 p1 p2 p3
        go_wp2_with fail
        go_roundw
        case rel => exact ⟨k + 1, by omega, by go_num, HK2, HB9⟩
        case measure => simp [intOf]; omega
      | false =>
        rw [hah] at hcm
        have HK2 : Hid (P = k) := by have := HPD.out; rw [hah, if_neg (by simp)] at this; exact this
        clear hah HPD
        go_wp2_with fail
        go_region_held3 (fun w' => w'.cell? ⟨b9, off + k * 4, none⟩ = some (.int .i64 y.ent) ∧ w'.cell? ⟨b9, off + k * 4 + 1, none⟩ = some (.string y.acc) ∧ w'.cell? ⟨b9, off + k * 4 + 2, none⟩ = some (.string y.cur) ∧ w'.cell? ⟨b9, off + k * 4 + 3, none⟩ = some (.int .i64 y.amt) ∧
            w'.cell? ⟨B3, 0, none⟩ = some (.int .i64 x.ent) ∧ w'.cell? ⟨B3, 1, none⟩ = some (.string x.acc) ∧ w'.cell? ⟨B3, 2, none⟩ = some (.string x.cur) ∧ w'.cell? ⟨B3, 3, none⟩ = some (.int .i64 x.amt))
          (first | exact HKEEP.out _ hb9' | exact ⟨x0, x1, x2, x3, p0, p1, p2, p3⟩ | go_keep)
          (first
            | (go_at_call 80; refine hcm.mono ?_; rintro e w9 ⟨rfl, hb9'⟩))
        have HB9 : Hid (Below W.heap.size W w9) := HBW.out.drew.trans (hb9'.mono (show W.heap.size ≤ wr.drew.heap.size from HBW.out.size))
        clear hcm HKEEP hb9' x0 x1 x2 x3 p0 p1 p2 p3
        obtain ⟨v1, w10, hr1, hown1, hgrow1, hblk1⟩ := run_append_bals (sc := lc) (World.ownsRow_nil w9 w.heap.size 77 4) (HL.out.lies.below HB9.out) (by omega) (Nat.le_trans HB0.out.size HB9.out.size) 58
        have HB10 : Hid (Below W.heap.size W w10) := HB9.out.trans ((Only.of_grown hgrow1).below HB9.out.size (fun k hk => by simp [Value.ownBlock] at hk))
        rw [Nat.zero_add, List.nil_append] at hown1
        have hbxr := (HB10.out.block B3 (lt_of_heap HBX.out)).trans HBX.out
        have p0 : w10.cell? ⟨B3, 0, none⟩ = some (.int .i64 x.ent) := cell_of_heap hbxr 0
        have p1 : w10.cell? ⟨B3, 1, none⟩ = some (.string x.acc) := cell_of_heap hbxr 1
        have p2 : w10.cell? ⟨B3, 2, none⟩ = some (.string x.cur) := cell_of_heap hbxr 2
        have p3 : w10.cell? ⟨B3, 3, none⟩ = some (.int .i64 x.amt) := cell_of_heap hbxr 3
        have hB3l : B3 < w10.heap.size := lt_of_heap hbxr
        obtain ⟨b8, off8, e8, hb8, hcc8⟩ := (HL.out.lies.below HB10.out).resolve_left (fun e => by rw [e] at hlt; simp at hlt)
        simp only [Option.some.injEq, Addr.mk.injEq, and_true] at e8
        obtain ⟨rfl, rfl⟩ := e8
        obtain ⟨x0, x1, x2, x3⟩ := hcc8 k y HY.out
        have KEEP : ∀ w9, Below w10.drew.heap.size w10.drew w9 → w9.cell? ⟨b9, off + k * 4, none⟩ = some (.int .i64 y.ent) ∧ w9.cell? ⟨b9, off + k * 4 + 1, none⟩ = some (.string y.acc) ∧ w9.cell? ⟨b9, off + k * 4 + 2, none⟩ = some (.string y.cur) ∧ w9.cell? ⟨b9, off + k * 4 + 3, none⟩ = some (.int .i64 y.amt) ∧
            w9.cell? ⟨B3, 0, none⟩ = some (.int .i64 x.ent) ∧ w9.cell? ⟨B3, 1, none⟩ = some (.string x.acc) ∧ w9.cell? ⟨B3, 2, none⟩ = some (.string x.cur) ∧ w9.cell? ⟨B3, 3, none⟩ = some (.int .i64 x.amt) := fun w9 hb9' =>
          ⟨(hb9'.cell (p := ⟨b9, off + k * 4, none⟩) hb8).trans x0, (hb9'.cell (p := ⟨b9, off + k * 4 + 1, none⟩) hb8).trans x1, (hb9'.cell (p := ⟨b9, off + k * 4 + 2, none⟩) hb8).trans x2, (hb9'.cell (p := ⟨b9, off + k * 4 + 3, none⟩) hb8).trans x3,
            (hb9'.cell (p := ⟨B3, 0, none⟩) hB3l).trans p0, (hb9'.cell (p := ⟨B3, 1, none⟩) hB3l).trans p1, (hb9'.cell (p := ⟨B3, 2, none⟩) hB3l).trans p2, (hb9'.cell (p := ⟨B3, 3, none⟩) hB3l).trans p3⟩
        have HKEEP := Lib.hid KEEP
        have hcm := ahead_any x y w10.drew
        rw [show decide (balCmp x y < 0) = ahB x y from rfl] at hcm
        unfold balV at hcm
        have HOWN1 := Lib.hid hown1
        have HNEW1 : Hid (∀ k, v1.ownBlock = some k → W.heap.size ≤ k) := fun j hj => by
          rcases hblk1 with e | e
          · rw [e] at hj; simp [Value.ownBlock] at hj
          · rw [e] at hj; injection hj with hj; have := HB9.out.size; omega
        clear hcc8 KEEP hbxr hown1 hgrow1 hblk1
        cases hxy : ahB x y with
        | true =>
          rw [hxy] at hcm
          have HPUT : Hid (putB l x = l.take k ++ x :: l.drop k) := put_in (by rw [HP.out, HK2.out]) HY.out hxy
          clear hxy
          go_wp2_with (at_builtin; refine Lib.wpList_append_run _ rfl _ _ _ _ rfl _ _ rfl rfl _ _ hr1 ?_)
          go_region_held3 (fun w' => w'.cell? ⟨b9, off + k * 4, none⟩ = some (.int .i64 y.ent) ∧ w'.cell? ⟨b9, off + k * 4 + 1, none⟩ = some (.string y.acc) ∧ w'.cell? ⟨b9, off + k * 4 + 2, none⟩ = some (.string y.cur) ∧ w'.cell? ⟨b9, off + k * 4 + 3, none⟩ = some (.int .i64 y.amt) ∧
            w'.cell? ⟨B3, 0, none⟩ = some (.int .i64 x.ent) ∧ w'.cell? ⟨B3, 1, none⟩ = some (.string x.acc) ∧ w'.cell? ⟨B3, 2, none⟩ = some (.string x.cur) ∧ w'.cell? ⟨B3, 3, none⟩ = some (.int .i64 x.amt))
            (first | exact HKEEP.out _ hb9' | exact ⟨x0, x1, x2, x3, p0, p1, p2, p3⟩ | go_keep)
            (first
              | (go_at_call 80; refine hcm.mono ?_; rintro e w11 ⟨rfl, hb9'⟩))
          have HB11 : Hid (Below W.heap.size W w11) := HB10.out.drew.trans (hb9'.mono (show W.heap.size ≤ w10.drew.heap.size from HB10.out.size))
          clear hcm HKEEP hb9' x0 x1 x2 x3 p0 p1 p2 p3 HOWN1 HNEW1 hr1
          have htk : (l.take k).length = k := by rw [List.length_take]; omega
          have hdr : (l.drop k).length = l.length - k := List.length_drop
          obtain ⟨v2, w12, hr2, hown2, hgrow2, hblk2⟩ := run_append_bals (sc := lc) (World.ownsRow_nil w11 w.heap.size 77 4) ((HL.out.lies.below HB11.out).take k) (by omega) (Nat.le_trans HB0.out.size HB11.out.size) 58
          rw [htk] at hr2
          have HB12 : Hid (Below W.heap.size W w12) := HB11.out.trans ((Only.of_grown hgrow2).below HB11.out.size (fun k hk => by simp [Value.ownBlock] at hk))
          have hbx12 := (HB12.out.block B3 (lt_of_heap HBX.out)).trans HBX.out
          have s0 : w12.cell? ⟨B3, 0, none⟩ = some (.int .i64 x.ent) := cell_of_heap hbx12 0
          have s1 : w12.cell? ⟨B3, 1, none⟩ = some (.string x.acc) := cell_of_heap hbx12 1
          have s2 : w12.cell? ⟨B3, 2, none⟩ = some (.string x.cur) := cell_of_heap hbx12 2
          have s3 : w12.cell? ⟨B3, 3, none⟩ = some (.int .i64 x.amt) := cell_of_heap hbx12 3
          obtain ⟨V, hV⟩ : ∃ V, V = w12.alloc (.cells #[.int .i64 x.ent, .string x.acc, .string x.cur, .int .i64 x.amt] 77) := ⟨_, rfl⟩
          have hbV : Below w12.heap.size w12 V := by rw [hV]; exact (Below.refl _ _).alloc (Nat.le_refl _) _
          have HBV : Hid (Below W.heap.size W V) := HB12.out.trans (hbV.mono HB12.out.size)
          have hnew : V.heap[w12.heap.size]? = some (.cells #[.int .i64 x.ent, .string x.acc, .string x.cur, .int .i64 x.amt] 77 (0, 0)) := by rw [hV]; exact heap_new_at rfl _
          have hownV : V.ownsRow w.heap.size 77 4 v2 (0 + (l.take k).length) ([] ++ (l.take k).flatMap encB) := row_keep hown2 (fun k hk => hbV.block k (row_lt hown2 k hk).2)
          obtain ⟨v3, w13, hr3, hown3, hgrow3, hblk3⟩ := run_append_bals (sc := 1) hownV (l := [x]) (so := some ⟨w12.heap.size, 0, none⟩) (bals_one4 hnew) (by simp; omega) (Nat.le_trans HB0.out.size HBV.out.size) 58
          have hon3 : Only (fun k => v2.ownBlock = some k) V w13 := Only.of_grown hgrow3
          have HSX : Hid (w.heap.size ≤ W.heap.size ∧ W.heap.size ≤ w11.heap.size) := ⟨HB0.out.size, HB11.out.size⟩
          have hv2new : ∀ k, v2.ownBlock = some k → W.heap.size ≤ k := fun j hj => by
            rcases hblk2 with e | e
            · rw [e] at hj; simp [Value.ownBlock] at hj
            · rw [e] at hj; injection hj with hj; have := HSX.out.2; omega
          have HB13 : Hid (Below W.heap.size W w13) := HBV.out.trans (hon3.below HBV.out.size hv2new)
          have hv3new : ∀ k, v3.ownBlock = some k → W.heap.size ≤ k := fun j hj => by
            rcases hblk3 with e | e
            · rw [e] at hj; exact hv2new j hj
            · rw [e] at hj; injection hj with hj; have := HBV.out.size; omega
          obtain ⟨v4, w14, hr4, hown4, hgrow4, hblk4⟩ := run_append_bals (sc := lc - k) hown3 (l := l.drop k) (so := some ⟨b9, off + k * 4, none⟩) (bals_drop (HL.out.lies.below HB13.out) k) (by simp; omega) (Nat.le_trans HB0.out.size HB13.out.size) 58
          rw [hdr] at hr4
          have HB14 : Hid (Below W.heap.size W w14) := HB13.out.trans ((Only.of_grown hgrow4).below HB13.out.size hv3new)
          have hown5 : w14.ownsRow w.heap.size 77 4 v4 (putB l x).length ((putB l x).flatMap encB) := ownsRow_cast hown4 (by rw [HPUT.out]; simp; omega) (by rw [HPUT.out]; simp [List.flatMap_append])
          obtain ⟨ro, rc, rfl, hro⟩ := balsC_of_row hown5 rfl
          have HRO := Lib.hid hro
          have HBO := Lib.hid (HB0.out.trans (HB14.out.mono HB0.out.size))
          have HV := Lib.hid hV
          rw [List.length_singleton] at hr3
          have hlk : ¬ lc = k := by have := HL.out.cap; omega
          have hklc : k ≤ lc := by have := HL.out.cap; omega
          have htk2 : (l.take k).length = k := htk
          clear hgrow2 hblk2 hown2 hbx12 hV hbV hnew hownV hown3 hgrow3 hblk3 hon3 hv2new hv3new hown4 hgrow4 hblk4 hown5 hro htk hdr
          go_wp2_with (first | (at_builtin; refine Lib.wpList_append_run _ rfl _ _ _ _ rfl _ _ rfl rfl _ _ hr2 ?_) | (at_builtin; rw [← HV.out]; refine Lib.wpList_append_run _ rfl (.tmp 56) (.tmp 58) _ _ rfl v2 (.slice (some ⟨w12.heap.size, 0, none⟩) 1 1) rfl rfl v3 w13 hr3 ?_) | (at_builtin; refine Lib.wpList_append_run _ rfl (.tmp 60) (.tmp 63) _ _ rfl v3 (.slice (some ⟨b9, off + k * 4, none⟩) (l.length - k) (lc - k)) rfl rfl (.slice ro (putB l x).length rc) w14 hr4 ?_))
          go_ret
          exact ⟨HBO.out, ro, rc, rfl, HRO.out⟩
        | false =>
          rw [hxy] at hcm
          have HPUT : Hid (putB l x = l.set k (addB y x)) := put_add (by rw [HP.out, HK2.out]) HY.out hxy
          clear hxy
          go_wp2_with (at_builtin; refine Lib.wpList_append_run _ rfl _ _ _ _ rfl _ _ rfl rfl _ _ hr1 ?_)
          go_region_held3 (fun w' => w'.cell? ⟨b9, off + k * 4, none⟩ = some (.int .i64 y.ent) ∧ w'.cell? ⟨b9, off + k * 4 + 1, none⟩ = some (.string y.acc) ∧ w'.cell? ⟨b9, off + k * 4 + 2, none⟩ = some (.string y.cur) ∧ w'.cell? ⟨b9, off + k * 4 + 3, none⟩ = some (.int .i64 y.amt) ∧
            w'.cell? ⟨B3, 0, none⟩ = some (.int .i64 x.ent) ∧ w'.cell? ⟨B3, 1, none⟩ = some (.string x.acc) ∧ w'.cell? ⟨B3, 2, none⟩ = some (.string x.cur) ∧ w'.cell? ⟨B3, 3, none⟩ = some (.int .i64 x.amt))
            (first | exact HKEEP.out _ hb9' | exact ⟨x0, x1, x2, x3, p0, p1, p2, p3⟩ | go_keep)
            (first
              | (go_at_call 80; refine hcm.mono ?_; rintro e w11 ⟨rfl, hb9'⟩))
          have HB11 : Hid (Below W.heap.size W w11) := HB10.out.drew.trans (hb9'.mono (show W.heap.size ≤ w10.drew.heap.size from HB10.out.size))
          have hrow : w11.ownsRow w.heap.size 77 4 v1 l.length (l.flatMap encB) := row_keep HOWN1.out (fun k hk => hb9'.block k (show k < w10.drew.heap.size from (row_lt HOWN1.out k hk).2))
          have hb3 : w11.cell? ⟨B3, 3, none⟩ = some (.int .i64 x.amt) := (HKEEP.out w11 hb9').2.2.2.2.2.2.2
          rcases hrow.2 with ⟨_, h0⟩ | ⟨g, cap, cur, rfl, _⟩
          · omega
          · have hcell : w11.cell? ⟨g, k * 4 + 3, none⟩ = some (.int .i64 y.amt) := by
              rw [hrow.cellAt (k * 4 + 3) (by omega), flat4 l k 3 y HY.out (by omega)]; rfl
            have hfz : w11.frozen? ⟨g, k * 4 + 3, none⟩ = false := hrow.frozenAt _
            have hst := (World.ownsRow.drew hrow).stored (k * 4 + 3) (.int .i64 (wrap64 (y.amt + x.amt)))
            rw [flat_set l k y _ HY.out] at hst
            have hst1 : (w11.drew.setCell ⟨g, k * 4 + 3, none⟩ (.int .i64 (wrap64 (y.amt + x.amt)))).ownsRow w.heap.size 77 4 (.slice (some ⟨g, 0, none⟩) l.length cap) (putB l x).length ((putB l x).flatMap encB) := ownsRow_cast hst.1 (by rw [HPUT.out]; simp) (by rw [HPUT.out]; rfl)
            obtain ⟨ro, rc, hve, hro⟩ := balsC_of_row hst1 rfl
            have HVE := Lib.hid hve
            have HRO := Lib.hid hro
            have hgn := HNEW1.out g rfl
            have HBO : Hid (Below w.heap.size w (w11.drew.setCell ⟨g, k * 4 + 3, none⟩ (.int .i64 (wrap64 (y.amt + x.amt))))) := (HB0.out.trans (HB11.out.mono HB0.out.size)).drew.setCell (p := ⟨g, k * 4 + 3, none⟩) (Nat.le_trans HB0.out.size hgn) _
            clear hcm HKEEP hb9' x0 x1 x2 x3 p0 p1 p2 p3 HOWN1 HNEW1 hr1 hrow hst hst1 hve hro hgn
            go_wp2_with fail
            go_big_region
            all_goals go_wp2_with fail
            all_goals go_ret
            all_goals exact ⟨HBO.out, ro, rc, by rw [← HVE.out]; rfl, HRO.out⟩
    · obtain rfl : k = l.length := by omega
      have hi1 : ¬ (l.length : Int) < (l.length : Int) := by omega
      have hd1 : decide ((l.length : Int) < (l.length : Int)) = false := decide_eq_false hi1
      have HK2 : Hid (P = l.length) := by have := HK.out; rw [List.drop_of_length_le (Nat.le_refl _)] at this; exact this.symm
      have HPUT : Hid (putB l x = l.take l.length ++ x :: l.drop l.length) := put_end (by rw [HP.out, HK2.out]) (Nat.le_refl _)
      clear p0 p1 p2 p3 hB3lt HK hlt
      rcases HL.out.form with ⟨rfl, rfl⟩ | ⟨b9, rfl⟩
      · have hl0 : l = [] := List.length_eq_zero_iff.1 (by have := HL.out.cap; omega)
        subst hl0
        have HPUT0 : Hid (putB [] x = [] ++ x :: []) := HPUT.out
        rw [List.length_nil] at *
        go_wp2_with fail
        go_quiet (fail)
        obtain ⟨w9, hw9⟩ : ∃ w9, w9 = wr.drewN nq := ⟨_, rfl⟩
        rw [← hw9]
        have HB9 : Hid (Below W.heap.size W w9) := by show Below _ _ _; rw [hw9]; exact ⟨HBW.out.os, HBW.out.tape, HBW.out.output, HBW.out.size, HBW.out.block⟩
        clear hw9
        clear nq
        obtain ⟨v1, w10, hr1, hown1, hgrow1, hblk1⟩ := run_append_bals (sc := 0) (World.ownsRow_nil w9 w.heap.size 77 4) (l := []) (so := none) (Or.inl rfl) (by simp) (Nat.le_trans HB0.out.size HB9.out.size) 58
        have HB10 : Hid (Below W.heap.size W w10) := HB9.out.trans ((Only.of_grown hgrow1).below HB9.out.size (fun k hk => by simp [Value.ownBlock] at hk))
        clear hown1 hgrow1 hblk1
        go_wp2_with (at_builtin; refine Lib.wpList_append_run _ rfl _ _ _ _ rfl _ _ rfl rfl _ _ hr1 ?_)
        go_quiet (fail)
        obtain ⟨w11, hw11⟩ : ∃ w11, w11 = w10.drewN nq := ⟨_, rfl⟩
        rw [← hw11]
        have HB11 : Hid (Below W.heap.size W w11) := by show Below _ _ _; rw [hw11]; exact ⟨HB10.out.os, HB10.out.tape, HB10.out.output, HB10.out.size, HB10.out.block⟩
        clear hw11 hr1
        obtain ⟨v2, w12, hr2, hown2, hgrow2, hblk2⟩ := run_append_bals (sc := 0) (World.ownsRow_nil w11 w.heap.size 77 4) (l := []) (so := none) (Or.inl rfl) (by simp) (Nat.le_trans HB0.out.size HB11.out.size) 58
        have HB12 : Hid (Below W.heap.size W w12) := HB11.out.trans ((Only.of_grown hgrow2).below HB11.out.size (fun k hk => by simp [Value.ownBlock] at hk))
        have hbx12 := (HB12.out.block B3 (lt_of_heap HBX.out)).trans HBX.out
        have s0 : w12.cell? ⟨B3, 0, none⟩ = some (.int .i64 x.ent) := cell_of_heap hbx12 0
        have s1 : w12.cell? ⟨B3, 1, none⟩ = some (.string x.acc) := cell_of_heap hbx12 1
        have s2 : w12.cell? ⟨B3, 2, none⟩ = some (.string x.cur) := cell_of_heap hbx12 2
        have s3 : w12.cell? ⟨B3, 3, none⟩ = some (.int .i64 x.amt) := cell_of_heap hbx12 3
        obtain ⟨V, hV⟩ : ∃ V, V = w12.alloc (.cells #[.int .i64 x.ent, .string x.acc, .string x.cur, .int .i64 x.amt] 77) := ⟨_, rfl⟩
        have hbV : Below w12.heap.size w12 V := by rw [hV]; exact (Below.refl _ _).alloc (Nat.le_refl _) _
        have HBV : Hid (Below W.heap.size W V) := HB12.out.trans (hbV.mono HB12.out.size)
        have hnew : V.heap[w12.heap.size]? = some (.cells #[.int .i64 x.ent, .string x.acc, .string x.cur, .int .i64 x.amt] 77 (0, 0)) := by rw [hV]; exact heap_new_at rfl _
        have hownV : V.ownsRow w.heap.size 77 4 v2 (0 + ([] : List BalM).length) ([] ++ ([] : List BalM).flatMap encB) := row_keep hown2 (fun k hk => hbV.block k (row_lt hown2 k hk).2)
        obtain ⟨v3, w13, hr3, hown3, hgrow3, hblk3⟩ := run_append_bals (sc := 1) hownV (l := [x]) (so := some ⟨w12.heap.size, 0, none⟩) (bals_one4 hnew) (by simp) (Nat.le_trans HB0.out.size HBV.out.size) 58
        have hon3 : Only (fun k => v2.ownBlock = some k) V w13 := Only.of_grown hgrow3
        have HSX : Hid (w.heap.size ≤ W.heap.size ∧ W.heap.size ≤ w11.heap.size) := ⟨HB0.out.size, HB11.out.size⟩
        have hv2new : ∀ k, v2.ownBlock = some k → W.heap.size ≤ k := fun j hj => by
          rcases hblk2 with e | e
          · rw [e] at hj; simp [Value.ownBlock] at hj
          · rw [e] at hj; injection hj with hj; have := HSX.out.2; omega
        have HB13 : Hid (Below W.heap.size W w13) := HBV.out.trans (hon3.below HBV.out.size hv2new)
        have hv3new : ∀ k, v3.ownBlock = some k → W.heap.size ≤ k := fun j hj => by
          rcases hblk3 with e | e
          · rw [e] at hj; exact hv2new j hj
          · rw [e] at hj; injection hj with hj; have := HBV.out.size; omega
        obtain ⟨v4, w14, hr4, hown4, hgrow4, hblk4⟩ := run_append_bals (sc := 0) hown3 (l := []) (so := none) (Or.inl rfl) (by simp) (Nat.le_trans HB0.out.size HB13.out.size) 58
        have HB14 : Hid (Below W.heap.size W w14) := HB13.out.trans ((Only.of_grown hgrow4).below HB13.out.size hv3new)
        have hown5 : w14.ownsRow w.heap.size 77 4 v4 (putB [] x).length ((putB [] x).flatMap encB) := ownsRow_cast hown4 (by rw [HPUT0.out]; simp) (by rw [HPUT0.out]; simp [List.flatMap_append])
        obtain ⟨ro, rc, rfl, hro⟩ := balsC_of_row hown5 rfl
        have HRO := Lib.hid hro
        have HBO := Lib.hid (HB0.out.trans (HB14.out.mono HB0.out.size))
        have HV := Lib.hid hV
        rw [List.length_singleton] at hr3
        clear hgrow2 hblk2 hown2 hbx12 hV hbV hnew hownV hown3 hgrow3 hblk3 hon3 hv2new hv3new hown4 hgrow4 hblk4 hown5 hro
        go_wp2_with (first | (at_builtin; refine Lib.wpList_append_run _ rfl _ _ _ _ rfl _ _ rfl rfl _ _ hr2 ?_) | (at_builtin; rw [← HV.out]; refine Lib.wpList_append_run _ rfl (.tmp 56) (.tmp 58) _ _ rfl v2 (.slice (some ⟨w12.heap.size, 0, none⟩) 1 1) rfl rfl v3 w13 hr3 ?_) | (at_builtin; refine Lib.wpList_append_run _ rfl (.tmp 60) (.tmp 63) _ _ rfl v3 (.slice none 0 0) rfl rfl (.slice ro (putB [] x).length rc) w14 hr4 ?_))
        all_goals go_ret
        all_goals exact ⟨HBO.out, ro, rc, rfl, HRO.out⟩
      · go_wp2_with fail
        go_quiet (fail)
        obtain ⟨w9, hw9⟩ : ∃ w9, w9 = wr.drewN nq := ⟨_, rfl⟩
        rw [← hw9]
        have HB9 : Hid (Below W.heap.size W w9) := by show Below _ _ _; rw [hw9]; exact ⟨HBW.out.os, HBW.out.tape, HBW.out.output, HBW.out.size, HBW.out.block⟩
        clear hw9
        clear nq
        obtain ⟨v1, w10, hr1, hown1, hgrow1, hblk1⟩ := run_append_bals (sc := lc) (World.ownsRow_nil w9 w.heap.size 77 4) (HL.out.lies.below HB9.out) (by omega) (Nat.le_trans HB0.out.size HB9.out.size) 58
        have HB10 : Hid (Below W.heap.size W w10) := HB9.out.trans ((Only.of_grown hgrow1).below HB9.out.size (fun k hk => by simp [Value.ownBlock] at hk))
        clear hown1 hgrow1 hblk1
        go_wp2_with (at_builtin; refine Lib.wpList_append_run _ rfl _ _ _ _ rfl _ _ rfl rfl _ _ hr1 ?_)
        go_quiet (fail)
        obtain ⟨w11, hw11⟩ : ∃ w11, w11 = w10.drewN nq := ⟨_, rfl⟩
        rw [← hw11]
        have HB11 : Hid (Below W.heap.size W w11) := by show Below _ _ _; rw [hw11]; exact ⟨HB10.out.os, HB10.out.tape, HB10.out.output, HB10.out.size, HB10.out.block⟩
        clear hw11 hr1
        have htk : (l.take l.length).length = l.length := by rw [List.take_length]
        have hdr : (l.drop l.length).length = 0 := by rw [List.drop_of_length_le (Nat.le_refl _)]; rfl
        obtain ⟨v2, w12, hr2, hown2, hgrow2, hblk2⟩ := run_append_bals (sc := lc) (World.ownsRow_nil w11 w.heap.size 77 4) ((HL.out.lies.below HB11.out).take l.length) (by omega) (Nat.le_trans HB0.out.size HB11.out.size) 58
        rw [htk] at hr2
        have HB12 : Hid (Below W.heap.size W w12) := HB11.out.trans ((Only.of_grown hgrow2).below HB11.out.size (fun k hk => by simp [Value.ownBlock] at hk))
        have hbx12 := (HB12.out.block B3 (lt_of_heap HBX.out)).trans HBX.out
        have s0 : w12.cell? ⟨B3, 0, none⟩ = some (.int .i64 x.ent) := cell_of_heap hbx12 0
        have s1 : w12.cell? ⟨B3, 1, none⟩ = some (.string x.acc) := cell_of_heap hbx12 1
        have s2 : w12.cell? ⟨B3, 2, none⟩ = some (.string x.cur) := cell_of_heap hbx12 2
        have s3 : w12.cell? ⟨B3, 3, none⟩ = some (.int .i64 x.amt) := cell_of_heap hbx12 3
        obtain ⟨V, hV⟩ : ∃ V, V = w12.alloc (.cells #[.int .i64 x.ent, .string x.acc, .string x.cur, .int .i64 x.amt] 77) := ⟨_, rfl⟩
        have hbV : Below w12.heap.size w12 V := by rw [hV]; exact (Below.refl _ _).alloc (Nat.le_refl _) _
        have HBV : Hid (Below W.heap.size W V) := HB12.out.trans (hbV.mono HB12.out.size)
        have hnew : V.heap[w12.heap.size]? = some (.cells #[.int .i64 x.ent, .string x.acc, .string x.cur, .int .i64 x.amt] 77 (0, 0)) := by rw [hV]; exact heap_new_at rfl _
        have hownV : V.ownsRow w.heap.size 77 4 v2 (0 + (l.take l.length).length) ([] ++ (l.take l.length).flatMap encB) := row_keep hown2 (fun k hk => hbV.block k (row_lt hown2 k hk).2)
        obtain ⟨v3, w13, hr3, hown3, hgrow3, hblk3⟩ := run_append_bals (sc := 1) hownV (l := [x]) (so := some ⟨w12.heap.size, 0, none⟩) (bals_one4 hnew) (by simp; omega) (Nat.le_trans HB0.out.size HBV.out.size) 58
        have hon3 : Only (fun k => v2.ownBlock = some k) V w13 := Only.of_grown hgrow3
        have HSX : Hid (w.heap.size ≤ W.heap.size ∧ W.heap.size ≤ w11.heap.size) := ⟨HB0.out.size, HB11.out.size⟩
        have hv2new : ∀ k, v2.ownBlock = some k → W.heap.size ≤ k := fun j hj => by
          rcases hblk2 with e | e
          · rw [e] at hj; simp [Value.ownBlock] at hj
          · rw [e] at hj; injection hj with hj; have := HSX.out.2; omega
        have HB13 : Hid (Below W.heap.size W w13) := HBV.out.trans (hon3.below HBV.out.size hv2new)
        have hv3new : ∀ k, v3.ownBlock = some k → W.heap.size ≤ k := fun j hj => by
          rcases hblk3 with e | e
          · rw [e] at hj; exact hv2new j hj
          · rw [e] at hj; injection hj with hj; have := HBV.out.size; omega
        obtain ⟨v4, w14, hr4, hown4, hgrow4, hblk4⟩ := run_append_bals (sc := lc - l.length) hown3 (l := l.drop l.length) (so := if lc = l.length then some ⟨b9, 0, none⟩ else some ⟨b9, l.length * 4, none⟩) (Or.inl (List.drop_of_length_le (Nat.le_refl _))) (by simp; omega) (Nat.le_trans HB0.out.size HB13.out.size) 58
        rw [hdr] at hr4
        have HB14 : Hid (Below W.heap.size W w14) := HB13.out.trans ((Only.of_grown hgrow4).below HB13.out.size hv3new)
        have hown5 : w14.ownsRow w.heap.size 77 4 v4 (putB l x).length ((putB l x).flatMap encB) := ownsRow_cast hown4 (by rw [HPUT.out]; simp) (by rw [HPUT.out]; simp [List.flatMap_append])
        obtain ⟨ro, rc, rfl, hro⟩ := balsC_of_row hown5 rfl
        have HRO := Lib.hid hro
        have HBO := Lib.hid (HB0.out.trans (HB14.out.mono HB0.out.size))
        have HV := Lib.hid hV
        rw [List.length_singleton] at hr3
        have hlcl : l.length ≤ lc := HL.out.cap
        clear hgrow2 hblk2 hown2 hbx12 hV hbV hnew hownV hown3 hgrow3 hblk3 hon3 hv2new hv3new hown4 hgrow4 hblk4 hown5 hro htk hdr
        go_wp2_with (first | (at_builtin; refine Lib.wpList_append_run _ rfl _ _ _ _ rfl _ _ rfl rfl _ _ hr2 ?_) | (at_builtin; rw [← HV.out]; refine Lib.wpList_append_run _ rfl (.tmp 56) (.tmp 58) _ _ rfl v2 (.slice (some ⟨w12.heap.size, 0, none⟩) 1 1) rfl rfl v3 w13 hr3 ?_) | (at_builtin; refine Lib.wpList_append_run _ rfl (.tmp 60) (.tmp 63) _ _ rfl v3 (.slice (if lc = l.length then some ⟨b9, 0, none⟩ else some ⟨b9, l.length * 4, none⟩) (0) (lc - l.length)) rfl rfl (.slice ro (putB l x).length rc) w14 hr4 ?_))
        all_goals go_ret
        all_goals exact ⟨HBO.out, ro, rc, rfl, HRO.out⟩
end Go.Proofs.YtbhndnjlplibmaaDoor.lg
