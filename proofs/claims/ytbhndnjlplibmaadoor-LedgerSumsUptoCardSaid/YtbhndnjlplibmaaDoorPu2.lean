/- dayref2.Full: those that are not 0. -/
import Derived.Test.YtbhndnjlplibmaaDoorPu1
namespace Go.Proofs.YtbhndnjlplibmaaDoor.lg
open Go.RowKit

def fullB (l : List BalM) : List BalM := l.filter fun x => !(x.amt == 0)
theorem fullB_len (l : List BalM) : (fullB l).length ≤ l.length := List.length_filter_le _ _
theorem fullB_take {l : List BalM} {k : Nat} {x : BalM} (h : l[k]? = some x) : fullB (l.take (k + 1)) = fullB (l.take k) ++ if x.amt = 0 then [] else [x] := by
  rw [List.take_add_one, h]
  unfold fullB
  rw [List.filter_append]
  by_cases h0 : x.amt = 0 <;> simp [h0]
def FullPost (B : Nat) (w : World) (l : List BalM) (e : Ending) (w' : World) : Prop := Below B w w' ∧ ∃ ro rc, e = .returned (.slice ro (fullB l).length rc) ∧ BalsAt w' ro (fullB l)

set_option maxRecDepth 100000 in
set_option maxHeartbeats 8000000 in
theorem full_any (lo : Option Addr) (lc : Nat) (l : List BalM) (w : World) (hl : BalsAt w lo l) (hn : l.length ≤ 2000000) :
    Calls Tryd.prog 59 #[.slice lo l.length lc] w (FullPost w.heap.size w l) := by
  have HL := Lib.hid hl
  obtain ⟨i0, hi0, hz0, hz1, hz2⟩ := info_parts infoBal
  have HI0 := Lib.hid hi0
  have HZ0 := Lib.hid hz0
  have HZ1 := Lib.hid hz1
  have HZ2 := Lib.hid hz2
  have S0 : Hid (RowSt w [] 77 4 (.slice none 0 0) (fullB (l.take 0)).length ((fullB (l.take 0)).flatMap encB) w) := RowSt.start ⟨Below.refl _ _, fun p hp => by cases hp⟩
  clear hl hi0 hz0 hz1 hz2
  go_enter Tryd.func59, Tryd.ntmps59
  go_wp2_with fail
  go_loopw [3, 4] (fun v i wr => ∃ k : Nat, k ≤ l.length ∧ i = .int .i64 (k : Int) ∧ Hid (RowSt w [] 77 4 v (fullB (l.take k)).length ((fullB (l.take k)).flatMap encB) wr)) (fun _ i _ => l.length - (intOf i).toNat)
  case atStart => exact ⟨0, Nat.zero_le _, rfl, S0⟩
  case round =>
    clear S0
    obtain ⟨k, hk, rfl, HS⟩ := hrel
    by_cases hlt : k < l.length
    · obtain ⟨x, hx⟩ := getElem?_ex hlt
      obtain ⟨b9, off, rfl, hb9, hcc⟩ := (HL.out.below HS.out.fr.below).resolve_left (fun e => by rw [e] at hlt; simp at hlt)
      obtain ⟨x0, x1, x2, x3⟩ := hcc k x hx
      have hi1 : (k : Int) < (l.length : Int) := by omega
      have hi0 : (0 : Int) ≤ (k : Int) := by omega
      have HTK := Lib.hid (fullB_take hx)
      clear hcc hx
      by_cases hv : x.amt = 0
      · have q1 : (x.amt != 0) = false := by simpa using hv
        have HS2 : Hid (RowSt w [] 77 4 u3 (fullB (l.take (k + 1))).length ((fullB (l.take (k + 1))).flatMap encB) wr) := by
          show RowSt _ _ _ _ _ _ _ _
          rw [HTK.out, if_pos hv, List.append_nil]
          exact HS.out
        clear hv
        go_wp2_with fail
        go_roundw
        case rel => exact ⟨k + 1, by omega, by go_num, HS2⟩
        case measure => simp [intOf]; omega
      · have q1 : (x.amt != 0) = true := by simpa using hv
        obtain ⟨W8, hW8⟩ : ∃ W8, W8 = wr.alloc (.cells #[.int .i64 x.ent, .string x.acc, .string x.cur, .int .i64 x.amt] 77) := ⟨_, rfl⟩
        have S2 : Hid (RowSt w [] 77 4 u3 (fullB (l.take k)).length ((fullB (l.take k)).flatMap encB) W8) := by
          show RowSt _ _ _ _ _ _ _ _
          rw [hW8]
          exact HS.out.later ((Below.refl _ _).alloc (Nat.le_refl _) _)
        have hnew : W8.heap[wr.heap.size]? = some (.cells #[.int .i64 x.ent, .string x.acc, .string x.cur, .int .i64 x.amt] 77 (0, 0)) := by rw [hW8]; exact heap_new_at rfl _
        have hszW : W8.heap.size = wr.heap.size + 1 := by rw [hW8]; simp
        have hsz6 := HS.out.fr.below.size
        have hfl : (fullB (l.take k)).length ≤ 2000000 := by
          have h1 := fullB_len (l.take k)
          rw [List.length_take] at h1
          omega
        have HW8 := Lib.hid hW8
        have HTK2 : Hid (fullB (l.take (k + 1)) = fullB (l.take k) ++ [x]) := by show _ = _; rw [HTK.out, if_neg hv]
        obtain ⟨uo, um, uc, rfl⟩ := ownsRow_form S2.out.row
        clear hW8 HS hv
        go_wp2_with (at_builtin; rw [← HW8.out]; go_must (refine wpList_append_own_at (o := ⟨some 23, _, _, _, _, _⟩) _ rfl (.tmp 17) (.tmp 22) 58 rfl w.heap.size 77 i0 (.agg #[.int .i64 0, .string ⟨#[]⟩, .string ⟨#[]⟩, .int .i64 0]) 4 48 Tryd.underlying58 HI0.out HZ0.out HZ1.out HZ2.out rfl (by decide) (.slice uo um uc) (fullB (l.take k)).length ((fullB (l.take k)).flatMap encB) rfl S2.out.row ⟨wr.heap.size, 0, none⟩ 1 1 [.int .i64 x.ent, .string x.acc, .string x.cur, .int .i64 x.amt] rfl rfl (World.news_of_block (cs := #[.int .i64 x.ent, .string x.acc, .string x.cur, .int .i64 x.amt]) (t := 77) (fr := (0, 0)) hnew) (by simp [Value.oneCell']) (by unfold maxLen; omega) (by omega) (by omega) ?_); intro v1 wn hown1 hgrow1 _ hblk1)
        have HMV : Moved W8 wn (.slice uo um uc) v1 := ⟨Only.of_grown hgrow1, hblk1.imp id (fun e => ⟨_, e, Nat.le_refl _⟩)⟩
        have HS5 : Hid (RowSt w [] 77 4 v1 (fullB (l.take (k + 1))).length ((fullB (l.take (k + 1))).flatMap encB) wn) := S2.out.moved (ownsRow_cast hown1 (by rw [HTK2.out]; simp) (by rw [HTK2.out]; simp [encB])) HMV
        clear hown1 hgrow1 hblk1 HMV S2 HW8 hnew hszW hfl
        go_wp2_with fail
        go_roundw
        case rel => exact ⟨k + 1, by omega, by go_num, HS5⟩
        case measure => simp [intOf]; omega
    · obtain rfl : k = l.length := by omega
      have hrow := HS.out.row
      rw [List.take_length] at hrow
      obtain ⟨ro, rc, rfl, hro⟩ := bals_of_row hrow rfl
      have HRO := Lib.hid hro
      have HBW := Lib.hid HS.out.fr.below
      clear hrow hro HS
      go_wp2_with fail
      go_ret
      exact ⟨HBW.out, ro, rc, rfl, HRO.out⟩
end Go.Proofs.YtbhndnjlplibmaaDoor.lg
