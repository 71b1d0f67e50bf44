/- ledger.Get: the balance of a place. -/
import Derived.Test.YtbhndnjlplibmaaDoorLg1
namespace Go.Proofs.YtbhndnjlplibmaaDoor.lg
open Go.RowKit

/-- is it this place's? -/
def atB (x : BalM) (e : Int) (a c : ByteArray) : Bool := x.ent == e && (sameS x.acc a && sameS x.cur c)
/-- the first balance of a place; 0: there is none -/
def getB : List BalM → Int → ByteArray → ByteArray → Int
  | [], _, _, _ => 0
  | x :: r, e, a, c => if atB x e a c = true then x.amt else getB r e a c
theorem getB_drop {t : List BalM} {k : Nat} {x : BalM} (hk : t[k]? = some x) (e : Int) (a c : ByteArray) : getB (t.drop k) e a c = if atB x e a c = true then x.amt else getB (t.drop (k + 1)) e a c := by
  obtain ⟨hk', rfl⟩ := List.getElem?_eq_some_iff.1 hk
  rw [List.drop_eq_getElem_cons hk', getB]
set_option maxRecDepth 100000 in
set_option maxHeartbeats 4000000 in
theorem get_any (ao : Option Addr) (cap : Nat) (t : List BalM) (e0 : Int) (a c : ByteArray) (w : World) (hh : BalsAt w ao t) (hm : t.length ≤ 9223372036854775807) :
    Calls Tryd.prog 68 #[.slice ao t.length cap, .int .i64 e0, .string a, .string c] w fun e w' => e = .returned (.int .i64 (getB t e0 a c)) ∧ Below w.heap.size w w' := by
  have HH := Lib.hid hh
  obtain ⟨B, hB⟩ : ∃ B, B = w.heap.size := ⟨_, rfl⟩
  rw [← hB]
  have HB := Lib.hid hB
  clear hh hB
  obtain ⟨g, hg⟩ : ∃ g, getB t e0 a c = g := ⟨_, rfl⟩
  rw [hg]
  have HG := Lib.hid hg
  clear hg
  go_enter Tryd.func68, Tryd.ntmps68
  go_wp2_with fail
  go_loopw [13] (fun i wr => ∃ k : Nat, k ≤ t.length ∧ i = .int .i64 (k : Int) ∧ Hid (getB (t.drop k) e0 a c = g) ∧ Hid (Below B w wr)) (fun i _ => t.length - (intOf i).toNat)
  case atStart => exact ⟨0, Nat.zero_le _, rfl, HG, Below.refl _ _⟩
  case round =>
    obtain ⟨k, hk, rfl, HR, HBW⟩ := hrel
    by_cases hlt : k < t.length
    · obtain ⟨x, hx⟩ := getElem?_ex hlt
      obtain ⟨b, off, rfl, hb, hcc⟩ := HH.out.resolve_left (fun e => by rw [e] at hlt; simp at hlt)
      have hbw : Below w.heap.size w wr := by rw [← HB.out]; exact HBW.out
      obtain ⟨y0, y1, y2, y3⟩ := hcc k x hx
      have x0 := (hbw.cell (p := ⟨b, _, none⟩) hb).trans y0
      have x1 := (hbw.cell (p := ⟨b, _, none⟩) hb).trans y1
      have x2 := (hbw.cell (p := ⟨b, _, none⟩) hb).trans y2
      have x3 := (hbw.cell (p := ⟨b, _, none⟩) hb).trans y3
      have hdr := getB_drop hx e0 a c
      rw [HR.out] at hdr
      have HD := Lib.hid hdr
      have hi1 : (k : Int) < (t.length : Int) := by omega
      have hi0 : (0 : Int) ≤ (k : Int) := by omega
      have HBA : Hid (Below B w (wr.alloc (.cells #[.int .i64 x.ent, .string x.acc, .string x.cur, .int .i64 x.amt] 77))) := HBW.out.alloc (by rw [HB.out]; exact hbw.size) _
      obtain ⟨xe, xa, xc, xm⟩ := x
      dsimp only at x0 x1 x2 x3 HBA
      clear hcc y0 y1 y2 y3 hx hbw hdr HR
      obtain ⟨b1, h1⟩ : ∃ b1, (xe == e0) = b1 := ⟨_, rfl⟩
      obtain ⟨b2, h2⟩ : ∃ b2, sameS xa a = b2 := ⟨_, rfl⟩
      obtain ⟨b3, h3⟩ : ∃ b3, sameS xc c = b3 := ⟨_, rfl⟩
      have hat : atB ⟨xe, xa, xc, xm⟩ e0 a c = (b1 && (b2 && b3)) := by unfold atB; rw [h1, h2, h3]
      have HD2 : Hid (g = if (b1 && (b2 && b3)) = true then xm else getB (t.drop (k + 1)) e0 a c) := by have := HD.out; rw [hat] at this; exact this
      have h2' : (xa.toList == a.toList) = b2 := h2
      have h3' : (xc.toList == c.toList) = b3 := h3
      clear HD hat h2 h3
      cases b1 with
      | false =>
        have HR : Hid (getB (t.drop (k + 1)) e0 a c = g) := HD2.out.symm
        go_wp2_with fail
        go_roundw
        case rel => exact ⟨k + 1, by omega, by go_num, HR, HBA⟩
        case measure => simp [intOf]; omega
      | true =>
        cases b2 with
        | false =>
          have HR : Hid (getB (t.drop (k + 1)) e0 a c = g) := HD2.out.symm
          go_wp2_with fail
          go_roundw
          case rel => exact ⟨k + 1, by omega, by go_num, HR, HBA⟩
          case measure => simp [intOf]; omega
        | true =>
          cases b3 with
          | false =>
            have HR : Hid (getB (t.drop (k + 1)) e0 a c = g) := HD2.out.symm
            go_wp2_with fail
            go_roundw
            case rel => exact ⟨k + 1, by omega, by go_num, HR, HBA⟩
            case measure => simp [intOf]; omega
          | true =>
            have HR : Hid (xm = g) := HD2.out.symm
            go_wp2_with fail
            go_ret
            exact ⟨ret_int HR.out, HBA.out⟩
    · obtain rfl : k = t.length := by omega
      have hz := HR.out
      rw [List.drop_of_length_le (Nat.le_refl _)] at hz
      have HZ : Hid (0 = g) := hz
      clear hz HR
      go_wp2_with fail
      go_ret
      exact ⟨ret_int HZ.out, HBW.out⟩
end Go.Proofs.YtbhndnjlplibmaaDoor.lg
