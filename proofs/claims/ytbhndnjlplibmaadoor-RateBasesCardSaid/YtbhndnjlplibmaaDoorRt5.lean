/- RateBases walked. -/
import Derived.Test.YtbhndnjlplibmaaDoorRt4
import Derived.Test.YtbhndnjlplibmaaDoorTold
namespace Go.Proofs.YtbhndnjlplibmaaDoor.rt
open Go.RowKit Go.MapKept Go.Proofs.YtbhndnjlplibmaaDoor.lg

def usd : ByteArray := ⟨#[85, 83, 68]⟩
def eur : ByteArray := ⟨#[69, 85, 82]⟩
def gbp : ByteArray := ⟨#[71, 66, 80]⟩
def jpy : ByteArray := ⟨#[74, 80, 89]⟩
theorem same_data (a b : ByteArray) : sameS a b = (a.data.toList == b.data.toList) := by unfold sameS; rw [ByteArray.toList_eq, ByteArray.toList_eq]
theorem s_ue : sameS usd eur = false := by rw [same_data]; rfl
theorem s_ug : sameS usd gbp = false := by rw [same_data]; rfl
theorem s_uj : sameS usd jpy = false := by rw [same_data]; rfl
theorem s_eu : sameS eur usd = false := by rw [same_data]; rfl
theorem s_eg : sameS eur gbp = false := by rw [same_data]; rfl
theorem s_ej : sameS eur jpy = false := by rw [same_data]; rfl
theorem s_gu : sameS gbp usd = false := by rw [same_data]; rfl
theorem s_ge : sameS gbp eur = false := by rw [same_data]; rfl
theorem s_gj : sameS gbp jpy = false := by rw [same_data]; rfl
theorem s_jg : sameS jpy gbp = false := by rw [same_data]; rfl
theorem s_je : sameS jpy eur = false := by rw [same_data]; rfl
theorem s_ju : sameS jpy usd = false := by rw [same_data]; rfl
theorem s_uu : sameS usd usd = true := by rw [same_data]; rfl
theorem s_ee : sameS eur eur = true := by rw [same_data]; rfl
theorem s_gg : sameS gbp gbp = true := by rw [same_data]; rfl
theorem c_u : curB usd = true := by rfl
theorem c_e : curB eur = true := by rfl
theorem c_g : curB gbp = true := by rfl
theorem c_j : curB jpy = true := by rfl
def two (n d p q : Int) : List RateM := [⟨usd, eur, 1, n, d⟩, ⟨eur, gbp, 1, p, q⟩]
theorem key_ne {r s : RateM} (h : minS r.fr r.to ≠ minS s.fr s.to) : keyR r ≠ keyR s := fun e => h (congrArg KeyM.a e)
theorem two_right {n d p q : Int} (hn : 1 ≤ n ∧ n ≤ 30000) (hd : 1 ≤ d ∧ d ≤ 30000) (hp : 1 ≤ p ∧ p ≤ 30000) (hq : 1 ≤ q ∧ q ≤ 30000) : Right (two n d p q) where
  cur r hr := by
    simp only [two, List.mem_cons, List.not_mem_nil, or_false] at hr
    rcases hr with rfl | rfl
    · exact ⟨c_u, c_e, rfl, rfl, s_ue⟩
    · exact ⟨c_e, c_g, rfl, rfl, s_eg⟩
  num r hr := by
    simp only [two, List.mem_cons, List.not_mem_nil, or_false] at hr
    rcases hr with rfl | rfl
    · simp only; omega
    · simp only; omega
  apart := by
    have l1 : Op.bytesLess usd.toList eur.toList = false := by rw [ByteArray.toList_eq, ByteArray.toList_eq]; rfl
    have l2 : Op.bytesLess eur.toList gbp.toList = true := by rw [ByteArray.toList_eq, ByteArray.toList_eq]; rfl
    have e1 : (usd.toList == eur.toList) = false := s_ue
    have hne : maxS usd eur ≠ maxS eur gbp := by
      unfold maxS
      rw [l1, l2]
      intro e
      have := congrArg (fun b : ByteArray => b.data.toList) e
      revert this
      simp [usd, gbp]
    have : keyR ⟨usd, eur, 1, n, d⟩ ≠ keyR ⟨eur, gbp, 1, p, q⟩ := fun e => hne (congrArg KeyM.b e)
    simp [two, this]
  few := by simp [two]
theorem d_ug (n d p q : Int) : dirM usd gbp 1 (two n d p q) = none := by simp [two, dirM, s_uu, s_eg, s_ue, s_ug, s_eu, s_ge, s_gg, s_ee, s_gu]
theorem d_gu (n d p q : Int) : dirM gbp usd 1 (two n d p q) = none := by simp [two, dirM, s_uu, s_eg, s_ue, s_ug, s_eu, s_ge, s_gg, s_ee, s_gu]
theorem d_ue (n d p q : Int) : dirM usd eur 1 (two n d p q) = some (n, d) := by simp [two, dirM, s_uu, s_eg, s_ue, s_ug, s_eu, s_ge, s_gg, s_ee, s_gu]
theorem d_eu (n d p q : Int) : dirM eur usd 1 (two n d p q) = some (d, n) := by simp [two, dirM, s_uu, s_eg, s_ue, s_ug, s_eu, s_ge, s_gg, s_ee, s_gu]
theorem d_eg (n d p q : Int) : dirM eur gbp 1 (two n d p q) = some (p, q) := by simp [two, dirM, s_uu, s_eg, s_ue, s_ug, s_eu, s_ge, s_gg, s_ee, s_gu]
theorem d_ge (n d p q : Int) : dirM gbp eur 1 (two n d p q) = some (q, p) := by simp [two, dirM, s_uu, s_eg, s_ue, s_ug, s_eu, s_ge, s_gg, s_ee, s_gu]
theorem d_uj (n d p q : Int) : dirM usd jpy 1 (two n d p q) = none := by simp [two, dirM, s_uu, s_eg, s_ue, s_ug, s_eu, s_ge, s_gg, s_ee, s_gu, s_ej, s_uj, s_gj]
theorem d_jg (n d p q : Int) : dirM jpy gbp 1 (two n d p q) = none := by simp [two, dirM, s_uu, s_eg, s_ue, s_ug, s_eu, s_ge, s_gg, s_ee, s_gu, s_ej, s_uj, s_gj, s_jg, s_ju, s_je]
theorem a_ug : Asks eur usd gbp 1 := ⟨c_e, c_u, c_g, by omega, s_ug, s_ue, s_eg, s_ge⟩
theorem a_gu : Asks eur gbp usd 1 := ⟨c_e, c_g, c_u, by omega, s_gu, s_ge, s_eu, s_ue⟩
theorem a_jug : Asks jpy usd gbp 1 := ⟨c_j, c_u, c_g, by omega, s_ug, s_uj, s_jg, s_gj⟩
theorem two_at {w : World} {b : Nat} {n d p q : Int} {ty : TypeId} (h : w.heap[b]? = some (.cells #[.string usd, .string eur, .int .i64 1, .int .i64 n, .int .i64 d, .string eur, .string gbp, .int .i64 1, .int .i64 p, .int .i64 q] ty (0, 0))) : RatesAt w b (two n d p q) := by
  refine ⟨lt_of_heap h, fun i x hx => ?_⟩
  match i with
  | 0 =>
    simp only [two, List.getElem?_cons_zero, Option.some.injEq] at hx
    subst hx
    exact ⟨cell_of_heap h 0, cell_of_heap h 1, cell_of_heap h 2, cell_of_heap h 3, cell_of_heap h 4⟩
  | 1 =>
    simp only [two, List.getElem?_cons_succ, List.getElem?_cons_zero, Option.some.injEq] at hx
    subst hx
    exact ⟨cell_of_heap h 5, cell_of_heap h 6, cell_of_heap h 7, cell_of_heap h 8, cell_of_heap h 9⟩
  | i + 2 => simp [two] at hx
end Go.Proofs.YtbhndnjlplibmaaDoor.rt
