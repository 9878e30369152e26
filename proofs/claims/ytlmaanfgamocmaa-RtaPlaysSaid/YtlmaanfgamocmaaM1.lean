/- Contracts of come, of the closure first. -/
import Derived.Test.YtlmaanfgamocmaaL1
import Derived.Test.YtlmaanfgamocmaaR4
namespace Go.Proofs.Ytlmaanfgamocmaa
open Go.RowKit

theorem ceil_come {s o p : Nat} (hp : 1 ≤ p) (h : o < s) : ((s : Int) - 1 - (o : Int)) / (p : Int) + 1 = (((s - o + p - 1) / p : Nat) : Int) := by
  rw [show s - o + p - 1 = (s - 1 - o) + 1 * p by omega, Nat.add_mul_div_right _ _ (by omega), show ((s : Int) - 1 - (o : Int)) = ((s - 1 - o : Nat) : Int) by omega, ← Int.natCast_ediv]
  rfl
theorem come_any (p o s : Nat) (x : Int) (w : World) (hx : x = (s : Int) - 1) (hp : 1 ≤ p) (hp2 : p ≤ 100000) (ho : o ≤ 100000) (hs : s ≤ 100001) :
    Calls Try.prog 21 #[.agg #[.int .i64 p, .int .i64 o], .int .i64 x] w (IntNw ((s - o + p - 1) / p : Nat) w) := by
  by_cases h : o < s
  · have hc := ceil_come hp h
    have h1 : ¬ x < (o : Int) := by omega
    have hle : (s - o + p - 1) / p ≤ 100001 := by
      rw [Nat.div_le_iff_le_mul_add_pred (by omega)]
      have : 100001 ≤ p * 100001 := Nat.le_mul_of_pos_left _ (by omega)
      omega
    have hp0 : ¬ (p : Int) = 0 := by omega
    have hp1 : ((p : Int) == 0) = false := by simp; omega
    generalize (s - o + p - 1) / p = q at *
    have hq1 : (x - (o : Int)) / (p : Int) = (q : Int) - 1 := by rw [hx]; omega
    have hq2 : (x - (o : Int)).tdiv (p : Int) = (q : Int) - 1 := by rw [Int.tdiv_eq_ediv_of_nonneg (by omega), hq1]
    have hx1 : -1 ≤ x := by omega
    have hx2 : x ≤ 100000 := by omega
    clear hx hc
    go_enter Try.func21, Try.ntmps21
    go_wp2
    go_ret
    exact ⟨ret_int (by omega), nw_alloc _ _⟩
  · have hc : (s - o + p - 1) / p = 0 := by
      rw [show s - o + p - 1 = p - 1 by omega]
      exact Nat.div_eq_of_lt (by omega)
    rw [hc]
    have h1 : x < (o : Int) := by omega
    clear hx hc
    go_enter Try.func21, Try.ntmps21
    go_wp2
    go_ret
    exact ⟨rfl, nw_alloc _ _⟩
end Go.Proofs.Ytlmaanfgamocmaa
