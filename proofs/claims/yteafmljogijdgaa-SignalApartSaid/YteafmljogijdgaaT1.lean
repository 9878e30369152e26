/- Contracts: Range, by both; one bit set. -/
import Derived.Test.YteafmljogijdgaaS5
import Derived.Test.YteafmljogijdgaaP2
namespace Go.Proofs.Yteafmljogijdgaa
open Go.RowKit

/-- The range of a field, as it is answered. -/
def loV (st ln : Int) (sg : Bool) : Int := if rightB st ln 64 then loR ln.toNat sg else 0
def hiV (st ln : Int) (sg : Bool) : Int := if rightB st ln 64 then hiR ln.toNat sg else 0
def RangePost (lo hi : Int) (w : World) (e : Ending) (w' : World) : Prop := e = .returned (.tuple #[.int .i64 lo, .int .i64 hi]) ∧ Nw w w'

theorem wrap_a (a : Int) (h0 : 0 ≤ a) (h : a ≤ 1152921504606846976) : wrap64 (wrap64 a - 1) = a - 1 := by
  rw [IntWalk.wrap64_in a (by omega), IntWalk.wrap64_in (a - 1) (by omega)]
theorem wrap_b (a : Int) (h0 : 0 ≤ a) (h : a ≤ 1152921504606846976) : wrap64 (-a) = 0 - a := by
  rw [IntWalk.wrap64_in (-a) (by omega)]
  omega
theorem p2i (k : Nat) : ((2 : Int) ^ k) = ((2 ^ k : Nat) : Int) := by push_cast; rfl

set_option maxHeartbeats 1600000 in
theorem range_no (st ln : Int) (big sg : Bool) (w : World) (h : rightB st ln 64 = false) : Calls Try.prog 23 #[fld st ln big sg] w (RangePost 0 0 w) := by
  have H := Lib.hid h
  clear h
  go_enter Try.func23, Try.ntmps23
  go_wp2_with fail
  refine (right_any _ _ _ _ _ _).mono ?_
  rintro e w1 ⟨rfl, hb⟩
  rw [H.out]
  go_wp2
  go_ret2
  exact ⟨rfl, Nw.then_ ((Below.refl _ w).alloc (Nat.le_refl _) _) hb⟩
set_option maxHeartbeats 1600000 in
theorem rrange_no (st ln : Int) (big sg : Bool) (w : World) (h : rightB st ln 64 = false) : Calls Try.prog 13 #[fld st ln big sg] w (RangePost 0 0 w) := by
  have H := Lib.hid h
  clear h
  go_enter Try.func13, Try.ntmps13
  go_wp2_with fail
  refine (rright_any _ _ _ _ _ _).mono ?_
  rintro e w1 ⟨rfl, hb⟩
  rw [H.out]
  go_wp2
  go_ret2
  exact ⟨rfl, Nw.then_ ((Below.refl _ w).alloc (Nat.le_refl _) _) hb⟩

set_option maxHeartbeats 1600000 in
theorem range_yes (st ln : Nat) (big sg : Bool) (w : World) (hl1 : 1 ≤ ln) (hl2 : ln ≤ 60) (hs : st + ln ≤ 512) : Calls Try.prog 23 #[fld st ln big sg] w (RangePost (loR ln sg) (hiR ln sg) w) := by
  have hr : rightB st ln 64 = true := by simp only [rightB, decide_eq_true_eq]; omega
  have H := Lib.hid hr
  clear hr
  go_enter Try.func23, Try.ntmps23
  go_wp2_with fail
  refine (right_any _ _ _ _ _ _).mono ?_
  rintro e w1 ⟨rfl, hb⟩
  rw [H.out]
  have hb1 := hb.at_
  have c0 : ∀ o, w1.cell? ⟨w.heap.size, o, none⟩ = (w.alloc (fcells st ln big sg)).cell? ⟨w.heap.size, o, none⟩ := fun o => hb1.cell (by simp)
  have d1 : w1.cell? ⟨w.heap.size, 1, none⟩ = some (.int .i64 ln) := by rw [c0, alloc_cell_new rfl]; rfl
  have d3 : w1.cell? ⟨w.heap.size, 3, none⟩ = some (.bool sg) := by rw [c0, alloc_cell_new rfl]; rfl
  have HB : Hid (Nw w w1) := Nw.then_ ((Below.refl _ w).alloc (Nat.le_refl _) _) hb
  clear c0 hb hb1
  have hw1 : IntKind.i64.wrap ((ln : Int) - 1) = (ln : Int) - 1 := IntWalk.i64_in _ (by omega)
  have hl0 : (0 : Int) ≤ (ln : Int) - 1 := by omega
  cases sg
  · go_wp2_with fail
    go_quiet (fail)
    clear hw1
    have HB4 : Hid (Nw w (w1.drewN nq)) := nw_drewN HB.out nq
    generalize w1.drewN nq = w3 at *
    clear HB
    go_wp2
    go_ret2
    have hp := pow_le60 hl2
    refine ⟨?_, HB4.out⟩
    show Ending.returned (.tuple #[.int .i64 0, .int .i64 (wrap64 (wrap64 ((2 : Int) ^ ln) - 1))]) = _
    rw [p2i, wrap_a _ (Int.natCast_nonneg _) (Int.ofNat_le.2 hp)]
    rfl
  · go_wp2_with fail
    go_quiet (fail)
    clear hw1
    have HB4 : Hid (Nw w (w1.drewN nq)) := nw_drewN HB.out nq
    generalize w1.drewN nq = w3 at *
    clear HB
    go_wp2
    go_ret2
    have hp := pow_le60 (k := ln - 1) (by omega)
    refine ⟨?_, HB4.out⟩
    show Ending.returned (.tuple #[.int .i64 (wrap64 (-(2 : Int) ^ (ln - 1))), .int .i64 (wrap64 (wrap64 ((2 : Int) ^ (ln - 1)) - 1))]) = _
    rw [p2i, wrap_a _ (Int.natCast_nonneg _) (Int.ofNat_le.2 hp), wrap_b _ (Int.natCast_nonneg _) (Int.ofNat_le.2 hp)]
    rfl

theorem power_q (n : Nat) (hn : n ≤ 60) : ∀ W, Calls Try.prog 22 #[.int .i64 n] W fun e w' => e = .returned (.int .i64 ((2 ^ n : Nat) : Int)) ∧ w' = W :=
  fun W => (power_any n hn W).mono fun _ _ ⟨h1, h2⟩ => ⟨h1, h2.symm⟩

set_option maxHeartbeats 1600000 in
theorem rrange_yes (st ln : Nat) (big sg : Bool) (w : World) (hl1 : 1 ≤ ln) (hl2 : ln ≤ 60) (hs : st + ln ≤ 512) : Calls Try.prog 13 #[fld st ln big sg] w (RangePost (loR ln sg) (hiR ln sg) w) := by
  have hr : rightB st ln 64 = true := by simp only [rightB, decide_eq_true_eq]; omega
  have H := Lib.hid hr
  clear hr
  go_enter Try.func13, Try.ntmps13
  go_wp2_with fail
  refine (rright_any _ _ _ _ _ _).mono ?_
  rintro e w1 ⟨rfl, hb⟩
  rw [H.out]
  have hb1 := hb.at_
  have c0 : ∀ o, w1.cell? ⟨w.heap.size, o, none⟩ = (w.alloc (fcells st ln big sg)).cell? ⟨w.heap.size, o, none⟩ := fun o => hb1.cell (by simp)
  have d1 : w1.cell? ⟨w.heap.size, 1, none⟩ = some (.int .i64 ln) := by rw [c0, alloc_cell_new rfl]; rfl
  have d3 : w1.cell? ⟨w.heap.size, 3, none⟩ = some (.bool sg) := by rw [c0, alloc_cell_new rfl]; rfl
  have HB : Hid (Nw w w1) := Nw.then_ ((Below.refl _ w).alloc (Nat.le_refl _) _) hb
  clear c0 hb hb1
  cases sg
  · have hp := pow_le60 hl2
    have HQ := Lib.hid (power_any ln hl2)
    have HLO : Hid (loR ln false = 0) := rfl
    have HHI : Hid (hiR ln false = ((2 ^ ln : Nat) : Int) - 1) := rfl
    generalize 2 ^ ln = q at *
    go_wp2_with fail
    refine (HQ.out _).mono ?_
    rintro e w2 ⟨rfl, rfl⟩
    go_wp2
    go_ret2
    exact ⟨by rw [HLO.out, HHI.out]; rfl, HB.out⟩
  · have hp := pow_le60 (k := ln - 1) (by omega)
    have HQ := Lib.hid (power_q (ln - 1) (by omega))
    have HLO : Hid (loR ln true = 0 - ((2 ^ (ln - 1) : Nat) : Int)) := rfl
    have HHI : Hid (hiR ln true = ((2 ^ (ln - 1) : Nat) : Int) - 1) := rfl
    generalize 2 ^ (ln - 1) = q at *
    have hw1 : IntKind.i64.wrap ((ln : Int) - 1) = ((ln - 1 : Nat) : Int) := by rw [IntWalk.i64_in _ (by omega)]; omega
    have hw2 : IntKind.i64.wrap (0 - (q : Int)) = 0 - (q : Int) := IntWalk.i64_in _ (by omega)
    have hw3 : IntKind.i64.wrap ((q : Int) - 1) = (q : Int) - 1 := IntWalk.i64_in _ (by omega)
    go_wp2_with fail
    go_quiet ((go_at_call 22; exact Calls.quiet_of_same (HQ.out _)))
    clear hw1 hw2 hw3
    have HB4 : Hid (Nw w (w1.drewN nq)) := nw_drewN HB.out nq
    generalize w1.drewN nq = w3 at *
    clear HB
    go_wp2
    go_ret2
    exact ⟨by rw [HLO.out, HHI.out, Int.zero_sub]; rfl, HB4.out⟩

theorem right64 {st ln : Nat} {n : Nat} (h : rightB st ln n = true) : 1 ≤ ln ∧ ln ≤ 60 ∧ st + ln ≤ 8 * n ∧ n ≤ 64 := by
  simp only [rightB, decide_eq_true_eq] at h
  omega
theorem range_any (st ln : Int) (big sg : Bool) (w : World) : Calls Try.prog 23 #[fld st ln big sg] w (RangePost (loV st ln sg) (hiV st ln sg) w) := by
  unfold loV hiV
  by_cases h : rightB st ln 64 = true
  · have hr := h
    simp only [rightB, decide_eq_true_eq] at hr
    obtain ⟨n, rfl⟩ := Int.eq_ofNat_of_zero_le (show 0 ≤ st by omega)
    obtain ⟨m, rfl⟩ := Int.eq_ofNat_of_zero_le (show 0 ≤ ln by omega)
    rw [if_pos h, if_pos h]
    exact range_yes n m big sg w (by omega) (by omega) (by omega)
  · rw [if_neg h, if_neg h]
    exact range_no st ln big sg w (by simpa using h)
theorem rrange_any (st ln : Int) (big sg : Bool) (w : World) : Calls Try.prog 13 #[fld st ln big sg] w (RangePost (loV st ln sg) (hiV st ln sg) w) := by
  unfold loV hiV
  by_cases h : rightB st ln 64 = true
  · have hr := h
    simp only [rightB, decide_eq_true_eq] at hr
    obtain ⟨n, rfl⟩ := Int.eq_ofNat_of_zero_le (show 0 ≤ st by omega)
    obtain ⟨m, rfl⟩ := Int.eq_ofNat_of_zero_le (show 0 ≤ ln by omega)
    rw [if_pos h, if_pos h]
    exact rrange_yes n m big sg w (by omega) (by omega) (by omega)
  · rw [if_neg h, if_neg h]
    exact rrange_no st ln big sg w (by simpa using h)
end Go.Proofs.Yteafmljogijdgaa
