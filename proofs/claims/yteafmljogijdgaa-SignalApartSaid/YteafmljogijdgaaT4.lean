/- The walk of SignalSets. -/
import Derived.Test.YteafmljogijdgaaT3
import Derived.Test.YteafmljogijdgaaS8
namespace Go.Proofs.Yteafmljogijdgaa
open Go.RowKit

def setOK (s : ByteArray) (st ln : Int) (sg : Bool) (n : Int) : Bool := rightB st ln s.size && decide (loV st ln sg ≤ n) && decide (n ≤ hiV st ln sg)
def setV (s : ByteArray) (st ln : Int) (big sg : Bool) (n : Int) : ByteArray := if setOK s st ln sg n then setS s st.toNat ln.toNat big n else ⟨#[]⟩
def setE (s : ByteArray) (st ln : Int) (sg : Bool) (n : Int) : Int := if setOK s st ln sg n then 0 else 2
theorem set_any (s : ByteArray) (st ln n : Int) (big sg : Bool) (w : World) :
    Calls Try.prog 12 #[.string s, fld st ln big sg, .int .i64 n] w (SetPost (setV s st ln big sg n) (setE s st ln sg n) w) := by
  by_cases h : rightB st ln s.size = true
  · have hr := h
    simp only [rightB, decide_eq_true_eq] at hr
    obtain ⟨a, rfl⟩ := Int.eq_ofNat_of_zero_le (show 0 ≤ st by omega)
    obtain ⟨b, rfl⟩ := Int.eq_ofNat_of_zero_le (show 0 ≤ ln by omega)
    by_cases h1 : loV a b sg ≤ n
    · by_cases h2 : n ≤ hiV a b sg
      · have e : setOK s a b sg n = true := by simp [setOK, h, h1, h2]
        unfold setV setE
        rw [if_pos e, if_pos e]
        exact set_yes s a b n big sg w h h1 h2
      · have e : setOK s a b sg n = false := by simp [setOK, h2]
        unfold setV setE
        rw [if_neg (by simp [e]), if_neg (by simp [e])]
        exact set_range s a b n big sg w h (.inr ⟨h1, by omega⟩)
    · have e : setOK s a b sg n = false := by simp [setOK, h1]
      unfold setV setE
      rw [if_neg (by simp [e]), if_neg (by simp [e])]
      exact set_range s a b n big sg w h (.inl (by omega))
  · have e : setOK s st ln sg n = false := by simp [setOK, h]
    unfold setV setE
    rw [if_neg (by simp [e]), if_neg (by simp [e])]
    exact set_wrong s st ln n big sg w (by simpa using h)

theorem in_yes (A : Option Addr) (n c : Nat) (f : Nat → Int) (x : Int) (j : Nat) (w : World) (hA : IntsAt w A n f) (hn : n ≤ 1000) (hj : j < n) (hx : f j = x) (hne : ∀ k, k < j → f k ≠ x) :
    Calls Try.prog 17 #[.slice A n c, .int .i64 x] w fun e w' => e = .returned (.bool true) ∧ w = w' := by
  obtain ⟨g, rfl, _⟩ := hA j hj
  have HA := Lib.hid hA
  have HX := Lib.hid hx
  have HNE := Lib.hid hne
  clear hA hx hne
  go_enter Try.func17, Try.ntmps17
  go_wp2
  go_loop [5] (fun i => ∃ k : Nat, k ≤ j ∧ i = .int .i64 k) (fun i => n - (intOf i).toNat)
  case atStart => exact ⟨0, Nat.zero_le _, rfl⟩
  case round =>
    obtain ⟨k, hk, rfl⟩ := hrel
    obtain ⟨g', hg, hc⟩ := HA.out k (by omega)
    obtain rfl : g = g' := by injection hg with h; injection h
    have hlt : k < n := by omega
    clear hg
    by_cases hlj : k < j
    · have hq : (f k == x) = false := by rw [beq_eq_false_iff_ne]; exact HNE.out k hlj
      generalize f k = y at *
      go_wp2
      go_round
      case rel => exact ⟨k + 1, by omega, by go_num⟩
      case measure => simp [intOf]; omega
    · have hq : (f k == x) = true := by rw [beq_iff_eq, show k = j from by omega]; exact HX.out
      generalize f k = y at *
      go_wp2
      go_ret
      exact ⟨rfl, rfl⟩

set_option maxHeartbeats 1600000 in
theorem signalSets_big (s : ByteArray) (st ln n : Int) (big sg : Bool) (w : World) (hs : 100 < s.size) : Calls Try.prog 5 #[.string s, fld st ln big sg, .int .i64 n] w (TrueNw w) := by
  go_enter Try.func5, Try.ntmps5
  go_wp2_with fail
  refine (alive_any _).mono ?_
  rintro e w1 ⟨rfl, hb⟩
  go_wp2
  go_ret
  exact ⟨rfl, Nw.then_ ((Below.refl _ w).alloc (Nat.le_refl _) _) hb⟩

theorem fcellsAt {B : Nat} {w w1 : World} {st ln : Int} {big sg : Bool} (hb : Below B (w.alloc (fcells st ln big sg)) w1) (hB : w.heap.size < B) :
    w1.cell? ⟨w.heap.size, 0, none⟩ = some (.int .i64 st) ∧ w1.cell? ⟨w.heap.size, 1, none⟩ = some (.int .i64 ln) ∧ w1.cell? ⟨w.heap.size, 2, none⟩ = some (.bool big) ∧ w1.cell? ⟨w.heap.size, 3, none⟩ = some (.bool sg) := by
  refine ⟨?_, ?_, ?_, ?_⟩ <;> rw [hb.cell hB, alloc_cell_new rfl] <;> rfl

set_option maxHeartbeats 3000000 in
theorem signalSets_no (s : ByteArray) (st ln n : Int) (big sg : Bool) (w : World) (hs : ¬ 100 < s.size) (h : setOK s st ln sg n = false) : Calls Try.prog 5 #[.string s, fld st ln big sg, .int .i64 n] w (TrueNw w) := by
  have hcase : rightB st ln s.size = false ∨ (rightB st ln s.size = true ∧ n < loV st ln sg) ∨ (rightB st ln s.size = true ∧ loV st ln sg ≤ n ∧ hiV st ln sg < n) := by
    unfold setOK at h
    cases hr : rightB st ln s.size
    · exact .inl rfl
    · rw [hr] at h
      by_cases h1 : loV st ln sg ≤ n
      · simp [h1] at h
        exact .inr (.inr ⟨rfl, h1, h⟩)
      · exact .inr (.inl ⟨rfl, by omega⟩)
  have HS := Lib.hid (set_any s st ln n big sg)
  have HR := Lib.hid (rrange_any st ln big sg)
  have HRR := Lib.hid (rright_any st ln s.size big sg)
  have hv : setV s st ln big sg n = ⟨#[]⟩ := by unfold setV; rw [if_neg (by simp [h])]
  have he : setE s st ln sg n = 2 := by unfold setE; rw [if_neg (by simp [h])]
  rw [hv, he] at HS
  clear hv he h
  generalize loV st ln sg = lo at *
  generalize hiV st ln sg = hi at *
  generalize rightB st ln s.size = r at *
  rcases hcase with rfl | ⟨rfl, hn⟩ | ⟨rfl, hn, hn'⟩
  all_goals
    go_enter Try.func5, Try.ntmps5
    go_wp2_with fail
    refine (HS.out _).mono ?_
    rintro e w1 ⟨rfl, hb⟩
    have hB1 := hb.at_
    have HB1 := Lib.hid hB1
    have HU1 : Hid (Nw w w1) := Nw.then_ ((Below.refl _ w).alloc (Nat.le_refl _) _) hb
    obtain ⟨d0, d1, d2, d3⟩ := fcellsAt hB1 (Nat.lt_succ_self _)
    clear hb hB1
    go_wp2_with fail
    refine (HR.out _).mono ?_
    rintro e w2 ⟨rfl, hb⟩
    have HB2 := Lib.hid (HB1.out.trans (hb.mono (by have := HB1.out.size; simp at this; omega)))
    have HU2 := Lib.hid (HU1.out.then_ hb)
    clear hb d0 d1 d2 d3 HU1 HB1
    obtain ⟨d0, d1, d2, d3⟩ := fcellsAt HB2.out (Nat.lt_succ_self _)
    go_wp2_with fail
    refine (HRR.out _).mono ?_
    rintro e w3 ⟨rfl, hb⟩
    have HU3 := Lib.hid (HU2.out.then_ hb)
    clear hb d0 d1 d2 d3 HU2 HB2
    go_wp2_with fail
    refine (alive_any _).mono ?_
    rintro e w4 ⟨rfl, hb⟩
    have HU4 := Lib.hid (HU3.out.then_ hb)
    clear hb HU3
    go_wp2
    go_ret
    exact ⟨rfl, HU4.out⟩
end Go.Proofs.Yteafmljogijdgaa
