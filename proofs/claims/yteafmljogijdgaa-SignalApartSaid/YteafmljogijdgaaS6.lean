/- The chapter's examples; the walk of SignalGets. -/
import Derived.Test.YteafmljogijdgaaS5
namespace Go.Proofs.Yteafmljogijdgaa
open Go.RowKit

theorem rget_any (s : ByteArray) (st ln : Int) (big sg : Bool) (w : World) :
    Calls Try.prog 9 #[.string s, fld st ln big sg] w (RGetPost (getV s st ln big sg) (rightB st ln s.size) w) := by
  by_cases h : rightB st ln s.size = true
  · have hr := h
    simp only [rightB, decide_eq_true_eq] at hr
    obtain ⟨n, rfl⟩ := Int.eq_ofNat_of_zero_le (show 0 ≤ st by omega)
    obtain ⟨m, rfl⟩ := Int.eq_ofNat_of_zero_le (show 0 ≤ ln by omega)
    have := rget_yes s n m big sg w h
    unfold getV
    rw [if_pos h, h]
    exact this
  · have h' : rightB st ln s.size = false := by simpa using h
    unfold getV
    rw [if_neg h, h']
    exact rget_no s st ln big sg w h'

def TrueNw (w : World) (e : Ending) (w' : World) : Prop := e = .returned (.bool true) ∧ Nw w w'

theorem ex1 : getV ⟨#[240, 10]⟩ 4 8 false false = 175 := by decide +kernel
theorem ex2 : getV ⟨#[26, 188]⟩ 0 8 true false = 26 := by decide +kernel
theorem ex3 : getV ⟨#[26, 188]⟩ 4 8 true false = 171 := by decide +kernel
theorem ee1 : getE ⟨#[240, 10]⟩ 4 8 = 0 := by decide +kernel
theorem ee2 : getE ⟨#[26, 188]⟩ 0 8 = 0 := by decide +kernel
theorem ee3 : getE ⟨#[26, 188]⟩ 4 8 = 0 := by decide +kernel

set_option maxHeartbeats 1600000 in
theorem alive_any (w : World) : Calls Try.prog 7 #[] w (TrueNw w) := by
  go_enter Try.func7, Try.ntmps7
  go_wp2_with fail
  refine (get_any _ _ _ _ _ _).mono ?_
  rintro e w1 ⟨rfl, hb1⟩
  rw [ex1, ee1]
  have H1 := Lib.hid hb1
  clear hb1
  go_wp2_with fail
  refine (get_any _ _ _ _ _ _).mono ?_
  rintro e w2 ⟨rfl, hb1⟩
  rw [ex2, ee2]
  have H2 := Lib.hid (H1.out.then_ hb1)
  clear hb1 H1
  go_wp2_with fail
  refine (get_any _ _ _ _ _ _).mono ?_
  rintro e w3 ⟨rfl, hb1⟩
  rw [ex3, ee3]
  have H3 := Lib.hid (H2.out.then_ hb1)
  clear hb1 H2
  go_wp2
  go_ret
  exact ⟨rfl, H3.out⟩

set_option maxHeartbeats 1600000 in
theorem signalGets_walk (s : ByteArray) (st ln : Int) (big sg : Bool) (w : World) : Calls Try.prog 3 #[.string s, fld st ln big sg] w (TrueNw w) := by
  by_cases hs : s.size > 100
  · go_enter Try.func3, Try.ntmps3
    go_wp2_with fail
    refine (alive_any _).mono ?_
    rintro e w1 ⟨rfl, hb⟩
    go_wp2
    go_ret
    exact ⟨rfl, ((Below.refl _ w).alloc (Nat.le_refl _) _).trans (hb.mono (by simp))⟩
  · go_enter Try.func3, Try.ntmps3
    go_wp2_with fail
    refine (get_any _ _ _ _ _ _).mono ?_
    rintro e w1 ⟨rfl, hb⟩
    have hb1 := hb.at_
    have hz := hb1.size
    simp at hz
    have c0 : ∀ o, w1.cell? ⟨w.heap.size, o, none⟩ = (w.alloc (fcells st ln big sg)).cell? ⟨w.heap.size, o, none⟩ := fun o => hb1.cell (by simp)
    have d0 : w1.cell? ⟨w.heap.size, 0, none⟩ = some (.int .i64 st) := by rw [c0, alloc_cell_new rfl]; rfl
    have d1 : w1.cell? ⟨w.heap.size, 1, none⟩ = some (.int .i64 ln) := by rw [c0, alloc_cell_new rfl]; rfl
    have d2 : w1.cell? ⟨w.heap.size, 2, none⟩ = some (.bool big) := by rw [c0, alloc_cell_new rfl]; rfl
    have d3 : w1.cell? ⟨w.heap.size, 3, none⟩ = some (.bool sg) := by rw [c0, alloc_cell_new rfl]; rfl
    have HB : Hid (Nw w w1) := ((Below.refl _ w).alloc (Nat.le_refl _) _).trans (hb1.mono (by simp))
    clear c0 hb hb1
    have HRG := Lib.hid (rget_any s st ln big sg)
    have HE : Hid (getE s st ln = if rightB st ln s.size then 0 else 2) := rfl
    generalize getE s st ln = E at *
    generalize getV s st ln big sg = V at *
    generalize rightB st ln s.size = R at *
    clear hz
    cases R
    · obtain rfl : E = 2 := HE.out
      go_wp2_with fail
      refine (HRG.out _).mono ?_
      rintro e w2 ⟨rfl, hb2⟩
      have HB2 := Lib.hid (HB.out.then_ hb2)
      clear hb2 HB d0 d1 d2 d3 HE HRG
      go_wp2_with fail
      refine (alive_any _).mono ?_
      rintro e w3 ⟨rfl, hb3⟩
      have HB3 := Lib.hid (HB2.out.then_ hb3)
      clear hb3 HB2
      go_wp2
      go_ret
      exact ⟨rfl, HB3.out⟩
    · obtain rfl : E = 0 := HE.out
      go_wp2_with fail
      refine (HRG.out _).mono ?_
      rintro e w2 ⟨rfl, hb2⟩
      have HB2 := Lib.hid (HB.out.then_ hb2)
      clear hb2 HB d0 d1 d2 d3 HE HRG
      go_wp2_with fail
      refine (alive_any _).mono ?_
      rintro e w3 ⟨rfl, hb3⟩
      have HB3 := Lib.hid (HB2.out.then_ hb3)
      clear hb3 HB2
      go_wp2
      go_ret
      exact ⟨rfl, HB3.out⟩
end Go.Proofs.Yteafmljogijdgaa
