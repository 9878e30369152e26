/- The walk of SignalSets, where the number is put. -/
import Derived.Test.YteafmljogijdgaaT4
namespace Go.Proofs.Yteafmljogijdgaa
open Go.RowKit

set_option maxHeartbeats 4000000 in
theorem signalSets_yes (s : ByteArray) (st ln : Nat) (n : Int) (big sg : Bool) (w : World) (hs : ¬ 100 < s.size) (h : rightB st ln s.size = true) (h1 : loV st ln sg ≤ n) (h2 : n ≤ hiV st ln sg) :
    Calls Try.prog 5 #[.string s, fld st ln big sg, .int .i64 n] w (TrueNw w) := by
  obtain ⟨hln1, hln2, hsz, hsz2⟩ := right64 h
  have h64 := rightB64 _ _ _ h
  have hlo : loV st ln sg = loR ln sg := by unfold loV; rw [if_pos h64]; simp
  have hhi : hiV st ln sg = hiR ln sg := by unfold hiV; rw [if_pos h64]; simp
  have hok : ∀ m, loR ln sg ≤ m → m ≤ hiR ln sg → setV s st ln big sg m = setS s st ln big m ∧ setE s st ln sg m = 0 := by
    intro m a b
    have e : setOK s st ln sg m = true := by simp [setOK, h, hlo, hhi, a, b]
    unfold setV setE
    rw [if_pos e, if_pos e]
    exact ⟨by simp, rfl⟩
  have hS := set_any s st ln n big sg
  rw [(hok n (by omega) (by omega)).1, (hok n (by omega) (by omega)).2] at hS
  obtain ⟨r1, r2⟩ := getI_range s st ln big sg hln1
  have hS2 := set_any s st ln (getI s st ln big sg) big sg
  rw [(hok _ r1 r2).1, (hok _ r1 r2).2, setS_back s st ln big sg (by omega)] at hS2
  have hT := setS_size s st ln big n
  have hRT := rget_yes (setS s st ln big n) st ln big sg
  rw [hT, setS_get s st ln big sg n hln1 (by omega) (by omega) (by omega)] at hRT
  have HS := Lib.hid hS
  have HS2 := Lib.hid hS2
  have HRT := Lib.hid (fun W => hRT W h)
  have HG := Lib.hid (fun W => get_yes s st ln big sg W h)
  have HR := Lib.hid (rrange_any st ln big sg)
  have HRR := Lib.hid (rright_any st ln s.size big sg)
  rw [h] at HRR
  have hout : ∀ k, k < 8 * s.size → bitB (setS s st ln big n) k ≠ bitB s k → ∃ i, i < ln ∧ posN st ln big i = k := by
    intro k hk hne
    by_cases hx : ∃ i, i < ln ∧ posN st ln big i = k
    · exact hx
    · exact absurd (setS_out s st ln big n (by omega) k hk fun i hi e => hx ⟨i, hi, e⟩) hne
  have HOUT := Lib.hid hout
  clear hout hok hS hS2 hRT r1 r2 h h64 hlo hhi
  generalize setS s st ln big n = t at *
  generalize getI s st ln big sg = V at *
  have HT := Lib.hid hT
  have hbn : ((t.size : Int) != (s.size : Int)) = false := by rw [hT]; simp
  have hnn : (n != n) = false := by simp
  clear hT
  generalize loV st ln sg = lo at *
  generalize hiV st ln sg = hi at *
  go_enter Try.func5, Try.ntmps5
  go_wp2_with fail
  refine (HS.out _).mono ?_
  rintro e w1 ⟨rfl, hb⟩
  have hB1 := hb.at_
  have HB1 := Lib.hid hB1
  have HU1 : Hid (Nw w w1) := Nw.then_ ((Below.refl _ w).alloc (Nat.le_refl _) _) hb
  obtain ⟨d0, d1, d2, d3⟩ := fcellsAt hB1 (Nat.lt_succ_self _)
  clear hb hB1
  go_wp2_with fail
  refine (HR.out _).mono ?_
  rintro e w2 ⟨rfl, hb⟩
  have HB2 := Lib.hid (HB1.out.trans (hb.mono (by have := HB1.out.size; simp at this; omega)))
  have HU2 := Lib.hid (HU1.out.then_ hb)
  clear hb d0 d1 d2 d3 HU1 HB1
  obtain ⟨d0, d1, d2, d3⟩ := fcellsAt HB2.out (Nat.lt_succ_self _)
  go_wp2_with fail
  refine (HRR.out _).mono ?_
  rintro e w3 ⟨rfl, hb⟩
  have HB3 := Lib.hid (HB2.out.trans (hb.mono (by have := HB2.out.size; simp at this; omega)))
  have HU3 := Lib.hid (HU2.out.then_ hb)
  clear hb d0 d1 d2 d3 HU2 HB2
  obtain ⟨d0, d1, d2, d3⟩ := fcellsAt HB3.out (Nat.lt_succ_self _)
  go_wp2_with fail
  refine (HRT.out _).mono ?_
  rintro e w4 ⟨rfl, hb⟩
  have HB4 := Lib.hid (HB3.out.trans (hb.mono (by have := HB3.out.size; simp at this; omega)))
  have HU4 := Lib.hid (HU3.out.then_ hb)
  clear hb d0 d1 d2 d3 HU3 HB3
  obtain ⟨d0, d1, d2, d3⟩ := fcellsAt HB4.out (Nat.lt_succ_self _)
  go_wp2_with fail
  refine (rbits_yes st ln big sg hln1 hln2 (by omega) _).mono ?_
  rintro e w5 ⟨v, rfl, hown, hb⟩
  have HB5 := Lib.hid (HB4.out.trans (hb.mono (by have := HB4.out.size; simp at this; omega)))
  have HU5 := Lib.hid (HU4.out.then_ hb)
  clear hb d0 d1 d2 d3 HU4 HB4
  obtain ⟨A, cap, rfl, hA⟩ := ints_of_own hown (fun j => (posN st ln big j : Nat)) (fun j hj => by simp [posL, hj])
  have HA := Lib.hid hA
  clear hown hA
  go_wp2
  go_loopw [88] (fun i wr => ∃ k : Nat, k ≤ 8 * s.size ∧ i = .int .i64 k ∧ wr = w5) (fun i _ => 8 * s.size - (intOf i).toNat)
  case atStart => exact ⟨0, Nat.zero_le _, rfl, rfl⟩
  case round =>
    obtain ⟨k, hk, rfl, rfl⟩ := hrel
    by_cases hlt : k < 8 * s.size
    · have HQ1 := Lib.hid (obit_any s k ((k : Int) / 8) ((k : Int) % 8) rfl rfl)
      have HQ2 := Lib.hid (obit_any t k ((k : Int) / 8) ((k : Int) % 8) rfl rfl)
      have HO := Lib.hid (HOUT.out k hlt)
      generalize bitB s k = a at *
      generalize bitB t k = b at *
      by_cases hab : a = b
      · subst hab
        have haa : (a != a) = false := by simp
        go_wp2_with fail
        refine (HQ1.out _).mono ?_
        rintro e w6 ⟨rfl, rfl⟩
        go_wp2_with fail
        refine (HQ2.out _).mono ?_
        rintro e w6 ⟨rfl, rfl⟩
        clear HQ1 HQ2 HO
        go_wp2
        go_roundw
        case rel => exact ⟨k + 1, by omega, by go_num, trivial⟩
        case measure => simp [intOf]; omega
      · obtain ⟨j, hj, hjk⟩ := HO.out (fun e => hab e.symm)
        have HIN := Lib.hid (in_yes A ln cap (fun j => (posN st ln big j : Nat)) (k : Int) j _ HA.out (by omega) hj (by show ((posN st ln big j : Nat) : Int) = k; omega)
          (fun i hi e => by
            have e' : ((posN st ln big i : Nat) : Int) = (k : Int) := e
            have := posN_inj big (a := i) (b := j) (ln := ln) (st := st) (by omega) hj (by omega)
            omega))
        clear hjk HO
        cases a <;> cases b
        case false.false => exact absurd rfl hab
        case true.true => exact absurd rfl hab
        all_goals
          clear hab
          go_wp2_with fail
          refine (HQ1.out _).mono ?_
          rintro e w6 ⟨rfl, rfl⟩
          go_wp2_with fail
          refine (HQ2.out _).mono ?_
          rintro e w6 ⟨rfl, rfl⟩
          clear HQ1 HQ2
          go_wp2_with fail
          refine HIN.out.mono ?_
          rintro e w6 ⟨rfl, rfl⟩
          clear HIN
          go_wp2
          go_roundw
          case rel => exact ⟨k + 1, by omega, by go_num, trivial⟩
          case measure => simp [intOf]; omega
    · obtain ⟨d0, d1, d2, d3⟩ := fcellsAt HB5.out (Nat.lt_succ_self _)
      go_wp2_with fail
      refine (HG.out _).mono ?_
      rintro e w6 ⟨rfl, hb⟩
      have HB6 := Lib.hid (HB5.out.trans (hb.mono (by have := HB5.out.size; simp at this; omega)))
      have HU6 := Lib.hid (HU5.out.then_ hb)
      clear hb d0 d1 d2 d3 HU5 HB5 HA
      obtain ⟨d0, d1, d2, d3⟩ := fcellsAt HB6.out (Nat.lt_succ_self _)
      go_wp2_with fail
      refine (HS2.out _).mono ?_
      rintro e w7 ⟨rfl, hb⟩
      have HU7 := Lib.hid (HU6.out.then_ hb)
      clear hb d0 d1 d2 d3 HU6 HB6
      go_wp2_with fail
      refine (alive_any _).mono ?_
      rintro e w8 ⟨rfl, hb⟩
      have HU8 := Lib.hid (HU7.out.then_ hb)
      clear hb HU7
      go_wp2
      go_ret
      exact ⟨rfl, HU8.out⟩

theorem signalSets_walk (s : ByteArray) (st ln n : Int) (big sg : Bool) (w : World) : Calls Try.prog 5 #[.string s, fld st ln big sg, .int .i64 n] w (TrueNw w) := by
  by_cases hs : 100 < s.size
  · exact signalSets_big s st ln n big sg w hs
  · cases h : setOK s st ln sg n
    · exact signalSets_no s st ln n big sg w hs h
    · have h0 := h
      simp only [setOK, Bool.and_eq_true, decide_eq_true_eq] at h0
      obtain ⟨⟨hr, h1⟩, h2⟩ := h0
      have hr' := hr
      simp only [rightB, decide_eq_true_eq] at hr'
      obtain ⟨a, rfl⟩ := Int.eq_ofNat_of_zero_le (show 0 ≤ st by omega)
      obtain ⟨b, rfl⟩ := Int.eq_ofNat_of_zero_le (show 0 ≤ ln by omega)
      exact signalSets_yes s a b n big sg w hs hr h1 h2
end Go.Proofs.Yteafmljogijdgaa
