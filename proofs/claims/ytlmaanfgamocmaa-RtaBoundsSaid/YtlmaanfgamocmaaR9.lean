/- The walk of RtaBounds. -/
import Derived.Test.YtlmaanfgamocmaaR8
import Derived.Deep.DeepCutAuto
namespace Go.Proofs.Ytlmaanfgamocmaa
open Go.RowKit

set_option maxRecDepth 100000 in
set_option maxHeartbeats 20000000 in
theorem rtaBounds_walk (A : Option Addr) (c : Nat) (l : List Tk) (i : Int) (w : World) (hA : TksAt w A l) (hc : l.length ≤ c) : Calls Try.prog 3 #[.slice A l.length c, .int .i64 i] w (TrueNw w) := by
  have HSM := Lib.hid (small_any A c l w hA)
  have HB := Lib.hid (bound_any A c l i w hA hc)
  have HRB0 := Lib.hid (fun W (h : Nw w W) => rbound_any A c l i W (hA.nw h))
  have HRB := Lib.hid (fun (k : Nat) W (h : Nw w W) => rbound_any A c l k W (hA.nw h))
  have HR := Lib.hid (fun W (h : Nw w W) => right_any A c l W (hA.nw h))
  have HRR := Lib.hid (fun W (h : Nw w W) => rright_any A c l W (hA.nw h))
  have HLO := Lib.hid (fun W (h : Nw w W) => load_any A c l W (hA.nw h))
  have HFI := Lib.hid (fun W (h : Nw w W) => fits_any A c l W (hA.nw h) hc)
  have HF := Lib.hid (fitN_succ l)
  have H64 := Lib.hid (fun (h : (tRight l == 0) = true) => (tRight_zero (by simpa using h)).1)
  have HTN := Lib.hid (fun (h : (tRight l == 0) = true) => tn_of hA (by simpa using h))
  have HEND : Hid (∀ {f : Bool}, f = (fitN l l.length && (tRight l == 0)) → f = fitsB l) := by
    intro f h
    unfold fitsB
    rw [h]
    congr 1
  unfold LoadPost at HLO
  generalize tRight l = r at *
  generalize hL : l.length = n at *
  generalize boundO l i = b at *
  clear hA hL
  go_enter Try.func3, Try.ntmps3
  go_wp2_with fail
  refine HSM.out.mono ?_
  rintro e w0 ⟨sm, rfl, rfl⟩
  clear HSM
  cases sm
  · clear HB HRB0 HRB HR HRR HLO HFI HF H64 HTN HEND
    go_wp2_with fail
    refine (alive_any _).mono ?_
    rintro e w1 ⟨rfl, hb⟩
    go_wp2
    go_ret
    exact ⟨rfl, hb⟩
  · go_wp2_with fail
    refine HB.out.mono ?_
    rintro e w2 ⟨rfl, hb⟩
    have HN2 := Lib.hid hb
    clear hb HB
    simp only [bndV]
    go_wp2_with fail
    refine (HRB0.out _ HN2.out).mono ?_
    rintro e w3 ⟨rfl, hb⟩
    have HN3 := Lib.hid (HN2.out.then_ hb)
    clear hb HRB0 HN2
    go_upto_region 5 with fail
    go_cut [54] from 28 to 54 (fun s54 wx => s54 = .bool false ∧ Hid (Nw w wx))
    case first =>
      have hrr : (r != r) = false := by simp
      cases b with
      | none =>
        rw [show rbV none = -1 from rfl, show (none : Option Nat).isSome = false from rfl, show (none : Option Nat).getD 0 = 0 from rfl]
        go_wp2_with fail
        refine (HR.out _ HN3.out).mono ?_
        rintro e w4 ⟨rfl, hb⟩
        have HN4 := Lib.hid (HN3.out.then_ hb)
        clear hb HN3
        go_wp2_with fail
        refine (HRR.out _ HN4.out).mono ?_
        rintro e w5 ⟨rfl, hb⟩
        have HN5 := Lib.hid (HN4.out.then_ hb)
        clear hb HN4
        go_wp2_with fail
        go_meet
        case rel => exact ⟨rfl, HN5⟩
      | some v =>
        rw [show rbV (some v) = (v : Int) from rfl, show (some v).isSome = true from rfl, show (some v).getD 0 = v from rfl]
        have hvv : ((v : Int) != (v : Int)) = false := by simp
        have hv0 : decide ((0 : Int) ≤ (v : Int)) = true := by simp
        go_wp2_with fail
        refine (HR.out _ HN3.out).mono ?_
        rintro e w4 ⟨rfl, hb⟩
        have HN4 := Lib.hid (HN3.out.then_ hb)
        clear hb HN3
        go_wp2_with fail
        refine (HRR.out _ HN4.out).mono ?_
        rintro e w5 ⟨rfl, hb⟩
        have HN5 := Lib.hid (HN4.out.then_ hb)
        clear hb HN4
        go_wp2_with fail
        go_meet
        case rel => exact ⟨rfl, HN5⟩
    case rest =>
      obtain ⟨rfl, HN5⟩ := hcut
      clear HN3
      go_wp2_with fail
      refine (HRR.out _ HN5.out).mono ?_
      rintro e w6 ⟨rfl, hb⟩
      have HN6 := Lib.hid (HN5.out.then_ hb)
      clear hb HN5
      go_wp2
      go_loopw [8, 9] (fun f j wr => ∃ (k : Nat) (fb : Bool), k ≤ n ∧ j = .int .i64 k ∧ f = .bool fb ∧ Hid (fb = (fitN l k && (r == 0))) ∧ Hid (Nw w wr)) (fun _ j _ => n - (intOf j).toNat)
      case atStart => exact ⟨0, _, Nat.zero_le _, rfl, rfl, Lib.hid rfl, HN6⟩
      case round =>
        obtain ⟨k, fb, hk, rfl, rfl, HK, HNW⟩ := hrel
        clear HN6
        by_cases hgo : k < n ∧ fb = true
        · obtain ⟨hlt, rfl⟩ := hgo
          have hk1 : fitN l k = true ∧ (r == 0) = true := by have := HK.out; simpa using this.symm
          have hn64 := H64.out hk1.2
          have HK1 := Lib.hid hk1
          have HFS := Lib.hid (HF.out k)
          have HBK := Lib.hid (HRB.out k)
          have hd : decide ((k : Int) < (n : Int)) = true := by simp; omega
          clear hk1
          generalize boundO l (k : Nat) = b2 at *
          go_wp2_with fail
          refine (HBK.out _ HNW.out).mono ?_
          rintro e w7 ⟨rfl, hb⟩
          have HN7 := Lib.hid (HNW.out.then_ hb)
          have hge : decide ((0 : Int) ≤ rbV b2) = b2.isSome := by
            cases b2 with
            | none => rfl
            | some v => show decide ((0 : Int) ≤ (v : Int)) = true; simp
          have HP : Hid (b2.isSome = (fitN l (k + 1) && (r == 0))) := by unfold Hid; rw [HFS.out, HK1.out.1, HK1.out.2]; simp
          generalize rbV b2 = rb at *
          generalize b2.isSome = fb2 at *
          clear hb HNW HK HK1 HFS HBK
          cases fb2
          all_goals
            go_wp2
            go_roundw
            case rel => exact ⟨k + 1, _, by omega, by go_num, rfl, HP, HN7⟩
            case measure => simp [intOf]; omega
        · have hfb : fb = fitsB l := by
            refine HEND.out ?_
            by_cases h : k < n
            · have h2 : fb = false := by
                cases fb
                · rfl
                · exact absurd ⟨h, rfl⟩ hgo
              rw [h2]
              have h3 := HK.out
              rw [h2] at h3
              cases hr0 : (r == 0)
              · simp
              · rw [hr0, Bool.and_true] at h3
                rw [fitN_stop h3.symm (Nat.le_of_lt h)]
                rfl
            · obtain rfl : k = n := by omega
              exact HK.out
          have hd : (decide ((k : Int) < (n : Int)) = false ∧ ¬ k < n) ∨ (decide ((k : Int) < (n : Int)) = true ∧ k < n ∧ fb = false) := by
            by_cases h : k < n
            · refine .inr ⟨by simp; omega, h, ?_⟩
              cases fb
              · rfl
              · exact absurd ⟨h, rfl⟩ hgo
            · exact .inl ⟨by simp; omega, h⟩
          rw [← hfb] at HFI
          have hff : (fb == fb) = true := by simp
          clear hgo hfb HK HF HRB HEND
          cases hr0 : (r == 0)
          · rw [if_neg (by simpa using hr0)] at HLO
            rcases hd with ⟨hd, hd2⟩ | ⟨hd, hd2, rfl⟩
            all_goals
              go_wp2_with fail
              refine (HLO.out _ HNW.out).mono ?_
              rintro e w7 ⟨rfl, hb⟩
              have HN7 := Lib.hid (HNW.out.then_ hb)
              clear hb HNW HLO
              go_wp2_with fail
              refine (HRR.out _ HN7.out).mono ?_
              rintro e w8 ⟨rfl, hb⟩
              have HN6 := Lib.hid (HN7.out.then_ hb)
              clear hb HN7
              go_wp2_with fail
              refine (HFI.out _ HN6.out).mono ?_
              rintro e w7 ⟨rfl, hb⟩
              have HN7 := Lib.hid (HN6.out.then_ hb)
              clear hb HN6
              go_wp2_with fail
              refine (HRR.out _ HN7.out).mono ?_
              rintro e w8 ⟨rfl, hb⟩
              have HN8 := Lib.hid (HN7.out.then_ hb)
              clear hb HN7
              go_wp2_with fail
              refine (alive_any _).mono ?_
              rintro e w9 ⟨rfl, hb⟩
              have HN9 := Lib.hid (HN8.out.then_ hb)
              clear hb HN8
              go_wp2
              go_ret
              exact ⟨rfl, HN9.out⟩
          · have hr0' : r = 0 := by simpa using hr0
            rw [if_pos hr0'] at HLO
            have HT := Lib.hid (HTN.out hr0)
            have HL := Lib.hid (loadN_le (per l))
            have HLS : Hid (∀ k, loadN (per l) (k + 1) = loadN (per l) k + 1000000000 / per l k) := fun k => rfl
            have hlen := HT.out.len
            generalize per l = P at *
            generalize off l = O at *
            clear HTN H64
            rcases hd with ⟨hd, hd2⟩ | ⟨hd, hd2, rfl⟩
            all_goals
              go_wp2_with fail
              refine (HLO.out _ HNW.out).mono ?_
              rintro e w7 ⟨rfl, hb⟩
              have HN7 := Lib.hid (HNW.out.then_ hb)
              clear hb HNW HLO
              go_wp2_with fail
              refine (HRR.out _ HN7.out).mono ?_
              rintro e w8 ⟨rfl, hb⟩
              have HN6 := Lib.hid (HN7.out.then_ hb)
              clear hb HN7
              go_wp2
              go_loopw [12, 81] (fun a j wr => ∃ k : Nat, k ≤ n ∧ j = .int .i64 k ∧ a = .int .i64 (loadN P k : Nat) ∧ Hid (Nw w wr)) (fun _ j _ => n - (intOf j).toNat)
              case atStart => exact ⟨0, Nat.zero_le _, rfl, rfl, HN6⟩
              case round =>
                clear HN6
                obtain ⟨k2, hk2, rfl, rfl, HK⟩ := hrel
                by_cases hlt2 : k2 < n
                · obtain ⟨ad, rfl, hp, f0, f1⟩ := (HT.out.nw HK.out).at_ k2 hlt2
                  obtain ⟨e3, e4, e5⟩ := HT.out.ok k2
                  have hs := HLS.out k2
                  have hb := HL.out k2
                  generalize P k2 = p at *
                  generalize O k2 = o at *
                  generalize loadN P k2 = a at *
                  have HS := Lib.hid hs
                  have hnk : ¬ n ≤ k2 := by omega
                  have ha : a ≤ 64000000000 := by omega
                  have hp0 : ¬ (p : Int) = 0 := by omega
                  have hp1 : ((p : Int) == 0) = false := by simp; omega
                  have hq1 := whole_int p
                  have hq2 : (1000000000 : Int).tdiv (p : Int) = ((1000000000 / p : Nat) : Int) := by rw [Int.tdiv_eq_ediv_of_nonneg (by omega), hq1]
                  have hql : 1000000000 / p ≤ 1000000000 := Nat.div_le_self _ _
                  generalize 1000000000 / p = q at *
                  have HN2 := Lib.hid (HK.out.then_ (nw_alloc wr (.cells #[.int .i64 p, .int .i64 o] 34)))
                  clear hs HK hb
                  go_wp2
                  go_roundw
                  case rel => exact ⟨k2 + 1, by omega, by go_num, by rw [HS.out]; go_num, HN2⟩
                  case measure => simp [intOf]; omega
                · obtain rfl : k2 = n := by omega
                  have HN6 := HK
                  clear HK
                  generalize loadN P k2 = sm at *
                  have hss : ((sm : Int) == (sm : Int)) = true := by simp
                  go_wp2_with fail
                  refine (HFI.out _ HN6.out).mono ?_
                  rintro e w7 ⟨rfl, hb⟩
                  have HN7 := Lib.hid (HN6.out.then_ hb)
                  clear hb HN6
                  go_wp2_with fail
                  refine (HRR.out _ HN7.out).mono ?_
                  rintro e w8 ⟨rfl, hb⟩
                  have HN8 := Lib.hid (HN7.out.then_ hb)
                  clear hb HN7
                  go_wp2_with fail
                  refine (alive_any _).mono ?_
                  rintro e w9 ⟨rfl, hb⟩
                  have HN9 := Lib.hid (HN8.out.then_ hb)
                  clear hb HN8
                  go_wp2
                  go_ret
                  exact ⟨rfl, HN9.out⟩
end Go.Proofs.Ytlmaanfgamocmaa
