/- The walk of RtaPlays. -/
import Derived.Test.YtlmaanfgamocmaaN3
import Derived.Test.YtlmaanfgamocmaaM5
namespace Go.Proofs.Ytlmaanfgamocmaa
open Go.RowKit

theorem play_args (A : Option Addr) (c : Nat) (l : List Tk) (x : Int) (w : World) (hA : TksAt w A l) (hr : tRight l = 0) (hx : x < 0 ∨ 100000 < x) : Calls Try.prog 16 #[.slice A l.length c, .int .i64 x] w (NilNw 2 w) :=
  play_arg A l.length c x w hx fun W h => by
    have := right_any A c l W (hA.nw h)
    rwa [hr] at this

set_option maxRecDepth 100000 in
set_option maxHeartbeats 20000000 in
theorem rtaPlays_walk (A : Option Addr) (c : Nat) (l : List Tk) (x : Int) (w : World) (hA : TksAt w A l) : Calls Try.prog 4 #[.slice A l.length c, .int .i64 x] w (TrueNw w) := by
  have HRR := Lib.hid (fun W (h : Nw w W) => rright_any A c l W (hA.nw h))
  have HPB := Lib.hid (fun (h : tRight l ≠ 0) => play_wrong A c l x w hA h)
  have HPA := Lib.hid (fun (h : tRight l = 0) (hx : x < 0 ∨ 100000 < x) => play_args A c l x w hA h hx)
  have HPG := Lib.hid (fun (h : tRight l = 0) (s : Nat) (hs : s ≤ 100000) => play_tasks A c l s w hA h hs)
  have HQG := Lib.hid (fun (h : tRight l = 0) (s : Nat) (hs : s ≤ 100000) W (hw : Nw w W) => rplay_in A l.length c _ _ s W (tn_of (hA.nw hw) h) hs)
  have H64 := Lib.hid (fun (h : tRight l = 0) => (tRight_zero h).1)
  generalize tRight l = r at *
  generalize l.length = n at *
  clear hA
  by_cases h70 : 70 < n
  · have h70' : decide ((70 : Int) < (n : Int)) = true := by simp; omega
    clear HRR HPB HPA HPG HQG H64
    go_enter Try.func4, Try.ntmps4
    go_wp2_with fail
    refine (alive_any _).mono ?_
    rintro e w1 ⟨rfl, hb⟩
    go_wp2
    go_ret
    exact ⟨rfl, hb⟩
  · have h70' : decide ((70 : Int) < (n : Int)) = false := by simp; omega
    by_cases hmid : 3000 < x ∧ x ≤ 100000
    · have hd1 : decide ((3000 : Int) < x) = true := by simp; omega
      have hd2 : decide (x ≤ (100000 : Int)) = true := by simp; omega
      clear HRR HPB HPA HPG HQG H64
      go_enter Try.func4, Try.ntmps4
      go_wp2_with fail
      refine (alive_any _).mono ?_
      rintro e w1 ⟨rfl, hb⟩
      go_wp2
      go_ret
      exact ⟨rfl, hb⟩
    · have hmd : decide ((3000 : Int) < x) = false ∨ (decide ((3000 : Int) < x) = true ∧ decide (x ≤ (100000 : Int)) = false) := by
        by_cases h : 3000 < x
        · exact .inr ⟨by simp; omega, by simp; omega⟩
        · exact .inl (by simp; omega)
      by_cases h0 : r = 0
      · subst h0
        clear HPB
        by_cases hx : x < 0 ∨ 100000 < x
        · have HP := Lib.hid (HPA.out rfl hx)
          have hxd : (decide (x < 0) = true) ∨ (decide (x < 0) = false ∧ decide ((100000 : Int) < x) = true) := by
            by_cases h : x < 0
            · exact .inl (by simp [h])
            · exact .inr ⟨by simp [h], by simp; omega⟩
          clear HPA HPG HQG H64 hx hmid
          rcases hmd with hm1 | ⟨hm1, hm2⟩
          all_goals
            rcases hxd with hd1 | ⟨hd1, hd2⟩
            all_goals
              go_enter Try.func4, Try.ntmps4
              go_wp2_with fail
              refine HP.out.mono ?_
              rintro e w1 ⟨rfl, hb⟩
              have HN1 := Lib.hid hb
              clear hb HP
              go_wp2_with fail
              refine (HRR.out _ HN1.out).mono ?_
              rintro e w2 ⟨rfl, hb⟩
              have HN2 := Lib.hid (HN1.out.then_ hb)
              clear hb HN1 HRR
              go_wp2_with fail
              refine (alive_any _).mono ?_
              rintro e w3 ⟨rfl, hb⟩
              have HN3 := Lib.hid (HN2.out.then_ hb)
              clear hb HN2
              go_wp2
              go_ret
              exact ⟨rfl, HN3.out⟩
        · obtain ⟨s, rfl⟩ := Int.eq_ofNat_of_zero_le (show 0 ≤ x by omega)
          have hs : s ≤ 3000 := by omega
          have HP := Lib.hid (HPG.out rfl s (by omega))
          have HQ := Lib.hid (HQG.out rfl s (by omega))
          have hn := H64.out rfl
          have hm1 : decide ((3000 : Int) < (s : Int)) = false := by simp; omega
          have hd1 : decide ((s : Int) < 0) = false := by simp
          have hd2 : decide ((100000 : Int) < (s : Int)) = false := by simp; omega
          have hnn : ((n : Int) != (n : Int)) = false := by simp
          clear HPA HPG HQG H64 hx hmid hmd
          go_enter Try.func4, Try.ntmps4
          go_wp2_with fail
          refine HP.out.mono ?_
          rintro e w1 ⟨R1, rfl, hse1, hb⟩
          have HN1 := Lib.hid hb
          have HS1 := Lib.hid hse1
          clear hb HP hse1
          go_wp2_with fail
          refine (HRR.out _ HN1.out).mono ?_
          rintro e w2 ⟨rfl, hb⟩
          have HN2 := Lib.hid (HN1.out.then_ hb)
          have HS2 := Lib.hid (HS1.out.nw hb)
          clear hb HN1 HRR HS1
          go_wp2_with fail
          refine (HQ.out _ HN2.out).mono ?_
          rintro e w3 ⟨R2, rfl, hse2, hb⟩
          have HN3 := Lib.hid (HN2.out.then_ hb)
          have HS3 := Lib.hid (HS2.out.nw hb)
          have HT3 := Lib.hid hse2
          clear hb HN2 HS2 HQ hse2
          go_wp2
          go_loopw [73] (fun i wr => ∃ k : Nat, k ≤ n ∧ i = .int .i64 k ∧ Hid (Nw w wr) ∧ Hid (Nw w3 wr)) (fun i _ => n - (intOf i).toNat)
          case atStart => exact ⟨0, Nat.zero_le _, rfl, HN3, Lib.hid (Below.refl _ _)⟩
          case round =>
            clear HN3
            obtain ⟨k, hk, rfl, HN, HM⟩ := hrel
            by_cases hlt : k < n
            · obtain ⟨r0, r1, r2⟩ := (HS3.out.nw HM.out).row k hlt
              obtain ⟨q0, q1, q2⟩ := (HT3.out.nw HM.out).row k hlt
              have hz1' := (HS3.out.nw HM.out).z
              have hz2' := (HT3.out.nw HM.out).z
              generalize (pl n (per l) (off l) s).sent k = a at *
              generalize (pl n (per l) (off l) s).worst k = bb at *
              generalize lefts n (per l) (off l) s k = cc at *
              have hnk : ¬ n ≤ k := by omega
              have d6 : (k : Int) < (n : Int) := by omega
              have d7 : (0 : Int) ≤ (k : Int) := by omega
              go_wp2_with fail
              go_quiet (fail)
              have HN6 := Lib.hid (nw_drewN HN.out nq)
              have HM6 := Lib.hid (nw_drewN HM.out nq)
              clear r0 r1 r2 q0 q1 q2 HN HM hz1' hz2'
              generalize wr.drewN nq = w6 at *
              go_wp2
              go_roundw
              case rel => exact ⟨k + 1, by omega, by go_num, HN6, HM6⟩
              case measure => simp [intOf]; omega
            · go_wp2_with fail
              refine (alive_any _).mono ?_
              rintro e w4 ⟨rfl, hb⟩
              have HN4 := Lib.hid (HN.out.then_ hb)
              clear hb
              go_wp2
              go_ret
              exact ⟨rfl, HN4.out⟩
      · have HP := Lib.hid (HPB.out h0)
        have h00 : (r != 0) = true := by simp [h0]
        have hrr : (r == r) = true := by simp
        clear HPA HPG HQG HPB H64 hmid h0
        rcases hmd with hm1 | ⟨hm1, hm2⟩
        all_goals
          go_enter Try.func4, Try.ntmps4
          go_wp2_with fail
          refine HP.out.mono ?_
          rintro e w1 ⟨rfl, hb⟩
          have HN1 := Lib.hid hb
          clear hb HP
          go_wp2_with fail
          refine (HRR.out _ HN1.out).mono ?_
          rintro e w2 ⟨rfl, hb⟩
          have HN2 := Lib.hid (HN1.out.then_ hb)
          clear hb HN1 HRR
          go_wp2_with fail
          refine (alive_any _).mono ?_
          rintro e w3 ⟨rfl, hb⟩
          have HN3 := Lib.hid (HN2.out.then_ hb)
          clear hb HN2
          go_wp2
          go_ret
          exact ⟨rfl, HN3.out⟩
end Go.Proofs.Ytlmaanfgamocmaa
