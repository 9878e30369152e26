/- Play at any tasks; the walk of RtaSafe. -/
import Derived.Test.YtlmaanfgamocmaaM4
import Derived.Test.YtlmaanfgamocmaaR8
namespace Go.Proofs.Ytlmaanfgamocmaa
open Go.RowKit

def NilNw (r : Int) (w : World) (e : Ending) (w' : World) : Prop := e = .returned (.tuple #[.slice none 0 0, .int .i64 r]) ∧ Nw w w'
theorem play_bad (A : Option Addr) (n c : Nat) (r x : Int) (w : World) (hr : (r != 0) = true) (hR : ∀ W, Nw w W → Calls Try.prog 12 #[.slice A n c] W (IntNw r W)) :
    Calls Try.prog 16 #[.slice A n c, .int .i64 x] w (NilNw r w) := by
  have HR := Lib.hid hR
  clear hR
  go_enter Try.func16, Try.ntmps16
  go_wp2_with fail
  refine (HR.out _ (nw_alloc _ _)).mono ?_
  rintro e w1 ⟨rfl, hb⟩
  have HN1 := Lib.hid ((nw_alloc w (.cells #[.slice A n c] 22)).then_ hb)
  clear hb HR
  go_wp2
  exact bodyPost_ret (v := .tuple #[.slice none 0 0, .int .i64 r]) (by simp [results, Try.results16, go_sem]) rfl ⟨rfl, HN1.out⟩
theorem play_arg (A : Option Addr) (n c : Nat) (x : Int) (w : World) (hx : x < 0 ∨ 100000 < x) (hR : ∀ W, Nw w W → Calls Try.prog 12 #[.slice A n c] W (IntNw 0 W)) :
    Calls Try.prog 16 #[.slice A n c, .int .i64 x] w (NilNw 2 w) := by
  have HR := Lib.hid hR
  have hd : decide (x < 0) = true ∨ (decide (x < 0) = false ∧ decide ((100000 : Int) < x) = true) := by
    by_cases h : x < 0
    · exact .inl (by simp [h])
    · exact .inr ⟨by simp [h], by simp; omega⟩
  clear hR hx
  rcases hd with h1 | ⟨h1, h2⟩
  all_goals
    go_enter Try.func16, Try.ntmps16
    go_wp2_with fail
    refine (HR.out _ (nw_alloc _ _)).mono ?_
    rintro e w1 ⟨rfl, hb⟩
    have HN1 := Lib.hid ((nw_alloc w (.cells #[.slice A n c] 22)).then_ hb)
    clear hb HR
    go_wp2
    exact bodyPost_ret (v := .tuple #[.slice none 0 0, .int .i64 2]) (by simp [results, Try.results16, go_sem]) rfl ⟨rfl, HN1.out⟩

theorem play_tasks (A : Option Addr) (c : Nat) (l : List Tk) (s : Nat) (w : World) (hA : TksAt w A l) (hr : tRight l = 0) (hs : s ≤ 100000) : Calls Try.prog 16 #[.slice A l.length c, .int .i64 s] w (PlayPost l.length (per l) (off l) s w) :=
  play_in A l.length c _ _ s w (tn_of hA hr) hs fun W h => by
    have := right_any A c l W (hA.nw h)
    rwa [hr] at this
theorem play_wrong (A : Option Addr) (c : Nat) (l : List Tk) (x : Int) (w : World) (hA : TksAt w A l) (hr : tRight l ≠ 0) : Calls Try.prog 16 #[.slice A l.length c, .int .i64 x] w (NilNw (tRight l) w) :=
  play_bad A l.length c _ x w (by simp [hr]) fun W h => right_any A c l W (hA.nw h)

set_option maxRecDepth 100000 in
set_option maxHeartbeats 20000000 in
theorem rtaSafe_walk (A : Option Addr) (c : Nat) (l : List Tk) (x : Int) (w : World) (hA : TksAt w A l) (hc : l.length ≤ c) : Calls Try.prog 5 #[.slice A l.length c, .int .i64 x] w (TrueNw w) := by
  have HSM := Lib.hid (small_any A c l w hA)
  have HB := Lib.hid (fun (k : Nat) W (h : Nw w W) => bound_any A c l k W (hA.nw h) hc)
  have HPB := Lib.hid (fun (h : tRight l ≠ 0) => play_wrong A c l x w hA h)
  have HPG := Lib.hid (fun (h : tRight l = 0) (s : Nat) (hs : s ≤ 100000) => play_tasks A c l s w hA h hs)
  have HBO := Lib.hid (fun (h : tRight l = 0) (k : Nat) (hk : k < l.length) => boundO_in h hk)
  have HPO := Lib.hid (fun (h : tRight l = 0) => per_pos h)
  have H64 := Lib.hid (fun (h : tRight l = 0) => (tRight_zero h).1)
  generalize tRight l = r at *
  generalize l.length = n at *
  clear hA
  have hw : decide (x < 0) = true ∨ (decide (x < 0) = false ∧ decide ((3000 : Int) < x) = true) ∨ (decide (x < 0) = false ∧ decide ((3000 : Int) < x) = false ∧ ∃ s : Nat, s ≤ 3000 ∧ x = s) := by
    by_cases h1 : x < 0
    · exact .inl (by simp [h1])
    · by_cases h2 : 3000 < x
      · exact .inr (.inl ⟨by simp [h1], by simp [h2]⟩)
      · exact .inr (.inr ⟨by simp [h1], by simp [h2], x.toNat, by omega, by omega⟩)
  have HW := Lib.hid hw
  clear hw
  go_enter Try.func5, Try.ntmps5
  go_wp2_with fail
  refine HSM.out.mono ?_
  rintro e w0 ⟨sm, rfl, rfl⟩
  clear HSM
  cases sm
  · clear HB HPB HPG HBO HPO HW
    go_wp2_with fail
    refine (alive_any _).mono ?_
    rintro e w1 ⟨rfl, hb⟩
    go_wp2
    go_ret
    exact ⟨rfl, hb⟩
  · rcases HW.out with h1 | ⟨h1, h2⟩ | ⟨h1, h2, s, hs, rfl⟩
    · clear HB HPB HPG HBO HPO HW
      go_wp2_with fail
      refine (alive_any _).mono ?_
      rintro e w1 ⟨rfl, hb⟩
      go_wp2
      go_ret
      exact ⟨rfl, hb⟩
    · clear HB HPB HPG HBO HPO HW
      go_wp2_with fail
      refine (alive_any _).mono ?_
      rintro e w1 ⟨rfl, hb⟩
      go_wp2
      go_ret
      exact ⟨rfl, hb⟩
    · clear HW
      by_cases h0 : r = 0
      · subst h0
        have HP := Lib.hid (HPG.out rfl s (by omega))
        have hn := H64.out rfl
        have HBK := Lib.hid (HBO.out rfl)
        have HPK := Lib.hid (HPO.out rfl)
        clear HPG HPB HBO HPO H64
        go_wp2_with fail
        refine HP.out.mono ?_
        rintro e w1 ⟨R, rfl, hse, hb⟩
        have HSE := Lib.hid hse
        have HN1 := Lib.hid hb
        have hnn : ((n : Int) != (n : Int)) = false := by simp
        clear hse hb HP
        go_wp2
        go_loopw [43] (fun i wr => ∃ k : Nat, k ≤ n ∧ i = .int .i64 k ∧ Hid (Nw w wr) ∧ Hid (Nw w1 wr)) (fun i _ => n - (intOf i).toNat)
        case atStart => exact ⟨0, Nat.zero_le _, rfl, HN1, Lib.hid (Below.refl _ _)⟩
        case round =>
          obtain ⟨k, hk, rfl, HN, HM⟩ := hrel
          by_cases hlt : k < n
          · have HBB := Lib.hid (HB.out k _ HN.out)
            rw [HBK.out k hlt] at HBB
            have HG := Lib.hid (fun (v : Nat) (hv : bnd (per l) k = some v) => (show (pl n (per l) (off l) s).worst k ≤ v ∧ lefts n (per l) (off l) s k ≤ 1 from by
              obtain ⟨q1, q2, q3, q4⟩ := bnd_some.1 hv
              exact ⟨worst_le HPK.out hlt q3 q2 s, left_le HPK.out hlt q3 q2 s⟩))
            have hnk : ¬ n ≤ k := by omega
            have d6 : (k : Int) < (n : Int) := by omega
            have d7 : (0 : Int) ≤ (k : Int) := by omega
            go_wp2_with fail
            refine HBB.out.mono ?_
            rintro e w2 ⟨rfl, hb⟩
            have HN2 := Lib.hid (HN.out.then_ hb)
            have HM2 := Lib.hid (HM.out.then_ hb)
            obtain ⟨r0, r1, r2⟩ := (HSE.out.nw HM2.out).row k hlt
            have hz := (HSE.out.nw HM2.out).z
            clear hb HN HM HBB
            simp only [bndV]
            cases hbn : bnd (per l) k with
            | none =>
              rw [show (none : Option Nat).isSome = false from rfl]
              clear HG hbn r0 r1 r2
              go_wp2
              go_roundw
              case rel => exact ⟨k + 1, by omega, by go_num, HN2, HM2⟩
              case measure => simp [intOf]; omega
            | some v =>
              obtain ⟨g1, g2⟩ := HG.out v hbn
              rw [show (some v).isSome = true from rfl, show (some v).getD 0 = v from rfl]
              generalize (pl n (per l) (off l) s).worst k = wo at *
              generalize lefts n (per l) (off l) s k = le at *
              have hd1 : decide ((v : Int) < (wo : Int)) = false := by simp; omega
              have hd2 : decide ((1 : Int) < (le : Int)) = false := by simp; omega
              clear HG hbn
              go_wp2
              go_roundw
              case rel => exact ⟨k + 1, by omega, by go_num, HN2, HM2⟩
              case measure => simp [intOf]; omega
          · go_wp2_with fail
            refine (alive_any _).mono ?_
            rintro e w2 ⟨rfl, hb⟩
            have HN2 := Lib.hid (HN.out.then_ hb)
            clear hb
            go_wp2
            go_ret
            exact ⟨rfl, HN2.out⟩
      · have HP := Lib.hid (HPB.out h0)
        have h00 : (r != 0) = true := by simp [h0]
        clear HPG HPB HBO HPO H64 HB h0
        go_wp2_with fail
        refine HP.out.mono ?_
        rintro e w1 ⟨rfl, hb⟩
        have HN1 := Lib.hid hb
        clear hb HP
        go_wp2_with fail
        refine (alive_any _).mono ?_
        rintro e w2 ⟨rfl, hb⟩
        have HN2 := Lib.hid (HN1.out.then_ hb)
        clear hb
        go_wp2
        go_ret
        exact ⟨rfl, HN2.out⟩
end Go.Proofs.Ytlmaanfgamocmaa
