/- Bound and the document's Bound at any number. -/
import Derived.Test.YtlmaanfgamocmaaR5
namespace Go.Proofs.Ytlmaanfgamocmaa
open Go.RowKit

/-- The bound of a task, if there is one. -/
def boundO (l : List Tk) (i : Int) : Option Nat := if tRight l = 0 ∧ 0 ≤ i ∧ i < l.length then bnd (per l) i.toNat else none
theorem boundO_in {l : List Tk} {i : Nat} (h : tRight l = 0) (hi : i < l.length) : boundO l i = bnd (per l) i := by
  unfold boundO
  rw [if_pos ⟨h, by omega, by omega⟩]
  rfl
theorem bound_any (A : Option Addr) (c : Nat) (l : List Tk) (i : Int) (w : World) (hA : TksAt w A l) (hc : l.length ≤ c) :
    Calls Try.prog 10 #[.slice A l.length c, .int .i64 i] w (BndNw (boundO l i) w) := by
  by_cases hin : tRight l = 0 ∧ 0 ≤ i ∧ i < l.length
  · obtain ⟨h1, h2, h3⟩ := hin
    obtain ⟨k, rfl⟩ := Int.eq_ofNat_of_zero_le h2
    rw [boundO_in h1 (by omega)]
    exact bound_in A c l.length _ _ k w (tn_of hA h1) hc (by omega) fun W h => by
      have := right_any A c l W (hA.nw h)
      rwa [h1] at this
  · have hb : boundO l i = none := by unfold boundO; rw [if_neg hin]
    rw [hb]
    have HR := Lib.hid (right_any A c l w hA)
    generalize tRight l = r at *
    have hd : (r != 0) = true ∨ ((r != 0) = false ∧ decide (i < 0) = true) ∨ ((r != 0) = false ∧ decide (i < 0) = false ∧ decide ((l.length : Int) ≤ i) = true) := by
      by_cases h1 : r = 0
      · by_cases h2 : i < 0
        · exact .inr (.inl ⟨by simp [h1], by simp [h2]⟩)
        · exact .inr (.inr ⟨by simp [h1], by simp [h2], by simp; omega⟩)
      · exact .inl (by simp [h1])
    generalize l.length = n at *
    clear hin hb hA
    rcases hd with h1 | ⟨h1, h2⟩ | ⟨h1, h2, h3⟩
    all_goals
      go_enter Try.func10, Try.ntmps10
      go_wp2_with fail
      go_step3
      go_wp2_with fail
      refine HR.out.mono ?_
      rintro e w1 ⟨rfl, hb⟩
      have HN := Lib.hid hb
      clear hb HR
      go_wp2
      rw [Exit.noGoto_ret]
      exact bodyPost_ret (v := bndV none) (by simp [results, Try.results10, go_sem, bndV]) rfl ⟨rfl, HN.out⟩

def rbV (b : Option Nat) : Int := match b with | some v => v | none => -1
theorem rem_div {v p : Nat} (hp : 1 ≤ p) : (v + p - 1) / p = v / p + if 0 < v % p then 1 else 0 := by
  have h1 : v = p * (v / p) + v % p := (Nat.div_add_mod v p).symm
  have h2 : v % p < p := Nat.mod_lt _ (by omega)
  generalize v / p = q at *
  generalize v % p = r at *
  rw [h1]
  split
  · rw [show p * q + r + p - 1 = r - 1 + p * (q + 1) by rw [Nat.mul_add]; omega, Nat.add_mul_div_left _ _ (by omega), Nat.div_eq_of_lt (by omega)]
    omega
  · rw [show p * q + r + p - 1 = p - 1 + p * q by omega, Nat.add_mul_div_left _ _ (by omega), Nat.div_eq_of_lt (by omega)]
    omega

set_option maxHeartbeats 6000000 in
theorem rbound_in (A : Option Addr) (c n : Nat) (P O : Nat → Nat) (i : Nat) (w : World) (hT : TN w A n P O) (hi : i < n) (hR : ∀ W, Nw w W → Calls Try.prog 13 #[.slice A n c] W (IntNw 0 W)) :
    Calls Try.prog 11 #[.slice A n c, .int .i64 i] w (IntNw (rbV (bnd P i)) w) := by
  have HT := Lib.hid hT
  have HR := Lib.hid (hR w (Below.refl _ _))
  have HP := Lib.hid (ask_le P (fun k => (hT.ok k).1))
  have hlen := hT.len
  have hd1 : decide ((i : Int) < 0) = false := by simp
  have hd2 : decide ((n : Int) ≤ (i : Int)) = false := by simp; omega
  have hd3 : ¬ n ≤ i := by omega
  obtain ⟨ad, hA, -, -, -⟩ := hT.at_ i hi
  obtain ⟨hp1, hp2, -⟩ := hT.ok i
  clear hT hR
  subst hA
  have HNF0 : Hid (NoFix P i 1) := fun v h1 h2 => absurd h1 (by omega)
  have HB : Hid (∀ b, bnd P i = b → rbV (bnd P i) = rbV b) := fun b e => by rw [e]
  generalize hres : rbV (bnd P i) = res at *
  generalize hq : P i = q at *
  have HQ := Lib.hid hq
  clear hq hres
  go_enter Try.func11, Try.ntmps11
  go_wp2_with fail
  refine HR.out.mono ?_
  rintro e w1 ⟨rfl, hb⟩
  have HN := Lib.hid hb
  clear hb HR
  go_wp2
  go_loopw [5] (fun a wr => ∃ v : Nat, 1 ≤ v ∧ v ≤ q + 1 ∧ a = .int .i64 v ∧ Hid (NoFix P i v) ∧ Hid (Nw w wr)) (fun a _ => q + 1 - (intOf a).toNat)
  case atStart => exact ⟨1, Nat.le_refl _, by omega, rfl, HNF0, HN⟩
  case round =>
    obtain ⟨v, hv1, hv2, rfl, HNF, HNW⟩ := hrel
    clear HNF0 HN
    obtain ⟨ad', hA', hpl, f0, -⟩ := (HT.out.nw HNW.out).at_ i hi
    injection hA' with hA'
    subst hA'
    rw [HQ.out] at f0
    by_cases hlt : v ≤ q
    · have hqv : ¬ q < v := by omega
      obtain ⟨wo, rfl⟩ : ∃ wo : World, wo = wr := ⟨_, rfl⟩
      have HASK : Hid (∀ k, ask P (k + 1) v = ask P k v + (v + P k - 1) / P k) := fun k => rfl
      go_wp2
      go_loopw [6, 7] (fun a j wr => ∃ k : Nat, k ≤ i ∧ j = .int .i64 k ∧ a = .int .i64 (ask P k v : Nat) ∧ wr = wo) (fun _ j _ => i - (intOf j).toNat)
      case atStart => exact ⟨0, Nat.zero_le _, rfl, rfl, rfl⟩
      case round =>
        obtain ⟨k, hk, rfl, rfl, rfl⟩ := hrel
        by_cases hki : k < i
        · obtain ⟨ad2, hA2, hpl2, g0, g1⟩ := (HT.out.nw HNW.out).at_ k (by omega)
          injection hA2 with hA2
          subst hA2
          obtain ⟨e3, e4, e5⟩ := HT.out.ok k
          have hs := HASK.out k
          rw [rem_div e3] at hs
          have hb := HP.out k v
          have hb2 : k * v ≤ 64 * 100001 := Nat.mul_le_mul (by omega) (by omega)
          generalize P k = p at *
          generalize ask P k v = a at *
          have hik : ¬ i ≤ k := by omega
          have hnk : ¬ n ≤ k := by omega
          have hp0 : ¬ (p : Int) = 0 := by omega
          have hp9 : ((p : Int) == 0) = false := by simp; omega
          have hq1 : (v : Int) / (p : Int) = ((v / p : Nat) : Int) := (Int.natCast_ediv _ _).symm
          have hq2 : (v : Int).tdiv (p : Int) = ((v / p : Nat) : Int) := by rw [Int.tdiv_eq_ediv_of_nonneg (by omega), hq1]
          have hq3 : (v : Int) % (p : Int) = ((v % p : Nat) : Int) := (Int.natCast_emod _ _).symm
          have hq4 : (v : Int).tmod (p : Int) = ((v % p : Nat) : Int) := by rw [Int.tmod_eq_emod_of_nonneg (by omega), hq3]
          have hql : v / p ≤ v := Nat.div_le_self _ _
          generalize v / p = d at *
          generalize v % p = r at *
          rcases (show 0 < r ∨ r = 0 by omega) with hr | rfl
          · have hr' : (0 : Int) < (r : Int) := by omega
            rw [if_pos hr] at hs
            have HS := Lib.hid hs
            have ha : a ≤ 7000000 := by omega
            clear hs hb hb2
            go_wp2
            go_roundw
            case rel => exact ⟨k + 1, by omega, by go_num, by rw [HS.out]; go_num, trivial⟩
            case measure => simp [intOf]; omega
          · rw [if_neg (by omega)] at hs
            have HS := Lib.hid hs
            have ha : a ≤ 7000000 := by omega
            clear hs hb hb2
            go_wp2
            go_roundw
            case rel => exact ⟨k + 1, by omega, by go_num, by rw [HS.out]; go_num, trivial⟩
            case measure => simp [intOf]; omega
        · obtain rfl : k = i := by omega
          have HE := Lib.hid (fun (h : ask P k v = v) => bnd_at HNF.out hv1 (by rw [HQ.out]; exact hlt) h)
          have HNF2 : Hid (ask P k v ≠ v → NoFix P k (v + 1)) := fun hne u h1 h2 e => by
            by_cases h : u < v
            · exact HNF.out u h1 h e
            · obtain rfl : u = v := by omega
              exact hne e
          generalize ask P k v = a at *
          rcases (show a = v ∨ ¬ a = v by omega) with rfl | hne
          · obtain rfl : res = (a : Int) := HB.out _ (HE.out rfl)
            go_wp2
            go_ret
            exact ⟨rfl, HNW.out⟩
          · have hne1 : ((a : Int) == (v : Int)) = false := by rw [beq_eq_false_iff_ne]; omega
            have HNF3 := Lib.hid (HNF2.out hne)
            clear HNF2 HE HNF
            go_wp2
            go_roundw
            case rel => exact ⟨v + 1, by omega, by omega, by go_num, HNF3, HNW⟩
            case measure => simp [intOf]; omega
    · obtain rfl : v = q + 1 := by omega
      obtain rfl : res = -1 := HB.out none (bnd_none.2 fun u h1 h2 => HNF.out u h1 (by rw [HQ.out] at h2; omega))
      go_wp2
      go_ret
      exact ⟨rfl, HNW.out⟩
end Go.Proofs.Ytlmaanfgamocmaa
