/- The contract of Bound. -/
import Derived.Test.YtlmaanfgamocmaaR4
namespace Go.Proofs.Ytlmaanfgamocmaa
open Go.RowKit

def bndV (b : Option Nat) : Value := .tuple #[.int .i64 (b.getD 0 : Nat), .bool b.isSome]
def BndNw (b : Option Nat) (w : World) (e : Ending) (w' : World) : Prop := e = .returned (bndV b) ∧ Nw w w'
theorem bnd_up {P : Nat → Nat} {i w : Nat} (h : NoFix P i w) (hn : P i < ask P i w) : bnd P i = none := by
  rw [bnd_none]
  intro v h1 h2 e
  by_cases hv : v < w
  · exact h v h1 hv e
  · have := ask_mono P i (show w ≤ v by omega)
    omega
theorem bnd_at {P : Nat → Nat} {i w : Nat} (h : NoFix P i w) (h1 : 1 ≤ w) (h2 : w ≤ P i) (hn : ask P i w = w) : bnd P i = some w := bnd_some.2 ⟨h1, h2, hn, h⟩

set_option maxHeartbeats 6000000 in
theorem bound_in (A : Option Addr) (c n : Nat) (P O : Nat → Nat) (i : Nat) (w : World) (hT : TN w A n P O) (hc : n ≤ c) (hi : i < n) (hR : ∀ W, Nw w W → Calls Try.prog 12 #[.slice A n c] W (IntNw 0 W)) :
    Calls Try.prog 10 #[.slice A n c, .int .i64 i] w (BndNw (bnd P i) w) := by
  have HT := Lib.hid hT
  have HR := Lib.hid (hR w (Below.refl _ _))
  have HASK := Lib.hid (fun (v : Nat) (hv : v ≤ 100000) (W : World) (h : Nw w W) => asked_any A c n P O i v W (hT.nw h) hc (by omega) hv)
  have hd1 : decide ((i : Int) < 0) = false := by simp
  have hd2 : decide ((n : Int) ≤ (i : Int)) = false := by simp; omega
  have hd3 : ¬ n ≤ i := by omega
  obtain ⟨ad, hA, -, -, -⟩ := hT.at_ i hi
  obtain ⟨hp1, hp2, -⟩ := hT.ok i
  clear hT hR
  subst hA
  have HNF0 : Hid (NoFix P i 1) := fun v h1 h2 => absurd h1 (by omega)
  generalize hq : P i = q at *
  have HQ := Lib.hid hq
  clear hq
  go_enter Try.func10, Try.ntmps10
  go_wp2_with fail
  refine wp_scope_jumps 0 (fun a' w' => Hid (Nw w w') ∧ ∃ (v : Nat) (u7 u8 u9 u10 u11 u12 u13 u14 u15 u16 u17 u18 u19 u20 u21 u22 u23 u24 u25 u26 u27 u28 u29 u30 u31 u32 u33 u34 u35 u36 u37 u38 : Value), a' = { tmps := #[.slice (some ad) n c, .int .i64 i, undef, undef, .int .i64 0, .bool false, .int .i64 v, u7, u8, u9, u10, u11, u12, u13, u14, u15, u16, u17, u18, u19, u20, u21, u22, u23, u24, u25, u26, u27, u28, u29, u30, u31, u32, u33, u34, u35, u36, u37, u38], defers := [] } ∧ 1 ≤ v ∧ v ≤ q ∧ Hid (NoFix P i v)) (fun a' _ => q - (intOf (a'.tmps.getD 6 undef)).toNat) rfl ?_ ?_
  · go_wp2_with fail
    refine HR.out.mono ?_
    rintro e w1 ⟨rfl, hb⟩
    have HN := Lib.hid hb
    clear hb HR
    go_wp2_with fail
    go_step3
    go_wp2_with fail
    refine (HASK.out 1 (by omega) _ HN.out).mono ?_
    rintro e w2 ⟨rfl, hb⟩
    have HN2 := Lib.hid (HN.out.then_ hb)
    obtain ⟨ad', hA', hpl, f0, f1⟩ := (HT.out.nw HN2.out).at_ i hi
    injection hA' with hA'
    subst hA'
    rw [HQ.out] at f0
    have hge := noFix_le 1 (by omega) HNF0.out
    have HUP := Lib.hid (bnd_up HNF0.out)
    have HAT := Lib.hid (fun h2 => bnd_at HNF0.out (by omega) h2)
    have HST := Lib.hid (noFix_step HNF0.out)
    clear hb HN HNF0
    generalize ask P i 1 = m at *
    rcases (show q < m ∨ (m ≤ q ∧ ¬ q < m ∧ m = 1) ∨ (m ≤ q ∧ ¬ q < m ∧ ¬ m = 1 ∧ 1 < m) by omega) with h1 | ⟨h1, h2, h3⟩ | ⟨h1, h2, h3, h4⟩
    · have hb := HUP.out (by rw [HQ.out]; exact h1)
      clear HUP HAT HST hge f1
      go_wp2
      try simp only [Exit.jump]
      exact bodyPost_ret (v := bndV none) (by simp [results, Try.results10, go_sem, bndV]) rfl ⟨rfl, HN2.out⟩
    · have hb := HAT.out (by rw [HQ.out]; omega) (by omega)
      have heq : ((m : Int) == (1 : Nat)) = true := by simp; omega
      clear HUP HAT HST hge f1
      try subst h3
      go_wp2
      try simp only [Exit.jump]
      exact bodyPost_ret (v := bndV (some 1)) (by simp [results, Try.results10, go_sem, bndV]) rfl ⟨rfl, HN2.out⟩
    · have HNF := Lib.hid (HST.out (by omega))
      have heq : ((m : Int) == (1 : Nat)) = false := by rw [beq_eq_false_iff_ne]; omega
      clear HUP HAT HST hge f1
      go_wp2
      go_step3
      exact ⟨rfl, HN2, m, _, _, _, _, _, _, _, _, _, _, _, _, _, _, _, _, _, _, _, _, _, _, _, _, _, _, _, _, _, _, _, _, rfl, by omega, h1, HNF⟩
  · rintro a' wr ⟨HN, v, u7, u8, u9, u10, u11, u12, u13, u14, u15, u16, u17, u18, u19, u20, u21, u22, u23, u24, u25, u26, u27, u28, u29, u30, u31, u32, u33, u34, u35, u36, u37, u38, rfl, hv1, hv2, HNF⟩
    clear HR HNF0
    go_wp2_with fail
    refine (HASK.out v (by omega) _ HN.out).mono ?_
    rintro e w2 ⟨rfl, hb⟩
    have HN2 := Lib.hid (HN.out.then_ hb)
    obtain ⟨ad', hA', hpl, f0, f1⟩ := (HT.out.nw HN2.out).at_ i hi
    injection hA' with hA'
    subst hA'
    rw [HQ.out] at f0
    have hge := noFix_le v (by omega) HNF.out
    have HUP := Lib.hid (bnd_up HNF.out)
    have HAT := Lib.hid (fun h2 => bnd_at HNF.out (by omega) h2)
    have HST := Lib.hid (noFix_step HNF.out)
    clear hb HN HNF
    generalize ask P i v = m at *
    rcases (show q < m ∨ (m ≤ q ∧ ¬ q < m ∧ m = v) ∨ (m ≤ q ∧ ¬ q < m ∧ ¬ m = v ∧ v < m) by omega) with h1 | ⟨h1, h2, h3⟩ | ⟨h1, h2, h3, h4⟩
    · have hb := HUP.out (by rw [HQ.out]; exact h1)
      clear HUP HAT HST hge f1
      go_wp2
      try simp only [Exit.jump]
      exact bodyPost_ret (v := bndV none) (by simp [results, Try.results10, go_sem, bndV]) rfl ⟨rfl, HN2.out⟩
    · have hb := HAT.out (by rw [HQ.out]; omega) (by omega)
      have heq : ((m : Int) == (v : Nat)) = true := by simp; omega
      clear HUP HAT HST hge f1
      try subst h3
      go_wp2
      try simp only [Exit.jump]
      exact bodyPost_ret (v := bndV (some m)) (by simp [results, Try.results10, go_sem, bndV]) rfl ⟨rfl, HN2.out⟩
    · have HNF := Lib.hid (HST.out (by omega))
      have heq : ((m : Int) == (v : Nat)) = false := by rw [beq_eq_false_iff_ne]; omega
      clear HUP HAT HST hge f1
      go_wp2
      go_step3
      exact ⟨rfl, ⟨HN2, m, _, _, _, _, _, _, _, _, _, _, _, _, _, _, _, _, _, _, _, _, _, _, _, _, _, _, _, _, _, _, _, _, rfl, by omega, h1, HNF⟩, by simp [intOf]; omega⟩
end Go.Proofs.Ytlmaanfgamocmaa
