/- Contracts of the document's Right, of small. -/
import Derived.Test.YtlmaanfgamocmaaR1
namespace Go.Proofs.Ytlmaanfgamocmaa
open Go.RowKit

set_option maxHeartbeats 3000000 in
theorem rright_any (A : Option Addr) (c : Nat) (l : List Tk) (w : World) (hA : TksAt w A l) : Calls Try.prog 13 #[.slice A l.length c] w (IntNw (tRight l) w) := by
  have HA := Lib.hid hA
  clear hA
  have HT : Hid (tRight l = if 64 < l.length then 9 else if l.all Tk.ok then 0 else 2) := rfl
  generalize tRight l = r at *
  generalize hL : l.length = n at *
  have HL := Lib.hid hL
  clear hL
  by_cases h64 : 64 < n
  · obtain rfl : r = 9 := by rw [HT.out, if_pos h64]
    have h64' : (64 : Int) < (n : Int) := by omega
    clear HT
    go_enter Try.func13, Try.ntmps13
    go_wp2
    go_ret
    exact ⟨rfl, Below.refl _ _⟩
  · have h64' : ¬ (64 : Int) < (n : Int) := by omega
    have HT1 : Hid (r = if l.all Tk.ok then 0 else 2) := by unfold Hid; rw [HT.out, if_neg h64]
    clear HT
    go_enter Try.func13, Try.ntmps13
    go_wp2
    go_loopw [3] (fun i wr => ∃ k : Nat, k ≤ n ∧ i = .int .i64 k ∧ Hid ((l.take k).all Tk.ok = true) ∧ wr = w) (fun i _ => n - (intOf i).toNat)
    case atStart => exact ⟨0, Nat.zero_le _, rfl, by unfold Hid; rfl, rfl⟩
    case round =>
      obtain ⟨k, hk, rfl, HK, rfl⟩ := hrel
      by_cases hlt : k < n
      · have hkl : k < l.length := by rw [HL.out]; exact hlt
        obtain ⟨ad, rfl, hp, f0, f1⟩ := HA.out k hkl
        have HS := Lib.hid (all_take hkl HK.out)
        have HQ := Lib.hid (fun h => all_not (l := l) hkl h)
        generalize l[k]'hkl = t at *
        have HW := Lib.hid (ok_ways t)
        obtain ⟨p, o⟩ := t
        have hnk : ¬ n ≤ k := by omega
        simp only [] at f0 f1
        rcases HW.out with ⟨h1, hb⟩ | ⟨h1, h2, hb⟩ | ⟨h1, h2, h3, hb⟩ | ⟨h1, h2, h3, h4, hb⟩ | ⟨h1, h2, h3, h4, hb⟩
        case inr.inr.inr.inr =>
          have HP : Hid ((l.take (k + 1)).all Tk.ok = true) := Lib.hid (HS.out.trans hb)
          simp only [] at h1 h2 h3 h4
          clear hb HW HQ HS HK
          go_wp2
          go_roundw
          case rel => exact ⟨k + 1, by omega, by go_num, HP, trivial⟩
          case measure => simp [intOf]; omega
        all_goals
          obtain rfl : r = 2 := by rw [HT1.out, HQ.out hb]; rfl
          simp only [] at h1
          try simp only [] at h2
          try simp only [] at h3
          try simp only [] at h4
          clear hb HW HQ HS HK HT1
          go_wp2
          go_ret
          exact ⟨rfl, Below.refl _ _⟩
      · obtain rfl : r = 0 := by
          have h := HK.out
          have := HL.out
          rw [List.take_of_length_le (by omega)] at h
          rw [HT1.out, h]
          rfl
        clear HK HT1
        go_wp2
        go_ret
        exact ⟨rfl, Below.refl _ _⟩

def SomeB (w : World) (e : Ending) (w' : World) : Prop := ∃ b, e = .returned (.bool b) ∧ w = w'
set_option maxHeartbeats 3000000 in
theorem small_any (A : Option Addr) (c : Nat) (l : List Tk) (w : World) (hA : TksAt w A l) : Calls Try.prog 8 #[.slice A l.length c] w (SomeB w) := by
  have HA := Lib.hid hA
  clear hA
  generalize hL : l.length = n at *
  have HL := Lib.hid hL
  clear hL
  go_enter Try.func8, Try.ntmps8
  go_wp2
  go_loopw [3] (fun i wr => ∃ k : Nat, k ≤ n ∧ i = .int .i64 k ∧ wr = w) (fun i _ => n - (intOf i).toNat)
  case atStart => exact ⟨0, Nat.zero_le _, rfl, rfl⟩
  case round =>
    obtain ⟨k, hk, rfl, rfl⟩ := hrel
    by_cases hlt : k < n
    · by_cases h70 : k ≤ 70
      · have hkl : k < l.length := by rw [HL.out]; exact hlt
        obtain ⟨ad, rfl, hp, f0, f1⟩ := HA.out k hkl
        generalize l[k]'hkl = t at *
        obtain ⟨p, o⟩ := t
        have hnk : ¬ n ≤ k := by omega
        have h71 : ¬ 70 < k := by omega
        simp only [] at f0 f1
        rcases (show ¬ 2000 < p ∨ (2000 < p ∧ ¬ p ≤ 100000) ∨ (2000 < p ∧ p ≤ 100000) by omega) with h1 | ⟨h1, h2⟩ | ⟨h1, h2⟩
        case inr.inr =>
          go_wp2
          go_ret
          exact ⟨_, rfl, rfl⟩
        all_goals
          go_wp2
          go_roundw
          case rel => exact ⟨k + 1, by omega, by go_num, trivial⟩
          case measure => simp [intOf]; omega
      · have h71 : 70 < k := by omega
        go_wp2
        go_ret
        exact ⟨_, rfl, rfl⟩
    · go_wp2
      go_ret
      exact ⟨_, rfl, rfl⟩
end Go.Proofs.Ytlmaanfgamocmaa
