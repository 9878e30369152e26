/- Contracts of each, with the closures of Len and of Flush. -/
import Derived.Test.YtjoklfhdablniaaE2
namespace Go.Proofs.Ytjoklfhdablniaa
open Go.RowKit

set_option maxHeartbeats 1600000 in
/-- 'each' with closure number 18. -/
theorem each18 (c1 : Value) (T C n : Nat) (Lf : Nat → List (Option Pk)) (w : World) (Inv : Nat → World → Prop) (_hn : n ≤ 1000)
    (hlen : ∀ i, i ≤ n → (Lf i).length = n)
    (hT : ∀ i W, i ≤ n → Inv i W → ∃ N, TInv W N T C (Lf i))
    (hnw : ∀ i W W', Inv i W → Nw W W' → Inv i W')
    (hskip : ∀ i W, i < n → Inv i W → (Lf i)[i]? = some none → Inv (i + 1) W)
    (hstep : ∀ (i : Nat) (W : World) (p : Pk), i < n → Inv i W → (Lf i)[i]? = some (some p) → Calls Try.prog 18 #[.int .i64 i, p.val, c1] W (fun e W' => e = .returned (.tuple #[]) ∧ Inv (i + 1) W'))
    (h0 : Inv 0 w) :
    Calls Try.prog 17 #[.pointer (some ⟨T, 0, none⟩), .func (.func 18) #[] #[c1]] w (fun e w' => e = .returned (.tuple #[]) ∧ Inv n w') := by
  have HLEN := Lib.hid hlen
  have HT := Lib.hid hT
  have HNW := Lib.hid hnw
  have HSK := Lib.hid hskip
  have HST := Lib.hid hstep
  have H0 := Lib.hid h0
  obtain ⟨N, hI⟩ := hT 0 w (Nat.zero_le _) h0
  have hc := hI.cells
  rw [hlen 0 (Nat.zero_le _)] at hc
  clear hlen hT hnw hskip hstep h0 hI
  go_enter Try.func17, Try.ntmps17
  go_wp2
  go_loopw [14] (fun i wr => ∃ k : Nat, k ≤ n ∧ i = .int .i64 k ∧ Hid (Inv k wr)) (fun i _ => n - (intOf i).toNat)
  case atStart => exact ⟨0, Nat.zero_le _, rfl, H0⟩
  case round =>
    obtain ⟨k, hk, rfl, HI⟩ := hrel
    clear hc
    by_cases hlt : k < n
    · obtain ⟨N, hI⟩ := HT.out k wr hk HI.out
      have hkl : k < (Lf k).length := by rw [HLEN.out k hk]; exact hlt
      have hx : (Lf k)[k]? = some ((Lf k)[k]'hkl) := List.getElem?_eq_getElem hkl
      have HIT := Lib.hid hI
      cases hL : (Lf k)[k]'hkl with
      | none =>
        rw [hL] at hx
        have HX := Lib.hid hx
        clear hx hL hI
        go_wp2_with fail
        refine (peek_none N T C (Lf k) k _ HIT.out HX.out).mono ?_
        rintro e w1 ⟨rfl, hb⟩
        have HI1 := Lib.hid (HSK.out k _ hlt (HNW.out k _ _ HI.out (hb.then_ (nw_alloc w1 (.cells #[.int .i64 0, .int .i64 0, .int .i64 0, .string ⟨#[]⟩, .int .i64 0, .int .i64 0, .bool false] 25)))) HX.out)
        clear hb HI HIT
        go_wp2
        go_roundw
        case rel => exact ⟨k + 1, by omega, by go_num, HI1⟩
        case measure => simp [intOf]; omega
      | some p =>
        rw [hL] at hx
        have HX := Lib.hid hx
        clear hx hL hI
        go_wp2_with fail
        refine (peek_some N T C (Lf k) k p _ HIT.out HX.out).mono ?_
        rintro e w1 ⟨rfl, hb⟩
        have HI1 := Lib.hid (HNW.out k _ _ HI.out (hb.then_ (nw_alloc w1 (.cells p.cells 25))))
        clear hb HI HIT
        go_wp2_with fail
        refine (HST.out k _ p hlt HI1.out HX.out).mono ?_
        rintro e w2 ⟨rfl, hi⟩
        have HI2 := Lib.hid hi
        clear hi HI1
        go_wp2
        go_roundw
        case rel => exact ⟨k + 1, by omega, by go_num, HI2⟩
        case measure => simp [intOf]; omega
    · go_wp2
      have e : k = n := by omega
      subst e
      go_end0
      exact ⟨rfl, HI.out⟩

set_option maxHeartbeats 1600000 in
/-- 'each' with closure number 19. -/
theorem each19 (c1 c2 : Value) (T C n : Nat) (Lf : Nat → List (Option Pk)) (w : World) (Inv : Nat → World → Prop) (_hn : n ≤ 1000)
    (hlen : ∀ i, i ≤ n → (Lf i).length = n)
    (hT : ∀ i W, i ≤ n → Inv i W → ∃ N, TInv W N T C (Lf i))
    (hnw : ∀ i W W', Inv i W → Nw W W' → Inv i W')
    (hskip : ∀ i W, i < n → Inv i W → (Lf i)[i]? = some none → Inv (i + 1) W)
    (hstep : ∀ (i : Nat) (W : World) (p : Pk), i < n → Inv i W → (Lf i)[i]? = some (some p) → Calls Try.prog 19 #[.int .i64 i, p.val, c1, c2] W (fun e W' => e = .returned (.tuple #[]) ∧ Inv (i + 1) W'))
    (h0 : Inv 0 w) :
    Calls Try.prog 17 #[.pointer (some ⟨T, 0, none⟩), .func (.func 19) #[] #[c1, c2]] w (fun e w' => e = .returned (.tuple #[]) ∧ Inv n w') := by
  have HLEN := Lib.hid hlen
  have HT := Lib.hid hT
  have HNW := Lib.hid hnw
  have HSK := Lib.hid hskip
  have HST := Lib.hid hstep
  have H0 := Lib.hid h0
  obtain ⟨N, hI⟩ := hT 0 w (Nat.zero_le _) h0
  have hc := hI.cells
  rw [hlen 0 (Nat.zero_le _)] at hc
  clear hlen hT hnw hskip hstep h0 hI
  go_enter Try.func17, Try.ntmps17
  go_wp2
  go_loopw [14] (fun i wr => ∃ k : Nat, k ≤ n ∧ i = .int .i64 k ∧ Hid (Inv k wr)) (fun i _ => n - (intOf i).toNat)
  case atStart => exact ⟨0, Nat.zero_le _, rfl, H0⟩
  case round =>
    obtain ⟨k, hk, rfl, HI⟩ := hrel
    clear hc
    by_cases hlt : k < n
    · obtain ⟨N, hI⟩ := HT.out k wr hk HI.out
      have hkl : k < (Lf k).length := by rw [HLEN.out k hk]; exact hlt
      have hx : (Lf k)[k]? = some ((Lf k)[k]'hkl) := List.getElem?_eq_getElem hkl
      have HIT := Lib.hid hI
      cases hL : (Lf k)[k]'hkl with
      | none =>
        rw [hL] at hx
        have HX := Lib.hid hx
        clear hx hL hI
        go_wp2_with fail
        refine (peek_none N T C (Lf k) k _ HIT.out HX.out).mono ?_
        rintro e w1 ⟨rfl, hb⟩
        have HI1 := Lib.hid (HSK.out k _ hlt (HNW.out k _ _ HI.out (hb.then_ (nw_alloc w1 (.cells #[.int .i64 0, .int .i64 0, .int .i64 0, .string ⟨#[]⟩, .int .i64 0, .int .i64 0, .bool false] 25)))) HX.out)
        clear hb HI HIT
        go_wp2
        go_roundw
        case rel => exact ⟨k + 1, by omega, by go_num, HI1⟩
        case measure => simp [intOf]; omega
      | some p =>
        rw [hL] at hx
        have HX := Lib.hid hx
        clear hx hL hI
        go_wp2_with fail
        refine (peek_some N T C (Lf k) k p _ HIT.out HX.out).mono ?_
        rintro e w1 ⟨rfl, hb⟩
        have HI1 := Lib.hid (HNW.out k _ _ HI.out (hb.then_ (nw_alloc w1 (.cells p.cells 25))))
        clear hb HI HIT
        go_wp2_with fail
        refine (HST.out k _ p hlt HI1.out HX.out).mono ?_
        rintro e w2 ⟨rfl, hi⟩
        have HI2 := Lib.hid hi
        clear hi HI1
        go_wp2
        go_roundw
        case rel => exact ⟨k + 1, by omega, by go_num, HI2⟩
        case measure => simp [intOf]; omega
    · go_wp2
      have e : k = n := by omega
      subst e
      go_end0
      exact ⟨rfl, HI.out⟩
end Go.Proofs.Ytjoklfhdablniaa
