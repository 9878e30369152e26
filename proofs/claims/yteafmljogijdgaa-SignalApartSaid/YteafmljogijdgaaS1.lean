/- Contracts of the small functions of package signal. -/
import Derived.Test.YteafmljogijdgaaProg
import Derived.Test.YteafmljogijdgaaP
import Derived.WalkLawsBesides
import Derived.Deep.QuietTactic
import Derived.BigQuiet
import Derived.StillTailTactics
import Derived.Lib.Hide
namespace Go.Proofs.Yteafmljogijdgaa
open Go.RowKit

abbrev fld (st ln : Int) (big sg : Bool) : Value := .agg #[.int .i64 st, .int .i64 ln, .bool big, .bool sg]
abbrev fcells (st ln : Int) (big sg : Bool) : Obj := .cells #[.int .i64 st, .int .i64 ln, .bool big, .bool sg] 23

/-- The world is the old one, with more blocks. -/
abbrev Nw (w w' : World) : Prop := Below w.heap.size w w'
theorem Nw.then_ {a b c : World} (h : Nw a b) (k : Nw b c) : Nw a c := h.trans (k.mono h.size)
theorem bcell {B : Nat} {W w1 : World} (hb : Below B W w1) : (∀ b o, b < B → w1.cell? ⟨b, o, none⟩ = W.cell? ⟨b, o, none⟩) ∧ (∀ b o, b < B → w1.frozen? ⟨b, o, none⟩ = W.frozen? ⟨b, o, none⟩) :=
  ⟨fun b o h => hb.cell (p := ⟨b, o, none⟩) h, fun b o h => hb.frozen (p := ⟨b, o, none⟩) h⟩
theorem ret_bool {a b : Bool} (h : a = b) : Ending.returned (.bool a) = .returned (.bool b) := by rw [h]
theorem ret_int {a b : Int} (h : a = b) : Ending.returned (.int .i64 a) = .returned (.int .i64 b) := by rw [h]

set_option maxHeartbeats 800000 in
theorem right_any (st ln n : Int) (big sg : Bool) (w : World) :
    Calls Try.prog 19 #[fld st ln big sg, .int .i64 n] w fun e w' => e = .returned (.bool (rightB st ln n)) ∧ Nw w w' := by
  go_enter Try.func19, Try.ntmps19
  go_wp2
  all_goals go_ret
  all_goals refine ⟨ret_bool ?_, (Below.refl _ _).alloc (Nat.le_refl _) _⟩
  all_goals unfold rightB
  all_goals first | (rw [eq_comm, decide_eq_false_iff_not]; omega) | (rw [decide_eq_decide]; omega)

set_option maxHeartbeats 800000 in
theorem rright_any (st ln n : Int) (big sg : Bool) (w : World) :
    Calls Try.prog 14 #[fld st ln big sg, .int .i64 n] w fun e w' => e = .returned (.bool (rightB st ln n)) ∧ Nw w w' := by
  go_enter Try.func14, Try.ntmps14
  go_wp2
  all_goals go_ret
  all_goals refine ⟨ret_bool ?_, (Below.refl _ _).alloc (Nat.le_refl _) _⟩
  all_goals unfold rightB
  all_goals first | (rw [eq_comm, decide_eq_false_iff_not]; omega) | (rw [decide_eq_decide]; omega)

theorem power_any (n : Nat) (hn : n ≤ 60) (w : World) :
    Calls Try.prog 22 #[.int .i64 n] w fun e w' => e = .returned (.int .i64 ((2 ^ n : Nat) : Int)) ∧ w = w' := by
  go_enter Try.func22, Try.ntmps22
  go_wp2
  go_loop [3, 4] (fun x i => ∃ k : Nat, k ≤ n ∧ i = .int .i64 k ∧ x = .int .i64 ((2 ^ k : Nat) : Int)) (fun _ i => n - (intOf i).toNat)
  case atStart => exact ⟨0, Nat.zero_le _, rfl, rfl⟩
  case round =>
    obtain ⟨k, hk, rfl, rfl⟩ := hrel
    have hp := pow_le60 (k := k) (by omega)
    have hp1 := Nat.two_pow_pos k
    obtain ⟨p, hpe⟩ : ∃ p : Nat, p = 2 ^ k := ⟨_, rfl⟩
    have HP := Lib.hid hpe
    rw [← hpe] at hp hp1 ⊢
    clear hpe
    by_cases hlt : k < n
    · go_wp2
      go_round
      case rel => exact ⟨k + 1, by omega, by go_num, by rw [Nat.pow_succ, ← HP.out]; go_num⟩
      case measure => simp [intOf]; omega
    · go_wp2
      go_ret
      have : k = n := by omega
      subst this
      exact ⟨ret_int (by rw [HP.out]; simp), rfl⟩
end Go.Proofs.Yteafmljogijdgaa
