/- Plain functions on bytes and bits: what signal computes. No program here. -/
import Derived.Laws.BitsLemmas
import Derived.WalkKit
namespace Go.Proofs.Yteafmljogijdgaa
open Go.RowKit

/-- May a field be, of so many bytes? -/
def rightB (st ln n : Int) : Bool := decide (0 ≤ n ∧ n ≤ 64 ∧ 1 ≤ ln ∧ ln ≤ 60 ∧ 0 ≤ st ∧ st ≤ 8 * n - ln)
def bitB (s : ByteArray) (k : Nat) : Bool := if h : k / 8 < s.size then (s[k / 8]'h).toNat.testBit (k % 8) else false
def posN (st ln : Nat) (big : Bool) (i : Nat) : Nat := if big then (st + ln - 1 - i) / 8 * 8 + 7 - (st + ln - 1 - i) % 8 else st + i
/-- A number with one bit more, if it is set. -/
def stepN (s : ByteArray) (b i n : Nat) : Nat := n + if bitB s b then 2 ^ i else 0
def accN (s : ByteArray) (p : Nat → Nat) : Nat → Nat
  | 0 => 0
  | k + 1 => stepN s (p k) k (accN s p k)
def getI (s : ByteArray) (st ln : Nat) (big sg : Bool) : Int :=
  if sg && bitB s (posN st ln big (ln - 1)) then (accN s (posN st ln big) ln : Int) - 2 ^ ln else accN s (posN st ln big) ln

theorem accN_lt (s : ByteArray) (p : Nat → Nat) (k : Nat) : accN s p k < 2 ^ k := by
  induction k with
  | zero => simp [accN]
  | succ k ih =>
    simp only [accN, stepN, Nat.pow_succ]
    split <;> omega

theorem pow_le60 {k : Nat} (h : k ≤ 60) : (2 : Nat) ^ k ≤ 1152921504606846976 := by
  have := Nat.pow_le_pow_right (n := 2) (by decide) h
  simpa using this
theorem posN_lt {st ln n : Nat} (big : Bool) {i : Nat} (hi : i < ln) (h : st + ln ≤ 8 * n) : posN st ln big i < 8 * n := by
  unfold posN
  split <;> omega

/-- The bit as a number. -/
theorem bit_num (s : ByteArray) (b : Nat) (h : b / 8 < s.size) : (((s[b / 8]'h).toNat / 2 ^ (b % 8)) % 2 : Nat) = if bitB s b then 1 else 0 := by
  unfold bitB
  rw [dif_pos h]
  have h2 := Nat.mod_two_eq_zero_or_one ((s[b / 8]'h).toNat / 2 ^ (b % 8))
  have h3 := Nat.testBit_eq_decide_div_mod_eq (x := (s[b / 8]'h).toNat) (i := b % 8)
  rw [h3]
  rcases h2 with h2 | h2 <;> simp [h2]

theorem and_one_u8 (x : Int) (h0 : 0 ≤ x) (h1 : x < 256) : bits .and .u8 x 1 = x % 2 := bits_mask .u8 8 (by decide) wraps_u8 1 (by decide) x h0 h1
theorem wraps_i64 (n : Int) (h₀ : 0 ≤ n) (h₁ : n < 2 ^ 62) : IntKind.i64.wrap n = n := by rw [IntKind.wrap_i64]; omega
theorem or_i64 (n m : Nat) (i : Nat) (hi : i ≤ 60) (hn : n < 2 ^ i) (hm : m ≤ 1) : bits .or .i64 (n : Int) ((m : Int) * 2 ^ i) = ((n + m * 2 ^ i : Nat) : Int) := by
  have hp := pow_le60 hi
  have e : ((m : Int) * 2 ^ i) = ((m * 2 ^ i : Nat) : Int) := by push_cast; rfl
  have hm2 : m * 2 ^ i ≤ 2 ^ i := by calc m * 2 ^ i ≤ 1 * 2 ^ i := Nat.mul_le_mul_right _ hm
                                        _ = 2 ^ i := Nat.one_mul _
  rw [e, (bits_nat .i64 62 (by decide) wraps_i64 n (m * 2 ^ i) (by omega) (by omega)).2]
  congr 1
  rw [Nat.mul_comm m, Nat.or_comm, ← Nat.two_pow_add_eq_or_of_lt hn m]
  omega
end Go.Proofs.Yteafmljogijdgaa
