/- Plain: bytes with a number in a field. No program here. -/
import Derived.Test.YteafmljogijdgaaP
namespace Go.Proofs.Yteafmljogijdgaa
open Go.RowKit

/-- The i-th bit of a number. -/
def nbit (n : Int) (i : Nat) : Bool := (n / 2 ^ i) % 2 == 1
/-- A byte with a bit turned to v. -/
def byteSet (b k : Nat) (v : Bool) : Nat := (b &&& (255 ^^^ 2 ^ k)) ||| (if v then 2 ^ k else 0)
/-- Bytes, with one bit turned to v. -/
def putB (l : List Nat) (k : Nat) (v : Bool) : List Nat := l.set (k / 8) (byteSet (l.getD (k / 8) 0) (k % 8) v)
def lbit (l : List Nat) (k : Nat) : Bool := (l.getD (k / 8) 0).testBit (k % 8)
def setL (l : List Nat) (p : Nat → Nat) (n : Int) : Nat → List Nat
  | 0 => l
  | i + 1 => putB (setL l p n i) (p i) (nbit n i)

theorem byteSet_lt (b k : Nat) (v : Bool) (hk : k < 8) : byteSet b k v < 256 := by
  unfold byteSet
  have h1 : b &&& (255 ^^^ 2 ^ k) < 2 ^ 8 := by
    apply Nat.and_lt_two_pow
    apply Nat.xor_lt_two_pow (by decide)
    exact Nat.pow_lt_pow_right (by decide) hk
  have h2 : (if v then 2 ^ k else 0) < 2 ^ 8 := by
    split
    · exact Nat.pow_lt_pow_right (by decide) hk
    · decide
  exact Nat.or_lt_two_pow h1 h2
theorem byteSet_bit (b k j : Nat) (v : Bool) (hk : k < 8) (hj : j < 8) : (byteSet b k v).testBit j = if j = k then v else b.testBit j := by
  unfold byteSet
  rw [Nat.testBit_or, Nat.testBit_and, Nat.testBit_xor]
  have h255 : (255 : Nat).testBit j = true := by
    have := Nat.testBit_two_pow_sub_one 8 j
    simpa [hj] using this
  rw [h255]
  by_cases e : j = k
  · subst e
    rw [Nat.testBit_two_pow_self]
    cases v
    · simp
    · simp [Nat.testBit_two_pow_self]
  · rw [Nat.testBit_two_pow_of_ne (by omega)]
    cases v
    · simp [e]
    · simp [e, Nat.testBit_two_pow_of_ne (show k ≠ j by omega)]

def Bytes (l : List Nat) : Prop := ∀ i, l.getD i 0 < 256
theorem putB_bytes {l : List Nat} (h : Bytes l) (k : Nat) (v : Bool) : Bytes (putB l k v) := by
  intro i
  unfold putB
  by_cases e : k / 8 = i
  · subst e
    by_cases hl : k / 8 < l.length
    · simp [hl]
      exact byteSet_lt _ _ _ (Nat.mod_lt _ (by decide))
    · rw [List.set_eq_of_length_le (by omega)]
      exact h _
  · simp [List.getD, e]
    exact h i
theorem putB_length (l : List Nat) (k : Nat) (v : Bool) : (putB l k v).length = l.length := by simp [putB]
theorem putB_bit {l : List Nat} (k j : Nat) (v : Bool) (hk : k / 8 < l.length) : lbit (putB l k v) j = if j = k then v else lbit l j := by
  unfold lbit putB
  by_cases e : k / 8 = j / 8
  · rw [← e]
    simp [hk]
    rw [byteSet_bit _ _ _ _ (Nat.mod_lt _ (by decide)) (Nat.mod_lt _ (by decide))]
    by_cases e2 : j % 8 = k % 8
    · have : j = k := by omega
      rw [if_pos e2, if_pos this]
    · have : j ≠ k := by omega
      rw [if_neg e2, if_neg this]
  · have : j ≠ k := by omega
    simp [List.getD, e, this]
theorem setL_length (l : List Nat) (p : Nat → Nat) (n : Int) (i : Nat) : (setL l p n i).length = l.length := by
  induction i with
  | zero => rfl
  | succ i ih => rw [setL, putB_length, ih]
theorem setL_bytes {l : List Nat} (h : Bytes l) (p : Nat → Nat) (n : Int) (i : Nat) : Bytes (setL l p n i) := by
  induction i with
  | zero => exact h
  | succ i ih => exact putB_bytes ih _ _
theorem setL_out {l : List Nat} (p : Nat → Nat) (n : Int) (i j : Nat) (hp : ∀ k, k < i → p k / 8 < l.length) (hj : ∀ k, k < i → p k ≠ j) : lbit (setL l p n i) j = lbit l j := by
  induction i with
  | zero => rfl
  | succ i ih =>
    rw [setL, putB_bit _ _ _ (by rw [setL_length]; exact hp i (Nat.lt_succ_self _)), if_neg (fun e => hj i (Nat.lt_succ_self _) e.symm)]
    exact ih (fun k hk => hp k (by omega)) (fun k hk => hj k (by omega))
theorem setL_in {l : List Nat} (p : Nat → Nat) (n : Int) (i k : Nat) (hp : ∀ k, k < i → p k / 8 < l.length) (hinj : ∀ a b, a < i → b < i → p a = p b → a = b) (hk : k < i) : lbit (setL l p n i) (p k) = nbit n k := by
  induction i with
  | zero => omega
  | succ i ih =>
    rw [setL, putB_bit _ _ _ (by rw [setL_length]; exact hp i (Nat.lt_succ_self _))]
    by_cases e : k = i
    · subst e
      rw [if_pos rfl]
    · rw [if_neg (fun h => e (hinj k i (by omega) (by omega) h))]
      exact ih (fun k hk => hp k (by omega)) (fun a b ha hb => hinj a b (by omega) (by omega)) (by omega)

theorem posN_inj {st ln : Nat} (big : Bool) {a b : Nat} (ha : a < ln) (hb : b < ln) (h : posN st ln big a = posN st ln big b) : a = b := by
  unfold posN at h
  cases big
  · simp at h; omega
  · simp at h; omega

/-- Bytes as a text. -/
def strN (l : List Nat) : ByteArray := ⟨(l.map fun n => UInt8.ofNat n).toArray⟩
def bytesL (s : ByteArray) : List Nat := s.data.toList.map UInt8.toNat
theorem bytesL_length (s : ByteArray) : (bytesL s).length = s.size := by simp [bytesL]
theorem bytesL_bytes (s : ByteArray) : Bytes (bytesL s) := by
  intro i
  unfold bytesL List.getD
  rw [List.getElem?_map]
  cases h : s.data.toList[i]? with
  | none => simp
  | some b => simpa using b.toNat_lt
theorem strN_size (l : List Nat) : (strN l).size = l.length := by simp [strN, ByteArray.size]
theorem strN_bytesL (s : ByteArray) : strN (bytesL s) = s := by
  unfold strN bytesL
  rw [List.map_map]
  have : ((fun n => UInt8.ofNat n) ∘ UInt8.toNat) = id := by
    funext b
    simp
  rw [this]
  simp
theorem bitB_strN {l : List Nat} (hb : Bytes l) (k : Nat) (hk : k / 8 < l.length) : bitB (strN l) k = lbit l k := by
  unfold bitB lbit
  rw [dif_pos (by rw [strN_size]; exact hk)]
  have h1 := hb (k / 8)
  have : ((strN l)[k / 8]'(by rw [strN_size]; exact hk)) = UInt8.ofNat (l.getD (k / 8) 0) := by
    have hg : l.getD (k / 8) 0 = l[k / 8]'hk := by simp [hk]
    rw [hg]
    have h2 : ∀ (i : Nat) (h : i < (strN l).size) (h' : i < l.length), (strN l)[i]'h = UInt8.ofNat (l[i]'h') := by
      intro i h h'
      have : (strN l)[i]'h = (l.map fun n => UInt8.ofNat n)[i]'(by simpa using h') := rfl
      rw [this, List.getElem_map]
    exact h2 _ _ _
  rw [this]
  rw [UInt8.toNat_ofNat_of_lt' h1]
theorem bitB_bytesL (s : ByteArray) (k : Nat) (hk : k / 8 < s.size) : lbit (bytesL s) k = bitB s k := by
  rw [← bitB_strN (bytesL_bytes s) k (by rw [bytesL_length]; exact hk), strN_bytesL]
theorem bits_ext {s t : ByteArray} (hz : s.size = t.size) (h : ∀ k, k < 8 * s.size → bitB s k = bitB t k) : s = t := by
  apply ByteArray.ext
  apply Array.ext
  · exact hz
  · intro i h1 h2
    have hs : i < s.size := h1
    have key : ∀ j, j < 8 → (s.data[i]'h1).toNat.testBit j = (t.data[i]'h2).toNat.testBit j := by
      intro j hj
      have := h (8 * i + j) (by omega)
      unfold bitB at this
      rw [dif_pos (by omega), dif_pos (by omega)] at this
      have e1 : (8 * i + j) / 8 = i := by omega
      have e2 : (8 * i + j) % 8 = j := by omega
      simp only [e1, e2] at this
      exact this
    apply UInt8.toNat_inj.1
    apply Nat.eq_of_testBit_eq
    intro j
    by_cases hj : j < 8
    · exact key j hj
    · have b1 := (s.data[i]'h1).toNat_lt
      have b2 := (t.data[i]'h2).toNat_lt
      have p8 : (2 : Nat) ^ 8 ≤ 2 ^ j := Nat.pow_le_pow_right (by decide) (by omega)
      rw [Nat.testBit_lt_two_pow (by omega), Nat.testBit_lt_two_pow (by omega)]

/-- What Set answers, where the field and the number may be. -/
def setS (s : ByteArray) (st ln : Nat) (big : Bool) (n : Int) : ByteArray := strN (setL (bytesL s) (posN st ln big) n ln)
theorem setS_size (s : ByteArray) (st ln : Nat) (big : Bool) (n : Int) : (setS s st ln big n).size = s.size := by
  rw [setS, strN_size, setL_length, bytesL_length]
theorem setS_in (s : ByteArray) (st ln : Nat) (big : Bool) (n : Int) (h : st + ln ≤ 8 * s.size) (k : Nat) (hk : k < ln) : bitB (setS s st ln big n) (posN st ln big k) = nbit n k := by
  have hp : ∀ k, k < ln → posN st ln big k / 8 < (bytesL s).length := fun k hk => by
    rw [bytesL_length]
    have := posN_lt (n := s.size) big hk h
    omega
  rw [setS, bitB_strN (setL_bytes (bytesL_bytes s) _ _ _) _ (by rw [setL_length]; exact hp k hk)]
  exact setL_in _ _ _ _ hp (fun a b ha hb => posN_inj big ha hb) hk
theorem setS_out (s : ByteArray) (st ln : Nat) (big : Bool) (n : Int) (h : st + ln ≤ 8 * s.size) (j : Nat) (hj : j < 8 * s.size) (hne : ∀ k, k < ln → posN st ln big k ≠ j) : bitB (setS s st ln big n) j = bitB s j := by
  have hp : ∀ k, k < ln → posN st ln big k / 8 < (bytesL s).length := fun k hk => by
    rw [bytesL_length]
    have := posN_lt (n := s.size) big hk h
    omega
  rw [setS, bitB_strN (setL_bytes (bytesL_bytes s) _ _ _) _ (by rw [setL_length, bytesL_length]; omega), setL_out _ _ _ _ hp hne, bitB_bytesL s j (by omega)]

theorem mod_succ (n : Int) (k : Nat) : n % 2 ^ (k + 1) = n % 2 ^ k + if nbit n k then 2 ^ k else 0 := by
  have hd : (0 : Int) < 2 ^ k := Int.pow_pos (by decide)
  have e : (2 : Int) ^ (k + 1) = 2 ^ k * 2 := by rw [Int.pow_succ]
  have hq : (n / 2 ^ k) % 2 = if nbit n k then 1 else 0 := by
    unfold nbit
    have := Int.emod_two_eq (n / 2 ^ k)
    rcases this with h | h <;> simp [h]
  rw [e]
  have h1 := Int.mul_ediv_add_emod n (2 ^ k)
  have h2 := Int.mul_ediv_add_emod (n / 2 ^ k) 2
  have h3 := Int.emod_nonneg n (Int.ne_of_gt hd)
  have h4 := Int.emod_lt_of_pos n hd
  generalize (2 : Int) ^ k = d at *
  generalize n / d = q at *
  generalize n % d = r at *
  have h5 : (if nbit n k then d else 0) = d * (q % 2) := by rw [hq]; split <;> simp
  have key : n % (d * 2) = r + d * (q % 2) := by
    have hn : n = (d * 2) * (q / 2) + (r + d * (q % 2)) := by
      rw [← h1]
      have : d * q = d * (2 * (q / 2) + q % 2) := by rw [h2]
      rw [this, Int.mul_add, ← Int.mul_assoc]
      omega
    rw [hn, Int.mul_add_emod_self_left]
    apply Int.emod_eq_of_lt
    · have := Int.emod_two_eq q
      rcases this with h | h <;> rw [h] <;> omega
    · have := Int.emod_two_eq q
      rcases this with h | h <;> rw [h] <;> omega
  rw [key, h5]

/-- The number whose bits stand there. -/
theorem accN_of_bits (t : ByteArray) (p : Nat → Nat) (n : Int) (k : Nat) (h : ∀ i, i < k → bitB t (p i) = nbit n i) : (accN t p k : Int) = n % 2 ^ k := by
  induction k with
  | zero => simp [accN, Int.emod_one]
  | succ k ih =>
    rw [mod_succ, ← ih (fun i hi => h i (by omega)), ← h k (Nat.lt_succ_self _)]
    simp only [accN, stepN]
    split <;> push_cast <;> omega

/-- The least and the greatest number of a field. -/
def loR (ln : Nat) (sg : Bool) : Int := if sg then 0 - ((2 ^ (ln - 1) : Nat) : Int) else 0
def hiR (ln : Nat) (sg : Bool) : Int := if sg then ((2 ^ (ln - 1) : Nat) : Int) - 1 else ((2 ^ ln : Nat) : Int) - 1
theorem pow_half (ln : Nat) (h : 1 ≤ ln) : (2 : Nat) ^ ln = 2 * 2 ^ (ln - 1) := by
  obtain ⟨k, rfl⟩ : ∃ k, ln = k + 1 := ⟨ln - 1, by omega⟩
  rw [Nat.pow_succ, Nat.add_sub_cancel, Nat.mul_comm]
theorem nbit_top (n : Int) (ln : Nat) (h1 : 0 - ((2 ^ (ln - 1) : Nat) : Int) ≤ n) (h2 : n < ((2 ^ (ln - 1) : Nat) : Int)) : nbit n (ln - 1) = decide (n < 0) := by
  unfold nbit
  have e : ((2 : Int) ^ (ln - 1)) = ((2 ^ (ln - 1) : Nat) : Int) := by push_cast; rfl
  rw [e]
  have hd := Nat.two_pow_pos (ln - 1)
  generalize 2 ^ (ln - 1) = d at *
  by_cases hn : n < 0
  · have : n / (d : Int) = -1 := by
      have h3 := Int.mul_ediv_add_emod n (d : Int)
      have h4 := Int.emod_nonneg n (show (d : Int) ≠ 0 by omega)
      have h5 := Int.emod_lt_of_pos n (show (0 : Int) < d by omega)
      apply Int.le_antisymm
      · have : n / (d : Int) < 0 := Int.ediv_neg_of_neg_of_pos hn (by omega)
        omega
      · apply Int.le_ediv_of_mul_le (by omega)
        omega
    rw [this]
    simp [hn]
  · rw [Int.ediv_eq_zero_of_lt (by omega) h2]
    simp [hn]
theorem getI_of_bits (t : ByteArray) (st ln : Nat) (big sg : Bool) (n : Int) (hl : 1 ≤ ln) (h : ∀ i, i < ln → bitB t (posN st ln big i) = nbit n i) (h1 : loR ln sg ≤ n) (h2 : n ≤ hiR ln sg) : getI t st ln big sg = n := by
  unfold getI
  rw [h (ln - 1) (by omega), accN_of_bits t _ n ln h]
  have hp := pow_half ln hl
  have hd := Nat.two_pow_pos (ln - 1)
  have e : ((2 : Int) ^ ln) = ((2 ^ ln : Nat) : Int) := by push_cast; rfl
  rw [e]
  cases sg
  · simp [loR, hiR] at h1 h2
    rw [if_neg (by simp)]
    apply Int.emod_eq_of_lt h1
    have : ((2 ^ ln : Nat) : Int) = 2 ^ ln := by push_cast; rfl
    omega
  · simp only [loR, hiR, if_true] at h1 h2
    rw [nbit_top n ln h1 (by omega)]
    generalize 2 ^ ln = D at *
    generalize 2 ^ (ln - 1) = d at *
    by_cases hn : n < 0
    · simp [hn]
      have : n % (D : Int) = n + D := by
        rw [← Int.add_emod_right, Int.emod_eq_of_lt (by omega) (by omega)]
      omega
    · simp [hn]
      exact Int.emod_eq_of_lt (by omega) (by omega)

/-- What was got, set again. -/
theorem accN_bit (s : ByteArray) (p : Nat → Nat) (k i : Nat) (hi : i < k) : (accN s p k).testBit i = bitB s (p i) := by
  induction k with
  | zero => omega
  | succ k ih =>
    have hlt := accN_lt s p k
    simp only [accN, stepN]
    by_cases e : i = k
    · subst e
      cases hb : bitB s (p i)
      · simp
        exact Nat.testBit_lt_two_pow hlt
      · simp
        rw [Nat.add_comm, Nat.testBit_two_pow_add_eq, Nat.testBit_lt_two_pow hlt]
        rfl
    · have hik : i < k := by omega
      rw [← ih hik]
      cases hb : bitB s (p k)
      · simp
      · simp
        rw [Nat.add_comm, Nat.testBit_two_pow_add_gt hik]
theorem nbit_nat (a i : Nat) : nbit (a : Int) i = a.testBit i := by
  unfold nbit
  rw [Nat.testBit_eq_decide_div_mod_eq]
  have e : ((a : Int) / 2 ^ i) % 2 = ((a / 2 ^ i % 2 : Nat) : Int) := by push_cast; rfl
  rw [e]
  have := Nat.mod_two_eq_zero_or_one (a / 2 ^ i)
  rcases this with h | h <;> rw [h] <;> rfl
theorem nbit_sub (n : Int) (i ln : Nat) (hi : i < ln) : nbit (n - 2 ^ ln) i = nbit n i := by
  unfold nbit
  have e : (2 : Int) ^ ln = 2 ^ i * (2 * 2 ^ (ln - i - 1)) := by
    rw [Int.mul_comm 2, ← Int.pow_succ, ← Int.pow_add]
    congr 1
    omega
  have hd : (2 : Int) ^ i ≠ 0 := Int.ne_of_gt (Int.pow_pos (by decide))
  rw [e, Int.sub_eq_add_neg, ← Int.mul_neg, Int.add_mul_ediv_left _ _ hd, ← Int.mul_neg]
  rw [Int.add_mul_emod_self_left]
theorem getI_bits (s : ByteArray) (st ln : Nat) (big sg : Bool) (i : Nat) (hi : i < ln) : nbit (getI s st ln big sg) i = bitB s (posN st ln big i) := by
  unfold getI
  split
  · rw [nbit_sub _ _ _ hi, nbit_nat, accN_bit _ _ _ _ hi]
  · rw [nbit_nat, accN_bit _ _ _ _ hi]
theorem setS_back (s : ByteArray) (st ln : Nat) (big sg : Bool) (h : st + ln ≤ 8 * s.size) : setS s st ln big (getI s st ln big sg) = s := by
  apply bits_ext (setS_size ..)
  intro k hk
  rw [setS_size] at hk
  by_cases hx : ∃ i, i < ln ∧ posN st ln big i = k
  · obtain ⟨i, hi, rfl⟩ := hx
    rw [setS_in _ _ _ _ _ h i hi, getI_bits _ _ _ _ _ _ hi]
  · exact setS_out _ _ _ _ _ h k hk fun i hi e => hx ⟨i, hi, e⟩
theorem getI_range (s : ByteArray) (st ln : Nat) (big sg : Bool) (hl : 1 ≤ ln) : loR ln sg ≤ getI s st ln big sg ∧ getI s st ln big sg ≤ hiR ln sg := by
  have hlt := accN_lt s (posN st ln big) ln
  have hlt1 := accN_lt s (posN st ln big) (ln - 1)
  have hp := pow_half ln hl
  have e : accN s (posN st ln big) ln = accN s (posN st ln big) (ln - 1) + if bitB s (posN st ln big (ln - 1)) then 2 ^ (ln - 1) else 0 := by
    obtain ⟨k, rfl⟩ : ∃ k, ln = k + 1 := ⟨ln - 1, by omega⟩
    rfl
  have e2 : ((2 : Int) ^ ln) = ((2 ^ ln : Nat) : Int) := by push_cast; rfl
  unfold getI loR hiR
  rw [e2]
  generalize accN s (posN st ln big) ln = N at *
  generalize accN s (posN st ln big) (ln - 1) = M at *
  generalize bitB s (posN st ln big (ln - 1)) = b at *
  generalize 2 ^ ln = D at *
  generalize 2 ^ (ln - 1) = d at *
  cases sg <;> cases b <;> simp at e ⊢ <;> omega
theorem setS_get (s : ByteArray) (st ln : Nat) (big sg : Bool) (n : Int) (hl : 1 ≤ ln) (h : st + ln ≤ 8 * s.size) (h1 : loR ln sg ≤ n) (h2 : n ≤ hiR ln sg) : getI (setS s st ln big n) st ln big sg = n :=
  getI_of_bits _ _ _ _ _ _ hl (fun i hi => setS_in _ _ _ _ _ h i hi) h1 h2
end Go.Proofs.Yteafmljogijdgaa
