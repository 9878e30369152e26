/- The plain law: what is sent slot by slot; how long a frame waits. -/
import Derived.Test.YtlmaanfgamocmaaR3
namespace Go.Proofs.Ytlmaanfgamocmaa

/-- How many of a task's frames have come ahead of a slot. -/
def arr (P O : Nat → Nat) (k s : Nat) : Nat := (s - O k + P k - 1) / P k
theorem lt_arr {P O : Nat → Nat} {k q s : Nat} (hp : 1 ≤ P k) : q < arr P O k s ↔ O k + q * P k < s := by
  unfold arr
  rw [Nat.lt_iff_add_one_le, Nat.le_div_iff_mul_le (by omega), Nat.add_mul]
  omega
theorem arr_zero {P O : Nat → Nat} {k : Nat} (hp : 1 ≤ P k) : arr P O k 0 = 0 := by
  refine Nat.eq_zero_of_not_pos fun h => ?_
  have := (lt_arr (q := 0) hp).1 h
  omega
theorem arr_mono {P O : Nat → Nat} {k s t : Nat} (h : s ≤ t) : arr P O k s ≤ arr P O k t := by
  unfold arr
  exact Nat.div_le_div_right (by omega)
theorem arr_add {P O : Nat → Nat} {k t L : Nat} (hp : 1 ≤ P k) : arr P O k (t + L) ≤ arr P O k t + (L + P k - 1) / P k := by
  have h1 : t - O k ≤ arr P O k t * P k := by
    have : ¬ arr P O k t < arr P O k t := Nat.lt_irrefl _
    rw [lt_arr hp] at this
    omega
  have h2 : L ≤ (L + P k - 1) / P k * P k := by
    have h := Nat.lt_mul_div_succ (L + P k - 1) (show 0 < P k by omega)
    rw [Nat.mul_add, Nat.mul_comm] at h
    omega
  generalize (L + P k - 1) / P k = B at *
  refine Nat.le_of_not_lt fun h => ?_
  rw [lt_arr hp, Nat.add_mul] at h
  omega

/-- Which task's frame is sent in a slot. -/
def firstI (n : Nat) (P O sent : Nat → Nat) (s : Nat) : Option Nat := (List.range n).find? fun i => decide (sent i < arr P O i (s + 1))
theorem first_some {n : Nat} {P O sent : Nat → Nat} {s i : Nat} (h : firstI n P O sent s = some i) : i < n ∧ sent i < arr P O i (s + 1) ∧ ∀ j, j < i → ¬ sent j < arr P O j (s + 1) := by
  unfold firstI at h
  rw [List.find?_range_eq_some] at h
  simp only [decide_eq_true_eq, List.mem_range, Bool.not_eq_true', decide_eq_false_iff_not] at h
  exact ⟨h.2.1, h.1, h.2.2⟩
theorem first_none {n : Nat} {P O sent : Nat → Nat} {s : Nat} (h : firstI n P O sent s = none) : ∀ j, j < n → ¬ sent j < arr P O j (s + 1) := by
  unfold firstI at h
  rw [List.find?_range_eq_none] at h
  simpa only [Bool.not_eq_true', decide_eq_false_iff_not] using h
theorem first_of {n : Nat} {P O sent : Nat → Nat} {s i : Nat} (h1 : i < n) (h2 : sent i < arr P O i (s + 1)) (h3 : ∀ j, j < i → ¬ sent j < arr P O j (s + 1)) : firstI n P O sent s = some i := by
  unfold firstI
  rw [List.find?_range_eq_some]
  simp only [decide_eq_true_eq, List.mem_range, Bool.not_eq_true', decide_eq_false_iff_not]
  exact ⟨h2, h1, h3⟩
theorem first_of_none {n : Nat} {P O sent : Nat → Nat} {s : Nat} (h : ∀ j, j < n → ¬ sent j < arr P O j (s + 1)) : firstI n P O sent s = none := by
  unfold firstI
  rw [List.find?_range_eq_none]
  simpa only [Bool.not_eq_true', decide_eq_false_iff_not] using h
def upd (f : Nat → Nat) (i v : Nat) : Nat → Nat := fun j => if j = i then v else f j
theorem upd_same (f : Nat → Nat) (i v : Nat) : upd f i v i = v := by simp [upd]
theorem upd_off {f : Nat → Nat} {i v j : Nat} (h : j ≠ i) : upd f i v j = f j := by simp [upd, h]
structure St where
  sent : Nat → Nat
  worst : Nat → Nat
def stepSt (P O : Nat → Nat) (s : Nat) (st : St) : Option Nat → St
  | none => st
  | some i => ⟨upd st.sent i (st.sent i + 1), upd st.worst i (max (st.worst i) (s + 1 - (O i + st.sent i * P i)))⟩
def pl (n : Nat) (P O : Nat → Nat) : Nat → St
  | 0 => ⟨fun _ => 0, fun _ => 0⟩
  | s + 1 => stepSt P O s (pl n P O s) (firstI n P O (pl n P O s).sent s)
theorem pl_succ (n : Nat) (P O : Nat → Nat) (s : Nat) : pl n P O (s + 1) = stepSt P O s (pl n P O s) (firstI n P O (pl n P O s).sent s) := rfl
theorem sent_step (n : Nat) (P O : Nat → Nat) (s k : Nat) : (pl n P O (s + 1)).sent k = (pl n P O s).sent k + (if firstI n P O (pl n P O s).sent s = some k then 1 else 0) := by
  rw [pl_succ]
  generalize pl n P O s = st
  cases h : firstI n P O st.sent s with
  | none => simp [stepSt]
  | some i =>
    by_cases e : k = i
    · subst e
      simp [stepSt, upd]
    · simp [stepSt, upd, e, Ne.symm e]
theorem sent_mono {n : Nat} {P O : Nat → Nat} {k s : Nat} : ∀ {t : Nat}, s ≤ t → (pl n P O s).sent k ≤ (pl n P O t).sent k
  | 0, h => by
    obtain rfl : s = 0 := by omega
    exact Nat.le_refl _
  | t + 1, h => by
    by_cases e : s = t + 1
    · subst e
      exact Nat.le_refl _
    · rw [sent_step]
      exact Nat.le_trans (sent_mono (by omega)) (Nat.le_add_right _ _)
theorem sent_le {n : Nat} {P O : Nat → Nat} (hP : ∀ k, 1 ≤ P k) (k : Nat) : ∀ s, (pl n P O s).sent k ≤ arr P O k s
  | 0 => Nat.zero_le _
  | s + 1 => by
    rw [sent_step]
    have h := sent_le (n := n) (O := O) hP k s
    split
    · have := (first_some (by assumption)).2.1
      omega
    · exact Nat.le_trans h (arr_mono (by omega))

def sumTo (f : Nat → Nat) : Nat → Nat
  | 0 => 0
  | i + 1 => sumTo f i + f i
theorem sumTo_le {f g : Nat → Nat} : ∀ {i : Nat}, (∀ k, k < i → f k ≤ g k) → sumTo f i ≤ sumTo g i
  | 0, _ => Nat.le_refl _
  | i + 1, h => Nat.add_le_add (sumTo_le fun k hk => h k (by omega)) (h i (by omega))
theorem sumTo_eq {f g : Nat → Nat} : ∀ {i : Nat}, (∀ k, k < i → f k ≤ g k) → sumTo g i ≤ sumTo f i → ∀ k, k < i → f k = g k
  | 0, _, _, k, hk => absurd hk (Nat.not_lt_zero _)
  | i + 1, h, hs, k, hk => by
    have h1 := sumTo_le (i := i) fun k hk => h k (by omega)
    have h2 := h i (by omega)
    simp only [sumTo] at hs
    by_cases e : k = i
    · subst e
      omega
    · exact sumTo_eq (i := i) (fun k hk => h k (by omega)) (by omega) k (by omega)
theorem sumTo_add (f g : Nat → Nat) : ∀ i, sumTo (fun k => f k + g k) i = sumTo f i + sumTo g i
  | 0 => rfl
  | i + 1 => by
    simp only [sumTo]
    rw [sumTo_add f g i]
    omega
theorem sumTo_one {j : Nat} : ∀ {i : Nat}, j < i → sumTo (fun k => if some j = some k then 1 else 0) i = 1
  | 0, h => absurd h (Nat.not_lt_zero _)
  | i + 1, h => by
    simp only [sumTo]
    by_cases e : j = i
    · subst e
      have : sumTo (fun k => if some j = some k then 1 else 0) j = 0 := by
        have : ∀ i, i ≤ j → sumTo (fun k => if some j = some k then 1 else 0) i = 0 := by
          intro i
          induction i with
          | zero => intro _; rfl
          | succ i ih =>
            intro h
            simp only [sumTo]
            rw [ih (by omega), if_neg (by simp; omega)]
        exact this j (Nat.le_refl _)
      rw [this]
      simp
    · rw [sumTo_one (by omega), if_neg (by simpa using e)]
theorem sum_step {n : Nat} {P O : Nat → Nat} {s i j : Nat} (h : firstI n P O (pl n P O s).sent s = some j) (hj : j < i) : sumTo (pl n P O (s + 1)).sent i = sumTo (pl n P O s).sent i + 1 := by
  have e : (pl n P O (s + 1)).sent = fun k => (pl n P O s).sent k + (if some j = some k then 1 else 0) := by
    funext k
    rw [sent_step, h]
  rw [e, sumTo_add, sumTo_one hj]
theorem ask_sum (P : Nat → Nat) (v : Nat) : ∀ i, ask P i v = 1 + sumTo (fun k => (v + P k - 1) / P k) i
  | 0 => rfl
  | i + 1 => by
    show ask P i v + _ = _
    rw [ask_sum P v i]
    simp only [sumTo]
    omega

/-- In all slots of a stretch a frame of a task ahead of i is sent. -/
def Busy (n : Nat) (P O : Nat → Nat) (i t u : Nat) : Prop := ∀ s, t ≤ s → s < u → ∃ j, j < i ∧ firstI n P O (pl n P O s).sent s = some j
theorem busy_sum {n : Nat} {P O : Nat → Nat} {i t : Nat} : ∀ L, Busy n P O i t (t + L) → sumTo (pl n P O (t + L)).sent i = sumTo (pl n P O t).sent i + L
  | 0, _ => rfl
  | L + 1, h => by
    obtain ⟨j, hj, hf⟩ := h (t + L) (by omega) (by omega)
    rw [show t + (L + 1) = t + L + 1 by omega, sum_step hf hj, busy_sum L fun s h1 h2 => h s h1 (by omega)]
    omega
/-- A stretch that begins with nothing left ahead of i is no longer than what is asked for. -/
theorem busy_short {n : Nat} {P O : Nat → Nat} (hP : ∀ k, 1 ≤ P k) {i t w : Nat} (h0 : ∀ k, k < i → (pl n P O t).sent k = arr P O k t) (hw : ask P i w = w) : ¬ Busy n P O i t (t + w) := fun h => by
  have h1 := busy_sum w h
  have h2 : sumTo (pl n P O (t + w)).sent i ≤ sumTo (pl n P O t).sent i + sumTo (fun k => (w + P k - 1) / P k) i := by
    rw [← sumTo_add]
    refine sumTo_le fun k hk => ?_
    rw [h0 k hk]
    exact Nat.le_trans (sent_le hP k _) (arr_add (hP k))
  have h3 := ask_sum P w i
  omega
/-- The last time with nothing left ahead of i. -/
theorem last_idle {n : Nat} {P O : Nat → Nat} (hP : ∀ k, 1 ≤ P k) {i : Nat} (hi : i ≤ n) : ∀ a, ∃ t, t ≤ a ∧ (∀ k, k < i → (pl n P O t).sent k = arr P O k t) ∧ Busy n P O i t a
  | 0 => ⟨0, Nat.le_refl _, fun k _ => (arr_zero (hP k)).symm, fun s h1 h2 => absurd h2 (Nat.not_lt_zero _)⟩
  | a + 1 => by
    by_cases h : ∀ k, k < i → (pl n P O (a + 1)).sent k = arr P O k (a + 1)
    · exact ⟨a + 1, Nat.le_refl _, h, fun s h1 h2 => by omega⟩
    · obtain ⟨t, ht, hz, hb⟩ := last_idle hP hi a
      refine ⟨t, by omega, hz, fun s h1 h2 => ?_⟩
      by_cases e : s = a
      · subst e
        have : ∃ k, k < i ∧ (pl n P O (s + 1)).sent k ≠ arr P O k (s + 1) := by
          refine Classical.byContradiction fun hc => h fun k hk => Classical.byContradiction fun hne => hc ⟨k, hk, hne⟩
        obtain ⟨k, hk, hne⟩ := this
        have h3 := sent_le (n := n) (O := O) hP k (s + 1)
        have h4 := sent_mono (n := n) (P := P) (O := O) (k := k) (show s ≤ s + 1 by omega)
        cases hf : firstI n P O (pl n P O s).sent s with
        | none => exact absurd (show _ < _ by omega) (first_none hf k (by omega))
        | some j =>
          refine ⟨j, ?_, rfl⟩
          refine Nat.lt_of_not_le fun hle => ?_
          exact (first_some hf).2.2 k (by omega) (by omega)
      · exact hb s h1 (by omega)

theorem sent_in0 {n : Nat} {P O : Nat → Nat} (hP : ∀ k, 1 ≤ P k) {i w q : Nat} (hi : i < n) (hw : ask P i w = w) (hprev : q ≤ (pl n P O (O i + q * P i)).sent i) : q < (pl n P O (O i + q * P i + w)).sent i := by
  refine Nat.lt_of_not_le fun hle => ?_
  obtain ⟨t, ht, hz, hb⟩ := last_idle (n := n) (O := O) hP (show i ≤ n by omega) (O i + q * P i)
  refine busy_short hP hz hw fun s h1 h2 => ?_
  by_cases hs : s < O i + q * P i
  · exact hb s h1 hs
  · have hq1 : (pl n P O s).sent i ≤ (pl n P O (O i + q * P i + w)).sent i := sent_mono (by omega)
    have hq2 : (pl n P O (O i + q * P i)).sent i ≤ (pl n P O s).sent i := sent_mono (by omega)
    have hq3 : (pl n P O (s + 1)).sent i ≤ (pl n P O (O i + q * P i + w)).sent i := sent_mono (by omega)
    have hav : q < arr P O i (s + 1) := (lt_arr (hP i)).2 (by omega)
    cases hf : firstI n P O (pl n P O s).sent s with
    | none => exact absurd (show _ < _ by omega) (first_none hf i hi)
    | some j =>
      refine ⟨j, ?_, rfl⟩
      refine Nat.lt_of_not_le fun hle2 => ?_
      by_cases e : j = i
      · subst e
        have := sent_step n P O s j
        rw [hf, if_pos rfl] at this
        omega
      · exact (first_some hf).2.2 i (by omega) (by omega)
/-- Each frame of a task that has a bound is sent within it. -/
theorem sent_in {n : Nat} {P O : Nat → Nat} (hP : ∀ k, 1 ≤ P k) {i w : Nat} (hi : i < n) (hw : ask P i w = w) (hwP : w ≤ P i) (q : Nat) : q < (pl n P O (O i + q * P i + w)).sent i := by
  refine sent_in0 hP hi hw ?_
  induction q with
  | zero => exact Nat.zero_le _
  | succ q ih =>
    have h1 := sent_in0 (n := n) (O := O) hP hi hw ih
    have h2 : O i + q * P i + w ≤ O i + (q + 1) * P i := by rw [Nat.add_mul]; omega
    exact Nat.le_trans h1 (sent_mono h2)
theorem left_le {n : Nat} {P O : Nat → Nat} (hP : ∀ k, 1 ≤ P k) {i w : Nat} (hi : i < n) (hw : ask P i w = w) (hwP : w ≤ P i) (s : Nat) : arr P O i s - (pl n P O s).sent i ≤ 1 := by
  refine Nat.le_of_not_lt fun h => ?_
  have h1 : (pl n P O s).sent i + 1 < arr P O i s := by omega
  rw [lt_arr (hP i), Nat.add_mul] at h1
  have h2 := sent_in (n := n) (O := O) hP hi hw hwP ((pl n P O s).sent i)
  have h3 := sent_mono (n := n) (P := P) (O := O) (k := i) (show O i + (pl n P O s).sent i * P i + w ≤ s by omega)
  omega
theorem worst_le {n : Nat} {P O : Nat → Nat} (hP : ∀ k, 1 ≤ P k) {i w : Nat} (hi : i < n) (hw : ask P i w = w) (hwP : w ≤ P i) : ∀ s, (pl n P O s).worst i ≤ w
  | 0 => Nat.zero_le _
  | s + 1 => by
    have ih := worst_le (n := n) (O := O) hP hi hw hwP s
    rw [pl_succ]
    cases hf : firstI n P O (pl n P O s).sent s with
    | none => exact ih
    | some j =>
      by_cases e : i = j
      · subst e
        have h2 := sent_in (n := n) (O := O) hP hi hw hwP ((pl n P O s).sent i)
        have h3 : ¬ O i + (pl n P O s).sent i * P i + w ≤ s := fun h => by
          have := sent_mono (n := n) (P := P) (O := O) (k := i) h
          omega
        simp only [stepSt, upd_same]
        omega
      · simp only [stepSt, upd_off e]
        exact ih

/-- If all begin at once: the first frame waits just so long. -/
theorem just_busy {n : Nat} {P : Nat → Nat} (hP : ∀ k, 1 ≤ P k) {i w : Nat} (hi : i < n) (hnf : NoFix P i w) : ∀ s, s + 1 ≤ w → (pl n P (fun _ => 0) s).sent i = 0 ∧ sumTo (pl n P (fun _ => 0) s).sent i = s
  | 0, _ => ⟨rfl, by
    have : ∀ i, sumTo (fun _ => 0) i = 0 := by
      intro i
      induction i with
      | zero => rfl
      | succ i ih => simp [sumTo, ih]
    exact this i⟩
  | s + 1, h => by
    obtain ⟨h1, h2⟩ := just_busy hP hi hnf s (by omega)
    have h3 := hnf (s + 1) (by omega) (by omega)
    have h4 := noFix_le (P := P) (i := i) (s + 1) (by omega) (fun v a b => hnf v a (by omega))
    have h5 := ask_sum P (s + 1) i
    have harr : (fun k => (s + 1 + P k - 1) / P k) = fun k => arr P (fun _ => 0) k (s + 1) := by
      funext k
      simp [arr]
    rw [harr] at h5
    have hex : ∃ k, k < i ∧ (pl n P (fun _ => 0) s).sent k < arr P (fun _ => 0) k (s + 1) := by
      refine Classical.byContradiction fun hc => ?_
      have : sumTo (fun k => arr P (fun _ => 0) k (s + 1)) i ≤ sumTo (pl n P (fun _ => 0) s).sent i := sumTo_le fun k hk => Nat.le_of_not_lt fun hl => hc ⟨k, hk, hl⟩
      omega
    obtain ⟨k, hk, hl⟩ := hex
    cases hf : firstI n P (fun _ => 0) (pl n P (fun _ => 0) s).sent s with
    | none => exact absurd hl (first_none hf k (by omega))
    | some j =>
      have hj : j < i := Nat.lt_of_not_le fun hle => (first_some hf).2.2 k (by omega) hl
      refine ⟨?_, by rw [sum_step hf hj, h2]⟩
      rw [sent_step, hf, if_neg (by simp; omega), h1]
theorem just_sent {n : Nat} {P : Nat → Nat} (hP : ∀ k, 1 ≤ P k) {i w : Nat} (hi : i < n) (hb : bnd P i = some w) : (pl n P (fun _ => 0) (w - 1)).sent i = 0 ∧ (pl n P (fun _ => 0) w).sent i = 1 ∧ (pl n P (fun _ => 0) w).worst i = w := by
  obtain ⟨hw1, hw2, hw3, hw4⟩ := bnd_some.1 hb
  obtain ⟨s, rfl⟩ : ∃ s, w = s + 1 := ⟨w - 1, by omega⟩
  obtain ⟨h1, h2⟩ := just_busy hP hi hw4 s (Nat.le_refl _)
  have h5 := ask_sum P (s + 1) i
  have harr : (fun k => (s + 1 + P k - 1) / P k) = fun k => arr P (fun _ => 0) k (s + 1) := by
    funext k
    simp [arr]
  rw [harr] at h5
  have heq := sumTo_eq (f := (pl n P (fun _ => 0) s).sent) (g := fun k => arr P (fun _ => 0) k (s + 1)) (i := i) (fun k _ => Nat.le_trans (sent_le hP k s) (arr_mono (by omega))) (by omega)
  have hfirst : firstI n P (fun _ => 0) (pl n P (fun _ => 0) s).sent s = some i := first_of hi (by rw [h1, lt_arr (hP i)]; simp) fun j hj => by rw [heq j hj]; exact Nat.lt_irrefl _
  have hworst0 : (pl n P (fun _ => 0) (s + 1)).worst i = max ((pl n P (fun _ => 0) s).worst i) (s + 1 - (0 + (pl n P (fun _ => 0) s).sent i * P i)) := by
    rw [pl_succ, hfirst]
    simp only [stepSt, upd_same]
  refine ⟨h1, by rw [sent_step, hfirst, if_pos rfl, h1], ?_⟩
  rw [hworst0, h1]
  have := worst_le (n := n) (O := fun _ => 0) hP hi hw3 hw2 s
  omega

/-- A task more behind others turns nothing of theirs. -/
theorem pl_more {n : Nat} {P O P' O' : Nat → Nat} (h : ∀ k, k < n → P' k = P k ∧ O' k = O k) : ∀ s k, k < n → (pl (n + 1) P' O' s).sent k = (pl n P O s).sent k ∧ (pl (n + 1) P' O' s).worst k = (pl n P O s).worst k
  | 0, k, _ => ⟨rfl, rfl⟩
  | s + 1, k, hk => by
    have ih := pl_more h s
    have hav : ∀ j, j < n → ((pl (n + 1) P' O' s).sent j < arr P' O' j (s + 1) ↔ (pl n P O s).sent j < arr P O j (s + 1)) := fun j hj => by
      rw [(ih j hj).1]
      unfold arr
      rw [(h j hj).1, (h j hj).2]
    rw [pl_succ, pl_succ]
    cases hf : firstI n P O (pl n P O s).sent s with
    | some i =>
      obtain ⟨h1, h2, h3⟩ := first_some hf
      rw [first_of (n := n + 1) (i := i) (by omega) ((hav i h1).2 h2) fun j hj => fun hl => h3 j hj ((hav j (by omega)).1 hl)]
      by_cases e : k = i
      · subst e
        simp [stepSt, upd_same, (ih k hk).1, (ih k hk).2, (h k hk).1, (h k hk).2]
      · simp only [stepSt, upd_off e]
        exact ih k hk
    | none =>
      have h3 := first_none hf
      cases hf2 : firstI (n + 1) P' O' (pl (n + 1) P' O' s).sent s with
      | none => exact ih k hk
      | some i =>
        obtain ⟨g1, g2, g3⟩ := first_some hf2
        have hin : i = n := by
          refine Classical.byContradiction fun hne => ?_
          exact h3 i (by omega) ((hav i (by omega)).1 g2)
        have e : k ≠ i := by omega
        simp only [stepSt, upd_off e]
        exact ih k hk
end Go.Proofs.Ytlmaanfgamocmaa
