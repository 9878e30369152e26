/- How much is asked for; the least number that is as much as is asked for. -/
import Derived.Test.YtlmaanfgamocmaaR2
namespace Go.Proofs.Ytlmaanfgamocmaa
open Go.RowKit

/-- What the tasks ahead ask for within so many. -/
def ask (P : Nat → Nat) : Nat → Nat → Nat
  | 0, _ => 1
  | i + 1, v => ask P i v + (v + P i - 1) / P i
theorem ask_mono (P : Nat → Nat) : ∀ i {v v' : Nat}, v ≤ v' → ask P i v ≤ ask P i v'
  | 0, _, _, _ => Nat.le_refl _
  | i + 1, v, v', h => Nat.add_le_add (ask_mono P i h) (Nat.div_le_div_right (by omega))
theorem ask_one (P : Nat → Nat) : ∀ i v, 1 ≤ ask P i v
  | 0, _ => Nat.le_refl _
  | i + 1, v => Nat.le_trans (ask_one P i v) (Nat.le_add_right _ _)
theorem ask_le (P : Nat → Nat) (h : ∀ k, 1 ≤ P k) : ∀ i v, ask P i v ≤ 1 + i * v
  | 0, _ => by simp [ask]
  | i + 1, v => by
    have h1 := ask_le P h i v
    have h2 : (v + P i - 1) / P i ≤ v := by
      have := h i
      rw [Nat.div_le_iff_le_mul_add_pred (by omega)]
      have : v ≤ P i * v := Nat.le_mul_of_pos_left v (by omega)
      omega
    show ask P i v + _ ≤ _
    rw [Nat.add_mul]
    omega
/-- The periods of tasks. -/
def per (l : List Tk) (k : Nat) : Nat := match l[k]? with | some t => t.p.toNat | none => 1
def off (l : List Tk) (k : Nat) : Nat := match l[k]? with | some t => t.o.toNat | none => 0
theorem tRight_zero {l : List Tk} (h : tRight l = 0) : l.length ≤ 64 ∧ l.all Tk.ok = true := by
  unfold tRight at h
  split at h
  · cases h
  · split at h
    · exact ⟨by omega, by assumption⟩
    · cases h
theorem right_at {l : List Tk} (h : tRight l = 0) {k : Nat} (hk : k < l.length) : (l[k]'hk).p = (per l k : Nat) ∧ (l[k]'hk).o = (off l k : Nat) ∧ 1 ≤ per l k ∧ per l k ≤ 100000 ∧ off l k ≤ 100000 := by
  have h1 := (tRight_zero h).2
  rw [List.all_eq_true] at h1
  have h2 := h1 _ (List.getElem_mem hk)
  unfold per off
  rw [List.getElem?_eq_getElem hk]
  unfold Tk.ok at h2
  simp at h2
  dsimp only
  omega
theorem per_pos {l : List Tk} (h : tRight l = 0) (k : Nat) : 1 ≤ per l k := by
  by_cases hk : k < l.length
  · exact (right_at h hk).2.2.1
  · unfold per
    rw [List.getElem?_eq_none (by omega)]
    exact Nat.le_refl _
/-- How long a task's frame may wait. -/
def bnd (P : Nat → Nat) (i : Nat) : Option Nat := (List.range (P i + 1)).find? fun w => decide (1 ≤ w ∧ ask P i w = w)
theorem bnd_some {P : Nat → Nat} {i w : Nat} : bnd P i = some w ↔ (1 ≤ w ∧ w ≤ P i ∧ ask P i w = w ∧ ∀ v, 1 ≤ v → v < w → ask P i v ≠ v) := by
  unfold bnd
  rw [List.find?_range_eq_some]
  simp only [decide_eq_true_eq, List.mem_range, Bool.not_eq_true', decide_eq_false_iff_not]
  constructor
  · rintro ⟨⟨h1, h2⟩, h3, h4⟩
    exact ⟨h1, by omega, h2, fun v hv hw e => h4 v hw ⟨hv, e⟩⟩
  · rintro ⟨h1, h2, h3, h4⟩
    exact ⟨⟨h1, h3⟩, by omega, fun v hv ⟨a, b⟩ => h4 v a hv b⟩
theorem bnd_none {P : Nat → Nat} {i : Nat} : bnd P i = none ↔ ∀ v, 1 ≤ v → v ≤ P i → ask P i v ≠ v := by
  unfold bnd
  rw [List.find?_range_eq_none]
  simp only [Bool.not_eq_true', decide_eq_false_iff_not]
  exact ⟨fun h v h1 h2 e => h v (by omega) ⟨h1, e⟩, fun h v hv ⟨a, b⟩ => h v a (by omega) b⟩
/-- Below w no number is as much as is asked for. -/
def NoFix (P : Nat → Nat) (i w : Nat) : Prop := ∀ v, 1 ≤ v → v < w → ask P i v ≠ v
theorem noFix_step {P : Nat → Nat} {i w : Nat} (h : NoFix P i w) (_hw : w < ask P i w) : NoFix P i (ask P i w) := fun v h1 h2 e => by
  by_cases hv : v < w
  · exact h v h1 hv e
  · have := ask_mono P i (show w ≤ v by omega)
    omega
/-- From below the least one up: what is asked for is no less. -/
theorem noFix_le {P : Nat → Nat} {i : Nat} : ∀ w, 1 ≤ w → NoFix P i w → w ≤ ask P i w
  | 0, h, _ => absurd h (by omega)
  | 1, _, _ => ask_one P i 1
  | w + 2, _, h => by
    have h1 := noFix_le (P := P) (i := i) (w + 1) (by omega) (fun v a b => h v a (by omega))
    have h2 := h (w + 1) (by omega) (by omega)
    have h3 := ask_mono P i (show w + 1 ≤ w + 2 by omega)
    omega
end Go.Proofs.Ytlmaanfgamocmaa
