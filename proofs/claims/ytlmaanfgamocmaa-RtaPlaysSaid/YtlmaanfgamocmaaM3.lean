/- The contract of Play. -/
import Derived.Test.YtlmaanfgamocmaaM2
import Derived.Laws.OwnMore
import Derived.Deep.DeepCutAuto
namespace Go.Proofs.Ytlmaanfgamocmaa
open Go.RowKit

@[go_sem] theorem setCell_drewN (w : World) (n : Nat) (a : Addr) (v : Value) : (w.drewN n).setCell a v = (w.setCell a v).drewN n := rfl
theorem set_off {w : World} {R j k : Nat} {v : Value} (h : j ≠ k) : (w.setCell ⟨R, j, none⟩ v).cell? ⟨R, k, none⟩ = w.cell? ⟨R, k, none⟩ := World.cell?_setCell_other _ _ _ _ (fun e => h (by injection e))
theorem set_far {w : World} {R S j k : Nat} {v : Value} (h : R ≠ S) : (w.setCell ⟨R, j, none⟩ v).cell? ⟨S, k, none⟩ = w.cell? ⟨S, k, none⟩ := World.cell?_setCell_other _ _ _ _ (fun e => h (by injection e))
theorem PI.cells {W W' : World} {bl bo R : Nat} {A : Option Addr} {n c : Nat} {sent worst left sent' worst' left' : Nat → Nat} (h : PI W bl bo R A n c sent worst left) (hu : Upd (fun k => k = R) W W')
    (hr : ∀ j, j < n → W'.cell? ⟨R, j * 3, none⟩ = some (.int .i64 (sent' j : Nat)) ∧ W'.cell? ⟨R, j * 3 + 1, none⟩ = some (.int .i64 (worst' j : Nat)) ∧ W'.cell? ⟨R, j * 3 + 2, none⟩ = some (.int .i64 (left' j : Nat)))
    (hf : ∀ j, W'.frozen? ⟨R, j, none⟩ = W.frozen? ⟨R, j, none⟩) : PI W' bl bo R A n c sent' worst' left' :=
  ⟨(hu.cell h.z0 h.n0.symm).trans h.c0, (hu.cell h.z1 h.n1.symm).trans h.c1, hr, fun j => (hf j).trans (h.fr j), Nat.lt_of_lt_of_le h.z0 hu.size, Nat.lt_of_lt_of_le h.z1 hu.size, Nat.lt_of_lt_of_le h.z2 hu.size, h.n0, h.n1⟩
theorem PI.set2 {W : World} {bl bo R : Nat} {A : Option Addr} {n c : Nat} {sent worst left : Nat → Nat} (h : PI W bl bo R A n c sent worst left) {i : Nat} (hi : i < n) (x y : Nat) :
    PI ((W.setCell ⟨R, i * 3, none⟩ (.int .i64 x)).setCell ⟨R, i * 3 + 1, none⟩ (.int .i64 y)) bl bo R A n c (upd sent i x) (upd worst i y) left := by
  refine h.cells ((Upd.set1 W R _ _).trans (Upd.set1 _ R _ _)) (fun j hj => ?_) fun j => ?_
  · obtain ⟨r0, r1, r2⟩ := h.row j hj
    by_cases e : j = i
    · subst e
      rw [upd_same, upd_same]
      exact ⟨(set_off (by omega)).trans (cell_set_same r0), cell_set_same ((set_off (by omega)).trans r1), (set_off (by omega)).trans ((set_off (by omega)).trans r2)⟩
    · rw [upd_off e, upd_off e]
      exact ⟨(set_off (by omega)).trans ((set_off (by omega)).trans r0), (set_off (by omega)).trans ((set_off (by omega)).trans r1), (set_off (by omega)).trans ((set_off (by omega)).trans r2)⟩
  · rw [World.frozen?_setCell, World.frozen?_setCell]
theorem PI.set3 {W : World} {bl bo R : Nat} {A : Option Addr} {n c : Nat} {sent worst left : Nat → Nat} (h : PI W bl bo R A n c sent worst left) {i : Nat} (hi : i < n) (x : Nat) :
    PI (W.setCell ⟨R, i * 3 + 2, none⟩ (.int .i64 x)) bl bo R A n c sent worst (upd left i x) := by
  refine h.cells (Upd.set1 W R _ _) (fun j hj => ?_) fun j => ?_
  · obtain ⟨r0, r1, r2⟩ := h.row j hj
    by_cases e : j = i
    · subst e
      rw [upd_same]
      exact ⟨(set_off (by omega)).trans r0, (set_off (by omega)).trans r1, cell_set_same r2⟩
    · rw [upd_off e]
      exact ⟨(set_off (by omega)).trans r0, (set_off (by omega)).trans r1, (set_off (by omega)).trans r2⟩
  · rw [World.frozen?_setCell]
theorem info42 : (Try.prog.info? 42).map (fun i => (i.zero, i.size, i.bytes)) = some (some (.agg #[.int .i64 0, .int .i64 0, .int .i64 0]), 3, 24) := by kernel_rfl
theorem PI.start {w : World} {base bl bo R n c : Nat} {A : Option Addr} (h : w.ownsRow base 42 3 (.slice (some ⟨R, 0, none⟩) n n) n (madeCells (Value.agg #[.int .i64 0, .int .i64 0, .int .i64 0]).cells (n * 3)).toList)
    (c0 : w.cell? ⟨bl, 0, none⟩ = some (.slice A n c)) (c1 : w.cell? ⟨bo, 0, none⟩ = some (.slice (some ⟨R, 0, none⟩) n n)) (z0 : bl < w.heap.size) (z1 : bo < w.heap.size) (n0 : R ≠ bl) (n1 : R ≠ bo) : PI w bl bo R A n c (fun _ => 0) (fun _ => 0) (fun _ => 0) := by
  have hlt := (h.lt R rfl).2
  have k : ∀ j, j < n * 3 → w.cell? ⟨R, j, none⟩ = some (.int .i64 0) := fun j hj => by
    rw [h.cellAt j hj]
    simp only [madeCells, Array.getElem?_toList]
    rw [Array.getElem?_map, show (Array.range (n * 3))[j]? = some j by rw [Array.getElem?_eq_getElem (by rw [Array.size_range]; omega), Array.getElem_range]]
    show some ((#[.int .i64 0, .int .i64 0, .int .i64 0] : Array Value)[j % 3]!) = _
    have : j % 3 = 0 ∨ j % 3 = 1 ∨ j % 3 = 2 := by omega
    rcases this with e | e | e <;> rw [e] <;> rfl
  exact ⟨c0, c1, fun j hj => ⟨k _ (by omega), k _ (by omega), k _ (by omega)⟩, fun j => h.frozenAt j, z0, z1, hlt, n0, n1⟩
theorem worst_bound {n : Nat} {P O : Nat → Nat} (k : Nat) : ∀ s, (pl n P O s).worst k ≤ s
  | 0 => Nat.le_refl _
  | s + 1 => by
    have ih := worst_bound (n := n) (P := P) (O := O) k s
    rw [pl_succ]
    cases hf : firstI n P O (pl n P O s).sent s with
    | none => simp only [stepSt]; omega
    | some j =>
      by_cases e : k = j
      · subst e
        simp only [stepSt, upd_same]
        omega
      · simp only [stepSt, upd_off e]
        omega
/-- What is left when so many tasks have been gone through. -/
def leftN (P O sent : Nat → Nat) (s k : Nat) : Nat → Nat := fun j => if j < k then arr P O j s - sent j else 0
theorem leftN_succ (P O sent : Nat → Nat) (s k : Nat) : upd (leftN P O sent s k) k (arr P O k s - sent k) = leftN P O sent s (k + 1) := by
  funext j
  unfold upd leftN
  by_cases e : j = k
  · subst e
    simp
  · rw [if_neg e]
    by_cases h : j < k
    · rw [if_pos h, if_pos (by omega)]
    · rw [if_neg h, if_neg (by omega)]
theorem arr_le {P O : Nat → Nat} {k s : Nat} (hp : 1 ≤ P k) : arr P O k s ≤ s := by
  refine Nat.le_of_not_lt fun h => ?_
  rw [lt_arr hp] at h
  have : s ≤ s * P k := Nat.le_mul_of_pos_right s (by omega)
  omega
/-- What is seen, in memory. -/
structure SeenAt (W : World) (R n : Nat) (sent worst left : Nat → Nat) : Prop where
  row : ∀ j, j < n → W.cell? ⟨R, j * 3, none⟩ = some (.int .i64 (sent j : Nat)) ∧ W.cell? ⟨R, j * 3 + 1, none⟩ = some (.int .i64 (worst j : Nat)) ∧ W.cell? ⟨R, j * 3 + 2, none⟩ = some (.int .i64 (left j : Nat))
  z : R < W.heap.size
theorem SeenAt.nw {W W' : World} {R n : Nat} {sent worst left : Nat → Nat} (h : SeenAt W R n sent worst left) (hb : Nw W W') : SeenAt W' R n sent worst left :=
  ⟨fun j hj => ⟨(hb.cell (p := ⟨R, j * 3, none⟩) h.z).trans (h.row j hj).1, (hb.cell (p := ⟨R, j * 3 + 1, none⟩) h.z).trans (h.row j hj).2.1, (hb.cell (p := ⟨R, j * 3 + 2, none⟩) h.z).trans (h.row j hj).2.2⟩, Nat.lt_of_lt_of_le h.z hb.size⟩
def lefts (n : Nat) (P O : Nat → Nat) (s : Nat) : Nat → Nat := fun j => arr P O j s - (pl n P O s).sent j
def PlayPost (n : Nat) (P O : Nat → Nat) (s : Nat) (w : World) (e : Ending) (w' : World) : Prop :=
  ∃ R, e = .returned (.tuple #[.slice (some ⟨R, 0, none⟩) n n, .int .i64 0]) ∧ SeenAt w' R n (pl n P O s).sent (pl n P O s).worst (lefts n P O s) ∧ Nw w w'
end Go.Proofs.Ytlmaanfgamocmaa
