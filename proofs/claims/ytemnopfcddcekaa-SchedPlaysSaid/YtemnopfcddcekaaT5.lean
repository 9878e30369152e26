/- The document's clients in memory; contracts of its Ready, Next, Stay. -/
import Derived.Test.YtemnopfcddcekaaT4
namespace Go.Proofs.Ytemnopfcddcekaa
open Go.RowKit

structure RI (w : World) (lo hi S : Nat) (A B : Option Addr) (c d : Nat) (l : List Cl) : Prop where
  H : hi ≤ w.heap.size
  S1 : lo ≤ S
  S2 : S < hi
  ok : ∀ (i m s : Nat), l[i]? = some (m, s) → s ≤ 3 * m ∧ m ≤ 100000
  len : l.length ≤ 100
  h0 : w.cell? ⟨S, 0, none⟩ = some (.slice A l.length c)
  h1 : w.cell? ⟨S, 1, none⟩ = some (.slice B l.length d)
  row : ∀ (i m s : Nat), l[i]? = some (m, s) → ∃ P Q, A = some ⟨P, 0, none⟩ ∧ B = some ⟨Q, 0, none⟩ ∧ lo ≤ P ∧ P < hi ∧ lo ≤ Q ∧ Q < hi ∧ Q ≠ S ∧ Q ≠ P ∧ w.cell? ⟨P, i, none⟩ = some (.int .i64 m) ∧ w.cell? ⟨Q, i, none⟩ = some (.int .i64 s) ∧ ∀ j, w.frozen? ⟨Q, j, none⟩ = false
theorem RI.upd {T : Nat → Prop} {w w' : World} {lo hi S : Nat} {A B : Option Addr} {c d : Nat} {l : List Cl} (h : RI w lo hi S A B c d l) (hu : Upd T w w') (hs : ∀ k, lo ≤ k → k < hi → ¬ T k) : RI w' lo hi S A B c d l := by
  have hh := h.H
  have hS := h.S2
  refine ⟨Nat.le_trans h.H hu.size, h.S1, h.S2, h.ok, h.len, (hu.cell (by omega) (hs _ h.S1 h.S2)).trans h.h0, (hu.cell (by omega) (hs _ h.S1 h.S2)).trans h.h1, fun i m s hx => ?_⟩
  obtain ⟨P, Q, hA, hB, h1, h2, h3, h4, h5, h6, h7, h8, h9⟩ := h.row i m s hx
  exact ⟨P, Q, hA, hB, h1, h2, h3, h4, h5, h6, (hu.cell (by omega) (hs P h1 h2)).trans h7, (hu.cell (by omega) (hs Q h3 h4)).trans h8, fun j => (hu.frozen (by omega) (hs Q h3 h4)).trans (h9 j)⟩
theorem RI.nw {w w' : World} {lo hi S : Nat} {A B : Option Addr} {c d : Nat} {l : List Cl} (h : RI w lo hi S A B c d l) (hb : Nw w w') : RI w' lo hi S A B c d l := h.upd (T := fun _ => False) (Upd.of_nw hb) fun _ _ _ x => x
theorem RI.set {w w' : World} {lo hi S P Q : Nat} {c d : Nat} {l : List Cl} (h : RI w lo hi S (some ⟨P, 0, none⟩) (some ⟨Q, 0, none⟩) c d l) {i m s : Nat} (hx : l[i]? = some (m, s)) (s' : Nat) (hs : s' ≤ 3 * m) (hu : Upd (fun k => k = Q) w w')
    (h2 : w'.cell? ⟨Q, i, none⟩ = some (.int .i64 s')) (ho : ∀ j, j ≠ i → w'.cell? ⟨Q, j, none⟩ = w.cell? ⟨Q, j, none⟩) (hf : ∀ j, w'.frozen? ⟨Q, j, none⟩ = w.frozen? ⟨Q, j, none⟩) : RI w' lo hi S (some ⟨P, 0, none⟩) (some ⟨Q, 0, none⟩) c d (l.set i (m, s')) := by
  have hlt := (List.getElem?_eq_some_iff.1 hx).1
  have hl := h.H
  have hS := h.S2
  obtain ⟨P', Q', e, e', -, k2, -, k4, k5, k6, -⟩ := h.row i m s hx
  injection e with e
  injection e with e
  injection e' with e'
  injection e' with e'
  subst e e'
  refine ⟨Nat.le_trans h.H hu.size, h.S1, h.S2, fun j m' t hj => ?_, by rw [List.length_set]; exact h.len, ?_, ?_, fun j m' t hj => ?_⟩
  · by_cases e : i = j
    · subst e
      rw [List.getElem?_set_self hlt] at hj
      injection hj with hj
      injection hj with h3 h4
      subst h3 h4
      exact ⟨hs, (h.ok i _ _ hx).2⟩
    · rw [List.getElem?_set_ne e] at hj
      exact h.ok j m' t hj
  · rw [List.length_set]
    exact (hu.cell (by omega) (fun e => k5 e.symm)).trans h.h0
  · rw [List.length_set]
    exact (hu.cell (by omega) (fun e => k5 e.symm)).trans h.h1
  · by_cases e : i = j
    · subst e
      rw [List.getElem?_set_self hlt] at hj
      injection hj with hj
      injection hj with h3 h4
      subst h3 h4
      obtain ⟨P', Q', e, e', q1, q2, q3, q4, q5, q6, q7, q8, q9⟩ := h.row i _ _ hx
      injection e with e
      injection e with e
      injection e' with e'
      injection e' with e'
      subst e e'
      exact ⟨P, Q, rfl, rfl, q1, q2, q3, q4, q5, q6, (hu.cell (by omega) (fun e => q6 e.symm)).trans q7, h2, fun j => by rw [hf]; exact q9 j⟩
    · rw [List.getElem?_set_ne e] at hj
      obtain ⟨P', Q', e2, e', q1, q2, q3, q4, q5, q6, q7, q8, q9⟩ := h.row j _ _ hj
      injection e2 with e2
      injection e2 with e2
      injection e' with e'
      injection e' with e'
      subst e2 e'
      exact ⟨P, Q, rfl, rfl, q1, q2, q3, q4, q5, q6, (hu.cell (by omega) (fun e => q6 e.symm)).trans q7, by rw [ho _ (Ne.symm e)]; exact q8, fun j => by rw [hf]; exact q9 j⟩

def BDrawn (b : Bool) (w : World) (e : Ending) (w' : World) : Prop := e = .returned (.bool b) ∧ Drawn w w'
set_option maxHeartbeats 1600000 in
theorem rready_out (lo hi S : Nat) (A B : Option Addr) (c d : Nat) (l : List Cl) (x : Int) (w : World) (h : RI w lo hi S A B c d l) (hx : x < 0 ∨ (l.length : Int) ≤ x) :
    Calls Try.prog 16 #[.pointer (some ⟨S, 0, none⟩), .int .i64 x] w (BDrawn false w) := by
  have h0 := h.h0
  generalize l.length = n at *
  have hd : (decide ((0 : Int) ≤ x) = false) ∨ (decide ((0 : Int) ≤ x) = true ∧ decide (x < (n : Int)) = false) := by
    by_cases h : x < 0
    · exact .inl (by simp; omega)
    · exact .inr ⟨by simp; omega, by simp; omega⟩
  clear hx h
  rcases hd with h1 | ⟨h1, h2⟩
  all_goals
    go_enter Try.func16, Try.ntmps16
    go_wp2_with fail
    go_quiet (fail)
    go_wp2
    go_ret
    exact ⟨rfl, _, rfl⟩
set_option maxHeartbeats 1600000 in
theorem rready_in (lo hi S : Nat) (A B : Option Addr) (c d : Nat) (l : List Cl) (i m s : Nat) (w : World) (h : RI w lo hi S A B c d l) (hx : l[i]? = some (m, s)) :
    Calls Try.prog 16 #[.pointer (some ⟨S, 0, none⟩), .int .i64 i] w (BDrawn (decide (s < 3 * m)) w) := by
  have h0 := h.h0
  have h1 := h.h1
  have hlt := (List.getElem?_eq_some_iff.1 hx).1
  obtain ⟨hs1, hs2⟩ := h.ok i m s hx
  obtain ⟨P, Q, rfl, rfl, -, -, -, -, -, -, p0, q0, -⟩ := h.row i m s hx
  have d1 : decide ((0 : Int) ≤ (i : Int)) = true := by simp
  have d2 : decide ((i : Int) < (l.length : Int)) = true := by simp; omega
  have d3 : (i : Int) < (l.length : Int) := by omega
  have d4 : (0 : Int) ≤ (i : Int) := by omega
  have hw : IntKind.i64.wrap ((3 : Int) * (m : Int)) = 3 * (m : Int) := by rw [IntWalk.i64_in _ (by omega)]
  have he : decide (s < 3 * m) = decide ((s : Int) < 3 * (m : Int)) := decide_eq_decide.2 (by omega)
  rw [he]
  generalize l.length = n at *
  clear hx h hlt he
  go_enter Try.func16, Try.ntmps16
  go_wp2_with fail
  go_quiet (fail)
  go_wp2
  go_ret
  exact ⟨rfl, _, rfl⟩
end Go.Proofs.Ytemnopfcddcekaa
