/- Clients in memory; contracts of find, At, Next, Stay. -/
import Derived.Test.YtemnopfcddcekaaU
namespace Go.Proofs.Ytemnopfcddcekaa
open Go.RowKit

@[go_sem] theorem setCell_drewN (w : World) (n : Nat) (a : Addr) (v : Value) : (w.drewN n).setCell a v = (w.setCell a v).drewN n := rfl
/-- A client: how many calls, and how many steps have been made. -/
abbrev Cl := Nat × Nat
structure SI (w : World) (lo hi S : Nat) (A : Option Addr) (c : Nat) (l : List Cl) : Prop where
  H : hi ≤ w.heap.size
  S1 : lo ≤ S
  S2 : S < hi
  ok : ∀ (i m s : Nat), l[i]? = some (m, s) → s ≤ 3 * m ∧ m ≤ 100000
  len : l.length ≤ 100
  hdr : w.cell? ⟨S, 0, none⟩ = some (.slice A l.length c)
  row : ∀ (i m s : Nat), l[i]? = some (m, s) → ∃ R, A = some ⟨R, 0, none⟩ ∧ lo ≤ R ∧ R < hi ∧ R ≠ S ∧ w.cell? ⟨R, i * 3, none⟩ = some (.int .i64 m) ∧ w.cell? ⟨R, i * 3 + 1, none⟩ = some (.int .i64 (s / 3 : Nat)) ∧
    w.cell? ⟨R, i * 3 + 2, none⟩ = some (.int .i64 (s % 3 + 1 : Nat)) ∧ ∀ j, w.frozen? ⟨R, j, none⟩ = false
theorem SI.upd {T : Nat → Prop} {w w' : World} {lo hi S : Nat} {A : Option Addr} {c : Nat} {l : List Cl} (h : SI w lo hi S A c l) (hu : Upd T w w') (hs : ∀ k, lo ≤ k → k < hi → ¬ T k) : SI w' lo hi S A c l := by
  have hh := h.H
  refine ⟨Nat.le_trans h.H hu.size, h.S1, h.S2, h.ok, h.len, (hu.cell (by have := h.S2; omega) (hs _ h.S1 h.S2)).trans h.hdr, fun i m s hx => ?_⟩
  obtain ⟨R, hA, h1, h2, h3, h4, h5, h6, h7⟩ := h.row i m s hx
  have hR := hs R h1 h2
  have hl : R < w.heap.size := by omega
  exact ⟨R, hA, h1, h2, h3, (hu.cell hl hR).trans h4, (hu.cell hl hR).trans h5, (hu.cell hl hR).trans h6, fun j => (hu.frozen hl hR).trans (h7 j)⟩
theorem SI.nw {w w' : World} {lo hi S : Nat} {A : Option Addr} {c : Nat} {l : List Cl} (h : SI w lo hi S A c l) (hb : Nw w w') : SI w' lo hi S A c l := h.upd (T := fun _ => False) (Upd.of_nw hb) fun _ _ _ x => x

theorem find_nil (x : Int) (w : World) : Calls Try.prog 22 #[.pointer none, .int .i64 x] w fun e w' => e = .returned (.pointer none) ∧ Drawn w w' := by
  go_enter Try.func22, Try.ntmps22
  go_wp2_with fail
  go_quiet (fail)
  go_wp2
  go_ret
  exact ⟨rfl, _, rfl⟩

set_option maxHeartbeats 1600000 in
theorem find_out (lo hi S : Nat) (A : Option Addr) (c : Nat) (l : List Cl) (x : Int) (w : World) (h : SI w lo hi S A c l) (hx : x < 0 ∨ (l.length : Int) ≤ x) :
    Calls Try.prog 22 #[.pointer (some ⟨S, 0, none⟩), .int .i64 x] w fun e w' => e = .returned (.pointer none) ∧ Drawn w w' := by
  have hc := h.hdr
  generalize l.length = n at *
  have hd : (decide (x < 0) = true) ∨ (decide (x < 0) = false ∧ decide ((n : Int) ≤ x) = true) := by
    by_cases h : x < 0
    · exact .inl (by simp [h])
    · exact .inr ⟨by simp [h], by simp; omega⟩
  clear hx h
  rcases hd with h1 | ⟨h1, h2⟩
  all_goals
    go_enter Try.func22, Try.ntmps22
    go_wp2_with fail
    go_quiet (fail)
    go_wp2
    go_ret
    exact ⟨rfl, _, rfl⟩


set_option maxHeartbeats 1600000 in
theorem find_done (lo hi S : Nat) (A : Option Addr) (c : Nat) (l : List Cl) (i m s : Nat) (w : World) (h : SI w lo hi S A c l) (hx : l[i]? = some (m, s)) (hs : ¬ s < 3 * m) :
    Calls Try.prog 22 #[.pointer (some ⟨S, 0, none⟩), .int .i64 i] w fun e w' => e = .returned (.pointer none) ∧ Drawn w w' := by
  have hc := h.hdr
  have hlt := (List.getElem?_eq_some_iff.1 hx).1
  obtain ⟨h3, h4⟩ := h.ok i m s hx
  obtain ⟨R, rfl, hR1, hR2, hRS, c0, c1, c2, -⟩ := h.row i m s hx
  have hz := h.H
  have hS := h.S2
  rw [show s / 3 = m by omega] at c1
  have hne : (((m : Int)) == (m : Int)) = true := by simp
  have d1 : decide ((i : Int) < 0) = false := by simp
  have d2 : decide ((l.length : Int) ≤ (i : Int)) = false := by simp; omega
  have d3 : (i : Int) < (l.length : Int) := by omega
  have d4 : (0 : Int) ≤ (i : Int) := by omega
  have d5 : ¬ l.length ≤ i := by omega
  generalize l.length = n at *
  clear hx h h3 h4 hlt hs c2
  go_enter Try.func22, Try.ntmps22
  go_wp2_with fail
  go_quiet (fail)
  go_wp2
  go_ret
  exact ⟨rfl, _, rfl⟩

set_option maxHeartbeats 1600000 in
theorem find_ready (lo hi S R : Nat) (c : Nat) (l : List Cl) (i m s : Nat) (w : World) (h : SI w lo hi S (some ⟨R, 0, none⟩) c l) (hx : l[i]? = some (m, s)) (hs : s < 3 * m) :
    Calls Try.prog 22 #[.pointer (some ⟨S, 0, none⟩), .int .i64 i] w fun e w' => e = .returned (.pointer (some ⟨R, i * 3, none⟩)) ∧ Drawn w w' := by
  have hc := h.hdr
  have hlt := (List.getElem?_eq_some_iff.1 hx).1
  obtain ⟨h3, h4⟩ := h.ok i m s hx
  obtain ⟨R', e, hR1, hR2, hRS, c0, c1, c2, -⟩ := h.row i m s hx
  injection e with e
  injection e with e
  subst e
  have hz := h.H
  have hS := h.S2
  have hne : (((s / 3 : Nat) : Int) == (m : Int)) = false := by rw [beq_eq_false_iff_ne]; omega
  have d1 : decide ((i : Int) < 0) = false := by simp
  have d2 : decide ((l.length : Int) ≤ (i : Int)) = false := by simp; omega
  have d3 : (i : Int) < (l.length : Int) := by omega
  have d4 : (0 : Int) ≤ (i : Int) := by omega
  have d5 : ¬ l.length ≤ i := by omega
  generalize l.length = n at *
  generalize s / 3 = q at *
  clear hx h h3 h4 hlt hs c2
  go_enter Try.func22, Try.ntmps22
  go_wp2_with fail
  go_quiet (fail)
  have hcd : (w.drewN nq).cell? ⟨S, 0, none⟩ = some (.slice (some ⟨R, 0, none⟩) n c) := hc
  have HD : Hid (Drawn w (w.drewN nq)) := Lib.hid ⟨nq, rfl⟩
  generalize w.drewN nq = w3 at *
  go_wp2
  go_ret
  exact ⟨rfl, HD.out⟩

abbrev stepV (a b c : Int) : Value := .agg #[.int .i64 a, .int .i64 b, .int .i64 c]
def AtPost (v : Value) (b : Bool) (w : World) (e : Ending) (w' : World) : Prop := e = .returned (.tuple #[v, .bool b]) ∧ Nw w w'

theorem at_none (S : Value) (x : Int) (w : World) (hf : ∀ W, Nw w W → Calls Try.prog 22 #[S, .int .i64 x] W fun e w' => e = .returned (.pointer none) ∧ Drawn W w') :
    Calls Try.prog 12 #[S, .int .i64 x] w (AtPost (stepV 0 0 0) false w) := by
  have HF := Lib.hid hf
  clear hf
  go_enter Try.func12, Try.ntmps12
  go_wp2_with fail
  refine (HF.out _ (nw_alloc _ _)).mono ?_
  rintro e w1 ⟨rfl, nq, rfl⟩
  go_wp2
  exact bodyPost_ret (v := .tuple #[stepV 0 0 0, .bool false]) (by simp [results, Try.results12, go_sem]) rfl ⟨rfl, nw_drewN (nw_alloc _ _) _⟩

set_option maxHeartbeats 1600000 in
theorem at_ready (lo hi S R : Nat) (c : Nat) (l : List Cl) (i m s : Nat) (w : World) (h : SI w lo hi S (some ⟨R, 0, none⟩) c l) (hx : l[i]? = some (m, s)) (hs : s < 3 * m) :
    Calls Try.prog 12 #[.pointer (some ⟨S, 0, none⟩), .int .i64 i] w (AtPost (stepV i (s / 3 : Nat) (s % 3 + 1 : Nat)) true w) := by
  have HF := Lib.hid (fun W hn => find_ready lo hi S R c l i m s W (h.nw hn) hx hs)
  obtain ⟨R', e, hR1, hR2, hRS, c0, c1, c2, -⟩ := h.row i m s hx
  injection e with e
  injection e with e
  subst e
  have hz : R < w.heap.size := by have := h.H; omega
  generalize s / 3 = q at *
  generalize s % 3 + 1 = p at *
  clear h hx hR1 hR2 hRS
  go_enter Try.func12, Try.ntmps12
  go_wp2_with fail
  refine (HF.out _ (nw_alloc _ _)).mono ?_
  rintro e w1 ⟨rfl, nq, rfl⟩
  clear HF
  go_wp2_with fail
  go_region
  go_wp2
  exact bodyPost_ret (v := .tuple #[stepV i q p, .bool true]) (by simp [results, Try.results12, go_sem]) rfl ⟨rfl, nw_drewN (nw_alloc _ _) _⟩
end Go.Proofs.Ytemnopfcddcekaa
