/- Two rows of numbers that are the same; both sides' clients. -/
import Derived.Test.YtemnopfcddcekaaT7
namespace Go.Proofs.Ytemnopfcddcekaa
open Go.RowKit

/-- A slice of numbers that is read. -/
def NAt (w : World) (A : Option Addr) (n : Nat) (f : Nat → Int) : Prop := ∀ j, j < n → ∃ g, A = some ⟨g, 0, none⟩ ∧ w.cell? ⟨g, j, none⟩ = some (.int .i64 (f j))
theorem nat_of_own {w : World} {b n : Nat} {v : Value} {xs : List Value} (h : w.ownsRow b 3 1 v n xs) (f : Nat → Int) (hf : ∀ j, j < n → xs[j]? = some (.int .i64 (f j))) :
    ∃ A c, v = .slice A n c ∧ NAt w A n f := by
  rcases h.2 with ⟨rfl, rfl⟩ | ⟨g, cap, cur, rfl, _⟩
  · exact ⟨none, 0, rfl, fun j hj => absurd hj (Nat.not_lt_zero _)⟩
  · refine ⟨_, _, rfl, fun j hj => ⟨g, rfl, ?_⟩⟩
    have := h.cells (g := g) rfl j _ (hf j hj)
    rwa [show (⟨g, 0, none⟩ : Addr).add j = ⟨g, j, none⟩ from by unfold Addr.add; split <;> simp_all] at this

set_option maxHeartbeats 1600000 in
theorem ints_same (A B : Option Addr) (n c d : Nat) (f : Nat → Int) (w : World) (hA : NAt w A n f) (hB : NAt w B n f) (hn : n ≤ 140737488351232) :
    Calls Try.prog 17 #[.slice A n c, .slice B n d] w fun e w' => e = .returned (.bool true) ∧ Drawn w w' := by
  have HA := Lib.hid hA
  have HB := Lib.hid hB
  clear hA hB
  have hnn : ((n : Int) != (n : Int)) = false := by simp
  go_enter Try.func17, Try.ntmps17
  go_wp2
  go_loopw [5] (fun i wr => ∃ k : Nat, k ≤ n ∧ i = .int .i64 k ∧ Drawn w wr) (fun i _ => n - (intOf i).toNat)
  case atStart => exact ⟨0, Nat.zero_le _, rfl, Drawn.refl _⟩
  case round =>
    obtain ⟨k, hk, rfl, HD⟩ := hrel
    by_cases hlt : k < n
    · obtain ⟨g, rfl, h1⟩ := HA.out k hlt
      obtain ⟨g', rfl, h2⟩ := HB.out k hlt
      have c1 := (HD.cell ⟨g, k, none⟩).trans h1
      have c2 := (HD.cell ⟨g', k, none⟩).trans h2
      generalize f k = x at *
      clear h1 h2 HA HB
      go_wp2_with fail
      go_quiet (fail)
      have HD' := HD.then_ nq
      generalize wr.drewN nq = w3 at *
      clear c1 c2 HD
      go_wp2
      go_roundw
      case rel => exact ⟨k + 1, by omega, by go_num, HD'⟩
      case measure => simp [intOf]; omega
    · go_wp2
      go_ret
      exact ⟨rfl, HD⟩

theorem nw_updI2 {w a b : World} {lo hi : Nat} (h : Nw w a) (hu : Upd (fun k => lo ≤ k ∧ k < hi) a b) (hR : w.heap.size ≤ lo) : Nw w b :=
  h.trans (hu.below h.size fun k hk e => by omega)
/-- The clients and the document's, at one state. -/
structure Both (w0 : World) (lo hi hi2 S T : Nat) (A B D : Option Addr) (c d e : Nat) (l : List Cl) (w : World) : Prop where
  s : SI w lo hi S A c l
  t : RI w hi hi2 T B D d e l
  nw : Nw w0 w
  lo0 : w0.heap.size ≤ lo
  le : lo ≤ hi
theorem Both.nw_ {w0 : World} {lo hi hi2 S T : Nat} {A B D : Option Addr} {c d e : Nat} {l : List Cl} {w w' : World} (h : Both w0 lo hi hi2 S T A B D c d e l w) (k : Nw w w') : Both w0 lo hi hi2 S T A B D c d e l w' :=
  ⟨h.s.nw k, h.t.nw k, h.nw.then_ k, h.lo0, h.le⟩
theorem Both.step {w0 : World} {lo hi hi2 S T : Nat} {A B D : Option Addr} {c d e : Nat} {l l' : List Cl} {w w1 w2 w3 : World} (h : Both w0 lo hi hi2 S T A B D c d e l w) (hu : Upd (fun k => lo ≤ k ∧ k < hi) w w1) (hs : SI w1 lo hi S A c l') (hn : Nw w1 w2)
    (hu2 : Upd (fun k => hi ≤ k ∧ k < hi2) w2 w3) (ht : RI w3 hi hi2 T B D d e l') : Both w0 lo hi hi2 S T A B D c d e l' w3 :=
  ⟨(hs.nw hn).upd hu2 (fun k h1 h2 => by omega), ht, nw_updI2 ((nw_updI2 h.nw hu h.lo0).then_ hn) hu2 (Nat.le_trans h.lo0 h.le), h.lo0, h.le⟩
end Go.Proofs.Ytemnopfcddcekaa
