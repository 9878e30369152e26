/- Signs, opened. -/
import Derived.Test.YtemnopfcddcekaaO
import Derived.Test.YtemnopfcddcekaaT4
namespace Go.Proofs.Ytemnopfcddcekaa
open Go.RowKit Go.Joins Go.ChangeShapes Go.WideShapes

theorem open_bools {H : Type} {enc : TypeId × Value → H} {W : World} {base : Nat} {sp : Nat → Bool} {held : Bool} {v : Value} {d : DataW H} {p : List MemPlace}
    (hv : Value.okWide Try.prog W .any base 49 v) (h : DataW.Trod enc Try.prog W 0 sp held 49 v d p) :
    ∃ (A : Option Addr) (c : Nat) (xs : List Bool), v = .slice A xs.length c ∧ BoolsAt W A xs ∧ xs.length ≤ c := by
  obtain ⟨A, len, cap, rfl⟩ := okWide_slice Try.underlying49 hv
  obtain ⟨fuel, hf⟩ := h
  rcases Go.Deep.open_slice Try.underlying49 hf with ⟨hcs, _⟩ | ⟨a, len', cap', m, n, D, Pl, hcs, hb, hl, hm, hmm, _, hel⟩
  · simp [Value.cells] at hcs
    obtain ⟨rfl, rfl, rfl⟩ := hcs
    exact ⟨none, 0, [], rfl, fun j hj => absurd hj (Nat.not_lt_zero _), Nat.le_refl _⟩
  · simp [Value.cells] at hcs
    obtain ⟨rfl, rfl, rfl⟩ := hcs
    have hlm : len ≤ m := by rw [hmm]; split <;> omega
    rw [z4] at hel
    have hex : ∀ i, i < len → ∃ x : Bool, W.cell? (a.add i) = some (.bool x) ∧ (a.add i).block < W.heap.size := by
      intro i hi
      obtain ⟨cs', hc, ht⟩ := hel i (by omega)
      rw [Nat.mul_one] at hc
      obtain ⟨x, rfl, -⟩ := DataW.trod_bool Try.underlying4 ht
      obtain ⟨_, _, hcell⟩ := World.cells?_some hc
      refine ⟨x, ?_, World.cells?_block hc (by decide)⟩
      have := hcell 0 (by decide)
      simpa [Addr.add] using this
    classical
    let F : Nat → Bool := fun i => if hi : i < len then Classical.choose (hex i hi) else false
    refine ⟨some a, cap, (List.range len).map F, by simp, fun j hj => ?_, by simpa using hl⟩
    have hj' : j < len := by simpa using hj
    have hs := Classical.choose_spec (hex j hj')
    refine ⟨a, rfl, hs.2, ?_⟩
    simp only [List.getElem_map, List.getElem_range, F, dif_pos hj']
    exact hs.1

end Go.Proofs.Ytemnopfcddcekaa
