/- A slice of calls, opened. -/
import Derived.Test.YtjoklfhdablniaaO
import Derived.Test.YtjoklfhdablniaaF2
namespace Go.Proofs.Ytjoklfhdablniaa
open Go.RowKit Go.Joins Go.ChangeShapes Go.WideShapes

theorem z42 : Try.prog.cellsOf 42 = 9 := by kernel_rfl
theorem op_cells {H : Type} {enc : TypeId × Value → H} {W : World} {b0 : Nat} {sp : Nat → Bool} {held : Bool} {n : Nat} {cs : List Value} {x : DataW H × List MemPlace}
    (h : DataW.trod enc Try.prog W b0 sp held n 42 cs = some x) : ∃ o : Op, cs = o.cells.toList := by
  obtain ⟨y0, y1, y2, m, _, hl, hy0, hy1, hy2⟩ := Go.Deep.trod_struct3 Try.underlying42 h
  rw [z42] at hl
  match cs, hl with
  | [c0, c1, c2, c3, c4, c5, c6, c7, c8], _ =>
    simp [z3, z25] at hy0 hy1 hy2
    obtain ⟨a0, e0, _, _⟩ := DataW.trod_int Try.underlying3 hy0
    obtain ⟨a1, e1, _, _⟩ := DataW.trod_int Try.underlying3 hy1
    obtain ⟨q, hq⟩ := pk_of_trod hy2
    simp at e0 e1 hq
    obtain ⟨rfl, rfl, rfl, rfl, rfl, rfl, rfl⟩ := hq
    subst e0 e1
    exact ⟨⟨a0, a1, q⟩, rfl⟩

theorem open_ops {H : Type} {enc : TypeId × Value → H} {W : World} {base : Nat} {sp : Nat → Bool} {held : Bool} {v : Value} {d : DataW H} {p : List MemPlace}
    (hv : Value.okWide Try.prog W .any base 37 v) (h : DataW.Trod enc Try.prog W 0 sp held 37 v d p) :
    ∃ (A : Option Addr) (c : Nat) (fs : List Op), v = .slice A fs.length c ∧ OpsAt W A fs := by
  obtain ⟨A, len, cap, rfl⟩ := okWide_slice Try.underlying37 hv
  obtain ⟨fuel, hf⟩ := h
  rcases Go.Deep.open_slice Try.underlying37 hf with ⟨hcs, _⟩ | ⟨a, len', cap', m, n, D, Pl, hcs, hb, hl, hm, hmm, _, hel⟩
  · simp [Value.cells] at hcs
    obtain ⟨rfl, rfl, rfl⟩ := hcs
    exact ⟨none, 0, [], rfl, fun j hj => absurd hj (Nat.not_lt_zero _)⟩
  · simp [Value.cells] at hcs
    obtain ⟨rfl, rfl, rfl⟩ := hcs
    have hlm : len ≤ m := by rw [hmm]; split <;> omega
    rw [z42] at hel
    have hex : ∀ i, i < len → ∃ f : Op, OpAt W (a.add (i * 9)) f ∧ (a.add (i * 9)).block < W.heap.size := by
      intro i hi
      obtain ⟨cs', hc, ht⟩ := hel i (by omega)
      obtain ⟨f, rfl⟩ := op_cells ht
      obtain ⟨_, _, hcell⟩ := World.cells?_some hc
      refine ⟨f, ⟨?_, ?_, ?_, ?_, ?_, ?_, ?_, ?_, ?_⟩, World.cells?_block hc (by decide)⟩
      · have := hcell 0 (by decide)
        simpa [Addr.add] using this
      · have := hcell 1 (by decide)
        simpa [Addr.add] using this
      · have := hcell 2 (by decide)
        simpa [Addr.add] using this
      · have := hcell 3 (by decide)
        simpa [Addr.add] using this
      · have := hcell 4 (by decide)
        simpa [Addr.add] using this
      · have := hcell 5 (by decide)
        simpa [Addr.add] using this
      · have := hcell 6 (by decide)
        simpa [Addr.add] using this
      · have := hcell 7 (by decide)
        simpa [Addr.add] using this
      · have := hcell 8 (by decide)
        simpa [Addr.add] using this
    classical
    let F : Nat → Op := fun i => if hi : i < len then Classical.choose (hex i hi) else ⟨0, 0, Pk.zero⟩
    refine ⟨some a, cap, (List.range len).map F, by simp, fun j hj => ?_⟩
    have hj' : j < len := by simpa using hj
    have hs := Classical.choose_spec (hex j hj')
    refine ⟨a, rfl, hs.2, ?_⟩
    simp only [List.getElem_map, List.getElem_range, F, dif_pos hj']
    exact hs.1
end Go.Proofs.Ytjoklfhdablniaa
