/- A slice of fields, opened. -/
import Derived.Test.YteafmljogijdgaaS7
import Derived.Test.YteafmljogijdgaaO
namespace Go.Proofs.Yteafmljogijdgaa
open Go.RowKit Go.Joins Go.ChangeShapes Go.WideShapes

theorem fld_cells {H : Type} {enc : TypeId × Value → H} {W : World} {b0 : Nat} {sp : Nat → Bool} {held : Bool} {n : Nat} {cs : List Value} {x : DataW H × List MemPlace}
    (h : DataW.trod enc Try.prog W b0 sp held n 23 cs = some x) : ∃ f : Fld, cs = [.int .i64 f.st, .int .i64 f.ln, .bool f.big, .bool f.sg] := by
  obtain ⟨y0, y1, y2, y3, m, _, hl, hy0, hy1, hy2, hy3⟩ := trod_struct4 Try.underlying23 h
  rw [cells23] at hl
  match cs, hl with
  | [c0, c1, c2, c3], _ =>
    obtain ⟨a, e0, _, wa⟩ := DataW.trod_int Try.underlying3 hy0
    obtain ⟨b, e1, _, wb⟩ := DataW.trod_int Try.underlying3 hy1
    obtain ⟨c, e2, _⟩ := DataW.trod_bool Try.underlying4 hy2
    obtain ⟨d, e3, _⟩ := DataW.trod_bool Try.underlying4 hy3
    have z3 : Try.prog.cellsOf 3 = 1 := by kernel_rfl
    have z4 : Try.prog.cellsOf 4 = 1 := by kernel_rfl
    simp [z3, z4] at e0 e1 e2 e3
    subst e0 e1 e2 e3
    exact ⟨⟨a, b, c, d⟩, rfl⟩

theorem open_flds {H : Type} {enc : TypeId × Value → H} {W : World} {base : Nat} {sp : Nat → Bool} {held : Bool} {v : Value} {d : DataW H} {p : List MemPlace}
    (hv : Value.okWide Try.prog W .any base 31 v) (h : DataW.Trod enc Try.prog W 0 sp held 31 v d p) :
    ∃ (A : Option Addr) (c : Nat) (fs : List Fld), v = .slice A fs.length c ∧ FldsAt W A fs := by
  obtain ⟨A, len, cap, rfl⟩ := okWide_slice Try.underlying31 hv
  obtain ⟨fuel, hf⟩ := h
  rcases Go.Deep.open_slice Try.underlying31 hf with ⟨hcs, _⟩ | ⟨a, len', cap', m, n, D, Pl, hcs, hb, hl, hm, hmm, _, hel⟩
  · simp [Value.cells] at hcs
    obtain ⟨rfl, rfl, rfl⟩ := hcs
    exact ⟨none, 0, [], rfl, fun j hj => absurd hj (Nat.not_lt_zero _)⟩
  · simp [Value.cells] at hcs
    obtain ⟨rfl, rfl, rfl⟩ := hcs
    have hlm : len ≤ m := by rw [hmm]; split <;> omega
    rw [cells23] at hel
    have hex : ∀ i, i < len → ∃ f : Fld, FldAt W (a.add (i * 4)) f ∧ (a.add (i * 4)).block < W.heap.size := by
      intro i hi
      obtain ⟨cs', hc, ht⟩ := hel i (by omega)
      obtain ⟨f, rfl⟩ := fld_cells ht
      obtain ⟨_, _, hcell⟩ := World.cells?_some hc
      refine ⟨f, ⟨?_, ?_, ?_, ?_⟩, World.cells?_block hc (by decide)⟩
      · have := hcell 0 (by decide)
        simpa [Addr.add] using this
      · have := hcell 1 (by decide)
        simpa [Addr.add] using this
      · have := hcell 2 (by decide)
        simpa [Addr.add] using this
      · have := hcell 3 (by decide)
        simpa [Addr.add] using this
    classical
    let F : Nat → Fld := fun i => if hi : i < len then Classical.choose (hex i hi) else ⟨0, 0, false, false⟩
    refine ⟨some a, cap, (List.range len).map F, by simp, fun j hj => ?_⟩
    have hj' : j < len := by simpa using hj
    have hs := Classical.choose_spec (hex j hj')
    refine ⟨a, rfl, hs.2, ?_⟩
    simp only [List.getElem_map, List.getElem_range, F, dif_pos hj']
    exact hs.1
end Go.Proofs.Yteafmljogijdgaa
