/- The arguments, opened: tasks. -/
import Derived.Test.YtlmaanfgamocmaaR1
import Derived.Lib.SmallJoins
namespace Go.Proofs.Ytlmaanfgamocmaa
open Go.RowKit Go.Joins Go.ChangeShapes Go.WideShapes

theorem z3 : Try.prog.cellsOf 3 = 1 := by kernel_rfl
theorem z34 : Try.prog.cellsOf 34 = 2 := by kernel_rfl

theorem open_task {H : Type} {enc : TypeId × Value → H} {W : World} {sp : Nat → Bool} {held : Bool} {cs : List Value} {d : DataW H} {p : List MemPlace} {m : Nat}
    (h : DataW.trod enc Try.prog W 0 sp held m 34 cs = some (d, p)) : ∃ t : Tk, cs = [.int .i64 t.p, .int .i64 t.o] := by
  obtain ⟨y0, y1, m', _, hl', hy0, hy1⟩ := trod_struct2 Try.underlying34 h
  rw [z34] at hl'
  match cs, hl' with
  | [u0, u1], _ =>
    simp [z3] at hy0 hy1
    obtain ⟨x, e0, -, -⟩ := DataW.trod_int Try.underlying3 hy0
    obtain ⟨b, e1, -, -⟩ := DataW.trod_int Try.underlying3 hy1
    simp at e0 e1
    subst e0 e1
    exact ⟨⟨x, b⟩, rfl⟩

theorem open_tasks {H : Type} {enc : TypeId × Value → H} {W : World} {base : Nat} {sp : Nat → Bool} {held : Bool} {v : Value} {d : DataW H} {p : List MemPlace}
    (hv : Value.okWide Try.prog W .any base 22 v) (h : DataW.Trod enc Try.prog W 0 sp held 22 v d p) :
    ∃ (A : Option Addr) (c : Nat) (fs : List Tk), v = .slice A fs.length c ∧ TksAt W A fs ∧ fs.length ≤ c := by
  obtain ⟨A, len, cap, rfl⟩ := okWide_slice Try.underlying22 hv
  obtain ⟨fuel, hf⟩ := h
  rcases Go.Deep.open_slice Try.underlying22 hf with ⟨hcs, _⟩ | ⟨a, len', cap', m, n, D, Pl, hcs, hb, hl, hm, hmm, _, hel⟩
  · simp [Value.cells] at hcs
    obtain ⟨rfl, rfl, rfl⟩ := hcs
    exact ⟨none, 0, [], rfl, fun j hj => absurd hj (Nat.not_lt_zero _), Nat.le_refl _⟩
  · simp [Value.cells] at hcs
    obtain ⟨rfl, rfl, rfl⟩ := hcs
    have hlm : len ≤ m := by rw [hmm]; split <;> omega
    rw [z34] at hel
    have hex : ∀ i, i < len → ∃ f : Tk, (W.cell? (a.add (i * 2)) = some (.int .i64 f.p) ∧ W.cell? ⟨(a.add (i * 2)).block, (a.add (i * 2)).off + 1, none⟩ = some (.int .i64 f.o)) ∧ (a.add (i * 2)).block < W.heap.size := by
      intro i hi
      obtain ⟨cs', hc, ht⟩ := hel i (by omega)
      obtain ⟨t, rfl⟩ := open_task ht
      obtain ⟨_, _, hcell⟩ := World.cells?_some hc
      refine ⟨t, ⟨?_, ?_⟩, World.cells?_block hc (by decide)⟩
      · have := hcell 0 (by decide)
        simpa [Addr.add] using this
      · have := hcell 1 (by decide)
        simpa [Addr.add] using this
    classical
    let F : Nat → Tk := fun i => if hi : i < len then Classical.choose (hex i hi) else ⟨0, 0⟩
    refine ⟨some a, cap, (List.range len).map F, by simp, fun j hj => ?_, by simpa using hl⟩
    have hj' : j < len := by simpa using hj
    have hs := Classical.choose_spec (hex j hj')
    refine ⟨a, rfl, hs.2, ?_⟩
    simp only [List.getElem_map, List.getElem_range, F, dif_pos hj']
    exact hs.1
end Go.Proofs.Ytlmaanfgamocmaa
