/- A packet by value, opened. -/
import Derived.Test.YtjoklfhdablniaaE1
import Derived.Lib.SmallJoins
namespace Go.Proofs.Ytjoklfhdablniaa
open Go.RowKit Go.Joins Go.ChangeShapes Go.WideShapes

theorem z25 : Try.prog.cellsOf 25 = 7 := by kernel_rfl
theorem z23 : Try.prog.cellsOf 23 = 4 := by kernel_rfl
theorem z3 : Try.prog.cellsOf 3 = 1 := by kernel_rfl
theorem z4 : Try.prog.cellsOf 4 = 1 := by kernel_rfl
theorem z9 : Try.prog.cellsOf 9 = 1 := by kernel_rfl
theorem pk_of_trod {H : Type} {enc : TypeId × Value → H} {W : World} {b0 : Nat} {sp : Nat → Bool} {held : Bool} {n : Nat} {cs : List Value} {x : DataW H × List MemPlace}
    (h : DataW.trod enc Try.prog W b0 sp held n 25 cs = some x) : ∃ p : Pk, cs = p.cells.toList := by
  obtain ⟨y0, y1, y2, y3, m, _, hl, hy0, hy1, hy2, hy3⟩ := trod_struct4 Try.underlying25 h
  rw [z25] at hl
  match cs, hl with
  | [c0, c1, c2, c3, c4, c5, c6], _ =>
    simp [z3, z4, z23] at hy0 hy1 hy2 hy3
    obtain ⟨u0, u1, u2, u3, m', _, _, hu0, hu1, hu2, hu3⟩ := trod_struct4 Try.underlying23 hy0
    simp [z3, z9] at hu0 hu1 hu2 hu3
    obtain ⟨a0, e0, _, _⟩ := DataW.trod_int Try.underlying3 hu0
    obtain ⟨a1, e1, _, _⟩ := DataW.trod_int Try.underlying3 hu1
    obtain ⟨a2, e2, _, _⟩ := DataW.trod_int Try.underlying3 hu2
    obtain ⟨a3, e3, _, _⟩ := DataW.trod_string Try.underlying9 hu3
    obtain ⟨a4, e4, _, _⟩ := DataW.trod_int Try.underlying3 hy1
    obtain ⟨a5, e5, _, _⟩ := DataW.trod_int Try.underlying3 hy2
    obtain ⟨a6, e6, _⟩ := DataW.trod_bool Try.underlying4 hy3
    simp at e0 e1 e2 e3 e4 e5 e6
    subst e0 e1 e2 e3 e4 e5 e6
    exact ⟨⟨a0, a1, a2, a3, a4, a5, a6⟩, rfl⟩
theorem open_pk {H : Type} {enc : TypeId × Value → H} {W : World} {base b0 : Nat} {sp : Nat → Bool} {held : Bool} {v : Value} {d : DataW H} {p : List MemPlace}
    (hv : Value.okWide Try.prog W .any base 25 v) (h : DataW.Trod enc Try.prog W b0 sp held 25 v d p) : ∃ q : Pk, v = q.val := by
  obtain ⟨cs, rfl, hsz⟩ := okWide_struct Try.underlying25 hv
  obtain ⟨fuel, hf⟩ := h
  obtain ⟨q, hq⟩ := pk_of_trod hf
  refine ⟨q, ?_⟩
  have : cs.toList = q.cells.toList := by simpa [Value.cells] using hq
  rw [Array.toList_inj] at this
  rw [this]
end Go.Proofs.Ytjoklfhdablniaa
