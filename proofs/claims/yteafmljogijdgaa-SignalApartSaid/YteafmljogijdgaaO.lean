/- A field by value, opened. -/
import Derived.Test.YteafmljogijdgaaS1
import Derived.Lib.SmallJoins
namespace Go.Proofs.Yteafmljogijdgaa
open Go.RowKit Go.Joins Go.ChangeShapes Go.WideShapes

theorem cells23 : Try.prog.cellsOf 23 = 4 := by kernel_rfl
theorem open_fld {H : Type} {enc : TypeId × Value → H} {W : World} {base b0 : Nat} {sp : Nat → Bool} {held : Bool} {v : Value} {d : DataW H} {p : List MemPlace}
    (hv : Value.okWide Try.prog W .any base 23 v) (h : DataW.Trod enc Try.prog W b0 sp held 23 v d p) :
    ∃ (st ln : Int) (big sg : Bool), v = fld st ln big sg ∧ (Lit.int .i64 st).wf = true ∧ (Lit.int .i64 ln).wf = true := by
  obtain ⟨c0, c1, c2, c3, y0, y1, y2, y3, m, rfl, _, _, hy0, hy1, hy2, hy3⟩ := open_agg4 Try.underlying23 (by kernel_rfl) cells23 hv h
  obtain ⟨a, e0, _, wa⟩ := DataW.trod_int Try.underlying3 hy0
  obtain ⟨b, e1, _, wb⟩ := DataW.trod_int Try.underlying3 hy1
  obtain ⟨c, e2, _⟩ := DataW.trod_bool Try.underlying4 hy2
  obtain ⟨d, e3, _⟩ := DataW.trod_bool Try.underlying4 hy3
  simp at e0 e1 e2 e3
  subst e0 e1 e2 e3
  exact ⟨a, b, c, d, rfl, wa, wb⟩
end Go.Proofs.Yteafmljogijdgaa
