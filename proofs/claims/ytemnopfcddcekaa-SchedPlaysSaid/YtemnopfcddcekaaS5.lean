/- Contracts of Ready, Over, Open. -/
import Derived.Test.YtemnopfcddcekaaS4
namespace Go.Proofs.Ytemnopfcddcekaa
open Go.RowKit

theorem info3 : (Try.prog.info? 3).map (fun i => (i.zero, i.size, i.bytes)) = some (some (.int .i64 0), 1, 8) := by kernel_rfl

/-- The clients that are ready, among the first i. -/
def rdy (l : List Cl) (i : Nat) : List Nat := (List.range i).filter fun j => match l[j]? with | some (m, s) => decide (s < 3 * m) | none => false
def rdyV (l : List Cl) (i : Nat) : List Value := (rdy l i).map fun j => .int .i64 (j : Nat)
theorem rdy_yes {l : List Cl} {i m s : Nat} (h : l[i]? = some (m, s)) (hr : s < 3 * m) : rdy l (i + 1) = rdy l i ++ [i] := by
  unfold rdy
  rw [List.range_succ, List.filter_append]
  simp [h, hr]
theorem rdy_no {l : List Cl} {i m s : Nat} (h : l[i]? = some (m, s)) (hr : ¬ s < 3 * m) : rdy l (i + 1) = rdy l i := by
  unfold rdy
  rw [List.range_succ, List.filter_append]
  simp [h]
  omega
theorem rdy_len (l : List Cl) (i : Nat) : (rdy l i).length ≤ i := by
  unfold rdy
  exact Nat.le_trans (List.length_filter_le _ _) (by simp)

structure RInv (w0 : World) (base Bo : Nat) (l : List Cl) (i : Nat) (W : World) : Prop where
  out : ∃ v, W.cell? ⟨Bo, 0, none⟩ = some v ∧ W.ownsRow base 3 1 v (rdy l i).length (rdyV l i)
  fo : W.frozen? ⟨Bo, 0, none⟩ = false
  nw : Nw w0 W
  ho : Bo < W.heap.size
  hb : base ≤ W.heap.size
theorem RInv.keep {w0 : World} {base Bo : Nat} {l : List Cl} {i : Nat} {W W' : World} (h : RInv w0 base Bo l i W) (k : Nw W W') : RInv w0 base Bo l i W' := by
  obtain ⟨v, hv, hown⟩ := h.out
  exact ⟨⟨v, (k.cell (p := ⟨Bo, 0, none⟩) h.ho).trans hv, kept_nw hown k⟩, (k.frozen (p := ⟨Bo, 0, none⟩) h.ho).trans h.fo, h.nw.then_ k, Nat.lt_of_lt_of_le h.ho k.size, Nat.le_trans h.hb k.size⟩

set_option maxHeartbeats 3000000 in
theorem ready1_any (w0 : World) (base Bo : Nat) (l : List Cl) (i m s : Nat) (a b c : Int) (W : World) (hL : l.length ≤ 100) (hx : l[i]? = some (m, s)) (hr : s < 3 * m) (h : RInv w0 base Bo l i W) (hob : Bo < base) (hw0 : w0.heap.size ≤ Bo) :
    Calls Try.prog 24 #[.int .i64 i, stepV a b c, .pointer (some ⟨Bo, 0, none⟩)] W fun e W' => e = .returned (.tuple #[]) ∧ RInv w0 base Bo l (i + 1) W' := by
  obtain ⟨i0, hi, hz0, hz1, hz2⟩ := info_parts info3
  obtain ⟨v, hv, hown⟩ := h.out
  have hlt := (List.getElem?_eq_some_iff.1 hx).1
  have hol := rdy_len l i
  have hH1 := h.ho
  have hH3 := h.hb
  have hf := h.fo
  have H := Lib.hid h
  have HX := Lib.hid (rdy_yes hx hr)
  have HOWN := Lib.hid hown
  clear h hx hown
  go_enter Try.func24, Try.ntmps24
  go_wp2_with (at_builtin; refine wpList_append_own _ rfl _ _ 22 rfl base 3 i0 (.int .i64 0) 1 8 Try.underlying22 hi hz0 hz1 hz2 rfl (by decide) _ _ _ rfl ((HOWN.out.alloc _).alloc _) ⟨W.heap.size + 1, 0, none⟩ 1 1 [.int .i64 (i : Nat)] rfl rfl ?c1 ?c2 ?c3 ?c4 ?c5 ?_)
  case c1 => have := one_news (w := W.alloc (.cells #[.int .i64 a, .int .i64 b, .int .i64 c] 55)) (.int .i64 (i : Nat)) 3; rw [World.size_alloc] at this; exact this
  case c2 => intro u hu; simp at hu; subst hu; rfl
  case c3 => unfold maxLen; omega
  case c4 => omega
  case c5 => simp; omega
  intro v' w2 hown' hg _
  have hnb : ∀ k, v.ownBlock = some k → base ≤ k := fun k hk => (HOWN.out.lt k hk).1
  have hu : Below base W w2 := (((Below.refl base W).alloc hH3 _).alloc (by simp; omega) _).grown hg (by simp; omega) (fun k hk => hnb k hk)
  have g1 : w2.cell? ⟨Bo, 0, none⟩ = some v := (hu.cell (p := ⟨Bo, 0, none⟩) hob).trans hv
  have g2 : w2.frozen? ⟨Bo, 0, none⟩ = false := (hu.frozen (p := ⟨Bo, 0, none⟩) hob).trans hf
  have hz2 := hu.size
  obtain ⟨g', cap', rfl, -, -⟩ := hown'.form (by omega)
  have hown3 := ownsRow_setCell_below hown' (a := ⟨Bo, 0, none⟩) hob (.slice (some ⟨g', 0, none⟩) ((rdy l i).length + 1) cap')
  have hn2 : Nw w0 w2 := H.out.nw.trans (hu.mono (by omega))
  have HR : Hid (RInv w0 base Bo l (i + 1) (w2.setCell ⟨Bo, 0, none⟩ (.slice (some ⟨g', 0, none⟩) ((rdy l i).length + 1) cap'))) := by
    refine ⟨⟨_, cell_set_same g1, ?_⟩, (World.frozen?_setCell ..).trans g2, hn2.setCell (p := ⟨Bo, 0, none⟩) hw0 _, by simp [World.setCell]; omega, by simp [World.setCell]; omega⟩
    rw [HX.out, List.length_append]
    have : rdyV l (i + 1) = rdyV l i ++ [.int .i64 (i : Nat)] := by unfold rdyV; rw [HX.out, List.map_append]; rfl
    rw [this]
    exact hown3
  clear hu hown' hg hown3 hn2 HOWN H
  go_wp2
  go_end0
  exact ⟨rfl, HR.out⟩
end Go.Proofs.Ytemnopfcddcekaa
