/- Put and Get once more, with what stands in the places; Flush. -/
import Derived.Test.YtjoklfhdablniaaE7
namespace Go.Proofs.Ytjoklfhdablniaa
open Go.RowKit

/-- No place points at block H. -/
def Clr (w : World) (C n H : Nat) : Prop := ∀ i, i < n → w.cell? ⟨C, i, none⟩ ≠ some (.pointer (some ⟨H, 0, none⟩))

theorem TInv.updx {S : Nat → Prop} {w w' : World} {N T C : Nat} {L : List (Option Pk)} (h : TInv w N T C L) (hu : Upd S w w') (hsT : ¬ S T) (hsC : ¬ S C) (hs : ∀ b, S b → Clr w C L.length b) : TInv w' N T C L := by
  obtain ⟨cur, hc, hz, hp⟩ := h.row
  refine ⟨Nat.le_trans h.hN hu.size, h.hT, h.hC, h.hdr.upd hu hsT, cur, hc.upd hu hsC, hz, fun i hi => ?_⟩
  have h1 := hp i hi
  cases hL : L[i] with
  | none => rw [hL] at h1; exact h1
  | some p =>
    rw [hL] at h1
    obtain ⟨b, hv, hb, hk⟩ := h1
    refine ⟨b, hv, hb, hk.upd hu fun hsb => hs b hsb i hi ?_⟩
    rw [hc.cell, hv]

theorem Clr.upd {S : Nat → Prop} {w w' : World} {C n H : Nat} (h : Clr w C n H) (hu : Upd S w w') (hC : C < w.heap.size) (hs : ¬ S C) : Clr w' C n H := fun i hi => by
  rw [hu.cell hC hs]
  exact h i hi
theorem Clr.nw {w w' : World} {C n H : Nat} (h : Clr w C n H) (hu : Nw w w') (hC : C < w.heap.size) : Clr w' C n H := fun i hi => by
  rw [hu.cell (p := ⟨C, i, none⟩) hC]
  exact h i hi

set_option maxHeartbeats 800000 in
theorem put_ok3 (N T C H : Nat) (L : List (Option Pk)) (i : Nat) (p : Pk) (w : World) (h : TInv w N T C L) (hx : L[i]? = some none) (hcl : Clr w C L.length H) (hH : H < w.heap.size) :
    Calls Try.prog 8 #[.pointer (some ⟨T, 0, none⟩), .int .i64 i, p.val] w fun e w' => e = .returned (.int .i64 0) ∧ Upd (fun k => k = C) w w' ∧ (∃ M, TInv w' M T C (L.set i (some p))) ∧ Clr w' C L.length H := by
  have hlt := (List.getElem?_eq_some_iff.1 hx).1
  have hc := h.cells
  have hT : T < w.heap.size := Nat.lt_of_lt_of_le h.hT h.hN
  have hC : C < w.heap.size := Nat.lt_of_lt_of_le h.hC h.hN
  have hp := h.none_ i hx
  have hf := h.unfrozen i
  have H0 := Lib.hid h
  have HX := Lib.hid hx
  have HCL := Lib.hid hcl
  clear h hx hcl
  go_enter Try.func8, Try.ntmps8
  go_wp2_with fail
  refine (has_in N T C L i none _ _ _ (H0.out.nw (nw_alloc _ _)) HX.out).mono ?_
  rintro e w1 ⟨rfl, rfl⟩
  rw [show hasR (none : Option Pk).isNone true 5 = 0 from rfl]
  have h1 : ¬ (L.length ≤ i) := by omega
  go_wp2
  go_ret
  refine ⟨rfl, (Upd.set1 w C i _).alloc _, ⟨w.heap.size + 1, ?_⟩, fun j hj => ?_⟩
  · have hn := (H0.out.nw (nw_alloc w (.cells p.cells 25))).mono (M := w.heap.size + 1) (by have := H0.out.hN; omega) (by simp)
    have := hn.put i hlt (some p) _ ⟨w.heap.size, rfl, Nat.lt_succ_self _, Blk.new _ _ _⟩
    rw [World.setCell_alloc_past _ _ _ _ hC] at this
    exact this
  · rw [World.cell?_alloc_past _ _ _ (by simpa [World.setCell] using hC)]
    by_cases e : j = i
    · subst e
      rw [cell_set_same hp]
      intro e
      injection e with e
      injection e with e
      injection e with e
      injection e with e
      omega
    · rw [World.cell?_setCell_other _ _ _ _ (fun h => e (by injection h with _ h; omega))]
      exact HCL.out j hj

set_option maxHeartbeats 1600000 in
theorem get_some3 (N T C H : Nat) (L : List (Option Pk)) (i : Nat) (p : Pk) (w : World) (h : TInv w N T C L) (hx : L[i]? = some (some p)) (hcl : Clr w C L.length H) :
    Calls Try.prog 9 #[.pointer (some ⟨T, 0, none⟩), .int .i64 i] w fun e w' => e = .returned (.tuple #[p.val, .int .i64 0]) ∧ Upd (fun k => k = C) w w' ∧ TInv w' N T C (L.set i none) ∧ Clr w' C L.length H := by
  have hlt := (List.getElem?_eq_some_iff.1 hx).1
  have hc := h.cells
  have hT : T < w.heap.size := Nat.lt_of_lt_of_le h.hT h.hN
  have hC : C < w.heap.size := Nat.lt_of_lt_of_le h.hC h.hN
  have hf := h.unfrozen i
  obtain ⟨b, hp, hb, hk⟩ := h.some_ i p hx
  have hB : b < w.heap.size := Nat.lt_of_lt_of_le hb h.hN
  obtain ⟨p0, p1, p2, p3, p4, p5, p6⟩ := pk_cells hk
  have H0 := Lib.hid h
  have HX := Lib.hid hx
  have HCL := Lib.hid hcl
  clear h hx hk hb hcl
  go_enter Try.func9, Try.ntmps9
  go_wp2_with fail
  refine (has_in N T C L i (some p) _ _ _ (H0.out.nw (nw_alloc _ _)) HX.out).mono ?_
  rintro e w1 ⟨rfl, rfl⟩
  rw [show hasR (some p).isNone false 6 = 0 from rfl]
  have h1 : ¬ (L.length ≤ i) := by omega
  go_wp2
  refine bodyPost_ret (v := .tuple #[p.val, .int .i64 0]) (by simp [results, Try.results9, go_sem]) rfl ⟨rfl, ?_, ?_, fun j hj => ?_⟩
  · exact (((Upd.set1 w C i _).alloc _).alloc _)
  · exact ((H0.out.put i hlt none _ rfl).nw (nw_alloc _ _)).nw (nw_alloc _ _)
  · rw [World.cell?_alloc_past _ _ _ (by simp [World.setCell]; omega), World.cell?_alloc_past _ _ _ (by simpa [World.setCell] using hC)]
    by_cases e : j = i
    · subst e
      rw [cell_set_same hp]
      intro e
      injection e with e
      injection e with e
      cases e
    · rw [World.cell?_setCell_other _ _ _ _ (fun h => e (by injection h with _ h; omega))]
      exact HCL.out j hj

def outL (L : List (Option Pk)) (i : Nat) : List Pk := (L.take i).filterMap id
def rowL (l : List Pk) : List Value := l.flatMap fun p => p.cells.toList
def clr (L : List (Option Pk)) (i : Nat) : List (Option Pk) := List.replicate i none ++ L.drop i
theorem outL_none {L : List (Option Pk)} {i : Nat} (h : L[i]? = some none) : outL L (i + 1) = outL L i := by
  unfold outL
  rw [List.take_add_one, h]
  simp
theorem outL_some {L : List (Option Pk)} {i : Nat} {p : Pk} (h : L[i]? = some (some p)) : outL L (i + 1) = outL L i ++ [p] := by
  unfold outL
  rw [List.take_add_one, h]
  simp
theorem outL_len (L : List (Option Pk)) (i : Nat) : (outL L i).length ≤ i := by
  unfold outL
  exact Nat.le_trans (List.length_filterMap_le _ _) (by simp; omega)
theorem rowL_append (a b : List Pk) : rowL (a ++ b) = rowL a ++ rowL b := by simp [rowL]
theorem rowL_one (p : Pk) : rowL [p] = p.cells.toList := by simp [rowL]
theorem rowL_length (l : List Pk) : (rowL l).length = l.length * 7 := by
  induction l with
  | nil => rfl
  | cons p l ih =>
    have : rowL (p :: l) = p.cells.toList ++ rowL l := by simp [rowL]
    rw [this, List.length_append, ih]
    simp
    omega
theorem clr_zero (L : List (Option Pk)) : clr L 0 = L := by simp [clr]
theorem clr_length {L : List (Option Pk)} {i : Nat} (h : i ≤ L.length) : (clr L i).length = L.length := by simp [clr]; omega
theorem clr_full (L : List (Option Pk)) : clr L L.length = List.replicate L.length none := by simp [clr]
theorem clr_at {L : List (Option Pk)} {i : Nat} : (clr L i)[i]? = L[i]? := by
  unfold clr
  rw [List.getElem?_append_right (by simp)]
  simp
theorem clr_succ {L : List (Option Pk)} {i : Nat} (h : i < L.length) : (clr L i).set i none = clr L (i + 1) := by
  refine List.ext_getElem? fun j => ?_
  unfold clr
  by_cases e : i = j
  · subst e
    rw [List.getElem?_set_self (by simp; omega), List.getElem?_append_left (by simp)]
    simp
  · rw [List.getElem?_set_ne e]
    by_cases hj : j < i
    · rw [List.getElem?_append_left (by simpa using hj), List.getElem?_append_left (by simp; omega)]
      simp [hj, show j < i + 1 by omega]
    · rw [List.getElem?_append_right (by simp; omega), List.getElem?_append_right (by simp; omega)]
      simp only [List.length_replicate, List.getElem?_drop]
      congr 1
      omega
theorem clr_succ_none {L : List (Option Pk)} {i : Nat} (h : L[i]? = some none) : clr L (i + 1) = clr L i := by
  have hlt := (List.getElem?_eq_some_iff.1 h).1
  rw [← clr_succ hlt]
  refine List.ext_getElem? fun j => ?_
  by_cases e : i = j
  · subst e
    rw [List.getElem?_set_self (by rw [clr_length (by omega)]; exact hlt), clr_at, h]
  · rw [List.getElem?_set_ne e]

theorem info25 : (Try.prog.info? 25).map (fun i => (i.zero, i.size, i.bytes)) = some (some zval, 7, 64) := by kernel_rfl
end Go.Proofs.Ytjoklfhdablniaa
