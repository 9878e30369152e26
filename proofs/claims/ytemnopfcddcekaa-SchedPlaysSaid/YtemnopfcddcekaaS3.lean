/- Contracts of Stay, each, Ready, Open, Over. -/
import Derived.Test.YtemnopfcddcekaaS2
namespace Go.Proofs.Ytemnopfcddcekaa
open Go.RowKit

theorem stay_none (S : Value) (x : Int) (w : World) (hf : Calls Try.prog 22 #[S, .int .i64 x] w fun e w' => e = .returned (.pointer none) ∧ Drawn w w') :
    Calls Try.prog 10 #[S, .int .i64 x] w fun e w' => e = .returned (.tuple #[]) ∧ Nw w w' := by
  have HF := Lib.hid hf
  clear hf
  go_enter Try.func10, Try.ntmps10
  go_wp2_with fail
  refine HF.out.mono ?_
  rintro e w1 ⟨rfl, hd⟩
  have HN := Lib.hid hd.nw
  clear hd HF
  go_wp2
  first | go_end0 | skip
  exact ⟨rfl, HN.out⟩

/-- How many steps there are when the last one is made again. -/
def stayS (s : Nat) : Nat := if s % 3 = 2 then s - 1 else s
set_option maxHeartbeats 1600000 in
theorem stay_ready (lo hi S R : Nat) (c : Nat) (l : List Cl) (i m s : Nat) (w : World) (h : SI w lo hi S (some ⟨R, 0, none⟩) c l) (hx : l[i]? = some (m, s)) (hs : s < 3 * m) :
    Calls Try.prog 10 #[.pointer (some ⟨S, 0, none⟩), .int .i64 i] w fun e w' => e = .returned (.tuple #[]) ∧ Upd (fun k => k = R) w w' ∧ SI w' lo hi S (some ⟨R, 0, none⟩) c (l.set i (m, stayS s)) := by
  have HF := Lib.hid (find_ready lo hi S R c l i m s w h hx hs)
  obtain ⟨R', e, hR1, hR2, hRS, c0, c1, c2, hf⟩ := h.row i m s hx
  injection e with e
  injection e with e
  subst e
  have hz : R < w.heap.size := by have := h.H; omega
  have f2 := hf (i * 3 + 2)
  have H := Lib.hid h
  have HX := Lib.hid hx
  clear h hx hR1 hR2 hRS hf
  by_cases h3 : s % 3 = 2
  · have e : stayS s = s - 1 := by simp [stayS, h3]
    rw [e]
    rw [h3, show ((2 + 1 : Nat) : Int) = 3 from rfl] at c2
    clear e
    go_enter Try.func10, Try.ntmps10
    go_wp2_with fail
    refine HF.out.mono ?_
    rintro e w1 ⟨rfl, nq, rfl⟩
    go_wp2
    go_end0
    have hcs : s % 3 = 2 := h3
    refine ⟨rfl, (Upd.set1 w R _ _).drewN nq, (H.out.set HX.out (s - 1) (by omega) (Upd.set1 w R _ _) ((set_off (by omega)).trans (by rw [c1, show (s - 1) / 3 = s / 3 by omega])) (by rw [cell_set_same c2, show (s - 1) % 3 + 1 = 2 by omega]; rfl) (fun j h1 h2 => set_off (by omega)) (fun j => World.frozen?_setCell ..)).nw (nw_drewN (Below.refl _ _) nq)⟩
  · have e : stayS s = s := by simp [stayS, h3]
    rw [e]
    have hl : l.set i (m, s) = l := by
      refine List.ext_getElem? fun j => ?_
      by_cases e : i = j
      · subst e
        rw [List.getElem?_set_self (List.getElem?_eq_some_iff.1 HX.out).1, HX.out]
      · rw [List.getElem?_set_ne e]
    rw [hl]
    have hne : (((s % 3 + 1 : Nat) : Int) == (3 : Int)) = false := by rw [beq_eq_false_iff_ne]; omega
    generalize ((s % 3 + 1 : Nat) : Int) = p at *
    clear e hl
    go_enter Try.func10, Try.ntmps10
    go_wp2_with fail
    refine HF.out.mono ?_
    rintro e w1 ⟨rfl, nq, rfl⟩
    go_wp2
    first | go_end0 | skip
    exact ⟨rfl, Upd.of_nw (nw_drewN (Below.refl _ _) nq), H.out.nw (nw_drewN (Below.refl _ _) nq)⟩
end Go.Proofs.Ytemnopfcddcekaa
