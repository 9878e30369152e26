/- Contracts of Put, Get, Peek. -/
import Derived.Test.YtjoklfhdablniaaE1
namespace Go.Proofs.Ytjoklfhdablniaa
open Go.RowKit

theorem put_nil (x : Int) (p : Pk) (w : World) : Calls Try.prog 8 #[.pointer none, .int .i64 x, p.val] w fun e w' => e = .returned (.int .i64 1) ∧ Nw w w' := by
  go_enter Try.func8, Try.ntmps8
  go_wp2_with fail
  refine (has_nil _ _ _ _).mono ?_
  rintro e w1 ⟨rfl, rfl⟩
  go_wp2
  go_ret
  exact ⟨rfl, nw_alloc _ _⟩

theorem put_out (N T C : Nat) (L : List (Option Pk)) (x : Int) (p : Pk) (w : World) (h : TInv w N T C L) (hx : x < 0 ∨ (L.length : Int) ≤ x) :
    Calls Try.prog 8 #[.pointer (some ⟨T, 0, none⟩), .int .i64 x, p.val] w fun e w' => e = .returned (.int .i64 2) ∧ Nw w w' := by
  have H := Lib.hid h
  clear h
  go_enter Try.func8, Try.ntmps8
  go_wp2_with fail
  refine (has_out N T C L _ _ _ _ (H.out.nw (nw_alloc _ _)) hx).mono ?_
  rintro e w1 ⟨rfl, rfl⟩
  go_wp2
  go_ret
  exact ⟨rfl, nw_alloc _ _⟩

theorem put_full (N T C : Nat) (L : List (Option Pk)) (i : Nat) (p q : Pk) (w : World) (h : TInv w N T C L) (hx : L[i]? = some (some q)) :
    Calls Try.prog 8 #[.pointer (some ⟨T, 0, none⟩), .int .i64 i, p.val] w fun e w' => e = .returned (.int .i64 5) ∧ Nw w w' := by
  have H := Lib.hid h
  have HX := Lib.hid hx
  clear h hx
  go_enter Try.func8, Try.ntmps8
  go_wp2_with fail
  refine (has_in N T C L i (some q) _ _ _ (H.out.nw (nw_alloc _ _)) HX.out).mono ?_
  rintro e w1 ⟨rfl, rfl⟩
  rw [show hasR (some q).isNone true 5 = 5 from rfl]
  go_wp2
  go_ret
  exact ⟨rfl, nw_alloc _ _⟩

set_option maxHeartbeats 800000 in
theorem put_ok (N T C : Nat) (L : List (Option Pk)) (i : Nat) (p : Pk) (w : World) (h : TInv w N T C L) (hx : L[i]? = some none) :
    Calls Try.prog 8 #[.pointer (some ⟨T, 0, none⟩), .int .i64 i, p.val] w fun e w' => e = .returned (.int .i64 0) ∧ Upd (fun k => k = C) w w' ∧ ∃ M, TInv w' M T C (L.set i (some p)) := by
  have hlt := (List.getElem?_eq_some_iff.1 hx).1
  have hc := h.cells
  have hT : T < w.heap.size := Nat.lt_of_lt_of_le h.hT h.hN
  have hC : C < w.heap.size := Nat.lt_of_lt_of_le h.hC h.hN
  have hp := h.none_ i hx
  have hf := h.unfrozen i
  have H := Lib.hid h
  have HX := Lib.hid hx
  clear h hx
  go_enter Try.func8, Try.ntmps8
  go_wp2_with fail
  refine (has_in N T C L i none _ _ _ (H.out.nw (nw_alloc _ _)) HX.out).mono ?_
  rintro e w1 ⟨rfl, rfl⟩
  rw [show hasR (none : Option Pk).isNone true 5 = 0 from rfl]
  have h1 : ¬ (L.length ≤ i) := by omega
  go_wp2
  go_ret
  refine ⟨rfl, (Upd.set1 w C i _).alloc _, w.heap.size + 1, ?_⟩
  have hn := (H.out.nw (nw_alloc w (.cells p.cells 25))).mono (M := w.heap.size + 1) (by have := H.out.hN; omega) (by simp)
  have := hn.put i hlt (some p) _ ⟨w.heap.size, rfl, Nat.lt_succ_self _, Blk.new _ _ _⟩
  rw [World.setCell_alloc_past _ _ _ _ hC] at this
  exact this

def getPost (v : Value) (r : Value) (w : World) (e : Ending) (w' : World) : Prop := e = .returned (.tuple #[v, r]) ∧ Nw w w'
set_option maxHeartbeats 800000 in
theorem get_nil (x : Int) (w : World) : Calls Try.prog 9 #[.pointer none, .int .i64 x] w (getPost zval (.int .i64 1) w) := by
  go_enter Try.func9, Try.ntmps9
  go_wp2_with fail
  refine (has_nil _ _ _ _).mono ?_
  rintro e w1 ⟨rfl, rfl⟩
  go_wp2
  exact bodyPost_ret (v := .tuple #[zval, .int .i64 1]) (by simp [results, Try.results9, go_sem]) rfl ⟨rfl, nw_alloc _ _⟩
set_option maxHeartbeats 800000 in
theorem get_out (N T C : Nat) (L : List (Option Pk)) (x : Int) (w : World) (h : TInv w N T C L) (hx : x < 0 ∨ (L.length : Int) ≤ x) :
    Calls Try.prog 9 #[.pointer (some ⟨T, 0, none⟩), .int .i64 x] w (getPost zval (.int .i64 2) w) := by
  have H := Lib.hid h
  clear h
  go_enter Try.func9, Try.ntmps9
  go_wp2_with fail
  refine (has_out N T C L _ _ _ _ (H.out.nw (nw_alloc _ _)) hx).mono ?_
  rintro e w1 ⟨rfl, rfl⟩
  go_wp2
  exact bodyPost_ret (v := .tuple #[zval, .int .i64 2]) (by simp [results, Try.results9, go_sem]) rfl ⟨rfl, nw_alloc _ _⟩
set_option maxHeartbeats 800000 in
theorem get_none (N T C : Nat) (L : List (Option Pk)) (i : Nat) (w : World) (h : TInv w N T C L) (hx : L[i]? = some none) :
    Calls Try.prog 9 #[.pointer (some ⟨T, 0, none⟩), .int .i64 i] w (getPost zval (.int .i64 6) w) := by
  have H := Lib.hid h
  have HX := Lib.hid hx
  clear h hx
  go_enter Try.func9, Try.ntmps9
  go_wp2_with fail
  refine (has_in N T C L i none _ _ _ (H.out.nw (nw_alloc _ _)) HX.out).mono ?_
  rintro e w1 ⟨rfl, rfl⟩
  rw [show hasR (none : Option Pk).isNone false 6 = 6 from rfl]
  go_wp2
  exact bodyPost_ret (v := .tuple #[zval, .int .i64 6]) (by simp [results, Try.results9, go_sem]) rfl ⟨rfl, nw_alloc _ _⟩

def peekPost (v : Value) (r : Value) (w : World) (e : Ending) (w' : World) : Prop := e = .returned (.tuple #[v, r]) ∧ Nw w w'
set_option maxHeartbeats 800000 in
theorem peek_nil (x : Int) (w : World) : Calls Try.prog 10 #[.pointer none, .int .i64 x] w (peekPost zval (.bool false) w) := by
  go_enter Try.func10, Try.ntmps10
  go_wp2_with fail
  refine (has_nil _ _ _ _).mono ?_
  rintro e w1 ⟨rfl, rfl⟩
  go_wp2
  exact bodyPost_ret (v := .tuple #[zval, .bool false]) (by simp [results, Try.results10, go_sem]) rfl ⟨rfl, nw_alloc _ _⟩
set_option maxHeartbeats 800000 in
theorem peek_out (N T C : Nat) (L : List (Option Pk)) (x : Int) (w : World) (h : TInv w N T C L) (hx : x < 0 ∨ (L.length : Int) ≤ x) :
    Calls Try.prog 10 #[.pointer (some ⟨T, 0, none⟩), .int .i64 x] w (peekPost zval (.bool false) w) := by
  have H := Lib.hid h
  clear h
  go_enter Try.func10, Try.ntmps10
  go_wp2_with fail
  refine (has_out N T C L _ _ _ _ (H.out.nw (nw_alloc _ _)) hx).mono ?_
  rintro e w1 ⟨rfl, rfl⟩
  go_wp2
  exact bodyPost_ret (v := .tuple #[zval, .bool false]) (by simp [results, Try.results10, go_sem]) rfl ⟨rfl, nw_alloc _ _⟩
set_option maxHeartbeats 800000 in
theorem peek_none (N T C : Nat) (L : List (Option Pk)) (i : Nat) (w : World) (h : TInv w N T C L) (hx : L[i]? = some none) :
    Calls Try.prog 10 #[.pointer (some ⟨T, 0, none⟩), .int .i64 i] w (peekPost zval (.bool false) w) := by
  have H := Lib.hid h
  have HX := Lib.hid hx
  clear h hx
  go_enter Try.func10, Try.ntmps10
  go_wp2_with fail
  refine (has_in N T C L i none _ _ _ (H.out.nw (nw_alloc _ _)) HX.out).mono ?_
  rintro e w1 ⟨rfl, rfl⟩
  rw [show hasR (none : Option Pk).isNone false 6 = 6 from rfl]
  go_wp2
  exact bodyPost_ret (v := .tuple #[zval, .bool false]) (by simp [results, Try.results10, go_sem]) rfl ⟨rfl, nw_alloc _ _⟩

theorem pk_cells {w : World} {b : Nat} {p : Pk} (h : Blk w b 25 p.cells) :
    w.cell? ⟨b, 0, none⟩ = some (.int .i64 p.id) ∧ w.cell? ⟨b, 1, none⟩ = some (.int .i64 p.fl) ∧ w.cell? ⟨b, 2, none⟩ = some (.int .i64 p.ln) ∧ w.cell? ⟨b, 3, none⟩ = some (.string p.data) ∧
      w.cell? ⟨b, 4, none⟩ = some (.int .i64 p.fr) ∧ w.cell? ⟨b, 5, none⟩ = some (.int .i64 p.tag) ∧ w.cell? ⟨b, 6, none⟩ = some (.bool p.loop) := by
  refine ⟨?_, ?_, ?_, ?_, ?_, ?_, ?_⟩ <;> rw [h.cell] <;> rfl

set_option maxHeartbeats 1600000 in
theorem peek_some (N T C : Nat) (L : List (Option Pk)) (i : Nat) (p : Pk) (w : World) (h : TInv w N T C L) (hx : L[i]? = some (some p)) :
    Calls Try.prog 10 #[.pointer (some ⟨T, 0, none⟩), .int .i64 i] w (peekPost p.val (.bool true) w) := by
  have hlt := (List.getElem?_eq_some_iff.1 hx).1
  have hc := h.cells
  have hT : T < w.heap.size := Nat.lt_of_lt_of_le h.hT h.hN
  have hC : C < w.heap.size := Nat.lt_of_lt_of_le h.hC h.hN
  obtain ⟨b, hp, hb, hk⟩ := h.some_ i p hx
  have hB : b < w.heap.size := Nat.lt_of_lt_of_le hb h.hN
  obtain ⟨p0, p1, p2, p3, p4, p5, p6⟩ := pk_cells hk
  have H := Lib.hid h
  have HX := Lib.hid hx
  clear h hx hk hb
  go_enter Try.func10, Try.ntmps10
  go_wp2_with fail
  refine (has_in N T C L i (some p) _ _ _ (H.out.nw (nw_alloc _ _)) HX.out).mono ?_
  rintro e w1 ⟨rfl, rfl⟩
  rw [show hasR (some p).isNone false 6 = 0 from rfl]
  have h1 : ¬ (L.length ≤ i) := by omega
  go_wp2
  exact bodyPost_ret (v := .tuple #[p.val, .bool true]) (by simp [results, Try.results10, go_sem]) rfl ⟨rfl, nw_alloc _ _⟩

set_option maxHeartbeats 1600000 in
theorem get_some (N T C : Nat) (L : List (Option Pk)) (i : Nat) (p : Pk) (w : World) (h : TInv w N T C L) (hx : L[i]? = some (some p)) :
    Calls Try.prog 9 #[.pointer (some ⟨T, 0, none⟩), .int .i64 i] w fun e w' => e = .returned (.tuple #[p.val, .int .i64 0]) ∧ Upd (fun k => k = C) w w' ∧ TInv w' N T C (L.set i none) := by
  have hlt := (List.getElem?_eq_some_iff.1 hx).1
  have hc := h.cells
  have hT : T < w.heap.size := Nat.lt_of_lt_of_le h.hT h.hN
  have hC : C < w.heap.size := Nat.lt_of_lt_of_le h.hC h.hN
  have hf := h.unfrozen i
  obtain ⟨b, hp, hb, hk⟩ := h.some_ i p hx
  have hB : b < w.heap.size := Nat.lt_of_lt_of_le hb h.hN
  obtain ⟨p0, p1, p2, p3, p4, p5, p6⟩ := pk_cells hk
  have H := Lib.hid h
  have HX := Lib.hid hx
  clear h hx hk hb
  go_enter Try.func9, Try.ntmps9
  go_wp2_with fail
  refine (has_in N T C L i (some p) _ _ _ (H.out.nw (nw_alloc _ _)) HX.out).mono ?_
  rintro e w1 ⟨rfl, rfl⟩
  rw [show hasR (some p).isNone false 6 = 0 from rfl]
  have h1 : ¬ (L.length ≤ i) := by omega
  go_wp2
  refine bodyPost_ret (v := .tuple #[p.val, .int .i64 0]) (by simp [results, Try.results9, go_sem]) rfl ⟨rfl, ?_, ?_⟩
  · exact (((Upd.set1 w C i _).alloc _).alloc _)
  · exact ((H.out.put i hlt none _ rfl).nw (nw_alloc _ _)).nw (nw_alloc _ _)
end Go.Proofs.Ytjoklfhdablniaa
