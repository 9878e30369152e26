/- Contracts of Ready, Over, Open. -/
import Derived.Test.YtemnopfcddcekaaS5
namespace Go.Proofs.Ytemnopfcddcekaa
open Go.RowKit

def ReadyPost (l : List Cl) (w : World) (e : Ending) (w' : World) : Prop := ∃ v, e = .returned v ∧ w'.ownsRow (w.heap.size + 1) 3 1 v (rdy l l.length).length (rdyV l l.length) ∧ Nw w w'

set_option maxHeartbeats 1600000 in
theorem ready_any (lo hi S : Nat) (A : Option Addr) (c : Nat) (l : List Cl) (w : World) (h : SI w lo hi S A c l) : Calls Try.prog 18 #[.pointer (some ⟨S, 0, none⟩)] w (ReadyPost l w) := by
  have H := Lib.hid h
  have hL := h.len
  clear h
  go_enter Try.func18, Try.ntmps18
  go_wp2_with fail
  refine (each24 _ lo hi S A c l _ (RInv w (w.heap.size + 1) w.heap.size l) ?_ ?_ ?_ ?_ ?_).mono ?_
  · exact fun i W hi => H.out.nw hi.nw
  · exact fun i W W' hi hb => hi.keep hb
  · intro i W m s hx hr hi
    obtain ⟨v, hv, hown⟩ := hi.out
    refine ⟨⟨v, hv, ?_⟩, hi.fo, hi.nw, hi.ho, hi.hb⟩
    unfold rdyV
    rw [rdy_no hx hr]
    exact hown
  · exact fun i W m s hx hr hi => ready1_any w _ _ l i m s _ _ _ W hL hx hr hi (by omega) (by omega)
  · refine ⟨⟨.slice none 0 0, by rw [alloc_cell_new rfl]; rfl, ?_⟩, World.frozen?_alloc_at _ _ _ _ rfl, nw_alloc _ _, by simp, by simp⟩
    simpa [rdy, rdyV] using World.ownsRow_nil (w.alloc (.cells #[.slice none 0 0] 22)) (w.heap.size + 1) 3 1
  · rintro e w1 ⟨rfl, hi⟩
    obtain ⟨v, hv, hown⟩ := hi.out
    have HOWN := Lib.hid hown
    have HN := Lib.hid hi.nw
    clear hi hown
    go_wp2
    go_ret
    exact ⟨v, rfl, HOWN.out, HN.out⟩
theorem ready_nil (w : World) : Calls Try.prog 18 #[.pointer none] w fun e w' => e = .returned (.slice none 0 0) ∧ Nw w w' := by
  go_enter Try.func18, Try.ntmps18
  go_wp2_with fail
  refine (each_nil _ _).mono ?_
  rintro e w1 ⟨rfl, rfl⟩
  go_wp2
  go_ret
  exact ⟨rfl, nw_alloc _ _⟩
def overB (l : List Cl) : Bool := decide ((rdy l l.length).length = 0)
theorem over_any (lo hi S : Nat) (A : Option Addr) (c : Nat) (l : List Cl) (w : World) (h : SI w lo hi S A c l) : Calls Try.prog 19 #[.pointer (some ⟨S, 0, none⟩)] w fun e w' => e = .returned (.bool (overB l)) ∧ Nw w w' := by
  have HR := Lib.hid (ready_any lo hi S A c l w h)
  clear h
  go_enter Try.func19, Try.ntmps19
  go_wp2_with fail
  refine HR.out.mono ?_
  clear HR
  rintro e w1 ⟨v, rfl, hown, hb⟩
  have HN := Lib.hid hb
  have hv : ∃ A n c, v = .slice A n c ∧ n = (rdy l l.length).length := by
    rcases hown.2 with ⟨rfl, h0⟩ | ⟨g, cap, cur, rfl, _⟩
    · exact ⟨none, 0, 0, rfl, h0.symm⟩
    · exact ⟨_, _, _, rfl, rfl⟩
  obtain ⟨A', n, c', rfl, hn⟩ := hv
  have HB : Hid (overB l = decide (n = 0)) := by unfold Hid overB; rw [hn]
  clear hown hb hn
  go_wp2
  go_ret
  refine ⟨?_, HN.out⟩
  rw [HB.out]
  show Ending.returned (.bool _) = _
  congr 2
  by_cases h : n = 0
  · subst h; rfl
  · rw [decide_eq_false h, beq_eq_false_iff_ne]; omega
theorem over_nil (w : World) : Calls Try.prog 19 #[.pointer none] w fun e w' => e = .returned (.bool true) ∧ Nw w w' := by
  go_enter Try.func19, Try.ntmps19
  go_wp2_with fail
  refine (ready_nil _).mono ?_
  rintro e w1 ⟨rfl, hb⟩
  go_wp2
  go_ret
  exact ⟨rfl, hb⟩

def opn (l : List Cl) (i : Nat) : Nat := (l.take i).countP fun p => decide (0 < p.2 % 3)
theorem opn_succ {l : List Cl} {i m s : Nat} (h : l[i]? = some (m, s)) : opn l (i + 1) = opn l i + if 0 < s % 3 then 1 else 0 := by
  unfold opn
  rw [List.take_add_one, h, List.countP_append]
  simp
theorem opn_le (l : List Cl) (i : Nat) : opn l i ≤ i := by
  unfold opn
  refine Nat.le_trans List.countP_le_length ?_
  simp
  omega
structure OInv (w0 : World) (Bo : Nat) (l : List Cl) (i : Nat) (W : World) : Prop where
  n : W.cell? ⟨Bo, 0, none⟩ = some (.int .i64 (opn l i : Nat))
  fo : W.frozen? ⟨Bo, 0, none⟩ = false
  nw : Nw w0 W
  ho : Bo < W.heap.size
theorem OInv.keep {w0 : World} {Bo : Nat} {l : List Cl} {i : Nat} {W W' : World} (h : OInv w0 Bo l i W) (k : Nw W W') : OInv w0 Bo l i W' :=
  ⟨(k.cell (p := ⟨Bo, 0, none⟩) h.ho).trans h.n, (k.frozen (p := ⟨Bo, 0, none⟩) h.ho).trans h.fo, h.nw.then_ k, Nat.lt_of_lt_of_le h.ho k.size⟩
set_option maxHeartbeats 1600000 in
theorem open1_any (w0 : World) (Bo : Nat) (l : List Cl) (i m s : Nat) (W : World) (hL : l.length ≤ 100) (hx : l[i]? = some (m, s)) (h : OInv w0 Bo l i W) (hw0 : w0.heap.size ≤ Bo) :
    Calls Try.prog 25 #[.int .i64 i, stepV m (s / 3 : Nat) (s % 3 + 1 : Nat), .pointer (some ⟨Bo, 0, none⟩)] W fun e W' => e = .returned (.tuple #[]) ∧ OInv w0 Bo l (i + 1) W' := by
  have hn := h.n
  have hf := h.fo
  have ho := h.ho
  have hle := opn_le l i
  have hlt := (List.getElem?_eq_some_iff.1 hx).1
  have H := Lib.hid h
  have HS := Lib.hid (opn_succ hx)
  clear h hx
  generalize s / 3 = q at *
  by_cases h3 : 0 < s % 3
  · have hne : ((((s % 3 + 1 : Nat) : Int)) != (1 : Int)) = true := by simp; omega
    rw [if_pos h3] at HS
    generalize ((s % 3 + 1 : Nat) : Int) = p at *
    generalize opn l i = k at *
    go_enter Try.func25, Try.ntmps25
    go_wp2
    go_end0
    refine ⟨rfl, ?_, ?_, ?_, by simp [World.setCell]; omega⟩
    · rw [World.cell?_alloc_past _ _ _ (by simpa [World.setCell] using ho), cell_set_same hn, HS.out]
      rfl
    · rw [World.frozen?_alloc_past _ _ _ (by simpa [World.setCell] using ho)]
      exact (World.frozen?_setCell ..).trans hf
    · exact Nw.then_ (H.out.nw.setCell (p := ⟨Bo, 0, none⟩) hw0 _) (nw_alloc _ _)
  · have h0 : s % 3 = 0 := by omega
    rw [if_neg h3] at HS
    rw [h0]
    go_enter Try.func25, Try.ntmps25
    go_wp2
    first | go_end0 | skip
    refine ⟨rfl, ?_⟩
    have := H.out.keep (nw_alloc W (.cells #[.int .i64 m, .int .i64 q, .int .i64 ((0 + 1 : Nat) : Int)] 55))
    exact ⟨by rw [HS.out]; exact this.n, this.fo, this.nw, this.ho⟩
set_option maxHeartbeats 1600000 in
theorem open_any (lo hi S : Nat) (A : Option Addr) (c : Nat) (l : List Cl) (w : World) (h : SI w lo hi S A c l) : Calls Try.prog 20 #[.pointer (some ⟨S, 0, none⟩)] w fun e w' => e = .returned (.int .i64 (opn l l.length : Nat)) ∧ Nw w w' := by
  have H := Lib.hid h
  have hL := h.len
  clear h
  go_enter Try.func20, Try.ntmps20
  go_wp2_with fail
  refine (each25 _ lo hi S A c l _ (OInv w w.heap.size l) ?_ ?_ ?_ ?_ ?_).mono ?_
  · exact fun i W hi => H.out.nw hi.nw
  · exact fun i W W' hi hb => hi.keep hb
  · intro i W m s hx hr hi
    have := (H.out.ok i m s hx).1
    refine ⟨?_, hi.fo, hi.nw, hi.ho⟩
    rw [opn_succ hx, if_neg (by omega)]
    exact hi.n
  · exact fun i W m s hx hr hi => open1_any w _ l i m s W hL hx hi (by omega)
  · exact ⟨by rw [alloc_cell_new rfl]; simp [opn], World.frozen?_alloc_at _ _ _ _ rfl, nw_alloc _ _, by simp⟩
  · rintro e w1 ⟨rfl, hi⟩
    have hn := hi.n
    have HN := Lib.hid hi.nw
    clear hi
    go_wp2
    go_ret
    exact ⟨rfl, HN.out⟩
theorem open_nil (w : World) : Calls Try.prog 20 #[.pointer none] w fun e w' => e = .returned (.int .i64 0) ∧ Nw w w' := by
  go_enter Try.func20, Try.ntmps20
  go_wp2_with fail
  refine (each_nil _ _).mono ?_
  rintro e w1 ⟨rfl, rfl⟩
  go_wp2
  go_ret
  exact ⟨rfl, nw_alloc _ _⟩
end Go.Proofs.Ytemnopfcddcekaa
