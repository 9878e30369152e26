/- Contracts of Next, Stay. -/
import Derived.Test.YtemnopfcddcekaaS1
namespace Go.Proofs.Ytemnopfcddcekaa
open Go.RowKit

theorem SI.set {w w' : World} {lo hi S R c : Nat} {l : List Cl} (h : SI w lo hi S (some ⟨R, 0, none⟩) c l) {i m s : Nat} (hx : l[i]? = some (m, s)) (s' : Nat) (hs : s' ≤ 3 * m) (hu : Upd (fun k => k = R) w w')
    (h1 : w'.cell? ⟨R, i * 3 + 1, none⟩ = some (.int .i64 (s' / 3 : Nat))) (h2 : w'.cell? ⟨R, i * 3 + 2, none⟩ = some (.int .i64 (s' % 3 + 1 : Nat)))
    (ho : ∀ j, j ≠ i * 3 + 1 → j ≠ i * 3 + 2 → w'.cell? ⟨R, j, none⟩ = w.cell? ⟨R, j, none⟩) (hf : ∀ j, w'.frozen? ⟨R, j, none⟩ = w.frozen? ⟨R, j, none⟩) : SI w' lo hi S (some ⟨R, 0, none⟩) c (l.set i (m, s')) := by
  have hlt := (List.getElem?_eq_some_iff.1 hx).1
  have hl := h.H
  have hS := h.S2
  obtain ⟨R', e, -, -, hRS, -⟩ := h.row i m s hx
  injection e with e
  injection e with e
  subst e
  refine ⟨Nat.le_trans h.H hu.size, h.S1, h.S2, fun j m' t hj => ?_, by rw [List.length_set]; exact h.len, ?_, fun j m' t hj => ?_⟩
  · by_cases e : i = j
    · subst e
      rw [List.getElem?_set_self hlt] at hj
      injection hj with hj
      injection hj with h3 h4
      subst h3 h4
      exact ⟨hs, (h.ok i _ _ hx).2⟩
    · rw [List.getElem?_set_ne e] at hj
      exact h.ok j m' t hj
  · rw [List.length_set]
    exact (hu.cell (by omega) (fun e => hRS e.symm)).trans h.hdr
  · by_cases e : i = j
    · subst e
      rw [List.getElem?_set_self hlt] at hj
      injection hj with hj
      injection hj with h3 h4
      subst h3 h4
      obtain ⟨R', e, k1, k2, k3, k4, -, -, k7⟩ := h.row i _ _ hx
      injection e with e
      injection e with e
      subst e
      exact ⟨R, rfl, k1, k2, k3, by rw [ho _ (by omega) (by omega)]; exact k4, h1, h2, fun j => by rw [hf]; exact k7 j⟩
    · rw [List.getElem?_set_ne e] at hj
      obtain ⟨R', e', k1, k2, k3, k4, k5, k6, k7⟩ := h.row j _ _ hj
      injection e' with e'
      injection e' with e'
      subst e'
      exact ⟨R, rfl, k1, k2, k3, by rw [ho _ (by omega) (by omega)]; exact k4, by rw [ho _ (by omega) (by omega)]; exact k5, by rw [ho _ (by omega) (by omega)]; exact k6, fun j => by rw [hf]; exact k7 j⟩

/-- A struct of three cells is stored. -/
abbrev set3 (w : World) (b : Nat) (x y z : Value) : World := ((w.setCell ⟨b, 0, none⟩ x).setCell ⟨b, 1, none⟩ y).setCell ⟨b, 2, none⟩ z
theorem set3_cells {w : World} {b : Nat} {a0 a1 a2 : Value} (c0 : w.cell? ⟨b, 0, none⟩ = some a0) (c1 : w.cell? ⟨b, 1, none⟩ = some a1) (c2 : w.cell? ⟨b, 2, none⟩ = some a2) (x y z : Value) :
    (set3 w b x y z).cell? ⟨b, 0, none⟩ = some x ∧ (set3 w b x y z).cell? ⟨b, 1, none⟩ = some y ∧ (set3 w b x y z).cell? ⟨b, 2, none⟩ = some z := by
  have e : ∀ (w : World) (i j : Nat) v, i ≠ j → (w.setCell ⟨b, i, none⟩ v).cell? ⟨b, j, none⟩ = w.cell? ⟨b, j, none⟩ := fun w i j v h => World.cell?_setCell_other _ _ _ _ (fun e => h (by injection e))
  refine ⟨?_, ?_, ?_⟩
  · rw [e _ _ _ _ (by decide), e _ _ _ _ (by decide)]; exact cell_set_same c0
  · rw [e _ _ _ _ (by decide)]; exact cell_set_same (by rw [e _ _ _ _ (by decide)]; exact c1)
  · exact cell_set_same (by rw [e _ _ _ _ (by decide), e _ _ _ _ (by decide)]; exact c2)
theorem set3_upd (w : World) (b : Nat) (x y z : Value) : Upd (fun k => k = b) w (set3 w b x y z) := ((Upd.set1 w b 0 x).trans (Upd.set1 _ b 1 y)).trans (Upd.set1 _ b 2 z)
theorem set3_nw {w w1 : World} (h : Nw w w1) (b : Nat) (hb : w.heap.size ≤ b) (x y z : Value) : Nw w (set3 w1 b x y z) := h.trans ((set3_upd w1 b x y z).below h.size fun k hk e => by omega)

def NextPost (v : Value) (k : Int) (w : World) (e : Ending) (w' : World) : Prop := e = .returned (.tuple #[v, .int .i64 k]) ∧ Nw w w'

theorem next_nil (x : Int) (w : World) : Calls Try.prog 11 #[.pointer none, .int .i64 x] w (NextPost (stepV 0 0 0) 1 w) := by
  go_enter Try.func11, Try.ntmps11
  go_wp2
  exact bodyPost_ret (v := .tuple #[stepV 0 0 0, .int .i64 1]) (by simp [results, Try.results11, go_sem]) rfl ⟨rfl, nw_alloc _ _⟩

set_option maxHeartbeats 1600000 in
theorem next_none (S : Addr) (x : Int) (w : World) (hf : ∀ W, Nw w W → Calls Try.prog 12 #[.pointer (some S), .int .i64 x] W (AtPost (stepV 0 0 0) false W)) :
    Calls Try.prog 11 #[.pointer (some S), .int .i64 x] w (NextPost (stepV 0 0 0) 12 w) := by
  have HF := Lib.hid hf
  clear hf
  go_enter Try.func11, Try.ntmps11
  go_wp2_with fail
  refine (HF.out _ (nw_alloc _ _)).mono ?_
  rintro e w1 ⟨rfl, hd⟩
  have hcell : ∀ o, w1.cell? ⟨w.heap.size, o, none⟩ = (#[.int .i64 0, .int .i64 0, .int .i64 0] : Array Value)[o]? := fun o => by rw [hd.cell (p := ⟨w.heap.size, o, none⟩) (by simp), alloc_cell_new rfl]
  have hfr : ∀ o, w1.frozen? ⟨w.heap.size, o, none⟩ = false := fun o => by rw [hd.frozen (p := ⟨w.heap.size, o, none⟩) (by simp)]; exact World.frozen?_alloc_at _ _ _ _ rfl
  have c0 := hcell 0
  have c1 := hcell 1
  have c2 := hcell 2
  have f0 := hfr 0
  have f1 := hfr 1
  have f2 := hfr 2
  have hz := hd.size
  simp at c0 c1 c2 hz
  have hlt : w.heap.size < w1.heap.size := by omega
  have HN : Hid (Nw w w1) := (nw_alloc _ _).then_ hd
  clear hcell hfr hd HF
  go_wp2
  obtain ⟨wf, hwf⟩ : ∃ wf : World, wf = ((w1.setCell ⟨w.heap.size, 0, none⟩ (.int .i64 0)).setCell ⟨w.heap.size, 1, none⟩ (.int .i64 0)).setCell ⟨w.heap.size, 2, none⟩ (.int .i64 0) := ⟨_, rfl⟩
  rw [← hwf]
  have hs := set3_cells c0 c1 c2 (.int .i64 0) (.int .i64 0) (.int .i64 0)
  have hn := set3_nw HN.out w.heap.size (Nat.le_refl _) (.int .i64 0) (.int .i64 0) (.int .i64 0)
  have hsz : w.heap.size < wf.heap.size := by rw [hwf]; exact Nat.lt_of_lt_of_le hlt (set3_upd w1 w.heap.size _ _ _).size
  unfold set3 at hs hn
  rw [← hwf] at hs hn
  obtain ⟨e0, e1, e2⟩ := hs
  exact bodyPost_ret (v := .tuple #[stepV 0 0 0, .int .i64 12]) (by simp [results, Try.results11, go_sem, e0, e1, e2, hsz, World.cell?_alloc_past]) rfl ⟨rfl, hn.then_ (nw_alloc _ _)⟩

theorem next_fin {w w1 wA : World} {lo hi S R c : Nat} {l : List Cl} (h : SI w lo hi S (some ⟨R, 0, none⟩) c l) {i m s : Nat} (hx : l[i]? = some (m, s)) (hN : Nw w w1) (s' : Nat) (hs : s' ≤ 3 * m) (hu : Upd (fun k => k = R) w1 wA)
    (h1 : wA.cell? ⟨R, i * 3 + 1, none⟩ = some (.int .i64 (s' / 3 : Nat))) (h2 : wA.cell? ⟨R, i * 3 + 2, none⟩ = some (.int .i64 (s' % 3 + 1 : Nat)))
    (ho : ∀ j, j ≠ i * 3 + 1 → j ≠ i * 3 + 2 → wA.cell? ⟨R, j, none⟩ = w1.cell? ⟨R, j, none⟩) (hf : ∀ j, wA.frozen? ⟨R, j, none⟩ = w1.frozen? ⟨R, j, none⟩) (x y z : Value) (o : Obj) (nq : Nat) :
    Upd (fun k => k = R) w (((set3 wA w.heap.size x y z).alloc o).drewN nq) ∧ SI (((set3 wA w.heap.size x y z).alloc o).drewN nq) lo hi S (some ⟨R, 0, none⟩) c (l.set i (m, s')) := by
  have hH := h.H
  have hA := (h.nw hN).set hx s' hs hu h1 h2 ho hf
  have h3 := set3_upd wA w.heap.size x y z
  refine ⟨?_, ?_⟩
  · have u1 : Upd (fun k => k = R ∨ k = w.heap.size) w wA := (Upd.of_nw hN).trans (hu.mono fun k _ e => .inl e)
    have u2 : Upd (fun k => k = R ∨ k = w.heap.size) w (set3 wA w.heap.size x y z) := u1.trans (h3.mono fun k _ e => .inr e)
    exact ((u2.alloc o).drewN nq).mono fun k hk e => by rcases e with e | e; exact e; omega
  · exact ((hA.upd h3 (fun k h1 h2 => by show ¬ k = w.heap.size; omega)).nw (nw_alloc _ _)).nw (nw_drewN (Below.refl _ _) nq)
theorem fin_cells {w1 wA : World} {b : Nat} (hn : w1.heap.size ≤ wA.heap.size) (hb : b < w1.heap.size) {a0 a1 a2 : Value} (c0 : wA.cell? ⟨b, 0, none⟩ = some a0) (c1 : wA.cell? ⟨b, 1, none⟩ = some a1) (c2 : wA.cell? ⟨b, 2, none⟩ = some a2) (x y z : Value) (o : Obj) (nq : Nat) :
    (((set3 wA b x y z).alloc o).drewN nq).cell? ⟨b, 0, none⟩ = some x ∧ (((set3 wA b x y z).alloc o).drewN nq).cell? ⟨b, 1, none⟩ = some y ∧ (((set3 wA b x y z).alloc o).drewN nq).cell? ⟨b, 2, none⟩ = some z := by
  obtain ⟨e0, e1, e2⟩ := set3_cells c0 c1 c2 x y z
  have hl : b < (set3 wA b x y z).heap.size := Nat.lt_of_lt_of_le (Nat.lt_of_lt_of_le hb hn) (set3_upd wA b x y z).size
  exact ⟨(World.cell?_alloc_past _ _ _ hl).trans e0, (World.cell?_alloc_past _ _ _ hl).trans e1, (World.cell?_alloc_past _ _ _ hl).trans e2⟩
theorem set_far {w : World} {R b j k : Nat} {v : Value} (h : R ≠ b) : (w.setCell ⟨R, j, none⟩ v).cell? ⟨b, k, none⟩ = w.cell? ⟨b, k, none⟩ := World.cell?_setCell_other _ _ _ _ (fun e => h (by injection e))
theorem set_off {w : World} {R j k : Nat} {v : Value} (h : j ≠ k) : (w.setCell ⟨R, j, none⟩ v).cell? ⟨R, k, none⟩ = w.cell? ⟨R, k, none⟩ := World.cell?_setCell_other _ _ _ _ (fun e => h (by injection e))

set_option maxHeartbeats 3000000 in
theorem next_ready (lo hi S R : Nat) (c : Nat) (l : List Cl) (i m s : Nat) (w : World) (h : SI w lo hi S (some ⟨R, 0, none⟩) c l) (hx : l[i]? = some (m, s)) (hs : s < 3 * m) :
    Calls Try.prog 11 #[.pointer (some ⟨S, 0, none⟩), .int .i64 i] w fun e w' => e = .returned (.tuple #[stepV i (s / 3 : Nat) (s % 3 + 1 : Nat), .int .i64 0]) ∧ Upd (fun k => k = R) w w' ∧ SI w' lo hi S (some ⟨R, 0, none⟩) c (l.set i (m, s + 1)) := by
  have HA := Lib.hid (fun W hn => at_ready lo hi S R c l i m s W (h.nw hn) hx hs)
  have HF := Lib.hid (fun W hn => find_ready lo hi S R c l i m s W (h.nw hn) hx hs)
  obtain ⟨R', e, hR1, hR2, hRS, c0, c1, c2, hf⟩ := h.row i m s hx
  injection e with e
  injection e with e
  subst e
  have hz : R < w.heap.size := by have := h.H; omega
  have hm := (h.ok i m s hx).2
  have H := Lib.hid h
  have HX := Lib.hid hx
  have HC := Lib.hid (And.intro c0 (And.intro c1 (And.intro c2 hf)))
  have hq : s / 3 ≤ 100000 := by omega
  have h3 : s % 3 = 0 ∨ s % 3 = 1 ∨ s % 3 = 2 := by omega
  have HS := Lib.hid hs
  clear h hx hR1 hR2 hRS c0 c1 c2 hf hs
  rcases h3 with h3 | h3 | h3
  · have HQ : Hid ((s + 1) / 3 = s / 3 ∧ (s + 1) % 3 + 1 = 2) := by unfold Hid; omega
    rw [h3, show ((0 + 1 : Nat) : Int) = 1 from rfl] at HA HC ⊢
    generalize hqq : s / 3 = q at *
    have HQQ := Lib.hid hqq
    clear hqq
    go_enter Try.func11, Try.ntmps11
    go_wp2_with fail
    refine (HA.out _ (nw_alloc _ _)).mono ?_
    rintro e w1 ⟨rfl, hd⟩
    have r0 : w1.cell? ⟨w.heap.size, 0, none⟩ = some (.int .i64 0) := by rw [hd.cell (by simp), alloc_cell_new rfl]; rfl
    have r1 : w1.cell? ⟨w.heap.size, 1, none⟩ = some (.int .i64 0) := by rw [hd.cell (by simp), alloc_cell_new rfl]; rfl
    have r2 : w1.cell? ⟨w.heap.size, 2, none⟩ = some (.int .i64 0) := by rw [hd.cell (by simp), alloc_cell_new rfl]; rfl
    have g0 : w1.frozen? ⟨w.heap.size, 0, none⟩ = false := by rw [hd.frozen (by simp)]; exact World.frozen?_alloc_at _ _ _ _ rfl
    have g1 : w1.frozen? ⟨w.heap.size, 1, none⟩ = false := by rw [hd.frozen (by simp)]; exact World.frozen?_alloc_at _ _ _ _ rfl
    have g2 : w1.frozen? ⟨w.heap.size, 2, none⟩ = false := by rw [hd.frozen (by simp)]; exact World.frozen?_alloc_at _ _ _ _ rfl
    have HN : Hid (Nw w w1) := (nw_alloc _ _).then_ hd
    have c1 := (HN.out.cell (p := ⟨R, i * 3 + 1, none⟩) hz).trans HC.out.2.1
    have c2 := (HN.out.cell (p := ⟨R, i * 3 + 2, none⟩) hz).trans HC.out.2.2.1
    have f1 := (HN.out.frozen (p := ⟨R, i * 3 + 1, none⟩) hz).trans (HC.out.2.2.2 _)
    have f2 := (HN.out.frozen (p := ⟨R, i * 3 + 2, none⟩) hz).trans (HC.out.2.2.2 _)
    have hz1 := hd.size
    simp at hz1
    have hz2 : w.heap.size < w1.heap.size := by omega
    have hzR : R < w1.heap.size := by omega
    have hne : w.heap.size ≠ R := by omega
    clear hd HA
    go_wp2_with fail
    refine (HF.out _ (HN.out.then_ (nw_alloc _ _))).mono ?_
    rintro e w2 ⟨rfl, nq, rfl⟩
    go_wp2
    obtain ⟨wf, hwf⟩ : ∃ wf : World, wf = (((((w1.setCell ⟨R, i * 3 + 2, none⟩ (.int .i64 2)).setCell ⟨w.heap.size, 0, none⟩ (.int .i64 i)).setCell ⟨w.heap.size, 1, none⟩ (.int .i64 q)).setCell ⟨w.heap.size, 2, none⟩ (.int .i64 1)).alloc (.cells #[.int .i64 i, .int .i64 q, .int .i64 1] 32)).drewN nq := ⟨_, rfl⟩
    rw [← hwf]
    have hcs : s = 3 * q + 0 := by have := HQQ.out; omega
    have fn := next_fin (wA := w1.setCell ⟨R, i * 3 + 2, none⟩ (.int .i64 2)) H.out HX.out HN.out (s + 1) (by have := HS.out; omega) (Upd.set1 _ _ _ _)
      (by rw [set_off (by omega), c1, show (s + 1) / 3 = q by omega]) (by rw [cell_set_same c2, show (s + 1) % 3 + 1 = 2 by omega]; rfl) (fun j h1 h2 => set_off (by omega)) (fun j => World.frozen?_setCell ..) (.int .i64 i) (.int .i64 q) (.int .i64 1) (.cells #[.int .i64 i, .int .i64 q, .int .i64 1] 32) nq
    have fc := fin_cells (w1 := w1) (wA := w1.setCell ⟨R, i * 3 + 2, none⟩ (.int .i64 2)) (Upd.set1 _ _ _ _).size hz2 ((set_far (Ne.symm hne)).trans r0) ((set_far (Ne.symm hne)).trans r1) ((set_far (Ne.symm hne)).trans r2) (.int .i64 i) (.int .i64 q) (.int .i64 1) (.cells #[.int .i64 i, .int .i64 q, .int .i64 1] 32) nq
    unfold set3 at fn fc
    rw [← hwf] at fn fc
    obtain ⟨e0, e1, e2⟩ := fc
    exact bodyPost_ret (v := .tuple #[stepV i q 1, .int .i64 0]) (by simp [results, Try.results11, go_sem, e0, e1, e2]) rfl ⟨rfl, fn⟩
  · have HQ : Hid ((s + 1) / 3 = s / 3 ∧ (s + 1) % 3 + 1 = 3) := by unfold Hid; omega
    rw [h3, show ((1 + 1 : Nat) : Int) = 2 from rfl] at HA HC ⊢
    generalize hqq : s / 3 = q at *
    have HQQ := Lib.hid hqq
    clear hqq
    go_enter Try.func11, Try.ntmps11
    go_wp2_with fail
    refine (HA.out _ (nw_alloc _ _)).mono ?_
    rintro e w1 ⟨rfl, hd⟩
    have r0 : w1.cell? ⟨w.heap.size, 0, none⟩ = some (.int .i64 0) := by rw [hd.cell (by simp), alloc_cell_new rfl]; rfl
    have r1 : w1.cell? ⟨w.heap.size, 1, none⟩ = some (.int .i64 0) := by rw [hd.cell (by simp), alloc_cell_new rfl]; rfl
    have r2 : w1.cell? ⟨w.heap.size, 2, none⟩ = some (.int .i64 0) := by rw [hd.cell (by simp), alloc_cell_new rfl]; rfl
    have g0 : w1.frozen? ⟨w.heap.size, 0, none⟩ = false := by rw [hd.frozen (by simp)]; exact World.frozen?_alloc_at _ _ _ _ rfl
    have g1 : w1.frozen? ⟨w.heap.size, 1, none⟩ = false := by rw [hd.frozen (by simp)]; exact World.frozen?_alloc_at _ _ _ _ rfl
    have g2 : w1.frozen? ⟨w.heap.size, 2, none⟩ = false := by rw [hd.frozen (by simp)]; exact World.frozen?_alloc_at _ _ _ _ rfl
    have HN : Hid (Nw w w1) := (nw_alloc _ _).then_ hd
    have c1 := (HN.out.cell (p := ⟨R, i * 3 + 1, none⟩) hz).trans HC.out.2.1
    have c2 := (HN.out.cell (p := ⟨R, i * 3 + 2, none⟩) hz).trans HC.out.2.2.1
    have f1 := (HN.out.frozen (p := ⟨R, i * 3 + 1, none⟩) hz).trans (HC.out.2.2.2 _)
    have f2 := (HN.out.frozen (p := ⟨R, i * 3 + 2, none⟩) hz).trans (HC.out.2.2.2 _)
    have hz1 := hd.size
    simp at hz1
    have hz2 : w.heap.size < w1.heap.size := by omega
    have hzR : R < w1.heap.size := by omega
    have hne : w.heap.size ≠ R := by omega
    clear hd HA
    go_wp2_with fail
    refine (HF.out _ (HN.out.then_ (nw_alloc _ _))).mono ?_
    rintro e w2 ⟨rfl, nq, rfl⟩
    go_wp2
    obtain ⟨wf, hwf⟩ : ∃ wf : World, wf = (((((w1.setCell ⟨R, i * 3 + 2, none⟩ (.int .i64 3)).setCell ⟨w.heap.size, 0, none⟩ (.int .i64 i)).setCell ⟨w.heap.size, 1, none⟩ (.int .i64 q)).setCell ⟨w.heap.size, 2, none⟩ (.int .i64 2)).alloc (.cells #[.int .i64 i, .int .i64 q, .int .i64 2] 32)).drewN nq := ⟨_, rfl⟩
    rw [← hwf]
    have hcs : s = 3 * q + 1 := by have := HQQ.out; omega
    have fn := next_fin (wA := w1.setCell ⟨R, i * 3 + 2, none⟩ (.int .i64 3)) H.out HX.out HN.out (s + 1) (by have := HS.out; omega) (Upd.set1 _ _ _ _)
      (by rw [set_off (by omega), c1, show (s + 1) / 3 = q by omega]) (by rw [cell_set_same c2, show (s + 1) % 3 + 1 = 3 by omega]; rfl) (fun j h1 h2 => set_off (by omega)) (fun j => World.frozen?_setCell ..) (.int .i64 i) (.int .i64 q) (.int .i64 2) (.cells #[.int .i64 i, .int .i64 q, .int .i64 2] 32) nq
    have fc := fin_cells (w1 := w1) (wA := w1.setCell ⟨R, i * 3 + 2, none⟩ (.int .i64 3)) (Upd.set1 _ _ _ _).size hz2 ((set_far (Ne.symm hne)).trans r0) ((set_far (Ne.symm hne)).trans r1) ((set_far (Ne.symm hne)).trans r2) (.int .i64 i) (.int .i64 q) (.int .i64 2) (.cells #[.int .i64 i, .int .i64 q, .int .i64 2] 32) nq
    unfold set3 at fn fc
    rw [← hwf] at fn fc
    obtain ⟨e0, e1, e2⟩ := fc
    exact bodyPost_ret (v := .tuple #[stepV i q 2, .int .i64 0]) (by simp [results, Try.results11, go_sem, e0, e1, e2]) rfl ⟨rfl, fn⟩
  · have HQ : Hid ((s + 1) / 3 = s / 3 + 1 ∧ (s + 1) % 3 + 1 = 1) := by unfold Hid; omega
    rw [h3, show ((2 + 1 : Nat) : Int) = 3 from rfl] at HA HC ⊢
    generalize hqq : s / 3 = q at *
    have HQQ := Lib.hid hqq
    clear hqq
    go_enter Try.func11, Try.ntmps11
    go_wp2_with fail
    refine (HA.out _ (nw_alloc _ _)).mono ?_
    rintro e w1 ⟨rfl, hd⟩
    have r0 : w1.cell? ⟨w.heap.size, 0, none⟩ = some (.int .i64 0) := by rw [hd.cell (by simp), alloc_cell_new rfl]; rfl
    have r1 : w1.cell? ⟨w.heap.size, 1, none⟩ = some (.int .i64 0) := by rw [hd.cell (by simp), alloc_cell_new rfl]; rfl
    have r2 : w1.cell? ⟨w.heap.size, 2, none⟩ = some (.int .i64 0) := by rw [hd.cell (by simp), alloc_cell_new rfl]; rfl
    have g0 : w1.frozen? ⟨w.heap.size, 0, none⟩ = false := by rw [hd.frozen (by simp)]; exact World.frozen?_alloc_at _ _ _ _ rfl
    have g1 : w1.frozen? ⟨w.heap.size, 1, none⟩ = false := by rw [hd.frozen (by simp)]; exact World.frozen?_alloc_at _ _ _ _ rfl
    have g2 : w1.frozen? ⟨w.heap.size, 2, none⟩ = false := by rw [hd.frozen (by simp)]; exact World.frozen?_alloc_at _ _ _ _ rfl
    have HN : Hid (Nw w w1) := (nw_alloc _ _).then_ hd
    have c1 := (HN.out.cell (p := ⟨R, i * 3 + 1, none⟩) hz).trans HC.out.2.1
    have c2 := (HN.out.cell (p := ⟨R, i * 3 + 2, none⟩) hz).trans HC.out.2.2.1
    have f1 := (HN.out.frozen (p := ⟨R, i * 3 + 1, none⟩) hz).trans (HC.out.2.2.2 _)
    have f2 := (HN.out.frozen (p := ⟨R, i * 3 + 2, none⟩) hz).trans (HC.out.2.2.2 _)
    have hz1 := hd.size
    simp at hz1
    have hz2 : w.heap.size < w1.heap.size := by omega
    have hzR : R < w1.heap.size := by omega
    have hne : w.heap.size ≠ R := by omega
    clear hd HA
    go_wp2_with fail
    refine (HF.out _ (HN.out.then_ (nw_alloc _ _))).mono ?_
    rintro e w2 ⟨rfl, nq, rfl⟩
    go_wp2
    obtain ⟨wf, hwf⟩ : ∃ wf : World, wf = ((((((w1.setCell ⟨R, i * 3 + 1, none⟩ (.int .i64 ((q : Int) + 1))).setCell ⟨R, i * 3 + 2, none⟩ (.int .i64 1)).setCell ⟨w.heap.size, 0, none⟩ (.int .i64 i)).setCell ⟨w.heap.size, 1, none⟩ (.int .i64 q)).setCell ⟨w.heap.size, 2, none⟩ (.int .i64 3)).alloc (.cells #[.int .i64 i, .int .i64 q, .int .i64 3] 32)).drewN nq := ⟨_, rfl⟩
    rw [← hwf]
    have hcs : s = 3 * q + 2 := by have := HQQ.out; omega
    have fn := next_fin (wA := (w1.setCell ⟨R, i * 3 + 1, none⟩ (.int .i64 ((q : Int) + 1))).setCell ⟨R, i * 3 + 2, none⟩ (.int .i64 1)) H.out HX.out HN.out (s + 1) (by have := HS.out; omega) ((Upd.set1 _ _ _ _).trans (Upd.set1 _ _ _ _))
      (by rw [set_off (by omega), cell_set_same c1, show (s + 1) / 3 = q + 1 by omega]; rfl) (by rw [cell_set_same ((set_off (by omega)).trans c2), show (s + 1) % 3 + 1 = 1 by omega]; rfl) (fun j h1 h2 => (set_off (by omega)).trans (set_off (by omega))) (fun j => (World.frozen?_setCell ..).trans (World.frozen?_setCell ..)) (.int .i64 i) (.int .i64 q) (.int .i64 3) (.cells #[.int .i64 i, .int .i64 q, .int .i64 3] 32) nq
    have fc := fin_cells (w1 := w1) (wA := (w1.setCell ⟨R, i * 3 + 1, none⟩ (.int .i64 ((q : Int) + 1))).setCell ⟨R, i * 3 + 2, none⟩ (.int .i64 1)) ((Upd.set1 _ _ _ _).trans (Upd.set1 _ _ _ _)).size hz2 ((set_far (Ne.symm hne)).trans ((set_far (Ne.symm hne)).trans r0)) ((set_far (Ne.symm hne)).trans ((set_far (Ne.symm hne)).trans r1)) ((set_far (Ne.symm hne)).trans ((set_far (Ne.symm hne)).trans r2)) (.int .i64 i) (.int .i64 q) (.int .i64 3) (.cells #[.int .i64 i, .int .i64 q, .int .i64 3] 32) nq
    unfold set3 at fn fc
    rw [← hwf] at fn fc
    obtain ⟨e0, e1, e2⟩ := fc
    exact bodyPost_ret (v := .tuple #[stepV i q 3, .int .i64 0]) (by simp [results, Try.results11, go_sem, e0, e1, e2]) rfl ⟨rfl, fn⟩
end Go.Proofs.Ytemnopfcddcekaa
