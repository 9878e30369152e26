/- Contracts: the document's Get. -/
import Derived.Test.YteafmljogijdgaaS4
namespace Go.Proofs.Yteafmljogijdgaa
open Go.RowKit

/-- The world is the old one, orders having been drawn. -/
def Drawn (w w' : World) : Prop := ∃ n, w' = w.drewN n
theorem Drawn.refl (w : World) : Drawn w w := ⟨0, rfl⟩
theorem Drawn.then_ {w w' : World} (h : Drawn w w') (n : Nat) : Drawn w (w'.drewN n) := by
  obtain ⟨m, rfl⟩ := h
  exact ⟨m + n, World.drewN_drewN ..⟩
theorem Drawn.cell {w w' : World} (h : Drawn w w') (a : Addr) : w'.cell? a = w.cell? a := by
  obtain ⟨m, rfl⟩ := h
  rfl
theorem Drawn.nw {w w' : World} (h : Drawn w w') : Below w.heap.size w w' := by
  obtain ⟨m, rfl⟩ := h
  exact ⟨rfl, rfl, rfl, Nat.le_refl _, fun _ _ => rfl⟩

def RGetPost (v : Int) (b : Bool) (w : World) (e : Ending) (w' : World) : Prop := e = .returned (.tuple #[.int .i64 v, .bool b]) ∧ Nw w w'

theorem nw_drewN {w w1 : World} (h : Nw w w1) (n : Nat) : Nw w (w1.drewN n) := ⟨h.os, h.tape, h.output, h.size, h.block⟩

set_option maxHeartbeats 1600000 in
theorem rget_no (s : ByteArray) (st ln : Int) (big sg : Bool) (w : World) (h : rightB st ln s.size = false) :
    Calls Try.prog 9 #[.string s, fld st ln big sg] w (RGetPost 0 false w) := by
  have H := Lib.hid h
  clear h
  go_enter Try.func9, Try.ntmps9
  go_wp2_with fail
  refine (rright_any _ _ _ _ _ _).mono ?_
  rintro e w1 ⟨rfl, hb⟩
  rw [H.out]
  go_wp2
  go_ret2
  exact ⟨rfl, ((Below.refl _ w).alloc (Nat.le_refl _) _).trans (hb.mono (by simp))⟩

theorem obit_q (s : ByteArray) (k : Nat) (b : Bool) (h : bitB s k = b) : ∀ W, Calls Try.prog 16 #[.string s, .int .i64 ((k : Int) / 8), .int .i64 ((k : Int) % 8)] W fun e w' => e = .returned (.bool b) ∧ w' = W :=
  fun W => (obit_any s k _ _ rfl rfl W).mono fun _ _ ⟨h1, h2⟩ => ⟨by rw [h1, h], h2.symm⟩

set_option maxHeartbeats 4000000 in
theorem rget_yes (s : ByteArray) (st ln : Nat) (big sg : Bool) (w : World) (h : rightB st ln s.size = true) :
    Calls Try.prog 9 #[.string s, fld st ln big sg] w (RGetPost (getI s st ln big sg) true w) := by
  have hr := h
  simp only [rightB, decide_eq_true_eq] at hr
  obtain ⟨_, hr1, hr2, hr3, _, hr4⟩ := hr
  have H := Lib.hid h
  clear h
  have hsz : st + ln ≤ 8 * s.size := by omega
  have hln1 : 1 ≤ ln := by omega
  have hln2 : ln ≤ 60 := by omega
  have hsz2 : s.size ≤ 64 := by omega
  clear hr1 hr2 hr3 hr4
  go_enter Try.func9, Try.ntmps9
  go_wp2_with fail
  refine (rright_any _ _ _ _ _ _).mono ?_
  rintro e w1 ⟨rfl, hb⟩
  rw [H.out]
  have hb1 := hb.at_
  have hz := hb1.size
  simp at hz
  have c0 : ∀ o, w1.cell? ⟨w.heap.size, o, none⟩ = (w.alloc (fcells st ln big sg)).cell? ⟨w.heap.size, o, none⟩ := fun o => hb1.cell (by simp)
  have d0 : w1.cell? ⟨w.heap.size, 0, none⟩ = some (.int .i64 st) := by rw [c0, alloc_cell_new rfl]; rfl
  have d1 : w1.cell? ⟨w.heap.size, 1, none⟩ = some (.int .i64 ln) := by rw [c0, alloc_cell_new rfl]; rfl
  have d2 : w1.cell? ⟨w.heap.size, 2, none⟩ = some (.bool big) := by rw [c0, alloc_cell_new rfl]; rfl
  have d3 : w1.cell? ⟨w.heap.size, 3, none⟩ = some (.bool sg) := by rw [c0, alloc_cell_new rfl]; rfl
  have HB : Hid (Nw w w1) := ((Below.refl _ w).alloc (Nat.le_refl _) _).trans (hb1.mono (by simp))
  clear c0 hb hb1
  go_wp2_with fail
  refine (rbits_yes st ln big sg hln1 hln2 (by omega) _).mono ?_
  rintro e w2 ⟨v, rfl, hown, hb2⟩
  obtain ⟨g, cap, rfl, hg1, hg2⟩ := hown.form (by omega)
  have hcell : ∀ j, j < ln → w2.cell? ⟨g, j, none⟩ = some (.int .i64 (posN st ln big j : Nat)) := by
    intro j hj
    have := hown.cells (g := g) rfl j (.int .i64 (posN st ln big j : Nat)) (by simp [posL, hj])
    rwa [show (⟨g, 0, none⟩ : Addr).add j = ⟨g, j, none⟩ from by unfold Addr.add; split <;> simp_all] at this
  have e1 := (hb2.cell (p := ⟨w.heap.size, 1, none⟩) (by show w.heap.size < w1.heap.size; omega)).trans d1
  have e3 := (hb2.cell (p := ⟨w.heap.size, 3, none⟩) (by show w.heap.size < w1.heap.size; omega)).trans d3
  have HB2 : Hid (Nw w w2) := HB.out.then_ hb2
  have HCELL := Lib.hid hcell
  clear hown hb2 hcell d0 d1 d2 d3 hz HB hg1 hg2
  go_wp2
  go_loopw [7, 8] (fun n i wr => ∃ k : Nat, k ≤ ln ∧ i = .int .i64 k ∧ n = .int .i64 (accN s (posN st ln big) k : Nat) ∧ Drawn w2 wr) (fun _ i _ => ln - (intOf i).toNat)
  case atStart => exact ⟨0, Nat.zero_le _, rfl, rfl, Drawn.refl _⟩
  case round =>
    obtain ⟨k, hk, rfl, rfl, HD⟩ := hrel
    by_cases hlt : k < ln
    · have hck := (HD.cell ⟨g, k, none⟩).trans (HCELL.out k hlt)
      have hp := posN_lt (n := s.size) big hlt hsz
      have hacc := accN_lt s (posN st ln big) k
      have hp60 := pow_le60 (k := k) (by omega)
      have hstep : accN s (posN st ln big) (k + 1) = stepN s (posN st ln big k) k (accN s (posN st ln big) k) := rfl
      have hstep2 : stepN s (posN st ln big k) k (accN s (posN st ln big) k) = accN s (posN st ln big) k + if bitB s (posN st ln big k) then 2 ^ k else 0 := rfl
      generalize accN s (posN st ln big) k = N at *
      generalize posN st ln big k = p at *
      have HS : Hid (accN s (posN st ln big) (k + 1) = N + if bitB s p then 2 ^ k else 0) := hstep.trans hstep2
      clear hstep hstep2
      have hN : N < 1152921504606846976 := by omega
      have hw1 : IntKind.i64.wrap ((p : Int) / 8) = (p : Int) / 8 := IntWalk.i64_in _ (by omega)
      have hw2 : (p : Int).tmod 8 = (p : Int) % 8 := by rw [Int.tmod_eq_emod_of_nonneg (by omega)]
      cases hbit : bitB s p
      · have HQ := Lib.hid (obit_q s p false hbit)
        have HS' : Hid (accN s (posN st ln big) (k + 1) = N) := by have := HS.out; rw [hbit] at this; exact this
        clear hbit HS
        go_wp2_with fail
        go_quiet ((go_at_call 16; exact Calls.quiet_of_same (HQ.out _)))
        clear hw1 hw2
        have HD' := HD.then_ nq
        generalize wr.drewN nq = w3 at *
        clear hck HD
        go_wp2
        go_roundw
        case rel => exact ⟨k + 1, by omega, by go_num, by rw [HS'.out], HD'⟩
        case measure => simp [intOf]; omega
      · have HQ := Lib.hid (obit_q s p true hbit)
        have HS' : Hid (accN s (posN st ln big) (k + 1) = N + 2 ^ k) := by have := HS.out; rw [hbit] at this; exact this
        clear hbit HS
        go_wp2_with fail
        go_quiet ((go_at_call 16; exact Calls.quiet_of_same (HQ.out _)))
        clear hw1 hw2
        have HD' := HD.then_ nq
        generalize wr.drewN nq = w3 at *
        clear hck HD
        go_wp2_with fail
        refine (power_any k (by omega) _).mono ?_
        rintro e w4 ⟨rfl, rfl⟩
        have HS2 : Hid (accN s (posN st ln big) (k + 1) = N + 2 ^ k) := HS'
        generalize 2 ^ k = q at *
        clear HS'
        go_wp2
        go_roundw
        case rel => exact ⟨k + 1, by omega, by go_num, by rw [HS2.out]; go_num, HD'⟩
        case measure => simp [intOf]; omega
    · have e : k = ln := by omega
      subst e
      have hacc := accN_lt s (posN st k big) k
      have hp60 := pow_le60 (k := k) (by omega)
      have hgv : getI s st k big sg = if sg && bitB s (posN st k big (k - 1)) then (accN s (posN st k big) k : Int) - 2 ^ k else accN s (posN st k big) k := rfl
      have hck := (HD.cell ⟨g, k - 1, none⟩).trans (HCELL.out (k - 1) (by omega))
      have hp := posN_lt (n := s.size) big (i := k - 1) (by omega) hsz
      have f1 := (HD.cell ⟨w.heap.size, 1, none⟩).trans e1
      have f3 := (HD.cell ⟨w.heap.size, 3, none⟩).trans e3
      generalize accN s (posN st k big) k = N at *
      generalize posN st k big (k - 1) = p at *
      have HGV := Lib.hid hgv
      clear hgv
      have hN : N < 1152921504606846976 := by omega
      have hw1 : IntKind.i64.wrap ((p : Int) / 8) = (p : Int) / 8 := IntWalk.i64_in _ (by omega)
      have hw2 : (p : Int).tmod 8 = (p : Int) % 8 := by rw [Int.tmod_eq_emod_of_nonneg (by omega)]
      have hw3 : IntKind.i64.wrap ((k : Int) - 1) = (k : Int) - 1 := IntWalk.i64_in _ (by omega)
      have hk0 : (0 : Int) ≤ (k : Int) - 1 := by omega
      have hk1 : ((k : Int) - 1).toNat = k - 1 := by omega
      have HB3 : Hid (Nw w wr) := HB2.out.then_ HD.nw
      clear HD HB2 HCELL e1 e3
      cases sg
      · go_wp2_with fail
        go_quiet (fail)
        clear hw1 hw2 hw3 hk1
        have HB4 : Hid (Nw w (wr.drewN nq)) := nw_drewN HB3.out nq
        generalize wr.drewN nq = w3 at *
        clear HB3
        go_wp2
        go_ret2
        exact ⟨by rw [HGV.out]; rfl, HB4.out⟩
      · cases hbit : bitB s p
        · have HQ := Lib.hid (obit_q s p false hbit)
          have HG2 : Hid (getI s st k big true = (N : Int)) := by have := HGV.out; rw [hbit] at this; exact this
          clear hbit HGV
          go_wp2_with fail
          go_quiet ((go_at_call 16; exact Calls.quiet_of_same (HQ.out _)))
          clear hw1 hw2 hw3 hk1
          have HB4 : Hid (Nw w (wr.drewN nq)) := nw_drewN HB3.out nq
          generalize wr.drewN nq = w3 at *
          clear HB3
          go_wp2
          go_ret2
          exact ⟨by rw [HG2.out]; rfl, HB4.out⟩
        · have HQ := Lib.hid (obit_q s p true hbit)
          have HG2 : Hid (getI s st k big true = (N : Int) - 2 ^ k) := by have := HGV.out; rw [hbit] at this; exact this
          clear hbit HGV
          go_wp2_with fail
          go_quiet ((go_at_call 16; exact Calls.quiet_of_same (HQ.out _)))
          clear hw1 hw2 hw3 hk1
          have HB4 : Hid (Nw w (wr.drewN nq)) := nw_drewN HB3.out nq
          have g1 : (wr.drewN nq).cell? ⟨w.heap.size, 1, none⟩ = some (.int .i64 k) := f1
          generalize wr.drewN nq = w3 at *
          clear HB3 f1 f3 hck
          go_wp2_with fail
          refine (power_any k (by omega) _).mono ?_
          rintro e w4 ⟨rfl, rfl⟩
          rw [show ((2 : Int) ^ k) = ((2 ^ k : Nat) : Int) from by push_cast; rfl] at HG2
          generalize 2 ^ k = q at *
          go_wp2
          go_ret2
          exact ⟨by rw [HG2.out]; rfl, HB4.out⟩
end Go.Proofs.Yteafmljogijdgaa
