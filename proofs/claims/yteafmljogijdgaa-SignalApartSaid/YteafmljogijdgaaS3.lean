/- Contracts: signal.Get. -/
import Derived.Test.YteafmljogijdgaaS2
namespace Go.Proofs.Yteafmljogijdgaa
open Go.RowKit

theorem cell_set_same {w : World} {b o : Nat} {v u : Value} (h : w.cell? ⟨b, o, none⟩ = some u) : (w.setCell ⟨b, o, none⟩ v).cell? ⟨b, o, none⟩ = some v := by
  unfold World.cell? at h ⊢
  unfold World.setCell
  simp only [Array.getElem?_modify, if_true]
  cases hh : w.heap[b]? with
  | none => rw [hh] at h; cases h
  | some ob =>
    rw [hh] at h
    cases ob <;> simp at h ⊢
    rw [Array.getElem?_eq_some_iff] at h
    obtain ⟨hlt, _⟩ := h
    rw [Array.getElem?_setIfInBounds_self_of_lt hlt]
theorem frozen_set {w : World} {p q : Addr} {v : Value} : (w.setCell p v).frozen? q = w.frozen? q := World.frozen?_setCell ..

set_option maxHeartbeats 800000 in
theorem get1_any (i b n : Nat) (s : ByteArray) (Bn Bs : Nat) (w : World) (hi : i < 60) (hb : b / 8 < s.size) (hb2 : b < 512) (hnn : n < 2 ^ i)
    (hn : w.cell? ⟨Bn, 0, none⟩ = some (.int .i64 n)) (hf : w.frozen? ⟨Bn, 0, none⟩ = false) (hs : w.cell? ⟨Bs, 0, none⟩ = some (.string s)) :
    Calls Try.prog 21 #[.int .i64 i, .int .i64 b, .pointer (some ⟨Bn, 0, none⟩), .pointer (some ⟨Bs, 0, none⟩)] w fun e w' => e = .returned (.tuple #[]) ∧
      w' = (w.setCell ⟨Bn, 0, none⟩ (.int .i64 (stepN s b i n : Nat))).drew := by
  have hfin : (bits BinOp.or IntKind.i64 (n : Int) (wrap64 (wrap64 (bits BinOp.and IntKind.u8 ((((s[b / 8]'hb).toNat : Nat) : Int) / 2 ^ (b % 8)) 1) * 2 ^ i))) = (stepN s b i n : Nat) := by
    unfold stepN
    have h1 := (s[b / 8]'hb).toNat_lt
    have e1 : (((s[b / 8]'hb).toNat : Int) / 2 ^ (b % 8)) = (((s[b / 8]'hb).toNat / 2 ^ (b % 8) : Nat) : Int) := by push_cast; rfl
    have h2 : (s[b / 8]'hb).toNat / 2 ^ (b % 8) ≤ (s[b / 8]'hb).toNat := Nat.div_le_self _ _
    rw [e1, and_one_u8 _ (Int.natCast_nonneg _) (by have := Int.ofNat_le.2 h2; have := Int.ofNat_lt.2 h1; omega)]
    have e2 : ((((s[b / 8]'hb).toNat / 2 ^ (b % 8) : Nat) : Int) % 2) = (((s[b / 8]'hb).toNat / 2 ^ (b % 8) % 2 : Nat) : Int) := by push_cast; rfl
    rw [e2, bit_num s b hb]
    have hp := pow_le60 (k := i) (by omega)
    have hp0 := Nat.two_pow_pos i
    have e3 : wrap64 (((if bitB s b = true then 1 else 0 : Nat) : Nat) : Int) = ((if bitB s b = true then 1 else 0 : Nat) : Int) := by
      apply IntWalk.wrap64_in
      split <;> omega
    rw [e3]
    have e4 : ((if bitB s b = true then 1 else 0 : Nat) : Int) * 2 ^ i = (((if bitB s b = true then 1 else 0) * 2 ^ i : Nat) : Int) := by push_cast; rfl
    have e5 : wrap64 (((if bitB s b = true then 1 else 0) * 2 ^ i : Nat) : Int) = (((if bitB s b = true then 1 else 0) * 2 ^ i : Nat) : Int) := by
      apply IntWalk.wrap64_in
      split <;> simp only [Nat.zero_mul, Nat.one_mul] <;> omega
    rw [e4, e5, ← e4, or_i64 n _ i (by omega) hnn (by split <;> omega)]
    split <;> simp
  have HF := Lib.hid hfin
  clear hfin
  have hx : (0 : Int) ≤ (b : Int) / 8 ∧ (b : Int) / 8 < (s.size : Int) := by omega
  have hw1 : IntKind.i64.wrap ((b : Int) / 8) = (b : Int) / 8 := IntWalk.i64_in _ (by omega)
  have hw2 : (b : Int).tmod 8 = (b : Int) % 8 := by rw [Int.tmod_eq_emod_of_nonneg (by omega)]
  have hw3 : (0 : Int) ≤ (b : Int) % 8 := by omega
  go_enter Try.func21, Try.ntmps21
  refine wp_region_still_tail 13 (by kernel_rfl) (by kernel_rfl) ?_
  change wpStill _ _ w.drew (fun a' => wpList _ _ _ _ a' w.drew) _ _
  simp only [List.take_succ_cons, List.take_zero, List.drop_succ_cons, List.drop_zero]
  iterate 13 still_step
  refine wpStill_nil ?_
  clear hw1 hw2
  go_wp2
  go_end0
  refine ⟨rfl, ?_⟩
  rw [← HF.out]

def GetPost (v k : Int) (w : World) (e : Ending) (w' : World) : Prop := e = .returned (.tuple #[.int .i64 v, .int .i64 k]) ∧ Nw w w'

set_option maxHeartbeats 1600000 in
theorem get_no (s : ByteArray) (st ln : Int) (big sg : Bool) (w : World) (h : rightB st ln s.size = false) :
    Calls Try.prog 8 #[.string s, fld st ln big sg] w (GetPost 0 2 w) := by
  have H := Lib.hid h
  clear h
  go_enter Try.func8, Try.ntmps8
  go_wp2_with fail
  refine (right_any _ _ _ _ _ _).mono ?_
  rintro e w1 ⟨rfl, hb⟩
  rw [H.out]
  go_wp2
  go_ret2
  exact ⟨rfl, (((Below.refl _ w).alloc (Nat.le_refl _) _).alloc (by simp) _).trans (hb.mono (by simp; omega))⟩

theorem wrap_sub (a b : Int) (h0 : 0 ≤ a) (h1 : a < 1152921504606846976) (h2 : 0 ≤ b) (h3 : b ≤ 1152921504606846976) : wrap64 (a - wrap64 b) = a - b := by
  rw [IntWalk.wrap64_in b (by omega), IntWalk.wrap64_in (a - b) (by omega)]
theorem wrap_pow (N ln : Nat) (h : 2 ^ ln ≤ 1152921504606846976) (hN : N < 1152921504606846976) : wrap64 ((N : Int) - wrap64 ((2 : Int) ^ ln)) = (N : Int) - 2 ^ ln := by
  have e : ((2 : Int) ^ ln) = ((2 ^ ln : Nat) : Int) := by push_cast; rfl
  rw [e]
  generalize 2 ^ ln = p at h
  exact wrap_sub _ _ (by omega) (by omega) (by omega) (by omega)
structure GInv (s : ByteArray) (p : Nat → Nat) (Bn Bs : Nat) (i : Nat) (W : World) : Prop where
  n : W.cell? ⟨Bn, 0, none⟩ = some (.int .i64 (accN s p i : Nat))
  f : W.frozen? ⟨Bn, 0, none⟩ = false
  s : W.cell? ⟨Bs, 0, none⟩ = some (.string s)

theorem ginv_step (s : ByteArray) (st ln : Nat) (big : Bool) (Bn Bs : Nat) (hne : Bs ≠ Bn) (hsz : st + ln ≤ 8 * s.size) (hsz2 : s.size ≤ 64) (hln : ln ≤ 60) (i : Nat) (W : World) (hi : i < ln)
    (h : GInv s (posN st ln big) Bn Bs i W) :
    Calls Try.prog 21 #[.int .i64 i, .int .i64 (posN st ln big i : Nat), .pointer (some ⟨Bn, 0, none⟩), .pointer (some ⟨Bs, 0, none⟩)] W
      (fun e W' => e = .returned (.tuple #[]) ∧ Upd (fun k => k = Bn) W W' ∧ GInv s (posN st ln big) Bn Bs (i + 1) W') := by
  have hp := posN_lt (n := s.size) big hi hsz
  refine (get1_any i (posN st ln big i) _ s Bn Bs W (by omega) (by omega) (by omega) (accN_lt _ _ _) h.n h.f h.s).mono ?_
  rintro e W' ⟨rfl, rfl⟩
  refine ⟨rfl, Upd.drew (Upd.setCell (S := fun k => k = Bn) (p := ⟨Bn, 0, none⟩) (Upd.refl _ W) rfl _), ⟨?_, ?_, ?_⟩⟩
  · exact cell_set_same h.n
  · exact (World.frozen?_setCell ..).trans h.f
  · exact (World.cell?_setCell_other _ _ _ _ (fun e => hne (by injection e with e1; exact e1.symm))).trans h.s

theorem alloc_cell_new {w : World} {c : Array Value} {t : TypeId} {H : Nat} (hH : H = w.heap.size) (o : Nat) : (w.alloc (.cells c t)).cell? ⟨H, o, none⟩ = c[o]? := by
  subst hH; exact World.cell?_alloc_at _ _ _ _ rfl

theorem shr_one (n ln : Nat) (b : Bool) (m : Nat) (hm : m < 2 ^ (ln - 1)) (e : n = m + if b then 2 ^ (ln - 1) else 0) : n / 2 ^ (ln - 1) = if b then 1 else 0 := by
  have := Nat.two_pow_pos (ln - 1)
  subst e
  cases b
  · simp; exact hm
  · simp
    rw [Nat.add_div_right _ this, Nat.div_eq_of_lt hm]
set_option maxHeartbeats 1600000 in
theorem get_yes (s : ByteArray) (st ln : Nat) (big sg : Bool) (w : World) (h : rightB st ln s.size = true) :
    Calls Try.prog 8 #[.string s, fld st ln big sg] w (GetPost (getI s st ln big sg) 0 w) := by
  have hr := h
  simp only [rightB, decide_eq_true_eq] at hr
  obtain ⟨_, hr1, hr2, hr3, _, hr4⟩ := hr
  have H := Lib.hid h
  clear h
  have hsz : st + ln ≤ 8 * s.size := by omega
  have hln1 : 1 ≤ ln := by omega
  have hln2 : ln ≤ 60 := by omega
  have hsz2 : s.size ≤ 64 := by omega
  clear hr1 hr2 hr3 hr4
  go_enter Try.func8, Try.ntmps8
  go_wp2_with fail
  refine (right_any _ _ _ _ _ _).mono ?_
  rintro e w1 ⟨rfl, hb⟩
  rw [H.out]
  have hz0 := hb.size
  simp at hz0
  have hz : w.heap.size < w1.heap.size := by omega
  have hz1 : w.heap.size + 1 < w1.heap.size := by omega
  clear hz0
  obtain ⟨hc, hf⟩ := bcell hb
  have c0 : w1.cell? ⟨w.heap.size, 0, none⟩ = some (.string s) := by
    rw [hc _ _ (by simp; omega), World.cell?_alloc_past _ _ _ (by simp), World.cell?_alloc_at _ _ _ _ rfl]; rfl
  have c1 : ∀ o, w1.cell? ⟨w.heap.size + 1, o, none⟩ = ((w.alloc (.cells #[.string s] 9)).alloc (fcells st ln big sg)).cell? ⟨w.heap.size + 1, o, none⟩ := fun o => hc _ _ (by simp)
  have d0 : w1.cell? ⟨w.heap.size + 1, 0, none⟩ = some (.int .i64 st) := by rw [c1, World.cell?_alloc_at _ _ _ _ (by simp)]; rfl
  have d1 : w1.cell? ⟨w.heap.size + 1, 1, none⟩ = some (.int .i64 ln) := by rw [c1, World.cell?_alloc_at _ _ _ _ (by simp)]; rfl
  have d2 : w1.cell? ⟨w.heap.size + 1, 2, none⟩ = some (.bool big) := by rw [c1, World.cell?_alloc_at _ _ _ _ (by simp)]; rfl
  have d3 : w1.cell? ⟨w.heap.size + 1, 3, none⟩ = some (.bool sg) := by rw [c1, World.cell?_alloc_at _ _ _ _ (by simp)]; rfl
  have HB : Hid (Nw w w1) := (((Below.refl _ w).alloc (Nat.le_refl _) _).alloc (by simp) _).trans (hb.mono (by simp; omega))
  clear hc hf c1 hb
  go_wp2_with fail
  refine (each21 _ _ (fun k => k = w1.heap.size) st ln big sg _ (GInv s (posN st ln big) w1.heap.size w.heap.size) hln1 hln2 (by omega) (by simp) ?_ ?_).mono ?_
  · refine ⟨?_, ?_, ?_⟩
    · rw [World.cell?_alloc_past _ _ _ (by simp), alloc_cell_new rfl]; rfl
    · rw [World.frozen?_alloc_past _ _ _ (by simp), World.frozen?_alloc_at _ _ _ _ rfl]
    · rw [World.cell?_alloc_past _ _ _ (by simp; omega), World.cell?_alloc_past _ _ _ (by omega)]; exact c0
  · exact fun i W hi h => ginv_step s st ln big _ _ (by omega) hsz hsz2 hln2 i W hi h
  rintro e w2 ⟨rfl, hi, hu⟩
  have hn := hi.n
  have hf := hi.f
  have e1 : ∀ o, w2.cell? ⟨w.heap.size + 1, o, none⟩ = w1.cell? ⟨w.heap.size + 1, o, none⟩ := fun o => by
    rw [hu.cell (by simp; omega) (by omega), World.cell?_alloc_past _ _ _ (by omega)]
  have d1' := (e1 1).trans d1
  have d3' := (e1 3).trans d3
  have HB2 : Hid (Nw w w2) := HB.out.trans (((Below.refl _ w1).alloc (by omega) _).trans ((hu.below (B := w1.heap.size) (by simp) (by omega)).mono (by omega)))
  have hacc := accN_lt s (posN st ln big) ln
  have hp60 := pow_le60 hln2
  have hstep : accN s (posN st ln big) ln = stepN s (posN st ln big (ln - 1)) (ln - 1) (accN s (posN st ln big) (ln - 1)) := by
    obtain ⟨l, rfl⟩ : ∃ l, ln = l + 1 := ⟨ln - 1, by omega⟩
    rfl
  have hshr := shr_one _ ln _ _ (accN_lt s (posN st ln big) (ln - 1)) hstep
  have hgv : getI s st ln big sg = if sg && bitB s (posN st ln big (ln - 1)) then (accN s (posN st ln big) ln : Int) - 2 ^ ln else accN s (posN st ln big) ln := rfl
  generalize accN s (posN st ln big) ln = N at *
  generalize bitB s (posN st ln big (ln - 1)) = b at *
  clear hstep hi hu e1 d0 d1 d2 d3 c0 HB hz1
  have HGV := Lib.hid hgv
  clear hgv
  have hN : N < 1152921504606846976 := by omega
  cases sg
  · clear hshr
    go_wp2
    go_ret2
    exact ⟨by rw [HGV.out]; simp, HB2.out⟩
  · have hsh : (N : Int) / 2 ^ (ln - 1) = if b then 1 else 0 := by
      have : ((N / 2 ^ (ln - 1) : Nat) : Int) = ((if b then 1 else 0 : Nat) : Int) := by rw [hshr]
      push_cast at this
      rw [this]
      cases b <;> rfl
    clear hshr
    cases b
    · have hsh2 : (N : Int) / 2 ^ ((ln : Int) - 1).toNat = 0 := by rw [show ((ln : Int) - 1).toNat = ln - 1 from by omega, hsh]; rfl
      go_wp2
      go_ret2
      exact ⟨by rw [HGV.out]; simp, HB2.out⟩
    · have hsh2 : (N : Int) / 2 ^ ((ln : Int) - 1).toNat = 1 := by rw [show ((ln : Int) - 1).toNat = ln - 1 from by omega, hsh]; rfl
      go_wp2
      refine wp_region_still_tail 5 (by kernel_rfl) (by kernel_rfl) ?_
      change wpStill _ _ w2.drew (fun a' => wpList _ _ _ _ a' w2.drew) _ _
      simp only [List.take_succ_cons, List.take_zero, List.drop_succ_cons, List.drop_zero]
      iterate 5 still_step
      refine wpStill_nil ?_
      go_wp2
      go_ret2
      refine ⟨?_, (HB2.out.setCell (p := ⟨w1.heap.size, 0, none⟩) (Nat.le_of_lt hz) _).drew⟩
      rw [HGV.out]
      show Ending.returned (.tuple #[.int .i64 (wrap64 ((N : Int) - wrap64 ((2 : Int) ^ ln))), .int .i64 0]) = _
      rw [wrap_pow N ln hp60 hN, if_pos (by rfl)]

/-- What Get answers. -/
def getV (s : ByteArray) (st ln : Int) (big sg : Bool) : Int := if rightB st ln s.size then getI s st.toNat ln.toNat big sg else 0
def getE (s : ByteArray) (st ln : Int) : Int := if rightB st ln s.size then 0 else 2
theorem get_any (s : ByteArray) (st ln : Int) (big sg : Bool) (w : World) :
    Calls Try.prog 8 #[.string s, fld st ln big sg] w (GetPost (getV s st ln big sg) (getE s st ln) w) := by
  by_cases h : rightB st ln s.size = true
  · have hr := h
    simp only [rightB, decide_eq_true_eq] at hr
    obtain ⟨n, rfl⟩ := Int.eq_ofNat_of_zero_le (show 0 ≤ st by omega)
    obtain ⟨m, rfl⟩ := Int.eq_ofNat_of_zero_le (show 0 ≤ ln by omega)
    have := get_yes s n m big sg w h
    unfold getV getE
    rw [if_pos h, if_pos h]
    exact this
  · unfold getV getE
    rw [if_neg h, if_neg h]
    exact get_no s st ln big sg w (by simpa using h)
end Go.Proofs.Yteafmljogijdgaa
