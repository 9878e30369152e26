/- The contract of the document's New. -/
import Derived.Test.YtemnopfcddcekaaT6
import Derived.Maps.AppendAt
import Derived.Deep.DeepCutAuto
namespace Go.Proofs.Ytemnopfcddcekaa
open Go.RowKit

def Dis (a b : Option Nat) : Prop := ∀ g, a = some g → b = some g → False
theorem own2_step {w1 w2 : World} {base n2 : Nat} {v v' u : Value} {ys : List Value} (hu : w1.ownsRow base 3 1 u n2 ys) (hd : Dis v.ownBlock u.ownBlock) (hg : w1.grownBy w2 v.ownBlock) (hat : v'.ownBlock = v.ownBlock ∨ v'.ownBlock = some w1.heap.size) :
    w2.ownsRow base 3 1 u n2 ys ∧ Dis v'.ownBlock u.ownBlock := by
  refine ⟨hu.kept hg ?_, fun g h1 h2 => ?_⟩
  · cases h : u.ownBlock with
    | none => exact .inl rfl
    | some g => exact .inr fun e => hd g e.symm h
  · rcases hat with e | e
    · exact hd g (e ▸ h1) h2
    · rw [e] at h1
      injection h1 with h1
      have := (hu.lt g h2).2
      omega

def manyV (l : List Cl) : List Value := l.map fun p => .int .i64 (p.1 : Nat)
def stepsV (l : List Cl) : List Value := l.map fun p => .int .i64 (p.2 : Nat)
/-- What stands when so many numbers have been gone through. -/
structure RN (w : World) (xs : List Int) (k1 k2 : Nat) (v1 v2 : Value) (W : World) : Prop where
  c0 : W.cell? ⟨w.heap.size, 0, none⟩ = some v1
  c1 : W.cell? ⟨w.heap.size, 1, none⟩ = some v2
  o1 : W.ownsRow (w.heap.size + 1) 3 1 v1 k1 (manyV (newL (xs.take k1)))
  o2 : W.ownsRow (w.heap.size + 1) 3 1 v2 k2 (stepsV (newL (xs.take k2)))
  d : Dis v1.ownBlock v2.ownBlock
  f0 : W.frozen? ⟨w.heap.size, 0, none⟩ = false
  f1 : W.frozen? ⟨w.heap.size, 1, none⟩ = false
  nw : Nw w W
  z : w.heap.size + 1 ≤ W.heap.size
theorem set_off2 {w : World} {R j k : Nat} {v : Value} (h : j ≠ k) : (w.setCell ⟨R, j, none⟩ v).cell? ⟨R, k, none⟩ = w.cell? ⟨R, k, none⟩ := World.cell?_setCell_other _ _ _ _ (fun e => h (by injection e))
theorem RN.one {w wr w2 : World} {xs : List Int} {k y : Nat} {v1 v2 v' : Value} {o : Obj} (h : RN w xs k k v1 v2 wr) (hs : newL (xs.take (k + 1)) = newL (xs.take k) ++ [(y, 0)])
    (hown' : w2.ownsRow (w.heap.size + 1) 3 1 v' (k + 1) (manyV (newL (xs.take k)) ++ [.int .i64 (y : Nat)])) (hg : (wr.alloc o).grownBy w2 v1.ownBlock) (hat : v'.ownBlock = v1.ownBlock ∨ v'.ownBlock = some (wr.heap.size + 1)) :
    w2.cell? ⟨w.heap.size, 0, none⟩ = some v1 ∧ w2.cell? ⟨w.heap.size, 1, none⟩ = some v2 ∧ w2.frozen? ⟨w.heap.size, 0, none⟩ = false ∧ w.heap.size < w2.heap.size ∧ RN w xs (k + 1) k v' v2 (w2.setCell ⟨w.heap.size, 0, none⟩ v') := by
  have hz := h.z
  have hu : Below (w.heap.size + 1) wr w2 := ((Below.refl _ wr).alloc hz o).grown hg (by simp; omega) (fun j hj => (h.o1.lt j hj).1)
  have g0 : w2.cell? ⟨w.heap.size, 0, none⟩ = some v1 := (hu.cell (p := ⟨w.heap.size, 0, none⟩) (by simp)).trans h.c0
  have g1 : w2.cell? ⟨w.heap.size, 1, none⟩ = some v2 := (hu.cell (p := ⟨w.heap.size, 1, none⟩) (by simp)).trans h.c1
  have q0 : w2.frozen? ⟨w.heap.size, 0, none⟩ = false := (hu.frozen (p := ⟨w.heap.size, 0, none⟩) (by simp)).trans h.f0
  have q1 : w2.frozen? ⟨w.heap.size, 1, none⟩ = false := (hu.frozen (p := ⟨w.heap.size, 1, none⟩) (by simp)).trans h.f1
  have hz2 := hu.size
  obtain ⟨ho2, hd⟩ := own2_step (h.o2.alloc o) h.d hg (by rw [World.size_alloc]; exact hat)
  refine ⟨g0, g1, q0, by omega, cell_set_same g0, (set_off2 (by decide)).trans g1, ?_, ownsRow_setCell_below ho2 (a := ⟨w.heap.size, 0, none⟩) (Nat.lt_succ_self _) v', hd, (World.frozen?_setCell ..).trans q0, (World.frozen?_setCell ..).trans q1, (h.nw.trans (hu.mono (by omega))).setCell (p := ⟨w.heap.size, 0, none⟩) (Nat.le_refl _) _, by simp [World.setCell]; omega⟩
  have e : manyV (newL (xs.take (k + 1))) = manyV (newL (xs.take k)) ++ [.int .i64 (y : Nat)] := by rw [hs]; simp [manyV]
  rw [e]
  exact ownsRow_setCell_below hown' (a := ⟨w.heap.size, 0, none⟩) (Nat.lt_succ_self _) v'
theorem RN.two {w wr w2 : World} {xs : List Int} {k y : Nat} {v1 v2 v' : Value} {o : Obj} (h : RN w xs (k + 1) k v1 v2 wr) (hs : newL (xs.take (k + 1)) = newL (xs.take k) ++ [(y, 0)])
    (hown' : w2.ownsRow (w.heap.size + 1) 3 1 v' (k + 1) (stepsV (newL (xs.take k)) ++ [.int .i64 0])) (hg : (wr.alloc o).grownBy w2 v2.ownBlock) (hat : v'.ownBlock = v2.ownBlock ∨ v'.ownBlock = some (wr.heap.size + 1)) :
    w2.cell? ⟨w.heap.size, 0, none⟩ = some v1 ∧ w2.cell? ⟨w.heap.size, 1, none⟩ = some v2 ∧ w2.frozen? ⟨w.heap.size, 1, none⟩ = false ∧ w.heap.size < w2.heap.size ∧ RN w xs (k + 1) (k + 1) v1 v' (w2.setCell ⟨w.heap.size, 1, none⟩ v') := by
  have hz := h.z
  have hu : Below (w.heap.size + 1) wr w2 := ((Below.refl _ wr).alloc hz o).grown hg (by simp; omega) (fun j hj => (h.o2.lt j hj).1)
  have g0 : w2.cell? ⟨w.heap.size, 0, none⟩ = some v1 := (hu.cell (p := ⟨w.heap.size, 0, none⟩) (by simp)).trans h.c0
  have g1 : w2.cell? ⟨w.heap.size, 1, none⟩ = some v2 := (hu.cell (p := ⟨w.heap.size, 1, none⟩) (by simp)).trans h.c1
  have q0 : w2.frozen? ⟨w.heap.size, 0, none⟩ = false := (hu.frozen (p := ⟨w.heap.size, 0, none⟩) (by simp)).trans h.f0
  have q1 : w2.frozen? ⟨w.heap.size, 1, none⟩ = false := (hu.frozen (p := ⟨w.heap.size, 1, none⟩) (by simp)).trans h.f1
  have hz2 := hu.size
  obtain ⟨ho1, hd⟩ := own2_step (h.o1.alloc o) (fun g a b => h.d g b a) hg (by rw [World.size_alloc]; exact hat)
  refine ⟨g0, g1, q1, by omega, (set_off2 (by decide)).trans g0, cell_set_same g1, ownsRow_setCell_below ho1 (a := ⟨w.heap.size, 1, none⟩) (Nat.lt_succ_self _) v', ?_, fun g a b => hd g b a, (World.frozen?_setCell ..).trans q0, (World.frozen?_setCell ..).trans q1, (h.nw.trans (hu.mono (by omega))).setCell (p := ⟨w.heap.size, 1, none⟩) (Nat.le_refl _) _, by simp [World.setCell]; omega⟩
  have e : stepsV (newL (xs.take (k + 1))) = stepsV (newL (xs.take k)) ++ [.int .i64 0] := by rw [hs]; simp [stepsV]
  rw [e]
  exact ownsRow_setCell_below hown' (a := ⟨w.heap.size, 1, none⟩) (Nat.lt_succ_self _) v'

theorem ri_of_rn {w W : World} {xs : List Int} {k : Nat} {v1 v2 : Value} (h : RN w xs k k v1 v2 W) (hl : newL (xs.take k) = newL xs) (hk : (newL xs).length = k) (hk2 : k ≤ 100) : ∃ A B c d, RI W w.heap.size W.heap.size w.heap.size A B c d (newL xs) := by
  have o1 := h.o1
  have o2 := h.o2
  rw [hl] at o1 o2
  have hok : ∀ (i m s : Nat), (newL xs)[i]? = some (m, s) → s ≤ 3 * m ∧ m ≤ 100000 := fun i m s hx => by
    unfold newL at hx
    rw [List.getElem?_map, Option.map_eq_some_iff] at hx
    obtain ⟨x, -, hx⟩ := hx
    injection hx with h1 h2
    subst h1 h2
    exact ⟨by omega, clampN_le x⟩
  have hz := h.z
  by_cases h0 : k = 0
  · have form : ∀ (v : Value) (ys : List Value), W.ownsRow (w.heap.size + 1) 3 1 v k ys → ∃ A c, v = .slice A k c := fun v ys ho => by
      rcases ho.2 with ⟨rfl, e⟩ | ⟨g, cap, cur, rfl, -⟩
      · exact ⟨none, 0, by rw [e]⟩
      · exact ⟨_, _, rfl⟩
    obtain ⟨A, c, rfl⟩ := form _ _ o1
    obtain ⟨B, d, rfl⟩ := form _ _ o2
    refine ⟨A, B, c, d, Nat.le_refl _, Nat.le_refl _, by omega, hok, by omega, by rw [hk]; exact h.c0, by rw [hk]; exact h.c1, fun i m s hx => ?_⟩
    have hlt := (List.getElem?_eq_some_iff.1 hx).1
    omega
  · obtain ⟨P, c, rfl, p1, p2⟩ := o1.form (by omega)
    obtain ⟨Q, d, rfl, q1, q2⟩ := o2.form (by omega)
    have hne : Q ≠ P := fun e => h.d P rfl (by rw [e]; rfl)
    refine ⟨_, _, c, d, Nat.le_refl _, Nat.le_refl _, by omega, hok, by omega, by rw [hk]; exact h.c0, by rw [hk]; exact h.c1, fun i m s hx => ?_⟩
    have hlt := (List.getElem?_eq_some_iff.1 hx).1
    refine ⟨P, Q, rfl, rfl, by omega, p2, by omega, q2, by omega, hne, ?_, ?_, fun j => o2.frozenAt j⟩
    · rw [o1.cellAt i (by omega)]; simp [manyV, hx]
    · rw [o2.cellAt i (by omega)]; simp [stepsV, hx]
theorem one_one (a : Int) : ∀ u ∈ [Value.int .i64 a], u.oneCell' = true := by
  intro u hu
  simp at hu
  subst hu
  rfl
def RNewPost (xs : List Int) (w : World) (e : Ending) (w' : World) : Prop := ∃ S A B c d, e = .returned (.pointer (some ⟨S, 0, none⟩)) ∧ Nw w w' ∧ RI w' w.heap.size w'.heap.size S A B c d (newL xs)

set_option maxHeartbeats 6000000 in
theorem rnew_any (xs : List Int) (A : Option Addr) (c : Nat) (w : World) (hA : IntsAt w A xs) (hnx : xs.length ≤ 1000) : Calls Try.prog 13 #[.slice A xs.length c] w (RNewPost xs w) := by
  obtain ⟨i0, hi, hz0, hz1, hz2⟩ := info_parts info3
  have HA := Lib.hid hA
  clear hA
  generalize hn : xs.length = n at *
  have HN := Lib.hid hn
  clear hn
  have HI : Hid (RN w xs 0 0 (.slice none 0 0) (.slice none 0 0) (w.alloc (.cells #[.slice none 0 0, .slice none 0 0] 45))) :=
    ⟨by rw [alloc_cell_new rfl]; rfl, by rw [alloc_cell_new rfl]; rfl, by simpa [newL, manyV] using World.ownsRow_nil (w.alloc (.cells #[.slice none 0 0, .slice none 0 0] 45)) (w.heap.size + 1) 3 1, by simpa [newL, stepsV] using World.ownsRow_nil (w.alloc (.cells #[.slice none 0 0, .slice none 0 0] 45)) (w.heap.size + 1) 3 1, (fun g a b => by cases a), World.frozen?_alloc_at _ _ _ _ rfl, World.frozen?_alloc_at _ _ _ _ rfl, nw_alloc _ _, by simp⟩
  go_enter Try.func13, Try.ntmps13
  go_wp2_with fail
  go_loopw [4] (fun i wr => ∃ (k : Nat) (v1 v2 : Value), k ≤ n ∧ k ≤ 100 ∧ i = .int .i64 k ∧ Hid (RN w xs k k v1 v2 wr)) (fun i _ => n - (intOf i).toNat)
  case atStart => exact ⟨0, _, _, Nat.zero_le _, by omega, rfl, HI⟩
  case round =>
    obtain ⟨k, v1, v2, hk, hk1, rfl, HK⟩ := hrel
    clear HI
    by_cases hlt : k < n ∧ k < 100
    · have hkl : k < xs.length := by rw [HN.out]; omega
      have d1 : decide ((k : Int) < (n : Int)) = true := by simp; omega
      have d2 : decide ((k : Int) < 100) = true := by simp; omega
      obtain ⟨ad, rfl, hp, hf⟩ := (HA.out.nw HK.out.nw) k hkl
      have HS := Lib.hid (newL_succ hkl (by omega))
      generalize xs[k]'hkl = x at *
      have HX := Lib.hid (clampN_eq x)
      have hz := HK.out.z
      have c0 := HK.out.c0
      have c1 := HK.out.c1
      have f0 := HK.out.f0
      have hnk : ¬ n ≤ k := by omega
      rcases (show x < 0 ∨ (0 ≤ x ∧ x ≤ 100000 ∧ ¬ x < 0 ∧ ¬ 100000 < x) ∨ (100000 < x ∧ ¬ x < 0) by omega) with hx | ⟨hx1, hx2, hx3, hx4⟩ | ⟨hx, hx'⟩
      · rw [show min (max x 0) 100000 = 0 by omega] at HX
        go_wp2_with (at_builtin; refine wpList_append_own_at _ rfl _ _ 22 rfl (w.heap.size + 1) 3 i0 (.int .i64 0) 1 8 Try.underlying22 hi hz0 hz1 hz2 rfl (by decide) _ _ _ rfl (HK.out.o1.alloc _) ⟨wr.heap.size, 0, none⟩ 1 1 [.int .i64 0] rfl rfl (one_news _ _) (one_one _) (by unfold maxLen; omega) (by omega) (by simp; omega) ?_)
        intro v' w2 hown' hg _ hat
        obtain ⟨g0, g1, q0, g3, hr⟩ := HK.out.one HS.out (by rw [HX.out]; exact hown') hg hat
        obtain ⟨gg, gc, rfl, -, -⟩ := hown'.form (by omega)
        have HR := Lib.hid hr
        clear hr hown' hg hat HK f0
        go_upto_region 11 with fail
        generalize w2.setCell ⟨w.heap.size, 0, none⟩ (.slice (some ⟨gg, 0, none⟩) (k + 1) gc) = wm at *
        have s1 := HR.out.c1
        have sz := HR.out.z
        have sf := HR.out.f1
        clear g0 g1 q0 c0 c1 hz
        go_wp2_with (at_builtin; refine wpList_append_own_at _ rfl _ _ 22 rfl (w.heap.size + 1) 3 i0 (.int .i64 0) 1 8 Try.underlying22 hi hz0 hz1 hz2 rfl (by decide) _ _ _ rfl (HR.out.o2.alloc _) ⟨wm.heap.size, 0, none⟩ 1 1 [.int .i64 0] rfl rfl (one_news _ _) (one_one _) (by unfold maxLen; omega) (by omega) (by simp; omega) ?_)
        intro v3 w3 hown3 hg3 _ hat3
        obtain ⟨g0', g1', q1', g3', hr3⟩ := HR.out.two HS.out hown3 hg3 hat3
        obtain ⟨gg2, gc2, rfl, -, -⟩ := hown3.form (by omega)
        have HR3 := Lib.hid hr3
        clear hr3 hown3 hg3 hat3 HR s1 sz sf
        go_wp2
        generalize w3.setCell ⟨w.heap.size, 1, none⟩ (.slice (some ⟨gg2, 0, none⟩) (k + 1) gc2) = wj at *
        go_roundw
        case rel => exact ⟨k + 1, _, _, by omega, by omega, by go_num, HR3⟩
        case measure => simp [intOf]; omega
      · rw [show min (max x 0) 100000 = x by omega] at HX
        go_wp2_with (at_builtin; refine wpList_append_own_at _ rfl _ _ 22 rfl (w.heap.size + 1) 3 i0 (.int .i64 0) 1 8 Try.underlying22 hi hz0 hz1 hz2 rfl (by decide) _ _ _ rfl (HK.out.o1.alloc _) ⟨wr.heap.size, 0, none⟩ 1 1 [.int .i64 x] rfl rfl (one_news _ _) (one_one _) (by unfold maxLen; omega) (by omega) (by simp; omega) ?_)
        intro v' w2 hown' hg _ hat
        obtain ⟨g0, g1, q0, g3, hr⟩ := HK.out.one HS.out (by rw [HX.out]; exact hown') hg hat
        obtain ⟨gg, gc, rfl, -, -⟩ := hown'.form (by omega)
        have HR := Lib.hid hr
        clear hr hown' hg hat HK f0
        go_upto_region 11 with fail
        generalize w2.setCell ⟨w.heap.size, 0, none⟩ (.slice (some ⟨gg, 0, none⟩) (k + 1) gc) = wm at *
        have s1 := HR.out.c1
        have sz := HR.out.z
        have sf := HR.out.f1
        clear g0 g1 q0 c0 c1 hz
        go_wp2_with (at_builtin; refine wpList_append_own_at _ rfl _ _ 22 rfl (w.heap.size + 1) 3 i0 (.int .i64 0) 1 8 Try.underlying22 hi hz0 hz1 hz2 rfl (by decide) _ _ _ rfl (HR.out.o2.alloc _) ⟨wm.heap.size, 0, none⟩ 1 1 [.int .i64 0] rfl rfl (one_news _ _) (one_one _) (by unfold maxLen; omega) (by omega) (by simp; omega) ?_)
        intro v3 w3 hown3 hg3 _ hat3
        obtain ⟨g0', g1', q1', g3', hr3⟩ := HR.out.two HS.out hown3 hg3 hat3
        obtain ⟨gg2, gc2, rfl, -, -⟩ := hown3.form (by omega)
        have HR3 := Lib.hid hr3
        clear hr3 hown3 hg3 hat3 HR s1 sz sf
        go_wp2
        generalize w3.setCell ⟨w.heap.size, 1, none⟩ (.slice (some ⟨gg2, 0, none⟩) (k + 1) gc2) = wj at *
        go_roundw
        case rel => exact ⟨k + 1, _, _, by omega, by omega, by go_num, HR3⟩
        case measure => simp [intOf]; omega
      · rw [show min (max x 0) 100000 = 100000 by omega] at HX
        go_wp2_with (at_builtin; refine wpList_append_own_at _ rfl _ _ 22 rfl (w.heap.size + 1) 3 i0 (.int .i64 0) 1 8 Try.underlying22 hi hz0 hz1 hz2 rfl (by decide) _ _ _ rfl (HK.out.o1.alloc _) ⟨wr.heap.size, 0, none⟩ 1 1 [.int .i64 100000] rfl rfl (one_news _ _) (one_one _) (by unfold maxLen; omega) (by omega) (by simp; omega) ?_)
        intro v' w2 hown' hg _ hat
        obtain ⟨g0, g1, q0, g3, hr⟩ := HK.out.one HS.out (by rw [HX.out]; exact hown') hg hat
        obtain ⟨gg, gc, rfl, -, -⟩ := hown'.form (by omega)
        have HR := Lib.hid hr
        clear hr hown' hg hat HK f0
        go_upto_region 11 with fail
        generalize w2.setCell ⟨w.heap.size, 0, none⟩ (.slice (some ⟨gg, 0, none⟩) (k + 1) gc) = wm at *
        have s1 := HR.out.c1
        have sz := HR.out.z
        have sf := HR.out.f1
        clear g0 g1 q0 c0 c1 hz
        go_wp2_with (at_builtin; refine wpList_append_own_at _ rfl _ _ 22 rfl (w.heap.size + 1) 3 i0 (.int .i64 0) 1 8 Try.underlying22 hi hz0 hz1 hz2 rfl (by decide) _ _ _ rfl (HR.out.o2.alloc _) ⟨wm.heap.size, 0, none⟩ 1 1 [.int .i64 0] rfl rfl (one_news _ _) (one_one _) (by unfold maxLen; omega) (by omega) (by simp; omega) ?_)
        intro v3 w3 hown3 hg3 _ hat3
        obtain ⟨g0', g1', q1', g3', hr3⟩ := HR.out.two HS.out hown3 hg3 hat3
        obtain ⟨gg2, gc2, rfl, -, -⟩ := hown3.form (by omega)
        have HR3 := Lib.hid hr3
        clear hr3 hown3 hg3 hat3 HR s1 sz sf
        go_wp2
        generalize w3.setCell ⟨w.heap.size, 1, none⟩ (.slice (some ⟨gg2, 0, none⟩) (k + 1) gc2) = wj at *
        go_roundw
        case rel => exact ⟨k + 1, _, _, by omega, by omega, by go_num, HR3⟩
        case measure => simp [intOf]; omega
    · have hd : ¬ k < n ∨ (k < n ∧ ¬ k < 100) := by omega
      have hnl : newL (xs.take k) = newL xs := by
        unfold newL
        rw [List.take_take]
        congr 1
        have := HN.out
        by_cases h : n ≤ 100
        · rw [List.take_of_length_le (by omega), List.take_of_length_le (by omega)]
        · rw [show min 100 k = 100 by omega]
      have hlen : (newL xs).length = k := by rw [newL_len, HN.out]; omega
      have HRI := Lib.hid (ri_of_rn HK.out hnl hlen (by omega))
      have HNW := Lib.hid HK.out.nw
      clear hnl hlen HK HA
      obtain ⟨A', B', c', d', h⟩ := HRI.out
      have H3 := Lib.hid h
      clear h HRI hlt
      rcases hd with d1 | ⟨d1, d2⟩
      · have e1 : ¬ ((k : Int) < (n : Int)) := by omega
        have e2 : n ≤ k := by omega
        go_wp2
        go_ret
        exact ⟨_, A', B', c', d', rfl, HNW.out, H3.out⟩
      · have e1 : ((k : Int) < (n : Int)) := by omega
        have e2 : ¬ ((k : Int) < 100) := by omega
        have e3 : 100 ≤ k := by omega
        go_wp2
        go_ret
        exact ⟨_, A', B', c', d', rfl, HNW.out, H3.out⟩
end Go.Proofs.Ytemnopfcddcekaa
