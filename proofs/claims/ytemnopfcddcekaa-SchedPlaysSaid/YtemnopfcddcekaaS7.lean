/- The contract of New. -/
import Derived.Test.YtemnopfcddcekaaS6
import Derived.Deep.DeepCutAuto
namespace Go.Proofs.Ytemnopfcddcekaa
open Go.RowKit

def IntsAt (w : World) (A : Option Addr) (xs : List Int) : Prop := ∀ j (h : j < xs.length), ∃ ad, A = some ad ∧ (ad.add j).block < w.heap.size ∧ w.cell? (ad.add j) = some (.int .i64 (xs[j]'h))
theorem IntsAt.nw {w w' : World} {A : Option Addr} {xs : List Int} (h : IntsAt w A xs) (k : Nw w w') : IntsAt w' A xs := fun j hj => by
  obtain ⟨ad, e, hb, hc⟩ := h j hj
  exact ⟨ad, e, Nat.lt_of_lt_of_le hb k.size, (k.cell hb).trans hc⟩

def clampN (x : Int) : Nat := (min (max x 0) 100000).toNat
theorem clampN_eq (x : Int) : (clampN x : Int) = min (max x 0) 100000 := by unfold clampN; omega
theorem clampN_le (x : Int) : clampN x ≤ 100000 := by unfold clampN; omega
def newL (xs : List Int) : List Cl := (xs.take 100).map fun x => (clampN x, 0)
theorem newL_len (xs : List Int) : (newL xs).length = min xs.length 100 := by simp [newL]; omega
def rowC (l : List Cl) : List Value := l.flatMap fun p => [.int .i64 (p.1 : Nat), .int .i64 (p.2 / 3 : Nat), .int .i64 (p.2 % 3 + 1 : Nat)]
theorem rowC_append (a b : List Cl) : rowC (a ++ b) = rowC a ++ rowC b := by simp [rowC]
theorem rowC_at : ∀ (l : List Cl) (i m s : Nat), l[i]? = some (m, s) → (rowC l)[i * 3]? = some (.int .i64 (m : Nat)) ∧ (rowC l)[i * 3 + 1]? = some (.int .i64 (s / 3 : Nat)) ∧ (rowC l)[i * 3 + 2]? = some (.int .i64 (s % 3 + 1 : Nat)) := by
  intro l
  induction l with
  | nil => intro i m s h; simp at h
  | cons q l ih =>
    intro i m s h
    have e : rowC (q :: l) = [.int .i64 (q.1 : Nat), .int .i64 (q.2 / 3 : Nat), .int .i64 (q.2 % 3 + 1 : Nat)] ++ rowC l := by simp [rowC]
    rw [e]
    cases i with
    | zero =>
      simp at h
      subst h
      exact ⟨rfl, rfl, rfl⟩
    | succ i =>
      have := ih i m s (by simpa using h)
      rw [List.getElem?_append_right (by simp; omega), List.getElem?_append_right (by simp; omega), List.getElem?_append_right (by simp; omega)]
      simp only [List.length_cons, List.length_nil]
      rw [show (i + 1) * 3 - (0 + 1 + 1 + 1) = i * 3 by omega, show (i + 1) * 3 + 1 - (0 + 1 + 1 + 1) = i * 3 + 1 by omega, show (i + 1) * 3 + 2 - (0 + 1 + 1 + 1) = i * 3 + 2 by omega]
      exact this

theorem si_of_own {w : World} {lo S base : Nat} {v : Value} {l : List Cl} (h0 : lo ≤ S) (hS : S < base) (hc : w.cell? ⟨S, 0, none⟩ = some v) (hz : base ≤ w.heap.size) (hown : w.ownsRow base 55 3 v l.length (rowC l)) (hl : l.length ≤ 100) (hok : ∀ (i m s : Nat), l[i]? = some (m, s) → s ≤ 3 * m ∧ m ≤ 100000) :
    ∃ A c, SI w lo w.heap.size S A c l := by
  rcases hown.2 with ⟨rfl, h1⟩ | ⟨g, cap, cur, rfl, hb, hh, -⟩
  · have := List.eq_nil_of_length_eq_zero h1
    subst this
    exact ⟨none, 0, Nat.le_refl _, h0, by omega, hok, hl, hc, fun i m s hx => by simp at hx⟩
  · refine ⟨_, _, Nat.le_refl _, h0, by omega, hok, hl, hc, fun i m s hx => ?_⟩
    have hg := (hown.lt g rfl).2
    have hlt := (List.getElem?_eq_some_iff.1 hx).1
    obtain ⟨r0, r1, r2⟩ := rowC_at l i m s hx
    refine ⟨g, rfl, by omega, hg, by omega, ?_, ?_, ?_, fun j => hown.frozenAt j⟩
    · rw [hown.cellAt _ (by omega)]; exact r0
    · rw [hown.cellAt _ (by omega)]; exact r1
    · rw [hown.cellAt _ (by omega)]; exact r2

theorem info55 : (Try.prog.info? 55).map (fun i => (i.zero, i.size, i.bytes)) = some (some (stepV 0 0 0), 3, 24) := by kernel_rfl

theorem row3_news (w : World) (a b c : Value) (t : TypeId) : ∀ j u, [a, b, c][j]? = some u → (w.alloc (.cells #[a, b, c] t)).cell? ((⟨w.heap.size, 0, none⟩ : Addr).add j) = some u :=
  blk_news (Blk.new w t #[a, b, c])
theorem row3_one (a b c : Int) : ∀ u ∈ [Value.int .i64 a, .int .i64 b, .int .i64 c], u.oneCell' = true := by
  intro u hu
  simp at hu
  rcases hu with rfl | rfl | rfl <;> rfl
structure NInv (w : World) (xs : List Int) (k : Nat) (W : World) : Prop where
  out : ∃ v, W.cell? ⟨w.heap.size, 0, none⟩ = some v ∧ W.ownsRow (w.heap.size + 1) 55 3 v k (rowC (newL (xs.take k)))
  fo : W.frozen? ⟨w.heap.size, 0, none⟩ = false
  nw : Nw w W
  z : w.heap.size + 1 ≤ W.heap.size
theorem newL_succ {xs : List Int} {k : Nat} (h : k < xs.length) (hk : k < 100) : newL (xs.take (k + 1)) = newL (xs.take k) ++ [(clampN (xs[k]'h), 0)] := by
  unfold newL
  have e1 : (xs.take (k + 1)).take 100 = xs.take (k + 1) := List.take_of_length_le (by rw [List.length_take]; omega)
  have e2 : (xs.take k).take 100 = xs.take k := List.take_of_length_le (by rw [List.length_take]; omega)
  rw [e1, e2, List.take_succ_eq_append_getElem h, List.map_append]
  rfl

theorem NInv.step {w wr w2 : World} {xs : List Int} {k y : Nat} {v v' : Value} {o : Obj} (h : NInv w xs k wr) (hv : wr.cell? ⟨w.heap.size, 0, none⟩ = some v) (hown : wr.ownsRow (w.heap.size + 1) 55 3 v k (rowC (newL (xs.take k))))
    (hs : newL (xs.take (k + 1)) = newL (xs.take k) ++ [(y, 0)]) (hown' : w2.ownsRow (w.heap.size + 1) 55 3 v' (k + 1) (rowC (newL (xs.take k)) ++ [.int .i64 (y : Nat), .int .i64 0, .int .i64 1])) (hg : (wr.alloc o).grownBy w2 v.ownBlock) :
    w2.cell? ⟨w.heap.size, 0, none⟩ = some v ∧ w2.frozen? ⟨w.heap.size, 0, none⟩ = false ∧ w.heap.size < w2.heap.size ∧ NInv w xs (k + 1) (w2.setCell ⟨w.heap.size, 0, none⟩ v') := by
  have hz := h.z
  have hu : Below (w.heap.size + 1) wr w2 := ((Below.refl _ wr).alloc hz o).grown hg (by simp; omega) (fun j hj => (hown.lt j hj).1)
  have g1 : w2.cell? ⟨w.heap.size, 0, none⟩ = some v := (hu.cell (p := ⟨w.heap.size, 0, none⟩) (by simp)).trans hv
  have g2 : w2.frozen? ⟨w.heap.size, 0, none⟩ = false := (hu.frozen (p := ⟨w.heap.size, 0, none⟩) (by simp)).trans h.fo
  have hz2 := hu.size
  refine ⟨g1, g2, by omega, ⟨v', cell_set_same g1, ?_⟩, (World.frozen?_setCell ..).trans g2, (h.nw.trans (hu.mono (by omega))).setCell (p := ⟨w.heap.size, 0, none⟩) (Nat.le_refl _) _, by simp [World.setCell]; omega⟩
  rw [hs, rowC_append, show rowC [(y, 0)] = [.int .i64 (y : Nat), .int .i64 0, .int .i64 1] by simp [rowC]]
  exact ownsRow_setCell_below hown' (a := ⟨w.heap.size, 0, none⟩) (Nat.lt_succ_self _) v'

def NewPost (xs : List Int) (w : World) (e : Ending) (w' : World) : Prop := ∃ S A c, e = .returned (.pointer (some ⟨S, 0, none⟩)) ∧ Nw w w' ∧ SI w' w.heap.size w'.heap.size S A c (newL xs)

set_option maxHeartbeats 3000000 in
theorem new_any (xs : List Int) (A : Option Addr) (c : Nat) (w : World) (hA : IntsAt w A xs) (hcap : xs.length ≤ c) : Calls Try.prog 9 #[.slice A xs.length c] w (NewPost xs w) := by
  obtain ⟨i0, hi, hz0, hz1, hz2⟩ := info_parts info55
  have HA := Lib.hid hA
  clear hA
  generalize hn : xs.length = n at *
  have HN := Lib.hid hn
  clear hn
  have hmin : ∃ k : Nat, k = min n 100 ∧ (min (n : Int) 100) = (k : Int) := ⟨min n 100, rfl, by omega⟩
  obtain ⟨m, hm, hmi⟩ := hmin
  have hm1 : m ≤ 100 := by omega
  have hm2 : m ≤ n := by omega
  have hm3 : (m : Int) ≤ (c : Int) := by omega
  have HM := Lib.hid hm
  clear hm
  go_enter Try.func9, Try.ntmps9
  go_upto_region 2 with fail
  go_cut [12, 13, 14] from 8 (fun s12 s13 s14 wx => s12 = .slice A m c ∧ s13 = .int .i64 m ∧ s14 = .int .i64 0 ∧ wx = w.alloc (.cells #[.slice none 0 0] 53))
  case first =>
    by_cases h : 100 < n
    · have h' : (100 : Int) < (n : Int) := by omega
      obtain rfl : m = 100 := by have := HM.out; omega
      go_wp2_with fail
      go_meet
      case rel => exact ⟨rfl, rfl, rfl, rfl⟩
    · have h' : ¬ (100 : Int) < (n : Int) := by omega
      obtain rfl : m = n := by have := HM.out; omega
      go_wp2_with fail
      go_meet
      case rel => exact ⟨rfl, rfl, rfl, rfl⟩
  case rest =>
    obtain ⟨rfl, rfl, rfl, rfl⟩ := hcut
    have HI : Hid (NInv w xs 0 (w.alloc (.cells #[.slice none 0 0] 53))) := ⟨⟨.slice none 0 0, by rw [alloc_cell_new rfl]; rfl, by simpa [newL, rowC] using World.ownsRow_nil (w.alloc (.cells #[.slice none 0 0] 53)) (w.heap.size + 1) 55 3⟩, World.frozen?_alloc_at _ _ _ _ rfl, nw_alloc _ _, by simp⟩
    clear hmi hm3
    go_wp2
    go_loopw [14] (fun i wr => ∃ k : Nat, k ≤ m ∧ i = .int .i64 k ∧ Hid (NInv w xs k wr)) (fun i _ => m - (intOf i).toNat)
    case atStart => exact ⟨0, Nat.zero_le _, rfl, HI⟩
    case round =>
      obtain ⟨k, hk, rfl, HK⟩ := hrel
      clear HI
      by_cases hlt : k < m
      · have hkl : k < xs.length := by rw [HN.out]; omega
        obtain ⟨ad, rfl, hp, hf⟩ := (HA.out.nw HK.out.nw) k hkl
        have HS := Lib.hid (newL_succ hkl (by omega))
        generalize xs[k]'hkl = x at *
        have HX := Lib.hid (clampN_eq x)
        obtain ⟨v, hv, hown⟩ := HK.out.out
        have hz := HK.out.z
        have hfo := HK.out.fo
        have hmk : ¬ m ≤ k := by omega
        have HOWN := Lib.hid hown
        clear hown
        rcases (show x < 0 ∨ (0 ≤ x ∧ x ≤ 100000 ∧ ¬ x < 0 ∧ ¬ 100000 < x) ∨ (100000 < x ∧ ¬ x < 0) by omega) with hx | ⟨hx1, hx2, hx3, hx4⟩ | ⟨hx, hx'⟩
        · rw [show min (max x 0) 100000 = 0 by omega] at HX
          go_wp2_with (at_builtin; refine wpList_append_own _ rfl _ _ 51 rfl (w.heap.size + 1) 55 i0 (stepV 0 0 0) 3 24 Try.underlying51 hi hz0 hz1 hz2 rfl (by decide) _ _ _ rfl (HOWN.out.alloc _) ⟨wr.heap.size, 0, none⟩ 1 1 [.int .i64 0, .int .i64 0, .int .i64 1] rfl rfl (row3_news _ _ _ _ _) (row3_one _ _ _) (by unfold maxLen; omega) (by omega) (by simp; omega) ?_)
          intro v' w2 hown' hg _
          obtain ⟨g1, g2, g3, g4⟩ := HK.out.step hv HOWN.out HS.out (by rw [HX.out]; exact hown') hg
          obtain ⟨gg, gc, rfl, -, -⟩ := hown'.form (by omega)
          have HN2 := Lib.hid g4
          clear g4 hown' hg HK HOWN hv hfo hf
          go_wp2
          generalize w2.setCell ⟨w.heap.size, 0, none⟩ (.slice (some ⟨gg, 0, none⟩) (k + 1) gc) = wj at *
          go_roundw
          case rel => exact ⟨k + 1, by omega, by go_num, HN2⟩
          case measure => simp [intOf]; omega
        · rw [show min (max x 0) 100000 = x by omega] at HX
          go_wp2_with (at_builtin; refine wpList_append_own _ rfl _ _ 51 rfl (w.heap.size + 1) 55 i0 (stepV 0 0 0) 3 24 Try.underlying51 hi hz0 hz1 hz2 rfl (by decide) _ _ _ rfl (HOWN.out.alloc _) ⟨wr.heap.size, 0, none⟩ 1 1 [.int .i64 x, .int .i64 0, .int .i64 1] rfl rfl (row3_news _ _ _ _ _) (row3_one _ _ _) (by unfold maxLen; omega) (by omega) (by simp; omega) ?_)
          intro v' w2 hown' hg _
          obtain ⟨g1, g2, g3, g4⟩ := HK.out.step hv HOWN.out HS.out (by rw [HX.out]; exact hown') hg
          obtain ⟨gg, gc, rfl, -, -⟩ := hown'.form (by omega)
          have HN2 := Lib.hid g4
          clear g4 hown' hg HK HOWN hv hfo hf
          go_wp2
          generalize w2.setCell ⟨w.heap.size, 0, none⟩ (.slice (some ⟨gg, 0, none⟩) (k + 1) gc) = wj at *
          go_roundw
          case rel => exact ⟨k + 1, by omega, by go_num, HN2⟩
          case measure => simp [intOf]; omega
        · rw [show min (max x 0) 100000 = 100000 by omega] at HX
          go_wp2_with (at_builtin; refine wpList_append_own _ rfl _ _ 51 rfl (w.heap.size + 1) 55 i0 (stepV 0 0 0) 3 24 Try.underlying51 hi hz0 hz1 hz2 rfl (by decide) _ _ _ rfl (HOWN.out.alloc _) ⟨wr.heap.size, 0, none⟩ 1 1 [.int .i64 100000, .int .i64 0, .int .i64 1] rfl rfl (row3_news _ _ _ _ _) (row3_one _ _ _) (by unfold maxLen; omega) (by omega) (by simp; omega) ?_)
          intro v' w2 hown' hg _
          obtain ⟨g1, g2, g3, g4⟩ := HK.out.step hv HOWN.out HS.out (by rw [HX.out]; exact hown') hg
          obtain ⟨gg, gc, rfl, -, -⟩ := hown'.form (by omega)
          have HN2 := Lib.hid g4
          clear g4 hown' hg HK HOWN hv hfo hf
          go_wp2
          generalize w2.setCell ⟨w.heap.size, 0, none⟩ (.slice (some ⟨gg, 0, none⟩) (k + 1) gc) = wj at *
          go_roundw
          case rel => exact ⟨k + 1, by omega, by go_num, HN2⟩
          case measure => simp [intOf]; omega
      · obtain rfl : k = m := by omega
        obtain ⟨v, hv, hown⟩ := HK.out.out
        have hnl : newL (xs.take k) = newL xs := by
          unfold newL
          rw [List.take_take, show min 100 k = min 100 n by have := HM.out; omega]
          congr 1
          have := HN.out
          by_cases h : n ≤ 100
          · rw [List.take_of_length_le (by omega), List.take_of_length_le (by omega)]
          · rw [show min 100 n = 100 by omega]
        rw [hnl] at hown
        have hlen : (newL xs).length = k := by rw [newL_len, HN.out]; have := HM.out; omega
        rw [← hlen] at hown
        have hz := HK.out.z
        obtain ⟨A', c', hsi⟩ := si_of_own (lo := w.heap.size) (Nat.le_refl _) (Nat.lt_succ_self _) hv hz hown (by omega) (fun i m s hx => by
          unfold newL at hx
          rw [List.getElem?_map, Option.map_eq_some_iff] at hx
          obtain ⟨x, -, hx⟩ := hx
          injection hx with h1 h2
          subst h1 h2
          exact ⟨by omega, clampN_le x⟩)
        have HSI := Lib.hid hsi
        have HNW := Lib.hid HK.out.nw
        clear hsi hown hv HK hnl hlen hz
        go_wp2
        go_ret
        exact ⟨_, A', c', rfl, HNW.out, HSI.out⟩
end Go.Proofs.Ytemnopfcddcekaa
