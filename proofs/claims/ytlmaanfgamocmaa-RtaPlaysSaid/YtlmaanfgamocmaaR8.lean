/- Rows of tasks; the chapter's examples. -/
import Derived.Test.YtlmaanfgamocmaaR7
namespace Go.Proofs.Ytlmaanfgamocmaa
open Go.RowKit

theorem info34 : (Try.prog.info? 34).map (fun i => (i.zero, i.size, i.bytes)) = some (some (.agg #[.int .i64 0, .int .i64 0]), 2, 16) := by kernel_rfl
def rowT (l : List Tk) : List Value := l.flatMap fun t => [.int .i64 t.p, .int .i64 t.o]
theorem rowT_append (a b : List Tk) : rowT (a ++ b) = rowT a ++ rowT b := by simp [rowT]
theorem rowT_len (l : List Tk) : (rowT l).length = l.length * 2 := by
  induction l with
  | nil => rfl
  | cons t l ih =>
    rw [show rowT (t :: l) = [.int .i64 t.p, .int .i64 t.o] ++ rowT l by simp [rowT], List.length_append, ih]
    simp
    omega
theorem rowT_at : ∀ (l : List Tk) (i : Nat) (t : Tk), l[i]? = some t → (rowT l)[i * 2]? = some (.int .i64 t.p) ∧ (rowT l)[i * 2 + 1]? = some (.int .i64 t.o) := by
  intro l
  induction l with
  | nil => intro i t h; simp at h
  | cons q l ih =>
    intro i t h
    have e : rowT (q :: l) = [.int .i64 q.p, .int .i64 q.o] ++ rowT l := by simp [rowT]
    rw [e]
    cases i with
    | zero =>
      simp at h
      subst h
      exact ⟨rfl, rfl⟩
    | succ i =>
      have := ih i t (by simpa using h)
      rw [List.getElem?_append_right (by simp; omega), List.getElem?_append_right (by simp; omega)]
      simp only [List.length_cons, List.length_nil]
      rw [show (i + 1) * 2 - (0 + 1 + 1) = i * 2 by omega, show (i + 1) * 2 + 1 - (0 + 1 + 1) = i * 2 + 1 by omega]
      exact this
theorem tks_of_own {w : World} {base : Nat} {v : Value} {l : List Tk} (hown : w.ownsRow base 34 2 v l.length (rowT l)) : ∃ A c, v = .slice A l.length c ∧ TksAt w A l ∧ l.length ≤ c := by
  rcases hown.2 with ⟨rfl, h1⟩ | ⟨g, cap, cur, rfl, hb, hh, hcap, -⟩
  · rw [h1]
    exact ⟨none, 0, rfl, fun j hj => absurd hj (by omega), Nat.le_refl _⟩
  · have hg := (hown.lt g rfl).2
    refine ⟨_, _, rfl, fun j hj => ?_, by omega⟩
    obtain ⟨r0, r1⟩ := rowT_at l j _ (List.getElem?_eq_getElem hj)
    refine ⟨_, rfl, by rw [add_plain]; exact hg, ?_, ?_⟩
    · rw [add_plain, hown.cellAt _ (by omega)]
      exact r0
    · rw [add_plain]
      show World.cell? w ⟨g, j * 2 + 1, none⟩ = _
      rw [hown.cellAt _ (by omega)]
      exact r1
theorem row2_news (w : World) (a b : Value) (t : TypeId) : ∀ j u, [a, b][j]? = some u → (w.alloc (.cells #[a, b] t)).cell? ((⟨w.heap.size, 0, none⟩ : Addr).add j) = some u :=
  blk_news (Blk.new w t #[a, b])
theorem row2_one (a b : Int) : ∀ u ∈ [Value.int .i64 a, .int .i64 b], u.oneCell' = true := by
  intro u hu
  simp at hu
  rcases hu with rfl | rfl <;> rfl
def IntsAt (w : World) (A : Option Addr) (xs : List Int) : Prop := ∀ j (h : j < xs.length), ∃ ad, A = some ad ∧ (ad.add j).block < w.heap.size ∧ w.cell? (ad.add j) = some (.int .i64 (xs[j]'h))
theorem IntsAt.nw {w w' : World} {A : Option Addr} {xs : List Int} (h : IntsAt w A xs) (k : Nw w w') : IntsAt w' A xs := fun j hj => by
  obtain ⟨ad, e, hb, hc⟩ := h j hj
  exact ⟨ad, e, Nat.lt_of_lt_of_le hb k.size, (k.cell hb).trans hc⟩
def mkT (x : Int) : Tk := ⟨x, 0⟩
def TasksPost (xs : List Int) (w : World) (e : Ending) (w' : World) : Prop := ∃ A c, e = .returned (.slice A xs.length c) ∧ TksAt w' A (xs.map mkT) ∧ xs.length ≤ c ∧ Nw w w'
def tkL (xs : List Int) (k : Nat) : List Tk := (xs.take k).map mkT
structure TInv (w : World) (xs : List Int) (k : Nat) (v : Value) (W : World) : Prop where
  own : W.ownsRow w.heap.size 34 2 v k (rowT (tkL xs k))
  nw : Nw w W

set_option maxHeartbeats 3000000 in
theorem tasks_any (xs : List Int) (A : Option Addr) (c : Nat) (w : World) (hA : IntsAt w A xs) (hx : xs.length ≤ 10) : Calls Try.prog 18 #[.slice A xs.length c] w (TasksPost xs w) := by
  obtain ⟨i0, hi, hz0, hz1, hz2⟩ := info_parts info34
  have HA := Lib.hid hA
  clear hA
  unfold TasksPost
  generalize hn : xs.length = n at *
  have HN := Lib.hid hn
  clear hn
  have HI : Hid (TInv w xs 0 (.slice none 0 0) w) := ⟨by simpa [rowT, tkL] using World.ownsRow_nil w w.heap.size 34 2, Below.refl _ _⟩
  go_enter Try.func18, Try.ntmps18
  go_wp2
  go_loopw [3, 8] (fun v j wr => ∃ k : Nat, k ≤ n ∧ j = .int .i64 k ∧ Hid (TInv w xs k v wr)) (fun _ j _ => n - (intOf j).toNat)
  case atStart => exact ⟨0, Nat.zero_le _, rfl, HI⟩
  case round =>
    obtain ⟨k, hk, rfl, HK⟩ := hrel
    clear HI
    by_cases hlt : k < n
    · have hkl : k < xs.length := by rw [HN.out]; exact hlt
      obtain ⟨ad, rfl, hp, f0⟩ := (HA.out.nw HK.out.nw) k hkl
      have HS : Hid (tkL xs (k + 1) = tkL xs k ++ [mkT (xs[k]'hkl)]) := by unfold Hid tkL; rw [List.take_succ_eq_append_getElem hkl, List.map_append]; rfl
      generalize xs[k]'hkl = x at *
      have hnk : ¬ n ≤ k := by omega
      have hz := HK.out.nw.size
      go_wp2_with (at_builtin; refine wpList_append_own _ rfl _ _ 22 rfl w.heap.size 34 i0 (.agg #[.int .i64 0, .int .i64 0]) 2 16 Try.underlying22 hi hz0 hz1 hz2 rfl (by decide) _ _ _ rfl (HK.out.own.alloc _) ⟨wr.heap.size, 0, none⟩ 1 1 [.int .i64 x, .int .i64 0] rfl rfl (row2_news _ _ _ _) (row2_one _ _) (by unfold maxLen; omega) (by omega) (by simp; omega) ?_)
      intro v' w2 hown' hg _
      have HP : Hid (TInv w xs (k + 1) v' w2) := by
        refine ⟨?_, (HK.out.nw.alloc (by omega) _).grown hg (by simp; omega) fun j hj => (HK.out.own.lt j hj).1⟩
        rw [HS.out, rowT_append, show rowT [mkT x] = [.int .i64 x, .int .i64 0] from rfl]
        exact hown'
      clear hown' hg HK f0
      go_wp2
      go_roundw
      case rel => exact ⟨k + 1, by omega, by go_num, HP⟩
      case measure => simp [intOf]; omega
    · obtain rfl : k = n := by omega
      have hown := HK.out.own
      unfold tkL at hown
      rw [List.take_of_length_le (by rw [HN.out]; exact Nat.le_refl _)] at hown
      have hown2 : wr.ownsRow w.heap.size 34 2 u3 (xs.map mkT).length (rowT (xs.map mkT)) := by rw [List.length_map, HN.out]; exact hown
      obtain ⟨A', c', e, ht, hc⟩ := tks_of_own hown2
      rw [List.length_map, HN.out] at e hc
      subst e
      have HT := Lib.hid ht
      have HNW := Lib.hid HK.out.nw
      clear hown hown2 ht HK
      go_wp2
      go_ret
      exact ⟨A', c', rfl, HT.out, hc, HNW.out⟩

set_option maxHeartbeats 6000000 in
theorem alive_any (w : World) : Calls Try.prog 9 #[] w (TrueNw w) := by
  have HI : Hid (∀ (a b : Int) (W : World), IntsAt (W.alloc (.cells #[.int .i64 a, .int .i64 b] 3)) (some ⟨W.heap.size, 0, none⟩) [a, b]) := fun a b W j hj => by
    have : j = 0 ∨ j = 1 := by simp at hj; omega
    rcases this with rfl | rfl
    · exact ⟨_, rfl, by simp [Addr.add], by rw [add_plain, alloc_cell_new rfl]; rfl⟩
    · exact ⟨_, rfl, by simp [Addr.add], by rw [add_plain, alloc_cell_new rfl]; rfl⟩
  go_enter Try.func9, Try.ntmps9
  go_wp2_with fail
  refine (tasks_any [2, 4] _ _ _ (HI.out 2 4 w) (by decide)).mono ?_
  rintro e w1 ⟨A1, c1, rfl, ht1, hc1, hb1⟩
  have HN1 : Hid (Nw w w1) := (nw_alloc _ _).then_ hb1
  have HB1 := Lib.hid (bound_any A1 c1 [mkT 2, mkT 4] 0 w1 ht1 hc1)
  rw [show boundO [mkT 2, mkT 4] 0 = some 1 by decide +kernel] at HB1
  clear hb1 ht1 hc1
  go_wp2_with fail
  refine HB1.out.mono ?_
  rintro e w2 ⟨rfl, hb⟩
  have HN2 : Hid (Nw w w2) := HN1.out.then_ hb
  clear hb HB1 HN1
  simp only [bndV]
  go_wp2_with fail
  refine (tasks_any [2, 4] _ _ _ (HI.out 2 4 w2) (by decide)).mono ?_
  rintro e w3 ⟨A1, c1, rfl, ht1, hc1, hb1⟩
  have HN1 : Hid (Nw w w3) := HN2.out.then_ ((nw_alloc _ _).then_ hb1)
  have HB1 := Lib.hid (bound_any A1 c1 [mkT 2, mkT 4] 1 w3 ht1 hc1)
  rw [show boundO [mkT 2, mkT 4] 1 = some 2 by decide +kernel] at HB1
  clear hb1 ht1 hc1 HN2
  go_wp2_with fail
  refine HB1.out.mono ?_
  rintro e w4 ⟨rfl, hb⟩
  have HN2 : Hid (Nw w w4) := HN1.out.then_ hb
  clear hb HB1 HN1
  simp only [bndV]
  go_wp2_with fail
  refine (tasks_any [1, 4] _ _ _ (HI.out 1 4 w4) (by decide)).mono ?_
  rintro e w5 ⟨A1, c1, rfl, ht1, hc1, hb1⟩
  have HN1 : Hid (Nw w w5) := HN2.out.then_ ((nw_alloc _ _).then_ hb1)
  have HB1 := Lib.hid (bound_any A1 c1 [mkT 1, mkT 4] 1 w5 ht1 hc1)
  rw [show boundO [mkT 1, mkT 4] 1 = none by decide +kernel] at HB1
  clear hb1 ht1 hc1 HN2
  go_wp2_with fail
  refine HB1.out.mono ?_
  rintro e w6 ⟨rfl, hb⟩
  have HN2 : Hid (Nw w w6) := HN1.out.then_ hb
  clear hb HB1 HN1
  simp only [bndV]
  go_wp2_with fail
  refine (tasks_any [2, 4] _ _ _ (HI.out 2 4 w6) (by decide)).mono ?_
  rintro e w7 ⟨A1, c1, rfl, ht1, hc1, hb1⟩
  have HN1 : Hid (Nw w w7) := HN2.out.then_ ((nw_alloc _ _).then_ hb1)
  have HB1 := Lib.hid (fits_any A1 c1 [mkT 2, mkT 4] w7 ht1 hc1)
  rw [show fitsB [mkT 2, mkT 4] = true by decide +kernel] at HB1
  clear hb1 ht1 hc1 HN2
  go_wp2_with fail
  refine HB1.out.mono ?_
  rintro e w8 ⟨rfl, hb⟩
  have HN2 : Hid (Nw w w8) := HN1.out.then_ hb
  clear hb HB1 HN1
  go_wp2_with fail
  refine (tasks_any [1, 4] _ _ _ (HI.out 1 4 w8) (by decide)).mono ?_
  rintro e w9 ⟨A1, c1, rfl, ht1, hc1, hb1⟩
  have HN1 : Hid (Nw w w9) := HN2.out.then_ ((nw_alloc _ _).then_ hb1)
  have HB1 := Lib.hid (fits_any A1 c1 [mkT 1, mkT 4] w9 ht1 hc1)
  rw [show fitsB [mkT 1, mkT 4] = false by decide +kernel] at HB1
  clear hb1 ht1 hc1 HN2
  go_wp2_with fail
  refine HB1.out.mono ?_
  rintro e w10 ⟨rfl, hb⟩
  have HN2 : Hid (Nw w w10) := HN1.out.then_ hb
  clear hb HB1 HN1
  go_wp2
  go_ret
  exact ⟨rfl, HN2.out⟩
end Go.Proofs.Ytlmaanfgamocmaa
