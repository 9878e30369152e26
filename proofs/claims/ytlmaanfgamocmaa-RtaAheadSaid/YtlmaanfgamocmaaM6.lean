/- The walk of RtaJust. -/
import Derived.Test.YtlmaanfgamocmaaM5
namespace Go.Proofs.Ytlmaanfgamocmaa
open Go.RowKit

def SmallB (n : Nat) (w : World) (e : Ending) (w' : World) : Prop := ∃ b, e = .returned (.bool b) ∧ w = w' ∧ (b = true → n ≤ 70)
set_option maxHeartbeats 3000000 in
theorem small_len (A : Option Addr) (c : Nat) (l : List Tk) (w : World) (hA : TksAt w A l) : Calls Try.prog 8 #[.slice A l.length c] w (SmallB l.length w) := by
  have HA := Lib.hid hA
  clear hA
  generalize hL : l.length = n at *
  have HL := Lib.hid hL
  clear hL
  go_enter Try.func8, Try.ntmps8
  go_wp2
  go_loopw [3] (fun i wr => ∃ k : Nat, k ≤ n ∧ i = .int .i64 k ∧ wr = w) (fun i _ => n - (intOf i).toNat)
  case atStart => exact ⟨0, Nat.zero_le _, rfl, rfl⟩
  case round =>
    obtain ⟨k, hk, rfl, rfl⟩ := hrel
    by_cases hlt : k < n
    · by_cases h70 : k ≤ 70
      · have hkl : k < l.length := by rw [HL.out]; exact hlt
        obtain ⟨ad, rfl, hp, f0, f1⟩ := HA.out k hkl
        generalize l[k]'hkl = t at *
        obtain ⟨p, o⟩ := t
        have hnk : ¬ n ≤ k := by omega
        have h71 : ¬ 70 < k := by omega
        simp only [] at f0 f1
        rcases (show ¬ 2000 < p ∨ (2000 < p ∧ ¬ p ≤ 100000) ∨ (2000 < p ∧ p ≤ 100000) by omega) with h1 | ⟨h1, h2⟩ | ⟨h1, h2⟩
        case inr.inr =>
          go_wp2
          go_ret
          exact ⟨_, rfl, rfl, fun h => by cases h⟩
        all_goals
          go_wp2
          go_roundw
          case rel => exact ⟨k + 1, by omega, by go_num, trivial⟩
          case measure => simp [intOf]; omega
      · have h71 : 70 < k := by omega
        go_wp2
        go_ret
        exact ⟨_, rfl, rfl, fun h => by simp at h; omega⟩
    · go_wp2
      go_ret
      exact ⟨_, rfl, rfl, fun h => by simp at h; omega⟩

def zt (t : Tk) : Tk := mkT t.p
def ztL (l : List Tk) (k : Nat) : List Tk := (l.take k).map zt
/-- The tasks so far, as if they began at once. -/
structure JInv (wb : World) (l : List Tk) (k : Nat) (v : Value) (W : World) : Prop where
  own : W.ownsRow wb.heap.size 34 2 v k (rowT (ztL l k))
  nw : Nw wb W
theorem off_zt (l : List Tk) : off (l.map zt) = fun _ => 0 := by
  funext k
  unfold off
  rw [List.getElem?_map]
  cases l[k]? <;> rfl
theorem boundO_some {l : List Tk} {i : Int} {v : Nat} (h : boundO l i = some v) : tRight l = 0 ∧ ∃ k : Nat, i = k ∧ k < l.length ∧ bnd (per l) k = some v := by
  unfold boundO at h
  split at h
  · rename_i h2
    exact ⟨h2.1, i.toNat, by omega, by omega, h⟩
  · cases h

set_option maxRecDepth 100000 in
set_option maxHeartbeats 20000000 in
theorem rtaJust_walk (A : Option Addr) (c : Nat) (l : List Tk) (x : Int) (w : World) (hA : TksAt w A l) (hc : l.length ≤ c) : Calls Try.prog 6 #[.slice A l.length c, .int .i64 x] w (TrueNw w) := by
  obtain ⟨i0, hii, hz0, hz1, hz2⟩ := info_parts info34
  have HSM := Lib.hid (small_len A c l w hA)
  have HA := Lib.hid hA
  generalize hL : l.length = n at *
  have HL := Lib.hid hL
  clear hA hL
  have hw : decide (x < 0) = true ∨ (decide (x < 0) = false ∧ decide ((n : Int) ≤ x) = true) ∨ (decide (x < 0) = false ∧ decide ((n : Int) ≤ x) = false ∧ ∃ s : Nat, s < n ∧ x = s) := by
    by_cases h1 : x < 0
    · exact .inl (by simp [h1])
    · by_cases h2 : (n : Int) ≤ x
      · exact .inr (.inl ⟨by simp [h1], by simp [h2]⟩)
      · exact .inr (.inr ⟨by simp [h1], by simp [h2], x.toNat, by omega, by omega⟩)
  have HW := Lib.hid hw
  clear hw
  have HI : Hid (JInv w l 0 (.slice none 0 0) w) := ⟨by simpa [rowT, ztL] using World.ownsRow_nil w w.heap.size 34 2, Below.refl _ _⟩
  go_enter Try.func6, Try.ntmps6
  go_wp2_with fail
  refine HSM.out.mono ?_
  rintro e w0 ⟨sm, rfl, rfl, hsm⟩
  clear HSM
  cases sm
  · clear HW HI HA HL hsm
    go_wp2_with fail
    refine (alive_any _).mono ?_
    rintro e w1 ⟨rfl, hb⟩
    go_wp2
    go_ret
    exact ⟨rfl, hb⟩
  · have hn70 := hsm rfl
    clear hsm
    rcases HW.out with h1 | ⟨h1, h2⟩ | ⟨h1, h2, i, hi, rfl⟩
    case inl =>
      clear HW HI HA HL
      go_wp2_with fail
      refine (alive_any _).mono ?_
      rintro e w1 ⟨rfl, hb⟩
      go_wp2
      go_ret
      exact ⟨rfl, hb⟩
    case inr.inl =>
      have h3 : ∀ k : Nat, True := fun _ => trivial
      clear HW HI HA HL
      go_wp2_with fail
      refine (alive_any _).mono ?_
      rintro e w1 ⟨rfl, hb⟩
      go_wp2
      go_ret
      exact ⟨rfl, hb⟩
    case inr.inr =>
      clear HW
      have h3 : ¬ n ≤ i := by omega
      go_wp2_with fail
      go_loopw [5, 30] (fun v j wr => ∃ k : Nat, k ≤ n ∧ j = .int .i64 k ∧ Hid (JInv w l k v wr)) (fun _ j _ => n - (intOf j).toNat)
      case atStart => exact ⟨0, Nat.zero_le _, rfl, HI⟩
      case round =>
        obtain ⟨k, hk, rfl, HK⟩ := hrel
        clear HI
        by_cases hlt : k < n
        · have hkl : k < l.length := by rw [HL.out]; exact hlt
          obtain ⟨ad, rfl, hp, f0, f1⟩ := (HA.out.nw HK.out.nw) k hkl
          have HS : Hid (rowT (ztL l (k + 1)) = rowT (ztL l k) ++ [.int .i64 (l[k]'hkl).p, .int .i64 0]) := by unfold Hid ztL; rw [List.take_succ_eq_append_getElem hkl, List.map_append, rowT_append]; rfl
          generalize l[k]'hkl = t at *
          obtain ⟨p, o⟩ := t
          simp only [] at f0 f1
          have hnk : ¬ n ≤ k := by omega
          have hz := HK.out.nw.size
          have HN2 := Lib.hid (HK.out.nw.then_ (nw_alloc wr (.cells #[.int .i64 p, .int .i64 o] 34)))
          have HO2 := Lib.hid (HK.out.own.alloc (.cells #[.int .i64 p, .int .i64 o] 34))
          have hz2' := HN2.out.size
          have b0 : (wr.alloc (.cells #[.int .i64 p, .int .i64 o] 34)).cell? ⟨wr.heap.size, 0, none⟩ = some (.int .i64 p) := by rw [alloc_cell_new rfl]; rfl
          have hbz : wr.heap.size < (wr.alloc (.cells #[.int .i64 p, .int .i64 o] 34)).heap.size := by simp
          go_upto_region 7 with fail
          clear f0 f1 hp
          generalize wr.alloc (.cells #[.int .i64 p, .int .i64 o] 34) = wa at *
          go_wp2_with (at_builtin; refine wpList_append_own _ rfl _ _ 22 rfl w.heap.size 34 i0 (.agg #[.int .i64 0, .int .i64 0]) 2 16 Try.underlying22 hii hz0 hz1 hz2 rfl (by decide) _ _ _ rfl (HO2.out.alloc _) ⟨wa.heap.size, 0, none⟩ 1 1 [.int .i64 p, .int .i64 0] rfl rfl (row2_news _ _ _ _) (row2_one _ _) (by unfold maxLen; omega) (by omega) (by simp; omega) ?_)
          intro v' w2 hown' hg _
          have HP : Hid (JInv w l (k + 1) v' w2) := by
            refine ⟨?_, (HN2.out.alloc (by omega) _).grown hg (by simp; omega) fun j hj => (HO2.out.lt j hj).1⟩
            rw [HS.out]
            exact hown'
          clear hown' hg HK HN2 HO2 HS b0 hbz hz2'
          go_wp2
          go_roundw
          case rel => exact ⟨k + 1, by omega, by go_num, HP⟩
          case measure => simp [intOf]; omega
        · obtain rfl : k = n := by omega
          have hown := HK.out.own
          unfold ztL at hown
          rw [List.take_of_length_le (by rw [HL.out]; exact Nat.le_refl _)] at hown
          have hown2 : wr.ownsRow w.heap.size 34 2 u5 (l.map zt).length (rowT (l.map zt)) := by rw [List.length_map, HL.out]; exact hown
          obtain ⟨A', c', e, ht, hc'⟩ := tks_of_own hown2
          have hln : (l.map zt).length = k := by rw [List.length_map, HL.out]
          have HB := Lib.hid (bound_any A' c' (l.map zt) (i : Nat) wr ht hc')
          have HPG := Lib.hid (fun (h : tRight (l.map zt) = 0) (s : Nat) (hs : s ≤ 100000) W (hw : Nw wr W) => play_tasks A' c' (l.map zt) s W (ht.nw hw) h hs)
          have HBS := Lib.hid (fun (v : Nat) (h : boundO (l.map zt) (i : Nat) = some v) => boundO_some h)
          have HPER := Lib.hid (fun (h : tRight (l.map zt) = 0) => per_pos h)
          have HPMX := Lib.hid (fun (h : tRight (l.map zt) = 0) => ((tn_of ht h).ok i).2.1)
          rw [off_zt] at HPG
          rw [hln] at e hc' HB HPG
          subst e
          have HNW := Lib.hid HK.out.nw
          clear hown hown2 ht HK HL HA
          generalize l.map zt = la at *
          have HBI := Lib.hid hln
          clear hln
          go_wp2_with fail
          refine HB.out.mono ?_
          rintro e w2 ⟨rfl, hb⟩
          have HN2 := Lib.hid (HNW.out.then_ hb)
          have HM2 : Hid (Nw wr w2) := hb
          clear hb HB HNW
          simp only [bndV]
          cases hbd : boundO la (i : Nat) with
          | none =>
            rw [show (none : Option Nat).isSome = false from rfl, show (none : Option Nat).getD 0 = 0 from rfl]
            clear HPG HBS HPER HPMX HBI hbd
            go_wp2_with fail
            refine (alive_any _).mono ?_
            rintro e w3 ⟨rfl, hb⟩
            have HN3 := Lib.hid (HN2.out.then_ hb)
            clear hb
            go_wp2
            go_ret
            exact ⟨rfl, HN3.out⟩
          | some v =>
            obtain ⟨hr, i', hi', hi2, hbn⟩ := HBS.out v hbd
            obtain rfl : i = i' := by omega
            obtain ⟨hv1, hv2, -, -⟩ := bnd_some.1 hbn
            have hv3 := HPMX.out hr
            have hj := just_sent (n := la.length) (HPER.out hr) hi2 hbn
            rw [HBI.out] at hj
            have HP1 := Lib.hid (HPG.out hr (v - 1) (by omega))
            have HP2 := Lib.hid (HPG.out hr v (by omega))
            rw [show ((v - 1 : Nat) : Int) = (v : Int) - 1 by omega] at HP1
            have HJ := Lib.hid hj
            have hvb : v ≤ 100000 := by omega
            rw [show (some v).isSome = true from rfl, show (some v).getD 0 = v from rfl]
            clear hj HPG HBS HPER HPMX HBI hbd hbn hr hi' hv2 hv3
            go_wp2_with fail
            refine (HP1.out _ HM2.out).mono ?_
            rintro e w3 ⟨R1, rfl, hse1, hb⟩
            have HN3 := Lib.hid (HN2.out.then_ hb)
            have HM3 := Lib.hid (HM2.out.then_ hb)
            have HS1 := Lib.hid hse1
            clear hse1 hb HP1 HN2 HM2
            go_wp2_with fail
            refine (HP2.out _ HM3.out).mono ?_
            rintro e w4 ⟨R2, rfl, hse2, hb⟩
            have HN4 := Lib.hid (HN3.out.then_ hb)
            obtain ⟨r0, -, -⟩ := (HS1.out.nw hb).row i hi
            obtain ⟨q0, q1, -⟩ := hse2.row i hi
            have hz1' := (HS1.out.nw hb).z
            have hz2' := hse2.z
            obtain ⟨j1, j2, j3⟩ := HJ.out
            rw [j1] at r0
            rw [j2] at q0
            rw [j3] at q1
            have hkk : ((k : Int) != (k : Int)) = false := by simp
            have hvv : ((v : Int) == (v : Int)) = true := by simp
            have d6 : (i : Int) < (k : Int) := by omega
            have d7 : (0 : Int) ≤ (i : Int) := by omega
            clear hse2 hb HP2 HN3 HM3 HS1 HJ j1 j2 j3
            go_wp2_with fail
            refine (alive_any _).mono ?_
            rintro e w5 ⟨rfl, hb⟩
            have HN5 := Lib.hid (HN4.out.then_ hb)
            clear hb
            go_wp2
            go_ret
            exact ⟨rfl, HN5.out⟩
end Go.Proofs.Ytlmaanfgamocmaa
