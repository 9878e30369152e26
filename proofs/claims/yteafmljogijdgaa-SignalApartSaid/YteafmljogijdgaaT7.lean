/- The walk of SignalApart. -/
import Derived.Test.YteafmljogijdgaaT6
namespace Go.Proofs.Yteafmljogijdgaa
open Go.RowKit

structure Two (w : World) (st ln : Int) (big sg : Bool) (st2 ln2 : Int) (big2 sg2 : Bool) (w' : World) : Prop where
  f : FAt w.heap.size st ln big sg w'
  g : FAt (w.heap.size + 1) st2 ln2 big2 sg2 w'
  n : Nw w w'
theorem Two.keep {w : World} {st ln : Int} {big sg : Bool} {st2 ln2 : Int} {big2 sg2 : Bool} {w1 w2 : World} (h : Two w st ln big sg st2 ln2 big2 sg2 w1) (k : Below w1.heap.size w1 w2) : Two w st ln big sg st2 ln2 big2 sg2 w2 :=
  ⟨h.f.keep k, h.g.keep k, h.n.then_ k⟩
theorem Two.start (w : World) (st ln : Int) (big sg : Bool) (st2 ln2 : Int) (big2 sg2 : Bool) : Two w st ln big sg st2 ln2 big2 sg2 ((w.alloc (fcells st ln big sg)).alloc (fcells st2 ln2 big2 sg2)) :=
  ⟨(FAt.new w st ln big sg rfl).keep ((Below.refl _ _).alloc (Nat.le_refl _) _), FAt.new _ _ _ _ _ (by simp), ((Below.refl _ w).alloc (Nat.le_refl _) _).alloc (by simp) _⟩

set_option maxHeartbeats 1600000 in
theorem signalApart_big (s : ByteArray) (st ln : Int) (big sg : Bool) (st2 ln2 : Int) (big2 sg2 : Bool) (n m : Int) (w : World) (hs : 64 < s.size) :
    Calls Try.prog 6 #[.string s, fld st ln big sg, fld st2 ln2 big2 sg2, .int .i64 n, .int .i64 m] w (TrueNw w) := by
  go_enter Try.func6, Try.ntmps6
  go_wp2_with fail
  refine (alive_any _).mono ?_
  rintro e w1 ⟨rfl, hb⟩
  have H1 := Lib.hid ((Two.start w st ln big sg st2 ln2 big2 sg2).keep hb)
  clear hb
  go_wp2
  go_ret
  exact ⟨rfl, H1.out.n⟩

set_option maxHeartbeats 1600000 in
theorem signalApart_not (s : ByteArray) (st ln : Int) (big sg : Bool) (st2 ln2 : Int) (big2 sg2 : Bool) (n m : Int) (w : World) (hs : ¬ 64 < s.size) (h : apartV st ln big st2 ln2 big2 = false) :
    Calls Try.prog 6 #[.string s, fld st ln big sg, fld st2 ln2 big2 sg2, .int .i64 n, .int .i64 m] w (TrueNw w) := by
  have HA := Lib.hid (apart_any st ln big sg st2 ln2 big2 sg2)
  rw [h] at HA
  clear h
  go_enter Try.func6, Try.ntmps6
  go_wp2_with fail
  refine (HA.out _).mono ?_
  rintro e w1 ⟨rfl, hb⟩
  have H1 := Lib.hid ((Two.start w st ln big sg st2 ln2 big2 sg2).keep hb)
  clear hb
  go_wp2_with fail
  refine (alive_any _).mono ?_
  rintro e w2 ⟨rfl, hb⟩
  have H2 := Lib.hid (H1.out.keep hb)
  clear hb H1
  go_wp2
  go_ret
  exact ⟨rfl, H2.out.n⟩

set_option maxHeartbeats 3000000 in
theorem signalApart_err (s : ByteArray) (st ln : Int) (big sg : Bool) (st2 ln2 : Int) (big2 sg2 : Bool) (n m : Int) (w : World) (hs : ¬ 64 < s.size) (h : apartV st ln big st2 ln2 big2 = true) (he : setOK s st ln sg n = false ∨ setOK s st ln sg n = true ∧ setOK s st2 ln2 sg2 m = false) :
    Calls Try.prog 6 #[.string s, fld st ln big sg, fld st2 ln2 big2 sg2, .int .i64 n, .int .i64 m] w (TrueNw w) := by
  have HA := Lib.hid (apart_any st ln big sg st2 ln2 big2 sg2)
  rw [h] at HA
  clear h
  have HS := Lib.hid (set_any s st ln n big sg)
  have HT := Lib.hid (set_any s st2 ln2 m big2 sg2)
  have hex : (∃ d, setE s st ln sg n = d ∧ (d != 0) = true) ∨ (setE s st ln sg n = 0 ∧ setE s st2 ln2 sg2 m = 2) := by
    unfold setE
    rcases he with h | ⟨h, k⟩
    · rw [h]; exact .inl ⟨2, by simp, by simp⟩
    · rw [h, k]; exact .inr ⟨by simp, by simp⟩
  clear he
  generalize setE s st ln sg n = d at *
  generalize setE s st2 ln2 sg2 m = d' at *
  generalize setV s st ln big sg n = a at *
  generalize setV s st2 ln2 big2 sg2 m = b at *
  rcases hex with ⟨_, rfl, hd⟩ | ⟨rfl, rfl⟩
  all_goals
    go_enter Try.func6, Try.ntmps6
    go_wp2_with fail
    refine (HA.out _).mono ?_
    rintro e w1 ⟨rfl, hb⟩
    have H1 := Lib.hid ((Two.start w st ln big sg st2 ln2 big2 sg2).keep hb)
    clear hb
    obtain ⟨c0, c1, c2, c3⟩ := H1.out.f.all
    go_wp2_with fail
    clear c0 c1 c2 c3
    refine (HS.out _).mono ?_
    rintro e w2 ⟨rfl, hb⟩
    have H2 := Lib.hid (H1.out.keep hb)
    clear hb H1
    obtain ⟨c0, c1, c2, c3⟩ := H2.out.g.all
    go_wp2_with fail
    clear c0 c1 c2 c3
    refine (HT.out _).mono ?_
    rintro e w3 ⟨rfl, hb⟩
    have H3 := Lib.hid (H2.out.keep hb)
    clear hb H2
    go_wp2_with fail
    refine (alive_any _).mono ?_
    rintro e w4 ⟨rfl, hb⟩
    have H4 := Lib.hid (H3.out.keep hb)
    clear hb H3
    go_wp2
    go_ret
    exact ⟨rfl, H4.out.n⟩

theorem accN_congr {s t : ByteArray} {p : Nat → Nat} {k : Nat} (h : ∀ i, i < k → bitB s (p i) = bitB t (p i)) : accN s p k = accN t p k := by
  induction k with
  | zero => rfl
  | succ k ih => simp only [accN, stepN, h k (Nat.lt_succ_self k), ih fun i hi => h i (Nat.lt_succ_of_lt hi)]

theorem getI_congr {s t : ByteArray} {st ln : Nat} {big sg : Bool} (hl : 1 ≤ ln) (h : ∀ i, i < ln → bitB s (posN st ln big i) = bitB t (posN st ln big i)) : getI s st ln big sg = getI t st ln big sg := by
  unfold getI
  rw [h (ln - 1) (by omega), accN_congr h]

set_option maxHeartbeats 4000000 in
theorem signalApart_yes (s : ByteArray) (st ln : Nat) (big sg : Bool) (st2 ln2 : Nat) (big2 sg2 : Bool) (n m : Int) (w : World) (hs : ¬ 64 < s.size) (h : apartV st ln big st2 ln2 big2 = true) (h1 : setOK s st ln sg n = true) (h2 : setOK s st2 ln2 sg2 m = true) :
    Calls Try.prog 6 #[.string s, fld st ln big sg, fld st2 ln2 big2 sg2, .int .i64 n, .int .i64 m] w (TrueNw w) := by
  have k1 := h1
  have k2 := h2
  simp only [setOK, Bool.and_eq_true, decide_eq_true_eq] at k1 k2
  obtain ⟨⟨r1, n1⟩, n2⟩ := k1
  obtain ⟨⟨r2, m1⟩, m2⟩ := k2
  obtain ⟨f1, f2, f3, f4⟩ := right64 r1
  obtain ⟨g1, g2, g3, g4⟩ := right64 r2
  have hap : apB (posN st ln big) ln (posN st2 ln2 big2) ln2 = true := by
    unfold apartV at h
    simp only [Bool.and_eq_true] at h
    simpa using h.2
  have hz1 := setS_size s st ln big n
  have hz2 := setS_size s st2 ln2 big2 m
  have ok1 : ∀ t : ByteArray, t.size = s.size → setV t st ln big sg n = setS t st ln big n ∧ setE t st ln sg n = 0 := fun t ht => by
    have e : setOK t st ln sg n = true := by unfold setOK; rw [ht]; exact h1
    unfold setV setE
    rw [if_pos e, if_pos e]
    exact ⟨by simp, rfl⟩
  have ok2 : ∀ t : ByteArray, t.size = s.size → setV t st2 ln2 big2 sg2 m = setS t st2 ln2 big2 m ∧ setE t st2 ln2 sg2 m = 0 := fun t ht => by
    have e : setOK t st2 ln2 sg2 m = true := by unfold setOK; rw [ht]; exact h2
    unfold setV setE
    rw [if_pos e, if_pos e]
    exact ⟨by simp, rfl⟩
  have hg : getV (setS s st ln big n) st2 ln2 big2 sg2 = getV s st2 ln2 big2 sg2 := by
    unfold getV
    rw [hz1, if_pos r2, if_pos r2]
    simp only [Int.toNat_natCast]
    exact getI_congr g1 fun i hi => setS_out s st ln big n f3 _ (posN_lt big2 hi g3) fun k hk => apB_ne hap k i hk hi
  have hx : setS (setS s st ln big n) st2 ln2 big2 m = setS (setS s st2 ln2 big2 m) st ln big n := by
    refine bits_ext (by simp only [setS_size]) fun k hk => ?_
    have hk' : k < 8 * s.size := by simpa only [setS_size] using hk
    by_cases ha : ∃ i, i < ln ∧ posN st ln big i = k
    · obtain ⟨i, hi, rfl⟩ := ha
      rw [setS_out _ st2 ln2 big2 m (by rw [hz1]; exact g3) _ (by rw [hz1]; exact hk') fun j hj e => apB_ne hap i j hi hj e.symm,
        setS_in _ _ _ _ _ f3 _ hi, setS_in _ _ _ _ _ (by rw [hz2]; exact f3) _ hi]
    · have ha' : ∀ i, i < ln → posN st ln big i ≠ k := fun i hi e => ha ⟨i, hi, e⟩
      rw [setS_out _ st ln big n (by rw [hz2]; exact f3) k (by rw [hz2]; exact hk') ha']
      by_cases hb : ∃ i, i < ln2 ∧ posN st2 ln2 big2 i = k
      · obtain ⟨i, hi, rfl⟩ := hb
        rw [setS_in _ _ _ _ _ (by rw [hz1]; exact g3) _ hi, setS_in _ _ _ _ _ g3 _ hi]
      · have hb' : ∀ i, i < ln2 → posN st2 ln2 big2 i ≠ k := fun i hi e => hb ⟨i, hi, e⟩
        rw [setS_out _ st2 ln2 big2 m (by rw [hz1]; exact g3) k (by rw [hz1]; exact hk') hb', setS_out _ st2 ln2 big2 m g3 k hk' hb', setS_out _ st ln big n f3 k hk' ha']
  have HA := Lib.hid (apart_any st ln big sg st2 ln2 big2 sg2)
  rw [h] at HA
  have hS1 := set_any s st ln n big sg
  rw [(ok1 s rfl).1, (ok1 s rfl).2] at hS1
  have hS2 := set_any s st2 ln2 m big2 sg2
  rw [(ok2 s rfl).1, (ok2 s rfl).2] at hS2
  have hS3 := set_any (setS s st ln big n) st2 ln2 m big2 sg2
  rw [(ok2 _ hz1).1, (ok2 _ hz1).2, hx] at hS3
  have hS4 := set_any (setS s st2 ln2 big2 m) st ln n big sg
  rw [(ok1 _ hz2).1, (ok1 _ hz2).2] at hS4
  have hG1 := get_any s st2 ln2 big2 sg2
  have hG2 := get_any (setS s st ln big n) st2 ln2 big2 sg2
  rw [hg] at hG2
  have HS1 := Lib.hid hS1
  have HS2 := Lib.hid hS2
  have HS3 := Lib.hid hS3
  have HS4 := Lib.hid hS4
  have HG1 := Lib.hid hG1
  have HG2 := Lib.hid hG2
  clear hS1 hS2 hS3 hS4 hG1 hG2 hx hg ok1 ok2 hz1 hz2 hap h h1 h2 r1 r2 n1 n2 m1 m2
  generalize setS (setS s st2 ln2 big2 m) st ln big n = q at *
  generalize setS s st ln big n = a at *
  generalize setS s st2 ln2 big2 m = b at *
  generalize getV s st2 ln2 big2 sg2 = x at *
  generalize getE s st2 ln2 = e1 at *
  generalize getE a st2 ln2 = e2 at *
  have hxx : (x == x) = true := by simp
  go_enter Try.func6, Try.ntmps6
  go_wp2_with fail
  refine (HA.out _).mono ?_
  rintro e w1 ⟨rfl, hb⟩
  have H1 := Lib.hid ((Two.start w st ln big sg st2 ln2 big2 sg2).keep hb)
  clear hb
  obtain ⟨c0, c1, c2, c3⟩ := H1.out.f.all
  go_wp2_with fail
  clear c0 c1 c2 c3
  refine (HS1.out _).mono ?_
  rintro e w2 ⟨rfl, hb⟩
  have H2 := Lib.hid (H1.out.keep hb)
  clear hb H1
  obtain ⟨c0, c1, c2, c3⟩ := H2.out.g.all
  go_wp2_with fail
  clear c0 c1 c2 c3
  refine (HS2.out _).mono ?_
  rintro e w3 ⟨rfl, hb⟩
  have H3 := Lib.hid (H2.out.keep hb)
  clear hb H2
  obtain ⟨c0, c1, c2, c3⟩ := H3.out.g.all
  go_wp2_with fail
  clear c0 c1 c2 c3
  refine (HG1.out _).mono ?_
  rintro e w4 ⟨rfl, hb⟩
  have H4 := Lib.hid (H3.out.keep hb)
  clear hb H3
  obtain ⟨c0, c1, c2, c3⟩ := H4.out.g.all
  go_wp2_with fail
  clear c0 c1 c2 c3
  refine (HG2.out _).mono ?_
  rintro e w5 ⟨rfl, hb⟩
  have H5 := Lib.hid (H4.out.keep hb)
  clear hb H4
  obtain ⟨c0, c1, c2, c3⟩ := H5.out.g.all
  go_wp2_with fail
  clear c0 c1 c2 c3
  refine (HS3.out _).mono ?_
  rintro e w6 ⟨rfl, hb⟩
  have H6 := Lib.hid (H5.out.keep hb)
  clear hb H5
  obtain ⟨c0, c1, c2, c3⟩ := H6.out.f.all
  go_wp2_with fail
  clear c0 c1 c2 c3
  refine (HS4.out _).mono ?_
  rintro e w7 ⟨rfl, hb⟩
  have H7 := Lib.hid (H6.out.keep hb)
  clear hb H6
  go_wp2_with fail
  refine (alive_any _).mono ?_
  rintro e w8 ⟨rfl, hb⟩
  have H8 := Lib.hid (H7.out.keep hb)
  clear hb H7
  go_wp2
  go_ret
  exact ⟨rfl, H8.out.n⟩

theorem signalApart_walk (s : ByteArray) (st ln : Int) (big sg : Bool) (st2 ln2 : Int) (big2 sg2 : Bool) (n m : Int) (w : World) :
    Calls Try.prog 6 #[.string s, fld st ln big sg, fld st2 ln2 big2 sg2, .int .i64 n, .int .i64 m] w (TrueNw w) := by
  by_cases hs : 64 < s.size
  · exact signalApart_big _ _ _ _ _ _ _ _ _ _ _ w hs
  · cases h : apartV st ln big st2 ln2 big2
    · exact signalApart_not _ _ _ _ _ _ _ _ _ _ _ w hs h
    · cases h1 : setOK s st ln sg n
      · exact signalApart_err _ _ _ _ _ _ _ _ _ _ _ w hs h (.inl h1)
      · cases h2 : setOK s st2 ln2 sg2 m
        · exact signalApart_err _ _ _ _ _ _ _ _ _ _ _ w hs h (.inr ⟨h1, h2⟩)
        · have k1 := h1
          have k2 := h2
          simp only [setOK, Bool.and_eq_true, decide_eq_true_eq] at k1 k2
          have r1 := k1.1.1
          have r2 := k2.1.1
          simp only [rightB, decide_eq_true_eq] at r1 r2
          obtain ⟨a, rfl⟩ := Int.eq_ofNat_of_zero_le (show 0 ≤ st by omega)
          obtain ⟨b, rfl⟩ := Int.eq_ofNat_of_zero_le (show 0 ≤ ln by omega)
          obtain ⟨c, rfl⟩ := Int.eq_ofNat_of_zero_le (show 0 ≤ st2 by omega)
          obtain ⟨d, rfl⟩ := Int.eq_ofNat_of_zero_le (show 0 ≤ ln2 by omega)
          exact signalApart_yes _ _ _ _ _ _ _ _ _ _ _ w hs h h1 h2
end Go.Proofs.Yteafmljogijdgaa
