/- The closures of Apart. -/
import Derived.Test.YteafmljogijdgaaT4
namespace Go.Proofs.Yteafmljogijdgaa
open Go.RowKit

def metB (p : Nat → Nat) (i b : Nat) : Bool := (List.range i).any (fun k => p k == b)
def apB (p : Nat → Nat) (ln : Nat) (q : Nat → Nat) (j : Nat) : Bool := (List.range j).all (fun k => !metB p ln (q k))
theorem metB_succ (p : Nat → Nat) (i b : Nat) : metB p (i + 1) b = (metB p i b || (p i == b)) := by simp [metB, List.range_succ]
theorem apB_succ (p : Nat → Nat) (ln : Nat) (q : Nat → Nat) (j : Nat) : apB p ln q (j + 1) = (apB p ln q j && !metB p ln (q j)) := by simp [apB, List.range_succ]
theorem apB_ne {p : Nat → Nat} {ln : Nat} {q : Nat → Nat} {j : Nat} (h : apB p ln q j = true) (a b : Nat) (ha : a < ln) (hb : b < j) : p a ≠ q b := by
  intro e
  simp only [apB, List.all_eq_true, List.mem_range] at h
  have := h b hb
  simp only [metB, Bool.not_eq_true', List.any_eq_false, List.mem_range, beq_iff_eq] at this
  exact this a ha e

theorem ap1_any (i b : Nat) (x : Bool) (Bm : Nat) (w : World) (_hi : i < 60) (hb2 : b < 512)
    (hc : w.cell? ⟨Bm, b, none⟩ = some (.bool x)) (hf : w.frozen? ⟨Bm, b, none⟩ = false) :
    Calls Try.prog 25 #[.int .i64 i, .int .i64 b, .pointer (some ⟨Bm, 0, none⟩)] w fun e w' => e = .returned (.tuple #[]) ∧ w' = (w.setCell ⟨Bm, b, none⟩ (.bool true)) := by
  go_enter Try.func25, Try.ntmps25
  go_wp2
  go_end0
  exact ⟨rfl, rfl⟩

theorem ap2_any (i b : Nat) (x y : Bool) (Bm Ba : Nat) (w : World) (_hi : i < 60) (hb2 : b < 512)
    (ha : w.cell? ⟨Ba, 0, none⟩ = some (.bool y)) (hc : w.cell? ⟨Bm, b, none⟩ = some (.bool x)) (hf : w.frozen? ⟨Ba, 0, none⟩ = false) :
    Calls Try.prog 26 #[.int .i64 i, .int .i64 b, .pointer (some ⟨Ba, 0, none⟩), .pointer (some ⟨Bm, 0, none⟩)] w fun e w' => e = .returned (.tuple #[]) ∧ w' = (w.setCell ⟨Ba, 0, none⟩ (.bool (y && !x))) := by
  cases y
  all_goals
    go_enter Try.func26, Try.ntmps26
    go_wp2
    go_end0
    exact ⟨rfl, rfl⟩

structure MInv (p : Nat → Nat) (Bm Ba : Nat) (i : Nat) (y : Bool) (W : World) : Prop where
  c : ∀ j, j < 512 → W.cell? ⟨Bm, j, none⟩ = some (.bool (metB p i j))
  f : ∀ j, j < 512 → W.frozen? ⟨Bm, j, none⟩ = false
  a : W.cell? ⟨Ba, 0, none⟩ = some (.bool y)
  fa : W.frozen? ⟨Ba, 0, none⟩ = false

theorem minv_one (p : Nat → Nat) (Bm Ba : Nat) (hne : Bm ≠ Ba) (i : Nat) (y : Bool) (W : World) (hi : i < 60) (hp : p i < 512) (H : MInv p Bm Ba i y W) :
    Calls Try.prog 25 #[.int .i64 i, .int .i64 (p i : Nat), .pointer (some ⟨Bm, 0, none⟩)] W (fun e W' => e = .returned (.tuple #[]) ∧ Upd (fun k => k = Bm) W W' ∧ MInv p Bm Ba (i + 1) y W') := by
  refine (ap1_any i (p i) _ Bm W hi hp (H.c _ hp) (H.f _ hp)).mono ?_
  rintro e W' ⟨rfl, rfl⟩
  refine ⟨rfl, (Upd.refl (fun k => k = Bm) _).setCell rfl _, ⟨fun j hj => ?_, fun j hj => frozen_set.trans (H.f j hj), ?_, frozen_set.trans H.fa⟩⟩
  · rw [metB_succ]
    by_cases e : j = p i
    · subst e
      rw [cell_set_same (H.c _ hp)]
      simp
    · rw [World.cell?_setCell_other _ _ _ _ (fun h => e (by injection h with _ h; omega)), H.c j hj]
      have : (p i == j) = false := by simp; omega
      rw [this, Bool.or_false]
  · rw [World.cell?_setCell_other _ _ _ _ (fun h => hne (by injection h))]
    exact H.a

theorem minv_two (p : Nat → Nat) (ln : Nat) (q : Nat → Nat) (Bm Ba : Nat) (hne : Bm ≠ Ba) (i : Nat) (W : World) (hi : i < 60) (hp : q i < 512) (H : MInv p Bm Ba ln (apB p ln q i) W) :
    Calls Try.prog 26 #[.int .i64 i, .int .i64 (q i : Nat), .pointer (some ⟨Ba, 0, none⟩), .pointer (some ⟨Bm, 0, none⟩)] W (fun e W' => e = .returned (.tuple #[]) ∧ Upd (fun k => k = Ba) W W' ∧ MInv p Bm Ba ln (apB p ln q (i + 1)) W') := by
  refine (ap2_any i (q i) _ _ Bm Ba W hi hp H.a (H.c _ hp) H.fa).mono ?_
  rintro e W' ⟨rfl, rfl⟩
  refine ⟨rfl, (Upd.refl (fun k => k = Ba) _).setCell rfl _, ⟨fun j hj => ?_, fun j hj => frozen_set.trans (H.f j hj), ?_, frozen_set.trans H.fa⟩⟩
  · rw [World.cell?_setCell_other _ _ _ _ (fun h => hne (by injection h with h; exact h.symm))]
    exact H.c j hj
  · rw [apB_succ, cell_set_same H.a]

def apartV (st ln : Int) (big : Bool) (st2 ln2 : Int) (big2 : Bool) : Bool :=
  rightB st ln 64 && rightB st2 ln2 64 && apB (posN st.toNat ln.toNat big) ln.toNat (posN st2.toNat ln2.toNat big2) ln2.toNat
def BPost (b : Bool) (w : World) (e : Ending) (w' : World) : Prop := e = .returned (.bool b) ∧ Nw w w'

theorem MInv.alloc {p : Nat → Nat} {Bm Ba i : Nat} {y : Bool} {W : World} (H : MInv p Bm Ba i y W) (h1 : Bm < W.heap.size) (h2 : Ba < W.heap.size) (o : Obj) : MInv p Bm Ba i y (W.alloc o) :=
  ⟨fun j hj => (World.cell?_alloc_past _ _ _ h1).trans (H.c j hj), fun j hj => (World.frozen?_alloc_past _ _ _ h1).trans (H.f j hj), (World.cell?_alloc_past _ _ _ h2).trans H.a, (World.frozen?_alloc_past _ _ _ h2).trans H.fa⟩

structure FAt (b : Nat) (st ln : Int) (big sg : Bool) (w : World) : Prop where
  c : ∀ o, w.cell? ⟨b, o, none⟩ = (#[Value.int .i64 st, .int .i64 ln, .bool big, .bool sg] : Array Value)[o]?
  z : b < w.heap.size
theorem FAt.new (w : World) (st ln : Int) (big sg : Bool) {b : Nat} (hb : b = w.heap.size) : FAt b st ln big sg (w.alloc (fcells st ln big sg)) := ⟨fun o => alloc_cell_new hb o, by subst hb; simp⟩
theorem FAt.keep {b : Nat} {st ln : Int} {big sg : Bool} {w w' : World} (h : FAt b st ln big sg w) (k : Below w.heap.size w w') : FAt b st ln big sg w' :=
  ⟨fun o => (k.cell (p := ⟨b, o, none⟩) h.z).trans (h.c o), Nat.lt_of_lt_of_le h.z k.size⟩
theorem FAt.upd {b : Nat} {st ln : Int} {big sg : Bool} {w w' : World} {S : Nat → Prop} (h : FAt b st ln big sg w) (k : Upd S w w') (hs : ¬ S b) : FAt b st ln big sg w' :=
  ⟨fun o => (k.cell (o := o) h.z hs).trans (h.c o), Nat.lt_of_lt_of_le h.z k.size⟩
theorem FAt.all {b : Nat} {st ln : Int} {big sg : Bool} {w : World} (h : FAt b st ln big sg w) :
    w.cell? ⟨b, 0, none⟩ = some (.int .i64 st) ∧ w.cell? ⟨b, 1, none⟩ = some (.int .i64 ln) ∧ w.cell? ⟨b, 2, none⟩ = some (.bool big) ∧ w.cell? ⟨b, 3, none⟩ = some (.bool sg) :=
  ⟨h.c 0, h.c 1, h.c 2, h.c 3⟩

def zeros512 : Array Value := Array.replicate 512 (.bool false)
theorem zeros512_at (j : Nat) (h : j < 512) : zeros512[j]? = some (.bool false) := by
  unfold zeros512
  rw [Array.getElem?_replicate, if_pos h]
theorem zero52 (w : World) : (zeroValue 52).run Try.prog w = .ok (.agg zeros512) w := by kernel_rfl

set_option maxHeartbeats 1600000 in
theorem apart_no (st ln : Int) (big sg : Bool) (st2 ln2 : Int) (big2 sg2 : Bool) (w : World) (h : rightB st ln 64 = false) :
    Calls Try.prog 18 #[fld st ln big sg, fld st2 ln2 big2 sg2] w (BPost false w) := by
  have H := Lib.hid h
  clear h
  go_enter Try.func18, Try.ntmps18
  go_wp2_with fail
  refine (right_any _ _ _ _ _ _).mono ?_
  rintro e w1 ⟨rfl, hb⟩
  rw [H.out]
  have HN : Hid (Nw w w1) := Nw.then_ ((Below.refl _ w).alloc (Nat.le_refl _) _ |>.alloc (by simp) _) hb
  clear hb
  go_wp2
  go_ret
  exact ⟨rfl, HN.out⟩

set_option maxHeartbeats 1600000 in
theorem apart_no2 (st ln : Int) (big sg : Bool) (st2 ln2 : Int) (big2 sg2 : Bool) (w : World) (h : rightB st ln 64 = true) (h2 : rightB st2 ln2 64 = false) :
    Calls Try.prog 18 #[fld st ln big sg, fld st2 ln2 big2 sg2] w (BPost false w) := by
  have H := Lib.hid h
  have H2 := Lib.hid h2
  clear h h2
  go_enter Try.func18, Try.ntmps18
  go_wp2_with fail
  refine (right_any _ _ _ _ _ _).mono ?_
  rintro e w1 ⟨rfl, hb⟩
  rw [H.out]
  have HN : Hid (Nw w w1) := Nw.then_ ((Below.refl _ w).alloc (Nat.le_refl _) _ |>.alloc (by simp) _) hb
  have HF := Lib.hid ((FAt.new (w.alloc (fcells st ln big sg)) st2 ln2 big2 sg2 (b := w.heap.size + 1) (by simp)).keep hb)
  obtain ⟨d0, d1, d2, d3⟩ := HF.out.all
  clear hb
  go_wp2_with fail
  refine (right_any _ _ _ _ _ _).mono ?_
  rintro e w2 ⟨rfl, hb2⟩
  rw [H2.out]
  have HN2 := Lib.hid (HN.out.then_ hb2)
  clear hb2 d0 d1 d2 d3
  go_wp2
  go_ret
  exact ⟨rfl, HN2.out⟩

set_option maxHeartbeats 3000000 in
theorem apart_yes (st ln : Nat) (big sg : Bool) (st2 ln2 : Nat) (big2 sg2 : Bool) (w : World) (h : rightB st ln 64 = true) (h2 : rightB st2 ln2 64 = true) :
    Calls Try.prog 18 #[fld st ln big sg, fld st2 ln2 big2 sg2] w (BPost (apB (posN st ln big) ln (posN st2 ln2 big2) ln2) w) := by
  obtain ⟨hln1, hln2, hsz, -⟩ := right64 (n := 64) h
  obtain ⟨kln1, kln2, ksz, -⟩ := right64 (n := 64) h2
  have H := Lib.hid h
  have H2 := Lib.hid h2
  clear h h2
  go_enter Try.func18, Try.ntmps18
  go_wp2_with fail
  refine (right_any _ _ _ _ _ _).mono ?_
  rintro e w1 ⟨rfl, hb⟩
  rw [H.out]
  have HN : Hid (Nw w w1) := Nw.then_ ((Below.refl _ w).alloc (Nat.le_refl _) _ |>.alloc (by simp) _) hb
  have HF := Lib.hid ((FAt.new (w.alloc (fcells st ln big sg)) st2 ln2 big2 sg2 (b := w.heap.size + 1) (by simp)).keep hb)
  have HE := Lib.hid (((FAt.new w st ln big sg rfl).keep ((Below.refl _ _).alloc (Nat.le_refl _) (fcells st2 ln2 big2 sg2))).keep hb)
  obtain ⟨d0, d1, d2, d3⟩ := HF.out.all
  clear hb
  go_wp2_with fail
  refine (right_any _ _ _ _ _ _).mono ?_
  rintro e w2 ⟨rfl, hb2⟩
  rw [H2.out]
  clear d0 d1 d2 d3
  have HN2 := Lib.hid (HN.out.then_ hb2)
  have HF2 := Lib.hid (HF.out.keep hb2)
  have HE2 := Lib.hid (HE.out.keep hb2)
  clear HN HF HE hb2 
  obtain ⟨d0, d1, d2, d3⟩ := HE2.out.all
  have hz := HE2.out.z
  have kz := zero52 w2
  go_wp2_with fail
  clear kz d0 d1 d2 d3
  have hg : Below w2.heap.size w2 ((w2.alloc (.cells zeros512 52)).alloc (.cells #[.bool true] 4)) := ((Below.refl _ w2).alloc (Nat.le_refl _) _).alloc (by simp) _
  have hm : MInv (posN st ln big) w2.heap.size (w2.heap.size + 1) 0 true ((w2.alloc (.cells zeros512 52)).alloc (.cells #[.bool true] 4)) := by
    refine ⟨fun j hj => ?_, fun j hj => ?_, ?_, ?_⟩
    · rw [World.cell?_alloc_past _ _ _ (by simp), alloc_cell_new rfl, zeros512_at j hj]; rfl
    · rw [World.frozen?_alloc_past _ _ _ (by simp)]; exact World.frozen?_alloc_new _ _ _ _
    · rw [alloc_cell_new (by simp)]; rfl
    · rw [show w2.heap.size + 1 = (w2.alloc (.cells zeros512 52)).heap.size by simp]; exact World.frozen?_alloc_new _ _ _ _
  have hzA : ((w2.alloc (.cells zeros512 52)).alloc (.cells #[.bool true] 4)).heap.size = w2.heap.size + 2 := by simp
  have HFA := Lib.hid (HF2.out.keep hg)
  have HNA := Lib.hid (HN2.out.then_ hg)
  have HM := Lib.hid hm
  have HSA := Lib.hid hzA
  generalize (w2.alloc (.cells zeros512 52)).alloc (.cells #[.bool true] 4) = wA at *
  have hlt1 : w2.heap.size < wA.heap.size := by omega
  have hlt2 : w2.heap.size + 1 < wA.heap.size := by omega
  have hw2z : w.heap.size + 1 < w2.heap.size := HF2.out.z
  clear hg hm hzA HF2 HE2 HN2
  refine (each25 _ (fun k => k = w2.heap.size) st ln big sg wA (fun i W => MInv (posN st ln big) w2.heap.size (w2.heap.size + 1) i true W) hln1 hln2 (by omega) (by show ¬ wA.heap.size = w2.heap.size; omega) (HM.out.alloc hlt1 hlt2 _)
    (fun i W hi h => minv_one _ _ _ (by omega) i true W (by omega) (Nat.lt_of_lt_of_le (posN_lt (n := 64) big hi hsz) (by omega)) h)).mono ?_
  rintro e w3 ⟨rfl, hi, hu⟩
  have HM3 := Lib.hid hi
  have HF3 := Lib.hid (HFA.out.upd hu (by show ¬ w.heap.size + 1 = w2.heap.size; omega))
  have HU3 := Lib.hid hu
  have hz3 := hu.size
  clear hi hu HM
  obtain ⟨d0, d1, d2, d3⟩ := HF3.out.all
  go_wp2_with fail
  clear d0 d1 d2 d3
  refine (each26 _ _ (fun k => k = w2.heap.size + 1) st2 ln2 big2 sg2 w3 (fun i W => MInv (posN st ln big) w2.heap.size (w2.heap.size + 1) ln (apB (posN st ln big) ln (posN st2 ln2 big2) i) W) kln1 kln2 (by omega) (by show ¬ w3.heap.size = w2.heap.size + 1; omega) (HM3.out.alloc (by omega) (by omega) _)
    (fun i W hi h => minv_two _ _ _ _ _ (by omega) i W (by omega) (Nat.lt_of_lt_of_le (posN_lt (n := 64) big2 hi ksz) (by omega)) h)).mono ?_
  rintro e w4 ⟨rfl, hi, hu⟩
  have HN4 : Hid (Nw w w4) := (HNA.out.trans (HU3.out.below (by omega) (fun k hk => by show ¬ k = _; omega))).trans (hu.below (by omega) (fun k hk => by show ¬ k = _; omega))
  have hd := hi.a
  clear hi hu
  go_wp2
  go_ret
  exact ⟨rfl, HN4.out⟩

theorem apart_any (st ln : Int) (big sg : Bool) (st2 ln2 : Int) (big2 sg2 : Bool) (w : World) :
    Calls Try.prog 18 #[fld st ln big sg, fld st2 ln2 big2 sg2] w (BPost (apartV st ln big st2 ln2 big2) w) := by
  by_cases h : rightB st ln 64 = true
  · by_cases h2 : rightB st2 ln2 64 = true
    · have hr := h
      have hr2 := h2
      simp only [rightB, decide_eq_true_eq] at hr hr2
      obtain ⟨a, rfl⟩ := Int.eq_ofNat_of_zero_le (show 0 ≤ st by omega)
      obtain ⟨b, rfl⟩ := Int.eq_ofNat_of_zero_le (show 0 ≤ ln by omega)
      obtain ⟨c, rfl⟩ := Int.eq_ofNat_of_zero_le (show 0 ≤ st2 by omega)
      obtain ⟨d, rfl⟩ := Int.eq_ofNat_of_zero_le (show 0 ≤ ln2 by omega)
      unfold apartV
      rw [h, h2, Bool.true_and, Bool.true_and]
      exact apart_yes a b big sg c d big2 sg2 w h h2
    · unfold apartV
      rw [show rightB st2 ln2 64 = false by simpa using h2, Bool.and_false, Bool.false_and]
      exact apart_no2 st ln big sg st2 ln2 big2 sg2 w h (by simpa using h2)
  · unfold apartV
    rw [show rightB st ln 64 = false by simpa using h, Bool.false_and, Bool.false_and]
    exact apart_no st ln big sg st2 ln2 big2 sg2 w (by simpa using h)
end Go.Proofs.Yteafmljogijdgaa
