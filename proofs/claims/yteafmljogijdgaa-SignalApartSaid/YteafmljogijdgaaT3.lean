/- Contracts: signal.Set. -/
import Derived.Test.YteafmljogijdgaaT2
import Derived.Lib.ConvBytes
import Derived.Laws.BytesArg
namespace Go.Proofs.Yteafmljogijdgaa
open Go.RowKit

def SetPost (t : ByteArray) (k : Int) (w : World) (e : Ending) (w' : World) : Prop := e = .returned (.tuple #[.string t, .int .i64 k]) ∧ Nw w w'

structure SInv (s : ByteArray) (p : Nat → Nat) (n : Int) (Bh Bn Bb cap : Nat) (W0 : World) (i : Nat) (W : World) : Prop where
  h : W.cell? ⟨Bh, 0, none⟩ = some (.slice (some ⟨Bb, 0, none⟩) s.size cap)
  nn : W.cell? ⟨Bn, 0, none⟩ = some (.int .i64 n)
  c : ∀ j, j < s.size → W.cell? ⟨Bb, j, none⟩ = some (.int .u8 ((setL (bytesL s) p n i).getD j 0 : Nat))
  f : ∀ j, j < s.size → W.frozen? ⟨Bb, j, none⟩ = false
  u : Upd (fun k => k = Bb) W0 W

theorem sinv_step (s : ByteArray) (st ln : Nat) (big : Bool) (n : Int) (Bh Bn Bb cap : Nat) (W0 : World) (hne : Bh ≠ Bb) (hne2 : Bn ≠ Bb) (hB1 : Bh < W0.heap.size) (hB2 : Bn < W0.heap.size) (hsz : st + ln ≤ 8 * s.size) (hsz2 : s.size ≤ 64) (hln : ln ≤ 60) (i : Nat) (W : World) (hi : i < ln)
    (H : SInv s (posN st ln big) n Bh Bn Bb cap W0 i W) :
    Calls Try.prog 24 #[.int .i64 i, .int .i64 (posN st ln big i : Nat), .pointer (some ⟨Bh, 0, none⟩), .pointer (some ⟨Bn, 0, none⟩)] W
      (fun e W' => e = .returned (.tuple #[]) ∧ Upd (fun k => k = Bb) W W' ∧ SInv s (posN st ln big) n Bh Bn Bb cap W0 (i + 1) W') := by
  have hp := posN_lt (n := s.size) big hi hsz
  have hp8 : posN st ln big i / 8 < s.size := by omega
  have hby := setL_bytes (bytesL_bytes s) (posN st ln big) n i (posN st ln big i / 8)
  refine (set1_any i (posN st ln big i) _ cap s.size n Bh Bb Bn W (by omega) (by omega) hp8 hsz2 hby H.h H.nn (H.c _ hp8) (H.f _ hp8) hne hne2).mono ?_
  rintro e W' ⟨rfl, hu, hc, ho, hf⟩
  have hW := H.u.size
  refine ⟨rfl, hu, ⟨?_, ?_, fun j hj => ?_, fun j hj => (hf j).trans (H.f j hj), H.u.trans hu⟩⟩
  · exact (hu.cell (by omega) hne).trans H.h
  · exact (hu.cell (by omega) hne2).trans H.nn
  · have hl : (setL (bytesL s) (posN st ln big) n i).length = s.size := by rw [setL_length, bytesL_length]
    show _ = some (Value.int .u8 ((putB (setL (bytesL s) (posN st ln big) n i) (posN st ln big i) (nbit n i)).getD j 0 : Nat))
    by_cases e : j = posN st ln big i / 8
    · subst e
      rw [hc]
      unfold putB
      simp [hl, hp8]
    · rw [ho j e, H.c j hj]
      unfold putB
      simp [List.getD, List.getElem?_set_ne (Ne.symm e)]

theorem rightB64 (st ln : Int) (n : Nat) (h : rightB st ln n = true) : rightB st ln 64 = true := by
  simp only [rightB, decide_eq_true_eq] at h ⊢
  omega

set_option maxHeartbeats 1600000 in
theorem set_wrong (s : ByteArray) (st ln n : Int) (big sg : Bool) (w : World) (h : rightB st ln s.size = false) :
    Calls Try.prog 12 #[.string s, fld st ln big sg, .int .i64 n] w (SetPost ⟨#[]⟩ 2 w) := by
  have H := Lib.hid h
  clear h
  go_enter Try.func12, Try.ntmps12
  go_wp2_with fail
  refine (right_any _ _ _ _ _ _).mono ?_
  rintro e w1 ⟨rfl, hb⟩
  rw [H.out]
  go_wp2
  go_ret2
  exact ⟨rfl, (Nw.then_ ((Below.refl _ w).alloc (Nat.le_refl _) _) ((Below.refl _ _).alloc (Nat.le_refl _) _)).then_ hb⟩

set_option maxHeartbeats 1600000 in
theorem set_range (s : ByteArray) (st ln n : Int) (big sg : Bool) (w : World) (h : rightB st ln s.size = true) (hn : n < loV st ln sg ∨ (loV st ln sg ≤ n ∧ hiV st ln sg < n)) :
    Calls Try.prog 12 #[.string s, fld st ln big sg, .int .i64 n] w (SetPost ⟨#[]⟩ 2 w) := by
  have H := Lib.hid h
  have HRG := Lib.hid (range_any st ln big sg)
  clear h
  generalize loV st ln sg = lo at *
  generalize hiV st ln sg = hi at *
  rcases hn with hn | ⟨hn1, hn2⟩
  all_goals
    go_enter Try.func12, Try.ntmps12
    go_wp2_with fail
    refine (right_any _ _ _ _ _ _).mono ?_
    rintro e w1 ⟨rfl, hb⟩
    rw [H.out]
    have hc0 : ∀ o, w1.cell? ⟨w.heap.size, o, none⟩ = (w.alloc (fcells st ln big sg)).cell? ⟨w.heap.size, o, none⟩ := fun o => by
      rw [(bcell hb).1 _ _ (by simp; omega), World.cell?_alloc_past _ _ _ (by simp)]
    have d0 : w1.cell? ⟨w.heap.size, 0, none⟩ = some (.int .i64 st) := by rw [hc0, alloc_cell_new rfl]; rfl
    have d1 : w1.cell? ⟨w.heap.size, 1, none⟩ = some (.int .i64 ln) := by rw [hc0, alloc_cell_new rfl]; rfl
    have d2 : w1.cell? ⟨w.heap.size, 2, none⟩ = some (.bool big) := by rw [hc0, alloc_cell_new rfl]; rfl
    have d3 : w1.cell? ⟨w.heap.size, 3, none⟩ = some (.bool sg) := by rw [hc0, alloc_cell_new rfl]; rfl
    have n0 : w1.cell? ⟨w.heap.size + 1, 0, none⟩ = some (.int .i64 n) := by rw [(bcell hb).1 _ _ (by simp), alloc_cell_new (by simp)]; rfl
    have hz := hb.size
    simp at hz
    have HB : Hid (Nw w w1) := (Nw.then_ ((Below.refl _ w).alloc (Nat.le_refl _) _) ((Below.refl _ _).alloc (Nat.le_refl _) _)).then_ hb
    clear hb hc0
    go_wp2_with fail
    refine (HRG.out _).mono ?_
    rintro e w2 ⟨rfl, hb⟩
    have m0 := (hb.cell (p := ⟨w.heap.size + 1, 0, none⟩) (by show w.heap.size + 1 < w1.heap.size; omega)).trans n0
    have HB2 : Hid (Nw w w2) := HB.out.then_ hb
    clear hb HB d0 d1 d2 d3 n0 hz
    go_wp2
    go_ret2
    exact ⟨rfl, HB2.out⟩

theorem strOf_nat (l : List Nat) : strOfNums (l.map fun x : Nat => (x : Int)) = strN l := by
  unfold strOfNums strN
  rw [List.map_map]
  rfl

set_option maxHeartbeats 3000000 in
theorem set_yes (s : ByteArray) (st ln : Nat) (n : Int) (big sg : Bool) (w : World) (h : rightB st ln s.size = true) (hn1 : loV st ln sg ≤ n) (hn2 : n ≤ hiV st ln sg) :
    Calls Try.prog 12 #[.string s, fld st ln big sg, .int .i64 n] w (SetPost (setS s st ln big n) 0 w) := by
  obtain ⟨hln1, hln2, hsz, hsz2⟩ := right64 h
  have H := Lib.hid h
  have HRG := Lib.hid (range_any st ln big sg)
  clear h
  generalize loV st ln sg = lo at *
  generalize hiV st ln sg = hi at *
  go_enter Try.func12, Try.ntmps12
  go_wp2_with fail
  refine (right_any _ _ _ _ _ _).mono ?_
  rintro e w1 ⟨rfl, hb⟩
  rw [H.out]
  have hc0 : ∀ o, w1.cell? ⟨w.heap.size, o, none⟩ = (w.alloc (fcells st ln big sg)).cell? ⟨w.heap.size, o, none⟩ := fun o => by
    rw [(bcell hb).1 _ _ (by simp; omega), World.cell?_alloc_past _ _ _ (by simp)]
  have d0 : w1.cell? ⟨w.heap.size, 0, none⟩ = some (.int .i64 st) := by rw [hc0, alloc_cell_new rfl]; rfl
  have d1 : w1.cell? ⟨w.heap.size, 1, none⟩ = some (.int .i64 ln) := by rw [hc0, alloc_cell_new rfl]; rfl
  have d2 : w1.cell? ⟨w.heap.size, 2, none⟩ = some (.bool big) := by rw [hc0, alloc_cell_new rfl]; rfl
  have d3 : w1.cell? ⟨w.heap.size, 3, none⟩ = some (.bool sg) := by rw [hc0, alloc_cell_new rfl]; rfl
  have n0 : w1.cell? ⟨w.heap.size + 1, 0, none⟩ = some (.int .i64 n) := by rw [(bcell hb).1 _ _ (by simp), alloc_cell_new (by simp)]; rfl
  have hz := hb.size
  simp at hz
  have HB : Hid (Nw w w1) := (Nw.then_ ((Below.refl _ w).alloc (Nat.le_refl _) _) ((Below.refl _ _).alloc (Nat.le_refl _) _)).then_ hb
  clear hb hc0
  go_wp2_with fail
  refine (HRG.out _).mono ?_
  rintro e w2 ⟨rfl, hb⟩
  have hlt0 : w.heap.size < w1.heap.size := by omega
  have hlt1 : w.heap.size + 1 < w1.heap.size := by omega
  have m0 := (hb.cell (p := ⟨w.heap.size + 1, 0, none⟩) hlt1).trans n0
  have e0 := (hb.cell (p := ⟨w.heap.size, 0, none⟩) hlt0).trans d0
  have e1 := (hb.cell (p := ⟨w.heap.size, 1, none⟩) hlt0).trans d1
  have e2 := (hb.cell (p := ⟨w.heap.size, 2, none⟩) hlt0).trans d2
  have e3 := (hb.cell (p := ⟨w.heap.size, 3, none⟩) hlt0).trans d3
  have hz2 := hb.size
  have HB2 : Hid (Nw w w2) := HB.out.then_ hb
  have hlu0 : w.heap.size < w2.heap.size := by omega
  have hlu1 : w.heap.size + 1 < w2.heap.size := by omega
  clear hb HB d0 d1 d2 d3 n0 hz hz2 hlt0 hlt1
  have kc := Lib.run_convert_string_bytes (P := Try.prog) w2 9 51 5 s Try.underlying9 Try.underlying51 Try.underlying5
  have b0 := (Lib.bytesWorld_old w2 5 s ⟨w.heap.size, 0, none⟩ hlu0).trans e0
  have b1 := (Lib.bytesWorld_old w2 5 s ⟨w.heap.size, 1, none⟩ hlu0).trans e1
  have b2 := (Lib.bytesWorld_old w2 5 s ⟨w.heap.size, 2, none⟩ hlu0).trans e2
  have b3 := (Lib.bytesWorld_old w2 5 s ⟨w.heap.size, 3, none⟩ hlu0).trans e3
  have bn := (Lib.bytesWorld_old w2 5 s ⟨w.heap.size + 1, 0, none⟩ hlu1).trans m0
  have bz := Lib.bytesWorld_size w2 5 s
  have bc : ∀ j, j < s.size → (Lib.bytesWorld w2 5 s).cell? ⟨w2.heap.size, j, none⟩ = some (.int .u8 ((bytesL s).getD j 0 : Nat)) := fun j hj => by
    rw [Lib.bytesWorld_cell w2 5 s j hj]
    unfold bytesL List.getD
    rw [List.getElem?_map]
    cases hg : s.data.toList[j]? with
    | none => simp at hg; omega
    | some b => rfl
  have bf : ∀ j, j < s.size → (Lib.bytesWorld w2 5 s).frozen? ⟨w2.heap.size, j, none⟩ = false := fun j hj => by
    unfold World.frozen?
    rw [Lib.bytesWorld_at_new]
    have : s.size ≤ (Lib.bytesCells w2 5 s).size := by
      rw [Lib.bytesCells, Array.size_append, Array.size_map]
      exact Nat.le_add_right _ _
    simp
    omega
  have bb : Nw w2 (Lib.bytesWorld w2 5 s) := by
    refine ⟨rfl, ?_, ?_, by omega, fun k hk => Lib.bytesWorld_at_old w2 5 s k hk⟩
    · simp [Lib.bytesWorld, World.freeze, World.alloc, World.drew, -World.alloc_eq, -World.drew_eq]
    · simp [Lib.bytesWorld, World.freeze, World.alloc, World.drew, -World.alloc_eq, -World.drew_eq]
  have BC := Lib.hid bc
  have BF := Lib.hid bf
  have BB := Lib.hid (HB2.out.then_ bb)
  have hgw : w.heap.size + 1 < w2.heap.size := hlu1
  have BZ : Hid ((Lib.bytesWorld w2 5 s).heap.size = w2.heap.size + 1) := bz
  clear bc bf bb bz hlu0 hlu1
  generalize Lib.bytesWorld w2 5 s = wB at *
  generalize grownCap w2 s.size 0 5 = cap at *
  have hq : w2.heap.size < wB.heap.size := by rw [BZ.out]; omega
  have hq0 : w.heap.size < wB.heap.size := by omega
  have hq1 : w.heap.size + 1 < wB.heap.size := by omega
  clear HB2
  go_wp2_with fail
  clear e0 e1 e2 e3 m0
  have hSz : Hid (¬ (fun k => k = w2.heap.size) (wB.alloc (.cells #[.slice (some ⟨w2.heap.size, 0, none⟩) s.size cap] 51)).heap.size) := by
    show ¬ (wB.alloc _).heap.size = w2.heap.size
    rw [World.size_alloc]
    omega
  refine (each24 _ _ (fun k => k = w2.heap.size) st ln big sg (wB.alloc (.cells #[.slice (some ⟨w2.heap.size, 0, none⟩) s.size cap] 51)) (SInv s (posN st ln big) n wB.heap.size (w.heap.size + 1) w2.heap.size cap (wB.alloc (.cells #[.slice (some ⟨w2.heap.size, 0, none⟩) s.size cap] 51))) hln1 hln2 (by omega) hSz.out ?_ ?_).mono ?_
  · refine ⟨?_, ?_, fun j hj => ?_, fun j hj => ?_, (Upd.refl _ _).alloc _⟩
    · rw [World.cell?_alloc_past _ _ _ (by simp), alloc_cell_new rfl]; rfl
    · rw [World.cell?_alloc_past _ _ _ (by simp; omega), World.cell?_alloc_past _ _ _ hq1]; exact bn
    · rw [World.cell?_alloc_past _ _ _ (by simp; omega), World.cell?_alloc_past _ _ _ hq]; exact BC.out j hj
    · rw [World.frozen?_alloc_past _ _ _ (by simp; omega), World.frozen?_alloc_past _ _ _ hq]; exact BF.out j hj
  · exact fun i W hi h => sinv_step s st ln big n _ _ _ cap _ (by omega) (by omega) (by simp) (by simp; omega) hsz hsz2 hln2 i W hi h
  rintro e w3 ⟨rfl, hi, hu⟩
  have hd := hi.h
  have kb := run_convert_bytes_arg (P := Try.prog) w3 51 5 Try.underlying51 Try.underlying5 w2.heap.size 0 s.size cap ((setL (bytesL s) (posN st ln big) n ln).map fun x : Nat => (x : Int)) (by simp [setL_length, bytesL_length])
    (fun j hj => by
      rw [Nat.zero_add, hi.c j hj]
      unfold List.getD
      rw [List.getElem?_map]
      cases hg : (setL (bytesL s) (posN st ln big) n ln)[j]? with
      | none => rfl
      | some b => rfl) 9 Try.underlying9
  rw [strOf_nat] at kb
  have HBF : Hid (Nw w w3) := (BB.out.then_ ((Below.refl _ _).alloc (Nat.le_refl _) _)).trans (hu.below (by have := BB.out.size; simp; omega) (fun k hk e => by omega))
  clear hi hu BC BF BB b0 b1 b2 b3 bn kc
  go_wp2
  go_ret2
  exact ⟨rfl, HBF.out⟩
end Go.Proofs.Yteafmljogijdgaa
