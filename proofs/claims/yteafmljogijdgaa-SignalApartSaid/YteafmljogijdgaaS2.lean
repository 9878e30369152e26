/- Contracts: what is done with each of a field's bits; the number of a field. -/
import Derived.Test.YteafmljogijdgaaS1
namespace Go.Proofs.Yteafmljogijdgaa
open Go.RowKit

/-- The world is as it was, but for the blocks of S and new ones. -/
structure Upd (S : Nat → Prop) (w w' : World) : Prop where
  os : w'.os = w.os
  tape : w'.tape = w.tape
  output : w'.output = w.output
  size : w.heap.size ≤ w'.heap.size
  block : ∀ k, k < w.heap.size → ¬ S k → w'.heap[k]? = w.heap[k]?
theorem Upd.refl (S : Nat → Prop) (w : World) : Upd S w w := ⟨rfl, rfl, rfl, Nat.le_refl _, fun _ _ _ => rfl⟩
theorem Upd.trans {S : Nat → Prop} {a b c : World} (h : Upd S a b) (k : Upd S b c) : Upd S a c :=
  ⟨k.os.trans h.os, k.tape.trans h.tape, k.output.trans h.output, Nat.le_trans h.size k.size, fun i hi hs => (k.block i (Nat.lt_of_lt_of_le hi h.size) hs).trans (h.block i hi hs)⟩
theorem Upd.drew {S : Nat → Prop} {a w : World} (h : Upd S a w) : Upd S a w.drew := ⟨h.os, h.tape, h.output, h.size, h.block⟩
theorem Upd.alloc {S : Nat → Prop} {a w : World} (h : Upd S a w) (o : Obj) : Upd S a (w.alloc o) :=
  h.trans ⟨rfl, rfl, rfl, by simp, fun k hk _ => Below.heap_alloc _ _ _ hk⟩
theorem Upd.setCell {S : Nat → Prop} {a w : World} (h : Upd S a w) {p : Addr} (hp : S p.block) (u : Value) : Upd S a (w.setCell p u) :=
  h.trans ⟨rfl, rfl, rfl, by simp [World.setCell], fun k _ hs => Below.heap_setCell _ _ _ _ (fun e => hs (by rw [e]; exact hp))⟩
theorem Upd.mono {S T : Nat → Prop} {a w : World} (h : Upd S a w) (hst : ∀ k, k < a.heap.size → S k → T k) : Upd T a w :=
  ⟨h.os, h.tape, h.output, h.size, fun k hk hs => h.block k hk (fun x => hs (hst k hk x))⟩
theorem Upd.below {S : Nat → Prop} {a w : World} (h : Upd S a w) {B : Nat} (hB : B ≤ a.heap.size) (hs : ∀ k, k < B → ¬ S k) : Below B a w :=
  ⟨h.os, h.tape, h.output, h.size, fun k hk => h.block k (by omega) (hs k hk)⟩
theorem Upd.of_nw {S : Nat → Prop} {a w : World} (h : Nw a w) : Upd S a w := ⟨h.os, h.tape, h.output, h.size, fun k hk _ => h.block k hk⟩
theorem Upd.cell {S : Nat → Prop} {a w : World} (h : Upd S a w) {b o : Nat} (hb : b < a.heap.size) (hs : ¬ S b) : w.cell? ⟨b, o, none⟩ = a.cell? ⟨b, o, none⟩ := World.cell?_of_block (w := a) (h.block b hb hs)
theorem Upd.frozen {S : Nat → Prop} {a w : World} (h : Upd S a w) {b o : Nat} (hb : b < a.heap.size) (hs : ¬ S b) : w.frozen? ⟨b, o, none⟩ = a.frozen? ⟨b, o, none⟩ := World.frozen?_of_block (w := a) (h.block b hb hs)

def Unit_ (I : World → Prop) (e : Ending) (w' : World) : Prop := e = .returned (.tuple #[]) ∧ I w'

set_option maxHeartbeats 1600000 in
/-- 'each' with closure number 21. -/
theorem each21 (c1 c2 : Value) (S : Nat → Prop) (st ln : Nat) (big sg : Bool) (w : World) (Inv : Nat → World → Prop)
    (_hl1 : 1 ≤ ln) (_hl2 : ln ≤ 60) (_hs : st + ln ≤ 512) (hS : ¬ S w.heap.size)
    (h0 : Inv 0 (w.alloc (fcells st ln big sg)))
    (hstep : ∀ (i : Nat) (W : World), i < ln → Inv i W → Calls Try.prog 21 #[.int .i64 i, .int .i64 (posN st ln big i : Nat), c1, c2] W (fun e W' => e = .returned (.tuple #[]) ∧ Upd S W W' ∧ Inv (i + 1) W')) :
    Calls Try.prog 20 #[fld st ln big sg, .func (.func 21) #[] #[c1, c2]] w (Unit_ fun w' => Inv ln w' ∧ Upd S w w') := by
  have HS := Lib.hid hS
  have HST := Lib.hid hstep
  have H0 := Lib.hid h0
  clear hS hstep h0
  go_enter Try.func20, Try.ntmps20
  go_wp2
  go_loopw [8] (fun i wr => ∃ k : Nat, k ≤ ln ∧ i = .int .i64 k ∧ Hid (Inv k wr) ∧ Hid (Upd S (w.alloc (fcells st ln big sg)) wr)) (fun i _ => ln - (intOf i).toNat)
  case atStart => exact ⟨0, Nat.zero_le _, rfl, H0, Lib.hid (Upd.refl _ _)⟩
  case round =>
    obtain ⟨k, hk, rfl, HI, HU⟩ := hrel
    have hz := HU.out.size
    have hb : w.heap.size < wr.heap.size := by simp at hz; omega
    have hc0 : ∀ o, wr.cell? ⟨w.heap.size, o, none⟩ = (w.alloc (fcells st ln big sg)).cell? ⟨w.heap.size, o, none⟩ := fun o => HU.out.cell (by simp) HS.out
    have c0 : wr.cell? ⟨w.heap.size, 0, none⟩ = some (.int .i64 st) := (hc0 0).trans (by rw [World.cell?_alloc_at _ _ _ _ rfl]; rfl)
    have c1' : wr.cell? ⟨w.heap.size, 1, none⟩ = some (.int .i64 ln) := (hc0 1).trans (by rw [World.cell?_alloc_at _ _ _ _ rfl]; rfl)
    have c2' : wr.cell? ⟨w.heap.size, 2, none⟩ = some (.bool big) := (hc0 2).trans (by rw [World.cell?_alloc_at _ _ _ _ rfl]; rfl)
    clear hc0 hz hb
    by_cases hlt : k < ln
    · have HC := HST.out k wr hlt HI.out
      cases big
      · rw [show ((posN st ln false k : Nat) : Int) = (st : Int) + (k : Int) from by simp [posN]] at HC
        have HC' := Lib.hid HC
        clear HC
        go_wp2_with fail
        refine HC'.out.mono ?_
        clear HC'
        rintro e w1 ⟨rfl, hu, hi⟩
        have HI1 := Lib.hid hi
        have HU1 := Lib.hid (HU.out.trans hu)
        clear hu hi HI HU c0 c1' c2'
        go_wp2
        go_roundw
        case rel => exact ⟨k + 1, by omega, by go_num, HI1, HU1⟩
        case measure => simp [intOf]; omega
      · rw [show ((posN st ln true k : Nat) : Int) = ((st : Int) + ln - 1 - k) / 8 * 8 + 8 - 1 - ((st : Int) + ln - 1 - k) % 8 from by simp only [posN, if_true]; omega] at HC
        have HC' := Lib.hid HC
        clear HC
        go_wp2_with fail
        refine HC'.out.mono ?_
        clear HC'
        rintro e w1 ⟨rfl, hu, hi⟩
        have HI1 := Lib.hid hi
        have HU1 := Lib.hid (HU.out.trans hu)
        clear hu hi HI HU c0 c1' c2'
        go_wp2
        go_roundw
        case rel => exact ⟨k + 1, by omega, by go_num, HI1, HU1⟩
        case measure => simp [intOf]; omega
    · go_wp2
      have e : k = ln := by omega
      subst e
      go_end0
      exact ⟨rfl, HI.out, ((Upd.refl S w).alloc _).trans HU.out⟩
set_option maxHeartbeats 1600000 in
/-- 'each' with closure number 24. -/
theorem each24 (c1 c2 : Value) (S : Nat → Prop) (st ln : Nat) (big sg : Bool) (w : World) (Inv : Nat → World → Prop)
    (_hl1 : 1 ≤ ln) (_hl2 : ln ≤ 60) (_hs : st + ln ≤ 512) (hS : ¬ S w.heap.size)
    (h0 : Inv 0 (w.alloc (fcells st ln big sg)))
    (hstep : ∀ (i : Nat) (W : World), i < ln → Inv i W → Calls Try.prog 24 #[.int .i64 i, .int .i64 (posN st ln big i : Nat), c1, c2] W (fun e W' => e = .returned (.tuple #[]) ∧ Upd S W W' ∧ Inv (i + 1) W')) :
    Calls Try.prog 20 #[fld st ln big sg, .func (.func 24) #[] #[c1, c2]] w (Unit_ fun w' => Inv ln w' ∧ Upd S w w') := by
  have HS := Lib.hid hS
  have HST := Lib.hid hstep
  have H0 := Lib.hid h0
  clear hS hstep h0
  go_enter Try.func20, Try.ntmps20
  go_wp2
  go_loopw [8] (fun i wr => ∃ k : Nat, k ≤ ln ∧ i = .int .i64 k ∧ Hid (Inv k wr) ∧ Hid (Upd S (w.alloc (fcells st ln big sg)) wr)) (fun i _ => ln - (intOf i).toNat)
  case atStart => exact ⟨0, Nat.zero_le _, rfl, H0, Lib.hid (Upd.refl _ _)⟩
  case round =>
    obtain ⟨k, hk, rfl, HI, HU⟩ := hrel
    have hz := HU.out.size
    have hb : w.heap.size < wr.heap.size := by simp at hz; omega
    have hc0 : ∀ o, wr.cell? ⟨w.heap.size, o, none⟩ = (w.alloc (fcells st ln big sg)).cell? ⟨w.heap.size, o, none⟩ := fun o => HU.out.cell (by simp) HS.out
    have c0 : wr.cell? ⟨w.heap.size, 0, none⟩ = some (.int .i64 st) := (hc0 0).trans (by rw [World.cell?_alloc_at _ _ _ _ rfl]; rfl)
    have c1' : wr.cell? ⟨w.heap.size, 1, none⟩ = some (.int .i64 ln) := (hc0 1).trans (by rw [World.cell?_alloc_at _ _ _ _ rfl]; rfl)
    have c2' : wr.cell? ⟨w.heap.size, 2, none⟩ = some (.bool big) := (hc0 2).trans (by rw [World.cell?_alloc_at _ _ _ _ rfl]; rfl)
    clear hc0 hz hb
    by_cases hlt : k < ln
    · have HC := HST.out k wr hlt HI.out
      cases big
      · rw [show ((posN st ln false k : Nat) : Int) = (st : Int) + (k : Int) from by simp [posN]] at HC
        have HC' := Lib.hid HC
        clear HC
        go_wp2_with fail
        refine HC'.out.mono ?_
        clear HC'
        rintro e w1 ⟨rfl, hu, hi⟩
        have HI1 := Lib.hid hi
        have HU1 := Lib.hid (HU.out.trans hu)
        clear hu hi HI HU c0 c1' c2'
        go_wp2
        go_roundw
        case rel => exact ⟨k + 1, by omega, by go_num, HI1, HU1⟩
        case measure => simp [intOf]; omega
      · rw [show ((posN st ln true k : Nat) : Int) = ((st : Int) + ln - 1 - k) / 8 * 8 + 8 - 1 - ((st : Int) + ln - 1 - k) % 8 from by simp only [posN, if_true]; omega] at HC
        have HC' := Lib.hid HC
        clear HC
        go_wp2_with fail
        refine HC'.out.mono ?_
        clear HC'
        rintro e w1 ⟨rfl, hu, hi⟩
        have HI1 := Lib.hid hi
        have HU1 := Lib.hid (HU.out.trans hu)
        clear hu hi HI HU c0 c1' c2'
        go_wp2
        go_roundw
        case rel => exact ⟨k + 1, by omega, by go_num, HI1, HU1⟩
        case measure => simp [intOf]; omega
    · go_wp2
      have e : k = ln := by omega
      subst e
      go_end0
      exact ⟨rfl, HI.out, ((Upd.refl S w).alloc _).trans HU.out⟩
set_option maxHeartbeats 1600000 in
/-- 'each' with closure number 25. -/
theorem each25 (c1 : Value) (S : Nat → Prop) (st ln : Nat) (big sg : Bool) (w : World) (Inv : Nat → World → Prop)
    (_hl1 : 1 ≤ ln) (_hl2 : ln ≤ 60) (_hs : st + ln ≤ 512) (hS : ¬ S w.heap.size)
    (h0 : Inv 0 (w.alloc (fcells st ln big sg)))
    (hstep : ∀ (i : Nat) (W : World), i < ln → Inv i W → Calls Try.prog 25 #[.int .i64 i, .int .i64 (posN st ln big i : Nat), c1] W (fun e W' => e = .returned (.tuple #[]) ∧ Upd S W W' ∧ Inv (i + 1) W')) :
    Calls Try.prog 20 #[fld st ln big sg, .func (.func 25) #[] #[c1]] w (Unit_ fun w' => Inv ln w' ∧ Upd S w w') := by
  have HS := Lib.hid hS
  have HST := Lib.hid hstep
  have H0 := Lib.hid h0
  clear hS hstep h0
  go_enter Try.func20, Try.ntmps20
  go_wp2
  go_loopw [8] (fun i wr => ∃ k : Nat, k ≤ ln ∧ i = .int .i64 k ∧ Hid (Inv k wr) ∧ Hid (Upd S (w.alloc (fcells st ln big sg)) wr)) (fun i _ => ln - (intOf i).toNat)
  case atStart => exact ⟨0, Nat.zero_le _, rfl, H0, Lib.hid (Upd.refl _ _)⟩
  case round =>
    obtain ⟨k, hk, rfl, HI, HU⟩ := hrel
    have hz := HU.out.size
    have hb : w.heap.size < wr.heap.size := by simp at hz; omega
    have hc0 : ∀ o, wr.cell? ⟨w.heap.size, o, none⟩ = (w.alloc (fcells st ln big sg)).cell? ⟨w.heap.size, o, none⟩ := fun o => HU.out.cell (by simp) HS.out
    have c0 : wr.cell? ⟨w.heap.size, 0, none⟩ = some (.int .i64 st) := (hc0 0).trans (by rw [World.cell?_alloc_at _ _ _ _ rfl]; rfl)
    have c1' : wr.cell? ⟨w.heap.size, 1, none⟩ = some (.int .i64 ln) := (hc0 1).trans (by rw [World.cell?_alloc_at _ _ _ _ rfl]; rfl)
    have c2' : wr.cell? ⟨w.heap.size, 2, none⟩ = some (.bool big) := (hc0 2).trans (by rw [World.cell?_alloc_at _ _ _ _ rfl]; rfl)
    clear hc0 hz hb
    by_cases hlt : k < ln
    · have HC := HST.out k wr hlt HI.out
      cases big
      · rw [show ((posN st ln false k : Nat) : Int) = (st : Int) + (k : Int) from by simp [posN]] at HC
        have HC' := Lib.hid HC
        clear HC
        go_wp2_with fail
        refine HC'.out.mono ?_
        clear HC'
        rintro e w1 ⟨rfl, hu, hi⟩
        have HI1 := Lib.hid hi
        have HU1 := Lib.hid (HU.out.trans hu)
        clear hu hi HI HU c0 c1' c2'
        go_wp2
        go_roundw
        case rel => exact ⟨k + 1, by omega, by go_num, HI1, HU1⟩
        case measure => simp [intOf]; omega
      · rw [show ((posN st ln true k : Nat) : Int) = ((st : Int) + ln - 1 - k) / 8 * 8 + 8 - 1 - ((st : Int) + ln - 1 - k) % 8 from by simp only [posN, if_true]; omega] at HC
        have HC' := Lib.hid HC
        clear HC
        go_wp2_with fail
        refine HC'.out.mono ?_
        clear HC'
        rintro e w1 ⟨rfl, hu, hi⟩
        have HI1 := Lib.hid hi
        have HU1 := Lib.hid (HU.out.trans hu)
        clear hu hi HI HU c0 c1' c2'
        go_wp2
        go_roundw
        case rel => exact ⟨k + 1, by omega, by go_num, HI1, HU1⟩
        case measure => simp [intOf]; omega
    · go_wp2
      have e : k = ln := by omega
      subst e
      go_end0
      exact ⟨rfl, HI.out, ((Upd.refl S w).alloc _).trans HU.out⟩
set_option maxHeartbeats 1600000 in
/-- 'each' with closure number 26. -/
theorem each26 (c1 c2 : Value) (S : Nat → Prop) (st ln : Nat) (big sg : Bool) (w : World) (Inv : Nat → World → Prop)
    (_hl1 : 1 ≤ ln) (_hl2 : ln ≤ 60) (_hs : st + ln ≤ 512) (hS : ¬ S w.heap.size)
    (h0 : Inv 0 (w.alloc (fcells st ln big sg)))
    (hstep : ∀ (i : Nat) (W : World), i < ln → Inv i W → Calls Try.prog 26 #[.int .i64 i, .int .i64 (posN st ln big i : Nat), c1, c2] W (fun e W' => e = .returned (.tuple #[]) ∧ Upd S W W' ∧ Inv (i + 1) W')) :
    Calls Try.prog 20 #[fld st ln big sg, .func (.func 26) #[] #[c1, c2]] w (Unit_ fun w' => Inv ln w' ∧ Upd S w w') := by
  have HS := Lib.hid hS
  have HST := Lib.hid hstep
  have H0 := Lib.hid h0
  clear hS hstep h0
  go_enter Try.func20, Try.ntmps20
  go_wp2
  go_loopw [8] (fun i wr => ∃ k : Nat, k ≤ ln ∧ i = .int .i64 k ∧ Hid (Inv k wr) ∧ Hid (Upd S (w.alloc (fcells st ln big sg)) wr)) (fun i _ => ln - (intOf i).toNat)
  case atStart => exact ⟨0, Nat.zero_le _, rfl, H0, Lib.hid (Upd.refl _ _)⟩
  case round =>
    obtain ⟨k, hk, rfl, HI, HU⟩ := hrel
    have hz := HU.out.size
    have hb : w.heap.size < wr.heap.size := by simp at hz; omega
    have hc0 : ∀ o, wr.cell? ⟨w.heap.size, o, none⟩ = (w.alloc (fcells st ln big sg)).cell? ⟨w.heap.size, o, none⟩ := fun o => HU.out.cell (by simp) HS.out
    have c0 : wr.cell? ⟨w.heap.size, 0, none⟩ = some (.int .i64 st) := (hc0 0).trans (by rw [World.cell?_alloc_at _ _ _ _ rfl]; rfl)
    have c1' : wr.cell? ⟨w.heap.size, 1, none⟩ = some (.int .i64 ln) := (hc0 1).trans (by rw [World.cell?_alloc_at _ _ _ _ rfl]; rfl)
    have c2' : wr.cell? ⟨w.heap.size, 2, none⟩ = some (.bool big) := (hc0 2).trans (by rw [World.cell?_alloc_at _ _ _ _ rfl]; rfl)
    clear hc0 hz hb
    by_cases hlt : k < ln
    · have HC := HST.out k wr hlt HI.out
      cases big
      · rw [show ((posN st ln false k : Nat) : Int) = (st : Int) + (k : Int) from by simp [posN]] at HC
        have HC' := Lib.hid HC
        clear HC
        go_wp2_with fail
        refine HC'.out.mono ?_
        clear HC'
        rintro e w1 ⟨rfl, hu, hi⟩
        have HI1 := Lib.hid hi
        have HU1 := Lib.hid (HU.out.trans hu)
        clear hu hi HI HU c0 c1' c2'
        go_wp2
        go_roundw
        case rel => exact ⟨k + 1, by omega, by go_num, HI1, HU1⟩
        case measure => simp [intOf]; omega
      · rw [show ((posN st ln true k : Nat) : Int) = ((st : Int) + ln - 1 - k) / 8 * 8 + 8 - 1 - ((st : Int) + ln - 1 - k) % 8 from by simp only [posN, if_true]; omega] at HC
        have HC' := Lib.hid HC
        clear HC
        go_wp2_with fail
        refine HC'.out.mono ?_
        clear HC'
        rintro e w1 ⟨rfl, hu, hi⟩
        have HI1 := Lib.hid hi
        have HU1 := Lib.hid (HU.out.trans hu)
        clear hu hi HI HU c0 c1' c2'
        go_wp2
        go_roundw
        case rel => exact ⟨k + 1, by omega, by go_num, HI1, HU1⟩
        case measure => simp [intOf]; omega
    · go_wp2
      have e : k = ln := by omega
      subst e
      go_end0
      exact ⟨rfl, HI.out, ((Upd.refl S w).alloc _).trans HU.out⟩
end Go.Proofs.Yteafmljogijdgaa
