/- Contracts of the document's Next, Stay, Open. -/
import Derived.Test.YtemnopfcddcekaaT5
namespace Go.Proofs.Ytemnopfcddcekaa
open Go.RowKit

theorem rready_any (lo hi S : Nat) (A B : Option Addr) (c d : Nat) (l : List Cl) (x : Int) (w : World) (h : RI w lo hi S A B c d l) :
    Calls Try.prog 16 #[.pointer (some ⟨S, 0, none⟩), .int .i64 x] w (BDrawn (rdyO (look l x)).isSome w) := by
  by_cases h0 : x < 0 ∨ (l.length : Int) ≤ x
  · have e : look l x = none := by
      unfold look
      split
      · rfl
      · exact List.getElem?_eq_none (by omega)
    rw [e]
    exact rready_out lo hi S A B c d l x w h h0
  · obtain ⟨i, rfl⟩ := Int.eq_ofNat_of_zero_le (show 0 ≤ x by omega)
    have hlt : i < l.length := by omega
    have hl : look l (i : Int) = l[i]? := by unfold look; rw [if_neg (by omega)]; simp
    rw [hl, List.getElem?_eq_getElem hlt]
    obtain ⟨m, s, hp⟩ : ∃ m s, l[i]'hlt = (m, s) := ⟨_, _, rfl⟩
    rw [hp]
    have e : l[i]? = some (m, s) := by rw [List.getElem?_eq_getElem hlt, hp]
    have := rready_in lo hi S A B c d l i m s w h e
    rw [rdyO_mk]
    by_cases hs : s < 3 * m
    · rw [if_pos hs]
      rw [decide_eq_true hs] at this
      exact this
    · rw [if_neg hs]
      rw [decide_eq_false hs] at this
      exact this

def RNextPost (lo hi S : Nat) (A B : Option Addr) (c d : Nat) (l : List Cl) (x : Int) (w : World) (e : Ending) (w' : World) : Prop :=
  (∃ n p : Int, e = .returned (.tuple #[.int .i64 n, .int .i64 p, .bool (rdyO (look l x)).isSome]) ∧ ∀ m s, rdyO (look l x) = some (m, s) → n = (s / 3 : Nat) ∧ p = (s % 3 + 1 : Nat)) ∧ Upd (fun k => lo ≤ k ∧ k < hi) w w' ∧ RI w' lo hi S A B c d (nextL l x)

set_option maxHeartbeats 1600000 in
theorem rnext_any (lo hi S : Nat) (A B : Option Addr) (c d : Nat) (l : List Cl) (x : Int) (w : World) (h : RI w lo hi S A B c d l) :
    Calls Try.prog 15 #[.pointer (some ⟨S, 0, none⟩), .int .i64 x] w (RNextPost lo hi S A B c d l x w) := by
  have HR := Lib.hid (rready_any lo hi S A B c d l x w h)
  unfold RNextPost nextL
  cases hr : rdyO (look l x) with
  | none =>
    rw [hr] at HR
    have H := Lib.hid h
    clear h hr
    go_enter Try.func15, Try.ntmps15
    go_wp2_with fail
    refine HR.out.mono ?_
    clear HR
    rintro e w1 ⟨rfl, hd⟩
    have HN := Lib.hid hd.nw
    clear hd
    rw [show (none : Option Cl).isSome = false from rfl]
    go_wp2
    exact bodyPost_ret (v := .tuple #[.int .i64 0, .int .i64 0, .bool false]) (by simp [results, Try.results15, go_sem]) rfl ⟨⟨0, 0, rfl, fun m s e => by cases e⟩, Upd.of_nw HN.out, H.out.nw HN.out⟩
  | some p =>
    obtain ⟨m, s⟩ := p
    rw [hr] at HR
    obtain ⟨i, rfl, h1, h2⟩ := look_ready hr
    obtain ⟨P, Q, rfl, rfl, k1, k2, k3, k4, k5, k6, k7, k8, k9⟩ := h.row i m s h1
    have hlt := (List.getElem?_eq_some_iff.1 h1).1
    have hh := h.H
    have hS := h.S2
    have c1 := h.h1
    have hQ : Q < w.heap.size := by omega
    have hSw : S < w.heap.size := by omega
    have hs := (h.ok i m s h1).2
    have f1 := k9 i
    have d5 : ¬ l.length ≤ i := by omega
    have hq1 : IntKind.i64.wrap ((s : Int) / 3) = ((s / 3 : Nat) : Int) := by rw [IntWalk.i64_in _ (by omega)]; omega
    have hq2 : (s : Int).tmod 3 = ((s % 3 : Nat) : Int) := by rw [Int.tmod_eq_emod_of_nonneg (by omega)]; omega
    have hne : S ≠ Q := fun e => k5 e.symm
    have H := Lib.hid h
    have HX := Lib.hid h1
    have HK := Lib.hid (And.intro k3 k4)
    generalize l.length = n at *
    clear h h1 hr k1 k2 k3 k4 k5 k6 k7 k9 hh hS
    go_enter Try.func15, Try.ntmps15
    go_wp2_with fail
    refine HR.out.mono ?_
    clear HR
    rintro e w1 ⟨rfl, nq, rfl⟩
    rw [show (some (m, s) : Option Cl).isSome = true from rfl]
    go_wp2
    have hu : Upd (fun k => k = Q) w ((w.setCell ⟨Q, i, none⟩ (.int .i64 ((s : Int) + 1))).drewN nq) := (Upd.set1 w Q i _).drewN nq
    refine bodyPost_ret (v := .tuple #[.int .i64 ((s : Int) / 3), .int .i64 ((s : Int) % 3 + 1), .bool true]) (by simp [results, Try.results15, go_sem]) rfl ⟨⟨_, _, rfl, fun m' s' e => ?_⟩, hu.mono fun k _ e => by subst e; exact HK.out, ?_⟩
    · injection e with e
      injection e with e1 e2
      subst e1 e2
      exact ⟨by omega, by omega⟩
    · exact H.out.set HX.out (s + 1) (by omega) hu (cell_set_same k8) (fun j hj => set_off (by omega)) (fun j => World.frozen?_setCell ..)

def RStayPost (lo hi S : Nat) (A B : Option Addr) (c d : Nat) (l : List Cl) (x : Int) (w : World) (e : Ending) (w' : World) : Prop :=
  e = .returned (.tuple #[]) ∧ Upd (fun k => lo ≤ k ∧ k < hi) w w' ∧ RI w' lo hi S A B c d (stayL l x)
set_option maxHeartbeats 1600000 in
theorem rstay_any (lo hi S : Nat) (A B : Option Addr) (c d : Nat) (l : List Cl) (x : Int) (w : World) (h : RI w lo hi S A B c d l) :
    Calls Try.prog 14 #[.pointer (some ⟨S, 0, none⟩), .int .i64 x] w (RStayPost lo hi S A B c d l x w) := by
  have HR := Lib.hid (rready_any lo hi S A B c d l x w h)
  unfold RStayPost stayL
  cases hr : rdyO (look l x) with
  | none =>
    rw [hr] at HR
    have H := Lib.hid h
    clear h hr
    go_enter Try.func14, Try.ntmps14
    go_wp2_with fail
    refine HR.out.mono ?_
    clear HR
    rintro e w1 ⟨rfl, hd⟩
    have HN := Lib.hid hd.nw
    clear hd
    rw [show (none : Option Cl).isSome = false from rfl]
    go_wp2
    first | go_end0 | skip
    exact ⟨rfl, Upd.of_nw HN.out, H.out.nw HN.out⟩
  | some p =>
    obtain ⟨m, s⟩ := p
    rw [hr] at HR
    obtain ⟨i, rfl, h1, h2⟩ := look_ready hr
    obtain ⟨P, Q, rfl, rfl, k1, k2, k3, k4, k5, k6, k7, k8, k9⟩ := h.row i m s h1
    have hlt := (List.getElem?_eq_some_iff.1 h1).1
    have hh := h.H
    have hS := h.S2
    have c1 := h.h1
    have hQ : Q < w.heap.size := by omega
    have hSw : S < w.heap.size := by omega
    have hs := (h.ok i m s h1).2
    have f1 := k9 i
    have d5 : ¬ l.length ≤ i := by omega
    have d6 : (i : Int) < (l.length : Int) := by omega
    have d7 : (0 : Int) ≤ (i : Int) := by omega
    have hq2 : (s : Int).tmod 3 = ((s % 3 : Nat) : Int) := by rw [Int.tmod_eq_emod_of_nonneg (by omega)]; omega
    have hne : S ≠ Q := fun e => k5 e.symm
    have H := Lib.hid h
    have HX := Lib.hid h1
    have HK := Lib.hid (And.intro k3 k4)
    have hb : s % 3 = 2 ∨ ¬ s % 3 = 2 := by omega
    have hsv : stayS s = if s % 3 = 2 then s - 1 else s := rfl
    simp only [Int.toNat_natCast]
    rw [hsv]
    generalize l.length = n at *
    clear h h1 hr k1 k2 k3 k4 k5 k6 k7 k9 hh hS hsv
    rcases hb with hb | hb
    · rw [if_pos hb]
      have hb1 : (((s % 3 : Nat) : Int) == (2 : Int)) = true := by rw [hb]; rfl
      have hb2 : ((s : Int) % 3 == (2 : Int)) = true := by rw [show (s : Int) % 3 = 2 by omega]; rfl
      have hsub : (0 : Int) ≤ (s : Int) - 1 := by omega
      go_enter Try.func14, Try.ntmps14
      go_wp2_with fail
      refine HR.out.mono ?_
      clear HR
      rintro e w1 ⟨rfl, nq, rfl⟩
      rw [show (some (m, s) : Option Cl).isSome = true from rfl]
      go_wp2_with fail
      go_region
      go_wp2
      first | go_end0 | skip
      have hu : Upd (fun k => k = Q) w ((w.setCell ⟨Q, i, none⟩ (.int .i64 ((s : Int) - 1))).drewN (nq + 1)) := (Upd.set1 w Q i _).drewN _
      refine ⟨rfl, hu.mono fun k _ e => by subst e; exact HK.out, H.out.set HX.out (s - 1) (by omega) hu ((cell_set_same k8).trans (by rw [show (s : Int) - 1 = ((s - 1 : Nat) : Int) by omega])) (fun j hj => set_off (by omega)) (fun j => World.frozen?_setCell ..)⟩
    · rw [if_neg hb]
      have hb1 : (((s % 3 : Nat) : Int) == (2 : Int)) = false := by rw [beq_eq_false_iff_ne]; omega
      have hb2 : ((s : Int) % 3 == (2 : Int)) = false := by rw [beq_eq_false_iff_ne]; omega
      go_enter Try.func14, Try.ntmps14
      go_wp2_with fail
      refine HR.out.mono ?_
      clear HR
      rintro e w1 ⟨rfl, hd⟩
      have HN := Lib.hid hd.nw
      have k8' := (hd.cell ⟨Q, i, none⟩).trans k8
      have c1' := (hd.cell ⟨S, 1, none⟩).trans c1
      clear hd
      rw [show (some (m, s) : Option Cl).isSome = true from rfl]
      go_wp2
      first | go_end0 | skip
      have hl : l.set i (m, s) = l := by
        refine List.ext_getElem? fun j => ?_
        by_cases e : i = j
        · subst e
          rw [List.getElem?_set_self (List.getElem?_eq_some_iff.1 HX.out).1, HX.out]
        · rw [List.getElem?_set_ne e]
      refine ⟨rfl, Upd.of_nw HN.out, ?_⟩
      rw [hl]
      exact H.out.nw HN.out

set_option maxHeartbeats 1600000 in
theorem ropen_any (lo hi S : Nat) (A B : Option Addr) (c d : Nat) (l : List Cl) (w : World) (h : RI w lo hi S A B c d l) :
    Calls Try.prog 21 #[.pointer (some ⟨S, 0, none⟩)] w fun e w' => e = .returned (.int .i64 (opn l l.length : Nat)) ∧ w = w' := by
  have h0 := h.h0
  have h1 := h.h1
  have hlen := h.len
  have HGET := Lib.hid (fun i (h : i < l.length) => (⟨l[i].1, l[i].2, by simp [h]⟩ : ∃ m s, l[i]? = some (m, s)))
  have HROW := Lib.hid (fun (i m s : Nat) (hx : l[i]? = some (m, s)) => (h.row i m s hx))
  have HOK := Lib.hid h.ok
  have HL : Hid (∀ k, opn l k ≤ k) := opn_le l
  generalize hn : l.length = n at *
  clear h hn
  go_enter Try.func21, Try.ntmps21
  go_wp2
  go_loopw [3, 4] (fun a i wr => ∃ k : Nat, k ≤ n ∧ i = .int .i64 k ∧ a = .int .i64 (opn l k : Nat) ∧ wr = w) (fun _ i _ => n - (intOf i).toNat)
  case atStart => exact ⟨0, Nat.zero_le _, rfl, by simp [opn], rfl⟩
  case round =>
    obtain ⟨k, hk, rfl, rfl, rfl⟩ := hrel
    by_cases hlt : k < n
    · obtain ⟨m, s, hx⟩ := HGET.out k hlt
      obtain ⟨P, Q, rfl, rfl, -, -, -, -, -, -, -, q0, -⟩ := HROW.out k m s hx
      obtain ⟨hs1, hs2⟩ := HOK.out k m s hx
      have hop := opn_succ hx
      have hle := HL.out k
      have hnk : ¬ n ≤ k := by omega
      have hq2 : (s : Int).tmod 3 = ((s % 3 : Nat) : Int) := by rw [Int.tmod_eq_emod_of_nonneg (by omega)]; omega
      by_cases h3 : 0 < s % 3
      · have hb : decide ((0 : Int) < ((s % 3 : Nat) : Int)) = true := by simp; omega
        have hb' : decide ((0 : Int) < (s : Int) % 3) = true := by simp; omega
        rw [if_pos h3] at hop
        have HOP := Lib.hid hop
        clear hop hx
        go_wp2
        go_roundw
        case rel => exact ⟨k + 1, by omega, by go_num, by rw [HOP.out]; go_num, trivial⟩
        case measure => simp [intOf]; omega
      · have hb : decide ((0 : Int) < ((s % 3 : Nat) : Int)) = false := by simp; omega
        have hb' : decide ((0 : Int) < (s : Int) % 3) = false := by simp; omega
        rw [if_neg h3] at hop
        have HOP := Lib.hid hop
        clear hop hx
        go_wp2
        go_roundw
        case rel => exact ⟨k + 1, by omega, by go_num, by rw [HOP.out]; rfl, trivial⟩
        case measure => simp [intOf]; omega
    · go_wp2
      go_ret
      obtain rfl : k = n := by omega
      exact ⟨rfl, rfl⟩
end Go.Proofs.Ytemnopfcddcekaa
