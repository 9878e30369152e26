/- Contracts of each, with the closures of Ready and Open. -/
import Derived.Test.YtemnopfcddcekaaS3
namespace Go.Proofs.Ytemnopfcddcekaa
open Go.RowKit

theorem each_nil (v : Value) (w : World) : Calls Try.prog 23 #[.pointer none, v] w fun e w' => e = .returned (.tuple #[]) ∧ w = w' := by
  go_enter Try.func23, Try.ntmps23
  go_wp2
  exact bodyPost_ret (results_none rfl _ _ _) rfl ⟨rfl, rfl⟩

set_option maxHeartbeats 3000000 in
/-- 'each' with closure number 24. -/
theorem each24 (c1 : Value) (lo hi S : Nat) (A : Option Addr) (c : Nat) (l : List Cl) (w : World) (Inv : Nat → World → Prop)
    (hT : ∀ (i : Nat) (W : World), Inv i W → SI W lo hi S A c l)
    (hnw : ∀ (i : Nat) (W W' : World), Inv i W → Nw W W' → Inv i W')
    (hskip : ∀ (i : Nat) (W : World) (m s : Nat), l[i]? = some (m, s) → ¬ s < 3 * m → Inv i W → Inv (i + 1) W)
    (hstep : ∀ (i : Nat) (W : World) (m s : Nat), l[i]? = some (m, s) → s < 3 * m → Inv i W → Calls Try.prog 24 #[.int .i64 i, stepV m (s / 3 : Nat) (s % 3 + 1 : Nat), c1] W (fun e W' => e = .returned (.tuple #[]) ∧ Inv (i + 1) W'))
    (h0 : Inv 0 w) :
    Calls Try.prog 23 #[.pointer (some ⟨S, 0, none⟩), .func (.func 24) #[] #[c1]] w (fun e w' => e = .returned (.tuple #[]) ∧ Inv l.length w') := by
  have HT := Lib.hid hT
  have HNW := Lib.hid hnw
  have HSK := Lib.hid hskip
  have HST := Lib.hid hstep
  have H0 := Lib.hid h0
  have hI := hT 0 w h0
  have hc := hI.hdr
  have hlen := hI.len
  have HGET := Lib.hid (fun i (h : i < l.length) => (⟨l[i].1, l[i].2, by simp [h]⟩ : ∃ m s, l[i]? = some (m, s)))
  have HOUT := Lib.hid (fun i (h : i < l.length) W (hI : Inv i W) => (⟨l[i].1, l[i].2, by simp [h]⟩ : ∃ m s, l[i]? = some (m, s)))
  have HL : Hid (∀ (W : World), SI W lo hi S A c l → W.cell? ⟨S, 0, none⟩ = some (.slice A l.length c)) := Lib.hid fun W h => h.hdr
  generalize hn : l.length = n at *
  have HN := Lib.hid hn
  clear hT hnw hskip hstep h0 hI hn HOUT
  go_enter Try.func23, Try.ntmps23
  go_wp2
  go_loopw [13] (fun i wr => ∃ k : Nat, k ≤ n ∧ i = .int .i64 k ∧ Hid (Inv k wr)) (fun i _ => n - (intOf i).toNat)
  case atStart => exact ⟨0, Nat.zero_le _, rfl, H0⟩
  case round =>
    obtain ⟨k, hk, rfl, HI⟩ := hrel
    clear hc
    by_cases hlt : k < n
    · obtain ⟨m, s, hx⟩ := HGET.out k hlt
      have hSI := HT.out k wr HI.out
      obtain ⟨R, rfl, hR1, hR2, hRS, c0, c1', c2, -⟩ := hSI.row k m s hx
      have HX := Lib.hid hx
      have HI1 := Lib.hid (HNW.out k _ _ HI.out (nw_alloc wr (.cells #[.int .i64 m, .int .i64 (s / 3 : Nat), .int .i64 (s % 3 + 1 : Nat)] 55)))
      have hnk : ¬ n ≤ k := by omega
      by_cases hr : s < 3 * m
      · have HF := Lib.hid (find_ready lo hi S R c l k m s _ (hSI.nw (nw_alloc wr (.cells #[.int .i64 m, .int .i64 (s / 3 : Nat), .int .i64 (s % 3 + 1 : Nat)] 55))) hx hr)
        have HST' := Lib.hid (fun W h => HST.out k W m s hx hr h)
        clear hx hSI hR1 hR2 hRS
        generalize s / 3 = q at *
        generalize s % 3 + 1 = p at *
        go_wp2_with fail
        refine HF.out.mono ?_
        clear HF
        rintro e w1 ⟨rfl, hd⟩
        have HI2 := Lib.hid (HNW.out k _ _ HI1.out hd.nw)
        have b0 : w1.cell? ⟨wr.heap.size, 0, none⟩ = some (.int .i64 m) := by rw [hd.cell, alloc_cell_new rfl]; rfl
        have b1 : w1.cell? ⟨wr.heap.size, 1, none⟩ = some (.int .i64 q) := by rw [hd.cell, alloc_cell_new rfl]; rfl
        have b2 : w1.cell? ⟨wr.heap.size, 2, none⟩ = some (.int .i64 p) := by rw [hd.cell, alloc_cell_new rfl]; rfl
        clear hd c0 c1' c2 HI HI1
        go_wp2_with fail
        refine (HST'.out _ HI2.out).mono ?_
        rintro e w2 ⟨rfl, hi⟩
        have HI3 := Lib.hid hi
        clear hi HI2 HST' b0 b1 b2
        go_wp2
        go_roundw
        case rel => exact ⟨k + 1, by omega, by go_num, HI3⟩
        case measure => simp [intOf]; omega
      · have HF := Lib.hid (find_done lo hi S _ c l k m s _ (hSI.nw (nw_alloc wr (.cells #[.int .i64 m, .int .i64 (s / 3 : Nat), .int .i64 (s % 3 + 1 : Nat)] 55))) hx hr)
        have HSK' := Lib.hid (fun W h => HSK.out k W m s hx hr h)
        clear hx hSI hR1 hR2 hRS
        generalize s / 3 = q at *
        generalize s % 3 + 1 = p at *
        go_wp2_with fail
        refine HF.out.mono ?_
        clear HF
        rintro e w1 ⟨rfl, hd⟩
        have HI2 := Lib.hid (HSK'.out _ (HNW.out k _ _ HI1.out hd.nw))
        clear hd c0 c1' c2 HI HI1
        go_wp2
        go_roundw
        case rel => exact ⟨k + 1, by omega, by go_num, HI2⟩
        case measure => simp [intOf]; omega
    · go_wp2
      have e : k = n := by omega
      subst e
      first | go_end0 | skip
      exact ⟨rfl, HI.out⟩

set_option maxHeartbeats 3000000 in
/-- 'each' with closure number 25. -/
theorem each25 (c1 : Value) (lo hi S : Nat) (A : Option Addr) (c : Nat) (l : List Cl) (w : World) (Inv : Nat → World → Prop)
    (hT : ∀ (i : Nat) (W : World), Inv i W → SI W lo hi S A c l)
    (hnw : ∀ (i : Nat) (W W' : World), Inv i W → Nw W W' → Inv i W')
    (hskip : ∀ (i : Nat) (W : World) (m s : Nat), l[i]? = some (m, s) → ¬ s < 3 * m → Inv i W → Inv (i + 1) W)
    (hstep : ∀ (i : Nat) (W : World) (m s : Nat), l[i]? = some (m, s) → s < 3 * m → Inv i W → Calls Try.prog 25 #[.int .i64 i, stepV m (s / 3 : Nat) (s % 3 + 1 : Nat), c1] W (fun e W' => e = .returned (.tuple #[]) ∧ Inv (i + 1) W'))
    (h0 : Inv 0 w) :
    Calls Try.prog 23 #[.pointer (some ⟨S, 0, none⟩), .func (.func 25) #[] #[c1]] w (fun e w' => e = .returned (.tuple #[]) ∧ Inv l.length w') := by
  have HT := Lib.hid hT
  have HNW := Lib.hid hnw
  have HSK := Lib.hid hskip
  have HST := Lib.hid hstep
  have H0 := Lib.hid h0
  have hI := hT 0 w h0
  have hc := hI.hdr
  have hlen := hI.len
  have HGET := Lib.hid (fun i (h : i < l.length) => (⟨l[i].1, l[i].2, by simp [h]⟩ : ∃ m s, l[i]? = some (m, s)))
  have HOUT := Lib.hid (fun i (h : i < l.length) W (hI : Inv i W) => (⟨l[i].1, l[i].2, by simp [h]⟩ : ∃ m s, l[i]? = some (m, s)))
  have HL : Hid (∀ (W : World), SI W lo hi S A c l → W.cell? ⟨S, 0, none⟩ = some (.slice A l.length c)) := Lib.hid fun W h => h.hdr
  generalize hn : l.length = n at *
  have HN := Lib.hid hn
  clear hT hnw hskip hstep h0 hI hn HOUT
  go_enter Try.func23, Try.ntmps23
  go_wp2
  go_loopw [13] (fun i wr => ∃ k : Nat, k ≤ n ∧ i = .int .i64 k ∧ Hid (Inv k wr)) (fun i _ => n - (intOf i).toNat)
  case atStart => exact ⟨0, Nat.zero_le _, rfl, H0⟩
  case round =>
    obtain ⟨k, hk, rfl, HI⟩ := hrel
    clear hc
    by_cases hlt : k < n
    · obtain ⟨m, s, hx⟩ := HGET.out k hlt
      have hSI := HT.out k wr HI.out
      obtain ⟨R, rfl, hR1, hR2, hRS, c0, c1', c2, -⟩ := hSI.row k m s hx
      have HX := Lib.hid hx
      have HI1 := Lib.hid (HNW.out k _ _ HI.out (nw_alloc wr (.cells #[.int .i64 m, .int .i64 (s / 3 : Nat), .int .i64 (s % 3 + 1 : Nat)] 55)))
      have hnk : ¬ n ≤ k := by omega
      by_cases hr : s < 3 * m
      · have HF := Lib.hid (find_ready lo hi S R c l k m s _ (hSI.nw (nw_alloc wr (.cells #[.int .i64 m, .int .i64 (s / 3 : Nat), .int .i64 (s % 3 + 1 : Nat)] 55))) hx hr)
        have HST' := Lib.hid (fun W h => HST.out k W m s hx hr h)
        clear hx hSI hR1 hR2 hRS
        generalize s / 3 = q at *
        generalize s % 3 + 1 = p at *
        go_wp2_with fail
        refine HF.out.mono ?_
        clear HF
        rintro e w1 ⟨rfl, hd⟩
        have HI2 := Lib.hid (HNW.out k _ _ HI1.out hd.nw)
        have b0 : w1.cell? ⟨wr.heap.size, 0, none⟩ = some (.int .i64 m) := by rw [hd.cell, alloc_cell_new rfl]; rfl
        have b1 : w1.cell? ⟨wr.heap.size, 1, none⟩ = some (.int .i64 q) := by rw [hd.cell, alloc_cell_new rfl]; rfl
        have b2 : w1.cell? ⟨wr.heap.size, 2, none⟩ = some (.int .i64 p) := by rw [hd.cell, alloc_cell_new rfl]; rfl
        clear hd c0 c1' c2 HI HI1
        go_wp2_with fail
        refine (HST'.out _ HI2.out).mono ?_
        rintro e w2 ⟨rfl, hi⟩
        have HI3 := Lib.hid hi
        clear hi HI2 HST' b0 b1 b2
        go_wp2
        go_roundw
        case rel => exact ⟨k + 1, by omega, by go_num, HI3⟩
        case measure => simp [intOf]; omega
      · have HF := Lib.hid (find_done lo hi S _ c l k m s _ (hSI.nw (nw_alloc wr (.cells #[.int .i64 m, .int .i64 (s / 3 : Nat), .int .i64 (s % 3 + 1 : Nat)] 55))) hx hr)
        have HSK' := Lib.hid (fun W h => HSK.out k W m s hx hr h)
        clear hx hSI hR1 hR2 hRS
        generalize s / 3 = q at *
        generalize s % 3 + 1 = p at *
        go_wp2_with fail
        refine HF.out.mono ?_
        clear HF
        rintro e w1 ⟨rfl, hd⟩
        have HI2 := Lib.hid (HSK'.out _ (HNW.out k _ _ HI1.out hd.nw))
        clear hd c0 c1' c2 HI HI1
        go_wp2
        go_roundw
        case rel => exact ⟨k + 1, by omega, by go_num, HI2⟩
        case measure => simp [intOf]; omega
    · go_wp2
      have e : k = n := by omega
      subst e
      first | go_end0 | skip
      exact ⟨rfl, HI.out⟩
end Go.Proofs.Ytemnopfcddcekaa
