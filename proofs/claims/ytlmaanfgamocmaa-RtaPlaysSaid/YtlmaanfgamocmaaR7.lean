/- Contracts of the document's Bound, of Load, Fits. -/
import Derived.Test.YtlmaanfgamocmaaR6
namespace Go.Proofs.Ytlmaanfgamocmaa
open Go.RowKit

theorem rbound_any (A : Option Addr) (c : Nat) (l : List Tk) (i : Int) (w : World) (hA : TksAt w A l) :
    Calls Try.prog 11 #[.slice A l.length c, .int .i64 i] w (IntNw (rbV (boundO l i)) w) := by
  by_cases hin : tRight l = 0 ∧ 0 ≤ i ∧ i < l.length
  · obtain ⟨h1, h2, h3⟩ := hin
    obtain ⟨k, rfl⟩ := Int.eq_ofNat_of_zero_le h2
    rw [boundO_in h1 (by omega)]
    exact rbound_in A c l.length _ _ k w (tn_of hA h1) (by omega) fun W h => by
      have := rright_any A c l W (hA.nw h)
      rwa [h1] at this
  · have hb : boundO l i = none := by unfold boundO; rw [if_neg hin]
    rw [hb]
    have HR := Lib.hid (rright_any A c l w hA)
    generalize tRight l = r at *
    have hd : (r != 0) = true ∨ ((r != 0) = false ∧ decide (i < 0) = true) ∨ ((r != 0) = false ∧ decide (i < 0) = false ∧ decide ((l.length : Int) ≤ i) = true) := by
      by_cases h1 : r = 0
      · by_cases h2 : i < 0
        · exact .inr (.inl ⟨by simp [h1], by simp [h2]⟩)
        · exact .inr (.inr ⟨by simp [h1], by simp [h2], by simp; omega⟩)
      · exact .inl (by simp [h1])
    generalize l.length = n at *
    clear hin hb hA
    rcases hd with h1 | ⟨h1, h2⟩ | ⟨h1, h2, h3⟩
    all_goals
      go_enter Try.func11, Try.ntmps11
      go_wp2_with fail
      refine HR.out.mono ?_
      rintro e w1 ⟨rfl, hb⟩
      have HN := Lib.hid hb
      clear hb HR
      go_wp2
      go_ret
      exact ⟨rfl, HN.out⟩

/-- How much tasks ask for. -/
def loadN (P : Nat → Nat) : Nat → Nat
  | 0 => 0
  | k + 1 => loadN P k + 1000000000 / P k
theorem loadN_le (P : Nat → Nat) : ∀ k, loadN P k ≤ k * 1000000000
  | 0 => Nat.le_refl _
  | k + 1 => by
    have := loadN_le P k
    have h2 : 1000000000 / P k ≤ 1000000000 := Nat.div_le_self _ _
    show loadN P k + _ ≤ _
    omega
def LoadPost (l : List Tk) (w : World) (e : Ending) (w' : World) : Prop := e = .returned (.tuple #[.int .i64 (if tRight l = 0 then (loadN (per l) l.length : Nat) else 0 : Int), .int .i64 (tRight l)]) ∧ Nw w w'
theorem whole_int (p : Nat) : (1000000000 : Int) / (p : Int) = ((1000000000 / p : Nat) : Int) := (Int.natCast_ediv _ _).symm

set_option maxHeartbeats 3000000 in
theorem load_any (A : Option Addr) (c : Nat) (l : List Tk) (w : World) (hA : TksAt w A l) : Calls Try.prog 14 #[.slice A l.length c] w (LoadPost l w) := by
  unfold LoadPost
  have HR := Lib.hid (right_any A c l w hA)
  by_cases h0 : tRight l = 0
  · rw [if_pos h0]
    have HT := Lib.hid (tn_of hA h0)
    rw [h0] at HR ⊢
    have HL := Lib.hid (loadN_le (per l))
    have HLS : Hid (∀ k, loadN (per l) (k + 1) = loadN (per l) k + 1000000000 / per l k) := fun k => rfl
    have hlen := HT.out.len
    generalize per l = P at *
    generalize off l = O at *
    generalize l.length = n at *
    clear hA h0
    go_enter Try.func14, Try.ntmps14
    go_wp2_with fail
    refine HR.out.mono ?_
    rintro e w1 ⟨rfl, hb⟩
    have HN := Lib.hid hb
    clear hb HR
    go_wp2
    go_loopw [5, 15] (fun a j wr => ∃ k : Nat, k ≤ n ∧ j = .int .i64 k ∧ a = .int .i64 (loadN P k : Nat) ∧ Hid (Nw w wr)) (fun _ j _ => n - (intOf j).toNat)
    case atStart => exact ⟨0, Nat.zero_le _, rfl, rfl, HN⟩
    case round =>
      obtain ⟨k, hk, rfl, rfl, HK⟩ := hrel
      clear HN
      by_cases hlt : k < n
      · obtain ⟨ad, rfl, hp, f0, f1⟩ := (HT.out.nw HK.out).at_ k hlt
        obtain ⟨e3, e4, e5⟩ := HT.out.ok k
        have hs := HLS.out k
        have hb := HL.out k
        generalize P k = p at *
        generalize O k = o at *
        generalize loadN P k = a at *
        have HS := Lib.hid hs
        have hnk : ¬ n ≤ k := by omega
        have ha : a ≤ 64000000000 := by omega
        have hp0 : ¬ (p : Int) = 0 := by omega
        have hp1 : ((p : Int) == 0) = false := by simp; omega
        have hq1 := whole_int p
        have hq2 : (1000000000 : Int).tdiv (p : Int) = ((1000000000 / p : Nat) : Int) := by rw [Int.tdiv_eq_ediv_of_nonneg (by omega), hq1]
        have hql : 1000000000 / p ≤ 1000000000 := Nat.div_le_self _ _
        generalize 1000000000 / p = q at *
        have HN2 := Lib.hid (HK.out.then_ (nw_alloc wr (.cells #[.int .i64 p, .int .i64 o] 34)))
        clear hs HK hb
        go_wp2
        go_roundw
        case rel => exact ⟨k + 1, by omega, by go_num, by rw [HS.out]; go_num, HN2⟩
        case measure => simp [intOf]; omega
      · obtain rfl : k = n := by omega
        go_wp2
        exact bodyPost_ret (v := .tuple #[.int .i64 (loadN P k : Nat), .int .i64 0]) (by simp [results, Try.results14, go_sem]) rfl ⟨rfl, HK.out⟩
  · rw [if_neg h0]
    have h1 : (tRight l != 0) = true := by simp [h0]
    generalize tRight l = r at *
    clear hA h0
    go_enter Try.func14, Try.ntmps14
    go_wp2_with fail
    refine HR.out.mono ?_
    rintro e w1 ⟨rfl, hb⟩
    have HN := Lib.hid hb
    clear hb HR
    go_wp2
    exact bodyPost_ret (v := .tuple #[.int .i64 0, .int .i64 r]) (by simp [results, Try.results14, go_sem]) rfl ⟨rfl, HN.out⟩

/-- Has each task so far a bound? -/
def fitN (l : List Tk) (k : Nat) : Bool := (List.range k).all fun j => (boundO l (j : Nat)).isSome
def fitsB (l : List Tk) : Bool := fitN l l.length && decide (tRight l = 0)
theorem fitN_succ (l : List Tk) (k : Nat) : fitN l (k + 1) = (fitN l k && (boundO l (k : Nat)).isSome) := by
  unfold fitN
  rw [List.range_succ, List.all_append]
  simp
theorem fitN_stop {l : List Tk} {k n : Nat} (h : fitN l k = false) (hk : k ≤ n) : fitN l n = false := by
  unfold fitN at *
  rw [List.all_eq_false] at *
  obtain ⟨x, hx, hx2⟩ := h
  rw [List.mem_range] at hx
  exact ⟨x, by rw [List.mem_range]; omega, hx2⟩
def BoolNw (b : Bool) (w : World) (e : Ending) (w' : World) : Prop := e = .returned (.bool b) ∧ Nw w w'

set_option maxHeartbeats 3000000 in
theorem fits_any (A : Option Addr) (c : Nat) (l : List Tk) (w : World) (hA : TksAt w A l) (hc : l.length ≤ c) : Calls Try.prog 15 #[.slice A l.length c] w (BoolNw (fitsB l) w) := by
  have HR := Lib.hid (fun W (h : Nw w W) => right_any A c l W (hA.nw h))
  have HB := Lib.hid (fun (i : Nat) W (h : Nw w W) => bound_any A c l i W (hA.nw h) hc)
  have HF := Lib.hid (fitN_succ l)
  have HS := Lib.hid (fun (k : Nat) (h : fitN l k = false) (hk : k ≤ l.length) => (show fitsB l = false by unfold fitsB; rw [fitN_stop h hk]; rfl))
  have HLEN := Lib.hid (fun (k v : Nat) (h : boundO l k = some v) => (show l.length ≤ 64 by
    unfold boundO at h
    split at h
    · rename_i h9
      exact (tRight_zero h9.1).1
    · cases h))
  have HE := Lib.hid (fun (h : fitN l l.length = true) => (show fitsB l = decide (tRight l = 0) by unfold fitsB; rw [h]; rfl))
  generalize fitsB l = res at *
  generalize l.length = n at *
  clear hA
  go_enter Try.func15, Try.ntmps15
  go_wp2
  go_loopw [8] (fun j wr => ∃ k : Nat, k ≤ n ∧ j = .int .i64 k ∧ Hid (fitN l k = true) ∧ Hid (Nw w wr)) (fun j _ => n - (intOf j).toNat)
  case atStart => exact ⟨0, Nat.zero_le _, rfl, Lib.hid rfl, Lib.hid (Below.refl _ _)⟩
  case round =>
    obtain ⟨k, hk, rfl, HK, HN⟩ := hrel
    by_cases hlt : k < n
    · have HQ := Lib.hid (HF.out k)
      have HBK := Lib.hid (HB.out k)
      have HS2 := Lib.hid (fun h => HS.out (k + 1) h (by omega))
      rw [HK.out, Bool.true_and] at HQ
      have HLK := Lib.hid (HLEN.out k)
      generalize boundO l (k : Nat) = b at *
      go_wp2_with fail
      refine (HBK.out _ HN.out).mono ?_
      rintro e w2 ⟨rfl, hb⟩
      have HN2 := Lib.hid (HN.out.then_ hb)
      clear hb HN HBK
      unfold bndV
      cases b with
      | none =>
        obtain rfl : res = false := HS2.out HQ.out
        clear HQ HS2 HS HE HB
        rw [show (none : Option Nat).isSome = false from rfl]
        go_wp2
        go_ret
        exact ⟨rfl, HN2.out⟩
      | some v =>
        have HK2 : Hid (fitN l (k + 1) = true) := HQ.out
        have hn64 := HLK.out v rfl
        clear HQ HS2 HLK
        rw [show (some v : Option Nat).isSome = true from rfl]
        go_wp2
        go_roundw
        case rel => exact ⟨k + 1, by omega, by go_num, HK2, HN2⟩
        case measure => simp [intOf]; omega
    · obtain rfl : k = n := by omega
      obtain rfl : res = decide (tRight l = 0) := HE.out HK.out
      have hd : decide (tRight l = 0) = (tRight l == 0) := by
        by_cases h : tRight l = 0
        · rw [decide_eq_true h, h]; rfl
        · rw [decide_eq_false h]
          exact (beq_eq_false_iff_ne.2 h).symm
      rw [hd]
      generalize tRight l = r at *
      clear hd HE
      go_wp2_with fail
      refine (HR.out _ HN.out).mono ?_
      rintro e w2 ⟨rfl, hb⟩
      have HN2 := Lib.hid (HN.out.then_ hb)
      clear hb HN HR
      go_wp2
      go_ret
      exact ⟨rfl, HN2.out⟩
end Go.Proofs.Ytlmaanfgamocmaa
