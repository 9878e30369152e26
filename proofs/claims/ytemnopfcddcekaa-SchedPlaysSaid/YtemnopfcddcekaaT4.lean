/- The walk of SchedOrder. -/
import Derived.Test.YtemnopfcddcekaaT3
namespace Go.Proofs.Ytemnopfcddcekaa
open Go.RowKit

def BoolsAt (w : World) (A : Option Addr) (xs : List Bool) : Prop := ∀ j (h : j < xs.length), ∃ ad, A = some ad ∧ (ad.add j).block < w.heap.size ∧ w.cell? (ad.add j) = some (.bool (xs[j]'h))
theorem BoolsAt.nw {w w' : World} {A : Option Addr} {xs : List Bool} (h : BoolsAt w A xs) (k : Nw w w') : BoolsAt w' A xs := fun j hj => by
  obtain ⟨ad, e, hb, hc⟩ := h j hj
  exact ⟨ad, e, Nat.lt_of_lt_of_le hb k.size, (k.cell hb).trans hc⟩
theorem opn_one (m k : Nat) : opn [(m, k)] 1 = if 0 < k % 3 then 1 else 0 := by
  unfold opn
  by_cases h : 0 < k % 3 <;> simp [h]
theorem over_one (m k : Nat) : overB [(m, k)] = decide (¬ k < 3 * m) := by
  unfold overB rdy
  by_cases h : k < 3 * m <;> simp [h, List.range_succ]

set_option maxRecDepth 100000 in
set_option maxHeartbeats 9000000 in
theorem schedOrder_good (m : Nat) (A : Option Addr) (c : Nat) (os : List Bool) (w : World) (hm : m ≤ 50) (hn : os.length ≤ 300) (hB : BoolsAt w A os) :
    Calls Try.prog 5 #[.int .i64 m, .slice A os.length c] w (TrueNw w) := by
  have hA : IntsAt (w.alloc (.cells #[.int .i64 m] 3)) (some ⟨w.heap.size, 0, none⟩) [(m : Int)] := fun j hj => by
    obtain rfl : j = 0 := by simpa using hj
    exact ⟨_, rfl, by simp [Addr.add], by rw [add_plain, alloc_cell_new rfl]; rfl⟩
  have HN := Lib.hid (new_any [(m : Int)] (some ⟨w.heap.size, 0, none⟩) 1 _ hA (Nat.le_refl _))
  have HB := Lib.hid hB
  have hm1 : ((m : Int) < 0) = False := by simp
  have hm2 : decide ((50 : Int) < (m : Int)) = false := by simp; omega
  clear hA hB
  generalize hL : os.length = n at *
  have hn2 : decide ((300 : Int) < (n : Int)) = false := by simp; omega
  have HL := Lib.hid hL
  clear hL
  go_enter Try.func5, Try.ntmps5
  go_wp2_with fail
  refine HN.out.mono ?_
  clear HN
  rintro e w1 ⟨S, A1, c1, rfl, hb, hsi⟩
  rw [show newL [(m : Int)] = [(m, 0)] by unfold newL; simp [show clampN (m : Int) = m by unfold clampN; omega]] at hsi
  have HS1 := Lib.hid hsi
  have HN1 : Hid (Nw w w1) := (nw_alloc _ _).then_ hb
  have hlo : w.heap.size ≤ (w.alloc (.cells #[.int .i64 m] 3)).heap.size := by simp
  generalize (w.alloc (.cells #[.int .i64 m] 3)).heap.size = lo at *
  generalize hhi : w1.heap.size = hi at *
  have hle : hi ≤ w1.heap.size := by omega
  have HLO := Lib.hid hlo
  clear hsi hb hhi hlo hm1 hm2 hn2
  go_wp2
  go_loopw [6, 7, 8, 30] (fun a6 a7 a8 i wr => ∃ (j q r : Nat), j ≤ n ∧ i = .int .i64 j ∧ ((r = 0 ∧ a6 = .int .i64 q ∧ a7 = .int .i64 q) ∨ (r = 1 ∧ a6 = .int .i64 ((q : Int) + 1) ∧ a7 = .int .i64 q) ∨ (r = 2 ∧ a6 = .int .i64 ((q : Int) + 1) ∧ a7 = .int .i64 ((q : Int) + 1))) ∧ a8 = .int .i64 q ∧ 3 * q + r ≤ 3 * m ∧ hi ≤ wr.heap.size ∧ Hid (SI wr lo hi S A1 c1 [(m, 3 * q + r)]) ∧ Hid (Nw w wr)) (fun _ _ _ i _ => n - (intOf i).toNat)
  case atStart => exact ⟨0, 0, 0, Nat.zero_le _, rfl, .inl ⟨rfl, rfl, rfl⟩, rfl, Nat.zero_le _, hle, HS1, HN1⟩
  case round =>
    obtain ⟨j, q, r, hj, rfl, hr, rfl, hq, hle2, HK, HW⟩ := hrel
    clear HS1 HN1 hle
    by_cases hlt : j < n
    · have hjl : j < os.length := by rw [HL.out]; exact hlt
      obtain ⟨ad, rfl, hp, f0⟩ := (HB.out.nw HW.out) j hjl
      generalize os[j]'hjl = again at *
      have hnj : ¬ n ≤ j := by omega
      by_cases hend : 3 * q + r = 3 * m
      · obtain rfl : r = 0 := by rcases hr with ⟨h, -⟩ | ⟨h, -⟩ | ⟨h, -⟩ <;> omega
        obtain rfl : q = m := by omega
        obtain ⟨-, rfl, rfl⟩ : 0 = 0 ∧ _ ∧ _ := by rcases hr with h | ⟨h, -⟩ | ⟨h, -⟩; exact h; omega; omega
        clear hr hend
        go_wp2_with fail
        refine (next_none _ 0 _ (fun W hn => at_none _ 0 W (fun W' hn' => find_done _ _ S _ c1 [(q, 3 * q + 0)] 0 q (3 * q + 0) W' ((HK.out.nw hn).nw hn') rfl (by omega)))).mono ?_
        rintro e w2 ⟨rfl, hb⟩
        have hb' := hb.then_ (nw_alloc w2 (.cells #[.int .i64 0, .int .i64 0, .int .i64 0] 32))
        have HK2 := Lib.hid (HK.out.nw hb')
        have HW2 := Lib.hid (HW.out.then_ hb')
        have hqq : ((q : Int) == (q : Int)) = true := by simp
        clear hb hb' HK HW f0
        go_wp2_with fail
        refine (over_any _ _ S _ c1 _ _ HK2.out).mono ?_
        rintro e w3 ⟨rfl, hb⟩
        rw [over_one, decide_eq_true (by omega)]
        have HW3 := Lib.hid (HW2.out.then_ hb)
        clear hb HK2 HW2
        go_wp2_with fail
        refine (alive_any _).mono ?_
        rintro e w4 ⟨rfl, hb⟩
        have HW4 := Lib.hid (HW3.out.then_ hb)
        clear hb HW3
        go_wp2
        go_ret
        exact ⟨rfl, HW4.out⟩
      · have hlt2 : 3 * q + r < 3 * m := by omega
        obtain ⟨R, rfl, hR1, hR2, -⟩ := HK.out.row 0 m (3 * q + r) rfl
        have HNX := Lib.hid (next_ready lo hi S R c1 [(m, 3 * q + r)] 0 m (3 * q + r) wr HK.out rfl hlt2)
        have hqm : q ≤ 100 := by omega
        have HLT := Lib.hid (And.intro hlt2 (And.intro hR1 hR2))
        rw [show [(m, 3 * q + r)].set 0 (m, 3 * q + r + 1) = [(m, 3 * q + r + 1)] from rfl] at HNX
        clear hend hR1 hR2 HK hlt2 hq
        rcases hr with ⟨rfl, rfl, rfl⟩ | ⟨rfl, rfl, rfl⟩ | ⟨rfl, rfl, rfl⟩
        · rw [show (3 * q + 0) / 3 = q by omega, show (3 * q + 0) % 3 + 1 = 1 by omega] at HNX
          go_wp2_with fail
          refine HNX.out.mono ?_
          clear HNX
          rintro e w2 ⟨rfl, hu, hs⟩
          have HK2 := Lib.hid (hs.nw (nw_alloc w2 (.cells #[.int .i64 0, .int .i64 q, .int .i64 1] 32)))
          have HW2 := Lib.hid ((nw_updR HW.out hu (by have := HLT.out.2.1; have := HLO.out; omega)).then_ (nw_alloc w2 (.cells #[.int .i64 0, .int .i64 q, .int .i64 1] 32)))
          have hz2 := hu.size
          have hqq : ((q : Int) != (q : Int)) = false := by simp
          have hq1 : (((q : Int) + 1) != ((q : Int) + 1)) = false := by simp
          clear hu hs HW f0
          rw [show 3 * q + 0 + 1 = 3 * q + 1 by omega] at HK2
          have HO := Lib.hid (open_any lo hi S _ c1 [(m, 3 * q + 1)] _ HK2.out)
          rw [show [(m, 3 * q + 1)].length = 1 from rfl, opn_one, if_pos (by omega)] at HO
          go_wp2_with fail
          refine HO.out.mono ?_
          rintro e w5 ⟨rfl, hb⟩
          have HK5 := Lib.hid (HK2.out.nw hb)
          have HW5 := Lib.hid (HW2.out.then_ hb)
          have hz5 := hb.size
          try simp at hz5
          clear hb HO HK2 HW2
          go_wp2
          go_roundw
          case rel => exact ⟨j + 1, q, 1, by omega, by go_num, .inr (.inl ⟨rfl, by go_num, rfl⟩), rfl, by have := HLT.out; omega, by omega, HK5, HW5⟩
          case measure => simp [intOf]; omega
        · cases again
          · rw [show (3 * q + 1) / 3 = q by omega, show (3 * q + 1) % 3 + 1 = 2 by omega] at HNX
            go_wp2_with fail
            refine HNX.out.mono ?_
            clear HNX
            rintro e w2 ⟨rfl, hu, hs⟩
            have HK2 := Lib.hid (hs.nw (nw_alloc w2 (.cells #[.int .i64 0, .int .i64 q, .int .i64 2] 32)))
            have HW2 := Lib.hid ((nw_updR HW.out hu (by have := HLT.out.2.1; have := HLO.out; omega)).then_ (nw_alloc w2 (.cells #[.int .i64 0, .int .i64 q, .int .i64 2] 32)))
            have hz2 := hu.size
            have hqq : ((q : Int) != (q : Int)) = false := by simp
            have hq1 : (((q : Int) + 1) != ((q : Int) + 1)) = false := by simp
            clear hu hs HW f0
            rw [show 3 * q + 1 + 1 = 3 * q + 2 by omega] at HK2
            have HO := Lib.hid (open_any lo hi S _ c1 [(m, 3 * q + 2)] _ HK2.out)
            rw [show [(m, 3 * q + 2)].length = 1 from rfl, opn_one, if_pos (by omega)] at HO
            go_wp2_with fail
            refine HO.out.mono ?_
            rintro e w5 ⟨rfl, hb⟩
            have HK5 := Lib.hid (HK2.out.nw hb)
            have HW5 := Lib.hid (HW2.out.then_ hb)
            have hz5 := hb.size
            try simp at hz5
            clear hb HO HK2 HW2
            go_wp2
            go_roundw
            case rel => exact ⟨j + 1, q, 2, by omega, by go_num, .inr (.inr ⟨rfl, rfl, by go_num⟩), rfl, by have := HLT.out; omega, by omega, HK5, HW5⟩
            case measure => simp [intOf]; omega
          · rw [show (3 * q + 1) / 3 = q by omega, show (3 * q + 1) % 3 + 1 = 2 by omega] at HNX
            go_wp2_with fail
            refine HNX.out.mono ?_
            clear HNX
            rintro e w2 ⟨rfl, hu, hs⟩
            have HK2 := Lib.hid (hs.nw (nw_alloc w2 (.cells #[.int .i64 0, .int .i64 q, .int .i64 2] 32)))
            have HW2 := Lib.hid ((nw_updR HW.out hu (by have := HLT.out.2.1; have := HLO.out; omega)).then_ (nw_alloc w2 (.cells #[.int .i64 0, .int .i64 q, .int .i64 2] 32)))
            have hz2 := hu.size
            have hqq : ((q : Int) != (q : Int)) = false := by simp
            have hq1 : (((q : Int) + 1) != ((q : Int) + 1)) = false := by simp
            clear hu hs HW f0
            go_wp2_with fail
            refine (stay_ready lo hi S R c1 [(m, 3 * q + 1 + 1)] 0 m (3 * q + 1 + 1) _ HK2.out rfl (by have := HLT.out; omega)).mono ?_
            rintro e w3 ⟨rfl, hu, hs⟩
            rw [show [(m, 3 * q + 1 + 1)].set 0 (m, stayS (3 * q + 1 + 1)) = [(m, stayS (3 * q + 1 + 1))] from rfl, show stayS (3 * q + 1 + 1) = 3 * q + 1 by unfold stayS; rw [if_pos (by omega)]; omega] at hs
            have HK3 := Lib.hid hs
            have HW3 := Lib.hid (nw_updR HW2.out hu (by have := HLT.out.2.1; have := HLO.out; omega))
            have hz3 := hu.size
            simp at hz3
            clear hu hs HK2 HW2
            have HO := Lib.hid (open_any lo hi S _ c1 [(m, 3 * q + 1)] _ HK3.out)
            rw [show [(m, 3 * q + 1)].length = 1 from rfl, opn_one, if_pos (by omega)] at HO
            go_wp2_with fail
            refine HO.out.mono ?_
            rintro e w5 ⟨rfl, hb⟩
            have HK5 := Lib.hid (HK3.out.nw hb)
            have HW5 := Lib.hid (HW3.out.then_ hb)
            have hz5 := hb.size
            try simp at hz5
            clear hb HO HK3 HW3
            go_wp2
            go_roundw
            case rel => exact ⟨j + 1, q, 1, by omega, by go_num, .inr (.inl ⟨rfl, rfl, rfl⟩), rfl, by have := HLT.out; omega, by omega, HK5, HW5⟩
            case measure => simp [intOf]; omega
        · rw [show (3 * q + 2) / 3 = q by omega, show (3 * q + 2) % 3 + 1 = 3 by omega] at HNX
          go_wp2_with fail
          refine HNX.out.mono ?_
          clear HNX
          rintro e w2 ⟨rfl, hu, hs⟩
          have HK2 := Lib.hid (hs.nw (nw_alloc w2 (.cells #[.int .i64 0, .int .i64 q, .int .i64 3] 32)))
          have HW2 := Lib.hid ((nw_updR HW.out hu (by have := HLT.out.2.1; have := HLO.out; omega)).then_ (nw_alloc w2 (.cells #[.int .i64 0, .int .i64 q, .int .i64 3] 32)))
          have hz2 := hu.size
          have hqq : ((q : Int) != (q : Int)) = false := by simp
          have hq1 : (((q : Int) + 1) != ((q : Int) + 1)) = false := by simp
          clear hu hs HW f0
          rw [show 3 * q + 2 + 1 = 3 * (q + 1) + 0 by omega] at HK2
          have HO := Lib.hid (open_any lo hi S _ c1 [(m, 3 * (q + 1) + 0)] _ HK2.out)
          rw [show [(m, 3 * (q + 1) + 0)].length = 1 from rfl, opn_one, if_neg (by omega)] at HO
          go_wp2_with fail
          refine HO.out.mono ?_
          rintro e w5 ⟨rfl, hb⟩
          have HK5 := Lib.hid (HK2.out.nw hb)
          have HW5 := Lib.hid (HW2.out.then_ hb)
          have hz5 := hb.size
          try simp at hz5
          clear hb HO HK2 HW2
          go_wp2
          go_roundw
          case rel => exact ⟨j + 1, q + 1, 0, by omega, by go_num, .inl ⟨rfl, by go_num, by go_num⟩, by go_num, by have := HLT.out; omega, by omega, HK5, HW5⟩
          case measure => simp [intOf]; omega
    · have hqm : q ≤ 100 := by omega
      have hql : q ≤ m := by omega
      have HO := Lib.hid (over_any _ _ S _ c1 _ _ HK.out)
      rw [over_one] at HO
      have hrr : r = 0 ∨ ¬ r = 0 := by omega
      have HR := Lib.hid hr
      have hov : decide (¬ 3 * q + r < 3 * m) = ((q : Int) == (m : Int)) := by
        have : (¬ 3 * q + r < 3 * m) ↔ ((q : Int) = (m : Int)) := by rcases hr with ⟨h, -⟩ | ⟨h, -⟩ | ⟨h, -⟩ <;> omega
        rw [decide_eq_decide.2 this]
        exact (Bool.beq_eq_decide_eq _ _).symm
      rw [hov] at HO
      have hqm2 : decide ((q : Int) ≤ (m : Int)) = true := by simp; omega
      obtain ⟨b, hbq⟩ : ∃ b, ((q : Int) == (m : Int)) = b := ⟨_, rfl⟩
      rw [hbq] at HO
      clear hr hov HR hrr HK
      cases b
      all_goals
        go_wp2_with fail
        refine HO.out.mono ?_
        rintro e w3 ⟨rfl, hb⟩
        have HW3 := Lib.hid (HW.out.then_ hb)
        clear hb HO HW
        go_wp2_with fail
        refine (alive_any _).mono ?_
        rintro e w4 ⟨rfl, hb⟩
        have HW4 := Lib.hid (HW3.out.then_ hb)
        clear hb HW3
        go_wp2
        go_ret
        exact ⟨rfl, HW4.out⟩

theorem schedOrder_walk (many : Int) (A : Option Addr) (c : Nat) (os : List Bool) (w : World) (hB : BoolsAt w A os) : Calls Try.prog 5 #[.int .i64 many, .slice A os.length c] w (TrueNw w) := by
  by_cases h0 : many < 0
  · clear hB
    go_enter Try.func5, Try.ntmps5
    go_wp2_with fail
    refine (alive_any _).mono ?_
    rintro e w1 ⟨rfl, hb⟩
    go_wp2
    go_ret
    exact ⟨rfl, hb⟩
  · obtain ⟨m, rfl⟩ := Int.eq_ofNat_of_zero_le (show 0 ≤ many by omega)
    by_cases h1 : m ≤ 50
    · by_cases h2 : os.length ≤ 300
      · exact schedOrder_good m A c os w h1 h2 hB
      · have d1 : decide ((m : Int) < 0) = false := by simp
        have d2 : decide ((50 : Int) < (m : Int)) = false := by simp; omega
        have d3 : decide ((300 : Int) < (os.length : Int)) = true := by simp; omega
        generalize os.length = n at *
        clear hB h0 h1 h2
        go_enter Try.func5, Try.ntmps5
        go_wp2_with fail
        refine (alive_any _).mono ?_
        rintro e w1 ⟨rfl, hb⟩
        go_wp2
        go_ret
        exact ⟨rfl, hb⟩
    · have d1 : decide ((m : Int) < 0) = false := by simp
      have d2 : decide ((50 : Int) < (m : Int)) = true := by simp; omega
      clear hB h0 h1
      go_enter Try.func5, Try.ntmps5
      go_wp2_with fail
      refine (alive_any _).mono ?_
      rintro e w1 ⟨rfl, hb⟩
      go_wp2
      go_ret
      exact ⟨rfl, hb⟩
end Go.Proofs.Ytemnopfcddcekaa
