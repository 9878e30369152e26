/- The walk of SchedPlays. -/
import Derived.Test.YtemnopfcddcekaaT8
namespace Go.Proofs.Ytemnopfcddcekaa
open Go.RowKit

/-- The document's ready clients so far. -/
structure RQ (wb : World) (l : List Cl) (j : Nat) (v : Value) (w : World) : Prop where
  own : w.ownsRow wb.heap.size 3 1 v (rdy l j).length (rdyV l j)
  nw : Nw wb w

set_option maxRecDepth 100000 in
set_option maxHeartbeats 20000000 in
theorem schedPlays_good (xs : List Int) (A : Option Addr) (c : Nat) (os : List Op) (B : Option Addr) (d : Nat) (w : World) (hA : IntsAt w A xs) (hc : xs.length ≤ c) (hB : OpsAt w B os) (hf : fewB xs.length os.length = true) :
    Calls Try.prog 4 #[.slice A xs.length c, .slice B os.length d] w (TrueNw w) := by
  obtain ⟨i0, hii, hz0, hz1, hz2⟩ := info_parts info3
  have HF := Lib.hid (few_any A B xs.length c os.length d)
  rw [hf] at HF
  have hos : os.length ≤ 500 := by unfold fewB at hf; simp at hf; omega
  have hxs : xs.length ≤ 1000 := by unfold fewB at hf; simp at hf; omega
  have HN := Lib.hid (fun W (h : Nw w W) => new_any xs A c W (hA.nw h) hc)
  have HM := Lib.hid (fun W (h : Nw w W) => rnew_any xs A c W (hA.nw h) hxs)
  have HB := Lib.hid hB
  clear hA hB hf hc hxs
  generalize xs.length = n at *
  generalize hL : os.length = q at *
  have HL := Lib.hid hL
  clear hL
  go_enter Try.func4, Try.ntmps4
  go_wp2_with fail
  refine (HF.out _).mono ?_
  rintro e w0 ⟨rfl, rfl⟩
  clear HF
  go_wp2_with fail
  refine (HN.out _ (Below.refl _ _)).mono ?_
  rintro e w1 ⟨S, A1, c1, rfl, hb1, hs1⟩
  have HB1 : Hid (Nw w w1) := hb1
  have HS1 := Lib.hid hs1
  clear hb1 hs1
  go_wp2_with fail
  refine (HM.out _ HB1.out).mono ?_
  rintro e w2 ⟨T, A2, A3, c2, c3, rfl, hb2, hs2⟩
  have H0 : Hid (Both w w.heap.size w1.heap.size w2.heap.size S T A1 A2 A3 c1 c2 c3 (newL xs) w2) := ⟨HS1.out.nw hb2, hs2, HB1.out.then_ hb2, Nat.le_refl _, HB1.out.size⟩
  have hz2' := hb2.size
  clear hb2 hs2 HN HM HB1 HS1
  generalize w1.heap.size = hi at *
  generalize hhi2 : w2.heap.size = hi2 at *
  have hle : hi2 ≤ w2.heap.size := by omega
  clear hhi2
  generalize newL xs = l0 at *
  go_wp2_with fail
  go_loopw [30] (fun i wr => ∃ (k : Nat) (l : List Cl), k ≤ q ∧ i = .int .i64 k ∧ hi2 ≤ wr.heap.size ∧ Hid (Both w w.heap.size hi hi2 S T A1 A2 A3 c1 c2 c3 l wr)) (fun i _ => q - (intOf i).toNat)
  case atStart => exact ⟨0, _, Nat.zero_le _, rfl, hle, H0⟩
  case round =>
    obtain ⟨k, l, hk, rfl, hle2, HK⟩ := hrel
    clear H0 hle
    by_cases hlt : k < q
    · have hkl : k < os.length := by rw [HL.out]; exact hlt
      obtain ⟨ad, rfl, hp, f0, f1⟩ := (HB.out.nw HK.out.nw) k hkl
      generalize os[k]'hkl = o at *
      obtain ⟨cl, st⟩ := o
      have hqk : ¬ q ≤ k := by omega
      have HK1 := Lib.hid (HK.out.nw_ (nw_alloc wr (.cells #[.int .i64 cl, .bool st] 29)))
      have HBX : Hid (Blk (wr.alloc (.cells #[.int .i64 cl, .bool st] 29)) wr.heap.size 29 #[.int .i64 cl, .bool st]) := Blk.new _ _ _
      clear HK
      cases st
      · go_wp2_with fail
        refine (next_any _ _ S A1 c1 l cl _ HK1.out.s).mono ?_
        rintro e w3 ⟨he, hu, hs⟩
        cases hr : rdyO (look l cl) with
        | none =>
          rw [hr] at he
          rw [show atV cl none = .agg #[.int .i64 0, .int .i64 0, .int .i64 0] from rfl, show nextE none = 12 from rfl] at he
          subst he
          have HBX1 := Lib.hid (((HBX.out.upd hu (by show ¬ (_ ∧ _); have := HK1.out.t.S1; have := HK1.out.t.S2; omega))).nw (nw_alloc w3 (.cells #[.int .i64 0, .int .i64 0, .int .i64 0] 32)))
          have HX1 : Hid (Blk (w3.alloc (.cells #[.int .i64 0, .int .i64 0, .int .i64 0] 32)) w3.heap.size 32 #[.int .i64 0, .int .i64 0, .int .i64 0]) := Blk.new _ _ _
          have HT1 := Lib.hid ((HK1.out.t.upd hu (fun k h1 h2 => by omega)).nw (nw_alloc w3 (.cells #[.int .i64 0, .int .i64 0, .int .i64 0] 32)))
          have hw3 := Nat.le_trans HK1.out.t.H hu.size
          have HU := Lib.hid hu
          have HS := Lib.hid hs
          have g0 := HBX1.out.cell 0
          have g1 := HBX1.out.cell 1
          have hgl := HBX1.out.lt
          simp at g0 g1 hgl
          clear hu hs f0 f1 HBX
          go_wp2_with fail
          refine (rnext_any _ _ T A2 A3 c2 c3 l cl _ HT1.out).mono ?_
          rintro e W4 ⟨⟨n1, p1, rfl, hnp⟩, hu2, ht⟩
          rw [hr] at hnp
          rw [hr]
          rw [show (none : Option Cl).isSome = false from rfl]
          have HK2 := Lib.hid ((HK1.out.step HU.out HS.out (nw_alloc _ _) hu2 ht).nw_ (nw_alloc W4 (.cells #[.int .i64 0, .int .i64 0, .int .i64 0] 32)))
          have HBX2 := Lib.hid ((HBX1.out.upd hu2 (by show ¬ (_ ∧ _); have := HK1.out.t.S1; have := HK1.out.t.S2; have := HK1.out.t.H; simp at this; omega)).nw (nw_alloc W4 (.cells #[.int .i64 0, .int .i64 0, .int .i64 0] 32)))
          have HX2 := HX1.out.upd hu2 (by show ¬ (_ ∧ _); omega)
          have x0 := HX2.cell 0
          have x1 := HX2.cell 1
          have x2 := HX2.cell 2
          have hxl := HX2.lt
          simp at x0 x1 x2
          have z0 := (HBX1.out.upd hu2 (by show ¬ (_ ∧ _); have := HK1.out.t.S1; have := HK1.out.t.S2; have := HK1.out.t.H; simp at this; omega)).cell 0
          have hzl := (HBX1.out.upd hu2 (by show ¬ (_ ∧ _); have := HK1.out.t.S1; have := HK1.out.t.S2; have := HK1.out.t.H; simp at this; omega)).lt
          simp at z0
          clear hu2 ht HK1 g0 g1 hgl HU HS HT1 HBX1 HX1 HX2 hw3 hnp hr
          go_wp2_with fail
          generalize hl' : nextL l cl = l' at *
          clear hl'
          have q0 := HBX2.out.cell 0
          have hql := HBX2.out.lt
          simp at q0 hql
          cases hr2 : rdyO (look l' cl) with
          | none =>
            have HAT := Lib.hid (fun W (h : Nw (W4.alloc (.cells #[.int .i64 0, .int .i64 0, .int .i64 0] 32)) W) => at_any _ _ S A1 c1 l' cl W (HK2.out.s.nw h))
            have HRD := Lib.hid (fun W (h : Nw (W4.alloc (.cells #[.int .i64 0, .int .i64 0, .int .i64 0] 32)) W) => rready_any _ _ T A2 A3 c2 c3 l' cl W (HK2.out.t.nw h))
            rw [hr2] at HAT HRD
            rw [show (none : Option Cl).isSome = false from rfl] at HRD
            rw [show atV cl none = .agg #[.int .i64 0, .int .i64 0, .int .i64 0] from rfl] at HAT
            clear hr2
            go_wp2_with fail
            refine (HAT.out _ (Below.refl _ _)).mono ?_
            rintro e w5 ⟨rfl, hb5⟩
            have g0 := (HBX2.out.nw hb5).cell 0
            have hgl := (HBX2.out.nw hb5).lt
            have hbn := hb5.then_ (nw_alloc w5 (.cells #[.int .i64 0, .int .i64 0, .int .i64 0] 32))
            have HB5 := Lib.hid hbn
            clear hb5 HAT hbn q0 hql
            simp at g0 hgl
            have HRD2 := Lib.hid (fun nq => HRD.out _ (nw_drewN HB5.out nq))
            have HK3 := Lib.hid (HK2.out.nw_ HB5.out)
            clear HRD HB5 HK2 HBX2
            go_wp2_with fail
            go_quiet (exact Calls.quiet_of (HRD2.out _))
            clear HRD2
            have hle3 := HK3.out.t.H
            go_wp2
            go_roundw
            case rel => exact ⟨k + 1, _, by omega, by go_num, hle3, HK3.out.nw_ (nw_drewN (Below.refl _ _) _)⟩
            case measure => simp [intOf]; omega
          | some pp =>
            obtain ⟨m2, s2⟩ := pp
            have HAT := Lib.hid (fun W (h : Nw (W4.alloc (.cells #[.int .i64 0, .int .i64 0, .int .i64 0] 32)) W) => at_any _ _ S A1 c1 l' cl W (HK2.out.s.nw h))
            have HRD := Lib.hid (fun W (h : Nw (W4.alloc (.cells #[.int .i64 0, .int .i64 0, .int .i64 0] 32)) W) => rready_any _ _ T A2 A3 c2 c3 l' cl W (HK2.out.t.nw h))
            rw [hr2] at HAT HRD
            rw [show (some (m2, s2) : Option Cl).isSome = true from rfl] at HRD
            rw [show atV cl (some (m2, s2)) = .agg #[.int .i64 cl, .int .i64 (s2 / 3 : Nat), .int .i64 (s2 % 3 + 1 : Nat)] from rfl] at HAT
            have HRR := Lib.hid (look_ready hr2)
            clear hr2
            obtain ⟨u2, hu2⟩ : ∃ u2, s2 / 3 = u2 := ⟨_, rfl⟩
            obtain ⟨r2, hv2⟩ : ∃ r2, s2 % 3 = r2 := ⟨_, rfl⟩
            rw [hu2, hv2, show ((r2 + 1 : Nat) : Int) = (r2 : Int) + 1 from rfl] at HAT
            have HUV := Lib.hid (And.intro hu2 hv2)
            clear hu2 hv2
            go_wp2_with fail
            refine (HAT.out _ (Below.refl _ _)).mono ?_
            rintro e w5 ⟨rfl, hb5⟩
            obtain ⟨i, hi0, h1, h2⟩ := HRR.out
            have hlt' := (List.getElem?_eq_some_iff.1 h1).1
            clear HRR
            have HKA := HK2.out.nw_ hb5
            have g0 := (HBX2.out.nw hb5).cell 0
            have hgl := (HBX2.out.nw hb5).lt
            have t1 := HKA.t.h1
            have hT := Nat.lt_of_lt_of_le HKA.t.S2 HKA.t.H
            obtain ⟨P, Q, -, hA3, -, -, -, hQ, -, -, -, y1, -⟩ := HKA.t.row i m2 s2 h1
            rw [hA3] at t1
            have hQ' := Nat.lt_of_lt_of_le hQ HKA.t.H
            have hsm := (HKA.t.ok i m2 s2 h1).2
            have hbn := hb5.then_ (nw_alloc w5 (.cells #[.int .i64 cl, .int .i64 u2, .int .i64 ((r2 : Int) + 1)] 32))
            have HB5 := Lib.hid hbn
            clear hb5 HAT hbn hQ HKA q0 hql hA3
            subst hi0
            simp at g0 hgl
            generalize hnl : l'.length = nl at *
            obtain ⟨hu2, hv2⟩ := HUV.out
            have hq1 : (s2 : Int) / 3 = (u2 : Int) := by omega
            have hq2 : (s2 : Int) % 3 = (r2 : Int) := by omega
            have hq3 : (s2 : Int).tmod 3 = (r2 : Int) := by rw [Int.tmod_eq_emod_of_nonneg (by omega)]; omega
            have hq4 : (s2 : Int).tdiv 3 = (u2 : Int) := by rw [Int.tdiv_eq_ediv_of_nonneg (by omega)]; omega
            have hr3 : r2 < 3 := by omega
            have hq5 : IntKind.i64.wrap (u2 : Int) = (u2 : Int) := by rw [IntWalk.i64_in _ (by omega)]
            have hq6 : IntKind.i64.wrap ((r2 : Int) + 1) = (r2 : Int) + 1 := by rw [IntWalk.i64_in _ (by omega)]
            have hq7 : ((u2 : Int) != (u2 : Int)) = false := by simp
            clear hu2 hv2 HUV
            have hb4 : ((i : Int) != (i : Int)) = false := by simp
            have d5 : ¬ nl ≤ i := by omega
            have d6 : (i : Int) < (nl : Int) := by omega
            have d7 : (0 : Int) ≤ (i : Int) := by omega
            clear hnl h1 h2
            have HRD2 := Lib.hid (fun nq => HRD.out _ (nw_drewN HB5.out nq))
            have HK3 := Lib.hid (HK2.out.nw_ HB5.out)
            clear HRD HB5 HK2 HBX2
            go_wp2_with fail
            go_quiet (exact Calls.quiet_of (HRD2.out _))
            clear HRD2
            have hle3 := HK3.out.t.H
            go_wp2
            go_roundw
            case rel => exact ⟨k + 1, _, by omega, by go_num, hle3, HK3.out.nw_ (nw_drewN (Below.refl _ _) _)⟩
            case measure => simp [intOf]; omega
        | some p =>
          obtain ⟨m, s⟩ := p
          rw [hr] at he
          rw [show atV cl (some (m, s)) = .agg #[.int .i64 cl, .int .i64 (s / 3 : Nat), .int .i64 (s % 3 + 1 : Nat)] from rfl, show nextE (some (m, s)) = 0 from rfl] at he
          subst he
          have HBX1 := Lib.hid (((HBX.out.upd hu (by show ¬ (_ ∧ _); have := HK1.out.t.S1; have := HK1.out.t.S2; omega))).nw (nw_alloc w3 (.cells #[.int .i64 cl, .int .i64 (s / 3 : Nat), .int .i64 (s % 3 + 1 : Nat)] 32)))
          have HX1 : Hid (Blk (w3.alloc (.cells #[.int .i64 cl, .int .i64 (s / 3 : Nat), .int .i64 (s % 3 + 1 : Nat)] 32)) w3.heap.size 32 #[.int .i64 cl, .int .i64 (s / 3 : Nat), .int .i64 (s % 3 + 1 : Nat)]) := Blk.new _ _ _
          have HT1 := Lib.hid ((HK1.out.t.upd hu (fun k h1 h2 => by omega)).nw (nw_alloc w3 (.cells #[.int .i64 cl, .int .i64 (s / 3 : Nat), .int .i64 (s % 3 + 1 : Nat)] 32)))
          have hw3 := Nat.le_trans HK1.out.t.H hu.size
          have HU := Lib.hid hu
          have HS := Lib.hid hs
          have g0 := HBX1.out.cell 0
          have g1 := HBX1.out.cell 1
          have hgl := HBX1.out.lt
          simp at g0 g1 hgl
          clear hu hs f0 f1 HBX
          go_wp2_with fail
          refine (rnext_any _ _ T A2 A3 c2 c3 l cl _ HT1.out).mono ?_
          rintro e W4 ⟨⟨n1, p1, rfl, hnp⟩, hu2, ht⟩
          rw [hr] at hnp
          obtain ⟨rfl, rfl⟩ := hnp _ _ rfl
          rw [hr]
          rw [show (some (m, s) : Option Cl).isSome = true from rfl]
          have HK2 := Lib.hid ((HK1.out.step HU.out HS.out (nw_alloc _ _) hu2 ht).nw_ (nw_alloc W4 (.cells #[.int .i64 cl, .int .i64 (s / 3 : Nat), .int .i64 (s % 3 + 1 : Nat)] 32)))
          have HBX2 := Lib.hid ((HBX1.out.upd hu2 (by show ¬ (_ ∧ _); have := HK1.out.t.S1; have := HK1.out.t.S2; have := HK1.out.t.H; simp at this; omega)).nw (nw_alloc W4 (.cells #[.int .i64 cl, .int .i64 (s / 3 : Nat), .int .i64 (s % 3 + 1 : Nat)] 32)))
          have HX2 := HX1.out.upd hu2 (by show ¬ (_ ∧ _); omega)
          have x0 := HX2.cell 0
          have x1 := HX2.cell 1
          have x2 := HX2.cell 2
          have hxl := HX2.lt
          simp at x0 x1 x2
          have z0 := (HBX1.out.upd hu2 (by show ¬ (_ ∧ _); have := HK1.out.t.S1; have := HK1.out.t.S2; have := HK1.out.t.H; simp at this; omega)).cell 0
          have hzl := (HBX1.out.upd hu2 (by show ¬ (_ ∧ _); have := HK1.out.t.S1; have := HK1.out.t.S2; have := HK1.out.t.H; simp at this; omega)).lt
          simp at z0
          clear hu2 ht HK1 g0 g1 hgl HU HS HT1 HBX1 HX1 HX2 hw3 hnp hr
          go_wp2_with fail
          generalize hl' : nextL l cl = l' at *
          clear hl'
          have q0 := HBX2.out.cell 0
          have hql := HBX2.out.lt
          simp at q0 hql
          cases hr2 : rdyO (look l' cl) with
          | none =>
            have HAT := Lib.hid (fun W (h : Nw (W4.alloc (.cells #[.int .i64 cl, .int .i64 (s / 3 : Nat), .int .i64 (s % 3 + 1 : Nat)] 32)) W) => at_any _ _ S A1 c1 l' cl W (HK2.out.s.nw h))
            have HRD := Lib.hid (fun W (h : Nw (W4.alloc (.cells #[.int .i64 cl, .int .i64 (s / 3 : Nat), .int .i64 (s % 3 + 1 : Nat)] 32)) W) => rready_any _ _ T A2 A3 c2 c3 l' cl W (HK2.out.t.nw h))
            rw [hr2] at HAT HRD
            rw [show (none : Option Cl).isSome = false from rfl] at HRD
            rw [show atV cl none = .agg #[.int .i64 0, .int .i64 0, .int .i64 0] from rfl] at HAT
            clear hr2
            go_wp2_with fail
            refine (HAT.out _ (Below.refl _ _)).mono ?_
            rintro e w5 ⟨rfl, hb5⟩
            have g0 := (HBX2.out.nw hb5).cell 0
            have hgl := (HBX2.out.nw hb5).lt
            have hbn := hb5.then_ (nw_alloc w5 (.cells #[.int .i64 0, .int .i64 0, .int .i64 0] 32))
            have HB5 := Lib.hid hbn
            clear hb5 HAT hbn q0 hql
            simp at g0 hgl
            have HRD2 := Lib.hid (fun nq => HRD.out _ (nw_drewN HB5.out nq))
            have HK3 := Lib.hid (HK2.out.nw_ HB5.out)
            clear HRD HB5 HK2 HBX2
            go_wp2_with fail
            go_quiet (exact Calls.quiet_of (HRD2.out _))
            clear HRD2
            have hle3 := HK3.out.t.H
            go_wp2
            go_roundw
            case rel => exact ⟨k + 1, _, by omega, by go_num, hle3, HK3.out.nw_ (nw_drewN (Below.refl _ _) _)⟩
            case measure => simp [intOf]; omega
          | some pp =>
            obtain ⟨m2, s2⟩ := pp
            have HAT := Lib.hid (fun W (h : Nw (W4.alloc (.cells #[.int .i64 cl, .int .i64 (s / 3 : Nat), .int .i64 (s % 3 + 1 : Nat)] 32)) W) => at_any _ _ S A1 c1 l' cl W (HK2.out.s.nw h))
            have HRD := Lib.hid (fun W (h : Nw (W4.alloc (.cells #[.int .i64 cl, .int .i64 (s / 3 : Nat), .int .i64 (s % 3 + 1 : Nat)] 32)) W) => rready_any _ _ T A2 A3 c2 c3 l' cl W (HK2.out.t.nw h))
            rw [hr2] at HAT HRD
            rw [show (some (m2, s2) : Option Cl).isSome = true from rfl] at HRD
            rw [show atV cl (some (m2, s2)) = .agg #[.int .i64 cl, .int .i64 (s2 / 3 : Nat), .int .i64 (s2 % 3 + 1 : Nat)] from rfl] at HAT
            have HRR := Lib.hid (look_ready hr2)
            clear hr2
            obtain ⟨u2, hu2⟩ : ∃ u2, s2 / 3 = u2 := ⟨_, rfl⟩
            obtain ⟨r2, hv2⟩ : ∃ r2, s2 % 3 = r2 := ⟨_, rfl⟩
            rw [hu2, hv2, show ((r2 + 1 : Nat) : Int) = (r2 : Int) + 1 from rfl] at HAT
            have HUV := Lib.hid (And.intro hu2 hv2)
            clear hu2 hv2
            go_wp2_with fail
            refine (HAT.out _ (Below.refl _ _)).mono ?_
            rintro e w5 ⟨rfl, hb5⟩
            obtain ⟨i, hi0, h1, h2⟩ := HRR.out
            have hlt' := (List.getElem?_eq_some_iff.1 h1).1
            clear HRR
            have HKA := HK2.out.nw_ hb5
            have g0 := (HBX2.out.nw hb5).cell 0
            have hgl := (HBX2.out.nw hb5).lt
            have t1 := HKA.t.h1
            have hT := Nat.lt_of_lt_of_le HKA.t.S2 HKA.t.H
            obtain ⟨P, Q, -, hA3, -, -, -, hQ, -, -, -, y1, -⟩ := HKA.t.row i m2 s2 h1
            rw [hA3] at t1
            have hQ' := Nat.lt_of_lt_of_le hQ HKA.t.H
            have hsm := (HKA.t.ok i m2 s2 h1).2
            have hbn := hb5.then_ (nw_alloc w5 (.cells #[.int .i64 cl, .int .i64 u2, .int .i64 ((r2 : Int) + 1)] 32))
            have HB5 := Lib.hid hbn
            clear hb5 HAT hbn hQ HKA q0 hql hA3
            subst hi0
            simp at g0 hgl
            generalize hnl : l'.length = nl at *
            obtain ⟨hu2, hv2⟩ := HUV.out
            have hq1 : (s2 : Int) / 3 = (u2 : Int) := by omega
            have hq2 : (s2 : Int) % 3 = (r2 : Int) := by omega
            have hq3 : (s2 : Int).tmod 3 = (r2 : Int) := by rw [Int.tmod_eq_emod_of_nonneg (by omega)]; omega
            have hq4 : (s2 : Int).tdiv 3 = (u2 : Int) := by rw [Int.tdiv_eq_ediv_of_nonneg (by omega)]; omega
            have hr3 : r2 < 3 := by omega
            have hq5 : IntKind.i64.wrap (u2 : Int) = (u2 : Int) := by rw [IntWalk.i64_in _ (by omega)]
            have hq6 : IntKind.i64.wrap ((r2 : Int) + 1) = (r2 : Int) + 1 := by rw [IntWalk.i64_in _ (by omega)]
            have hq7 : ((u2 : Int) != (u2 : Int)) = false := by simp
            clear hu2 hv2 HUV
            have hb4 : ((i : Int) != (i : Int)) = false := by simp
            have d5 : ¬ nl ≤ i := by omega
            have d6 : (i : Int) < (nl : Int) := by omega
            have d7 : (0 : Int) ≤ (i : Int) := by omega
            clear hnl h1 h2
            have HRD2 := Lib.hid (fun nq => HRD.out _ (nw_drewN HB5.out nq))
            have HK3 := Lib.hid (HK2.out.nw_ HB5.out)
            clear HRD HB5 HK2 HBX2
            go_wp2_with fail
            go_quiet (exact Calls.quiet_of (HRD2.out _))
            clear HRD2
            have hle3 := HK3.out.t.H
            go_wp2
            go_roundw
            case rel => exact ⟨k + 1, _, by omega, by go_num, hle3, HK3.out.nw_ (nw_drewN (Below.refl _ _) _)⟩
            case measure => simp [intOf]; omega
      · go_wp2_with fail
        refine (stay_any _ _ S A1 c1 l cl _ HK1.out.s).mono ?_
        rintro e w3 ⟨rfl, hu, hs⟩
        have HBX1 := Lib.hid (HBX.out.upd hu (by show ¬ (_ ∧ _); have := HK1.out.t.S1; have := HK1.out.t.S2; omega))
        have HT1 := Lib.hid (HK1.out.t.upd hu (fun k h1 h2 => by omega))
        have HU := Lib.hid hu
        have HS := Lib.hid hs
        have g0 := HBX1.out.cell 0
        have g1 := HBX1.out.cell 1
        have hgl := HBX1.out.lt
        simp at g0 g1
        clear hu hs f0 f1 HBX
        go_wp2_with fail
        refine (rstay_any _ _ T A2 A3 c2 c3 l cl _ HT1.out).mono ?_
        rintro e W2 ⟨rfl, hu2, ht⟩
        have HK2 := Lib.hid (HK1.out.step HU.out HS.out (Below.refl _ _) hu2 ht)
        have HBX2 := Lib.hid (HBX1.out.upd hu2 (by show ¬ (_ ∧ _); omega))
        clear hu2 ht HK1 g0 g1 hgl HU HS HT1 HBX1
        generalize hl' : stayL l cl = l' at *
        clear hl'
        have q0 := HBX2.out.cell 0
        have hql := HBX2.out.lt
        simp at q0 hql
        cases hr2 : rdyO (look l' cl) with
        | none =>
          have HAT := Lib.hid (fun W (h : Nw (W2) W) => at_any _ _ S A1 c1 l' cl W (HK2.out.s.nw h))
          have HRD := Lib.hid (fun W (h : Nw (W2) W) => rready_any _ _ T A2 A3 c2 c3 l' cl W (HK2.out.t.nw h))
          rw [hr2] at HAT HRD
          rw [show (none : Option Cl).isSome = false from rfl] at HRD
          rw [show atV cl none = .agg #[.int .i64 0, .int .i64 0, .int .i64 0] from rfl] at HAT
          clear hr2
          go_wp2_with fail
          refine (HAT.out _ (Below.refl _ _)).mono ?_
          rintro e w5 ⟨rfl, hb5⟩
          have g0 := (HBX2.out.nw hb5).cell 0
          have hgl := (HBX2.out.nw hb5).lt
          have hbn := hb5.then_ (nw_alloc w5 (.cells #[.int .i64 0, .int .i64 0, .int .i64 0] 32))
          have HB5 := Lib.hid hbn
          clear hb5 HAT hbn q0 hql
          simp at g0 hgl
          have HRD2 := Lib.hid (fun nq => HRD.out _ (nw_drewN HB5.out nq))
          have HK3 := Lib.hid (HK2.out.nw_ HB5.out)
          clear HRD HB5 HK2 HBX2
          go_wp2_with fail
          go_quiet (exact Calls.quiet_of (HRD2.out _))
          clear HRD2
          have hle3 := HK3.out.t.H
          go_wp2
          go_roundw
          case rel => exact ⟨k + 1, _, by omega, by go_num, hle3, HK3.out.nw_ (nw_drewN (Below.refl _ _) _)⟩
          case measure => simp [intOf]; omega
        | some pp =>
          obtain ⟨m2, s2⟩ := pp
          have HAT := Lib.hid (fun W (h : Nw (W2) W) => at_any _ _ S A1 c1 l' cl W (HK2.out.s.nw h))
          have HRD := Lib.hid (fun W (h : Nw (W2) W) => rready_any _ _ T A2 A3 c2 c3 l' cl W (HK2.out.t.nw h))
          rw [hr2] at HAT HRD
          rw [show (some (m2, s2) : Option Cl).isSome = true from rfl] at HRD
          rw [show atV cl (some (m2, s2)) = .agg #[.int .i64 cl, .int .i64 (s2 / 3 : Nat), .int .i64 (s2 % 3 + 1 : Nat)] from rfl] at HAT
          have HRR := Lib.hid (look_ready hr2)
          clear hr2
          obtain ⟨u2, hu2⟩ : ∃ u2, s2 / 3 = u2 := ⟨_, rfl⟩
          obtain ⟨r2, hv2⟩ : ∃ r2, s2 % 3 = r2 := ⟨_, rfl⟩
          rw [hu2, hv2, show ((r2 + 1 : Nat) : Int) = (r2 : Int) + 1 from rfl] at HAT
          have HUV := Lib.hid (And.intro hu2 hv2)
          clear hu2 hv2
          go_wp2_with fail
          refine (HAT.out _ (Below.refl _ _)).mono ?_
          rintro e w5 ⟨rfl, hb5⟩
          obtain ⟨i, hi0, h1, h2⟩ := HRR.out
          have hlt' := (List.getElem?_eq_some_iff.1 h1).1
          clear HRR
          have HKA := HK2.out.nw_ hb5
          have g0 := (HBX2.out.nw hb5).cell 0
          have hgl := (HBX2.out.nw hb5).lt
          have t1 := HKA.t.h1
          have hT := Nat.lt_of_lt_of_le HKA.t.S2 HKA.t.H
          obtain ⟨P, Q, -, hA3, -, -, -, hQ, -, -, -, y1, -⟩ := HKA.t.row i m2 s2 h1
          rw [hA3] at t1
          have hQ' := Nat.lt_of_lt_of_le hQ HKA.t.H
          have hsm := (HKA.t.ok i m2 s2 h1).2
          have hbn := hb5.then_ (nw_alloc w5 (.cells #[.int .i64 cl, .int .i64 u2, .int .i64 ((r2 : Int) + 1)] 32))
          have HB5 := Lib.hid hbn
          clear hb5 HAT hbn hQ HKA q0 hql hA3
          subst hi0
          simp at g0 hgl
          generalize hnl : l'.length = nl at *
          obtain ⟨hu2, hv2⟩ := HUV.out
          have hq1 : (s2 : Int) / 3 = (u2 : Int) := by omega
          have hq2 : (s2 : Int) % 3 = (r2 : Int) := by omega
          have hq3 : (s2 : Int).tmod 3 = (r2 : Int) := by rw [Int.tmod_eq_emod_of_nonneg (by omega)]; omega
          have hq4 : (s2 : Int).tdiv 3 = (u2 : Int) := by rw [Int.tdiv_eq_ediv_of_nonneg (by omega)]; omega
          have hr3 : r2 < 3 := by omega
          have hq5 : IntKind.i64.wrap (u2 : Int) = (u2 : Int) := by rw [IntWalk.i64_in _ (by omega)]
          have hq6 : IntKind.i64.wrap ((r2 : Int) + 1) = (r2 : Int) + 1 := by rw [IntWalk.i64_in _ (by omega)]
          have hq7 : ((u2 : Int) != (u2 : Int)) = false := by simp
          clear hu2 hv2 HUV
          have hb4 : ((i : Int) != (i : Int)) = false := by simp
          have d5 : ¬ nl ≤ i := by omega
          have d6 : (i : Int) < (nl : Int) := by omega
          have d7 : (0 : Int) ≤ (i : Int) := by omega
          clear hnl h1 h2
          have HRD2 := Lib.hid (fun nq => HRD.out _ (nw_drewN HB5.out nq))
          have HK3 := Lib.hid (HK2.out.nw_ HB5.out)
          clear HRD HB5 HK2 HBX2
          go_wp2_with fail
          go_quiet (exact Calls.quiet_of (HRD2.out _))
          clear HRD2
          have hle3 := HK3.out.t.H
          go_wp2
          go_roundw
          case rel => exact ⟨k + 1, _, by omega, by go_num, hle3, HK3.out.nw_ (nw_drewN (Below.refl _ _) _)⟩
          case measure => simp [intOf]; omega
    · have c0 := HK.out.t.h0
      have hT := Nat.lt_of_lt_of_le HK.out.t.S2 HK.out.t.H
      have hlen := HK.out.t.len
      have HG := Lib.hid (fun i (h : i < l.length) => (⟨l[i].1, l[i].2, by simp [h]⟩ : ∃ m s, l[i]? = some (m, s)))
      generalize hnl : l.length = nl at *
      have HNL := Lib.hid hnl
      clear hnl
      obtain ⟨wb, rfl⟩ : ∃ wb : World, wb = wr := ⟨_, rfl⟩
      have HR0 : Hid (RQ wb l 0 (.slice none 0 0) wb) := ⟨by simpa [rdy, rdyV] using World.ownsRow_nil wb wb.heap.size 3 1, Below.refl _ _⟩
      go_wp2_with fail
      clear c0 hT
      go_loopw [17, 150] (fun v i wr => ∃ j : Nat, j ≤ nl ∧ i = .int .i64 j ∧ Hid (RQ wb l j v wr)) (fun _ i _ => nl - (intOf i).toNat)
      case atStart => exact ⟨0, Nat.zero_le _, rfl, HR0⟩
      case round =>
        obtain ⟨j, hj, rfl, HR⟩ := hrel
        clear HR0
        by_cases hjl : j < nl
        · obtain ⟨m, s, hx⟩ := HG.out j hjl
          have hlk : look l (j : Int) = some (m, s) := by unfold look; rw [if_neg (by omega)]; simpa using hx
          have HRD := Lib.hid (rready_any _ _ T A2 A3 c2 c3 l j _ (HK.out.t.nw HR.out.nw))
          rw [hlk, rdyO_mk] at HRD
          have HX := Lib.hid hx
          clear hlk hx
          have hnj : ¬ nl ≤ j := by omega
          by_cases hs : s < 3 * m
          · rw [if_pos hs, show (some (m, s) : Option Cl).isSome = true from rfl] at HRD
            have HY := Lib.hid (rdy_yes HX.out hs)
            clear hs HX
            go_wp2_with fail
            refine HRD.out.mono ?_
            rintro e w6 ⟨rfl, hd⟩
            have HN6 := Lib.hid (HR.out.nw.then_ hd.nw)
            have HO6 := Lib.hid (kept_nw HR.out.own hd.nw)
            have hrl := rdy_len l j
            have hz6 := HN6.out.size
            clear HRD HR hd
            go_wp2_with (at_builtin; refine wpList_append_own _ rfl _ _ 22 rfl wb.heap.size 3 i0 (.int .i64 0) 1 8 Try.underlying22 hii hz0 hz1 hz2 rfl (by decide) _ _ _ rfl (HO6.out.alloc _) ⟨w6.heap.size, 0, none⟩ 1 1 [.int .i64 j] rfl rfl (one_news _ _) (one_one _) (by unfold maxLen; omega) (by omega) (by simp; omega) ?_)
            intro v' w7 hown' hg _
            have HP : Hid (RQ wb l (j + 1) v' w7) := by
              refine ⟨?_, (HN6.out.alloc (by omega) _).grown hg (by simp; omega) fun g hgg => (HO6.out.lt g hgg).1⟩
              unfold rdyV
              rw [HY.out, List.length_append, List.map_append]
              exact hown'
            clear hown' hg HO6 HN6 HY hrl
            go_wp2
            go_roundw
            case rel => exact ⟨j + 1, by omega, by go_num, HP⟩
            case measure => simp [intOf]; omega
          · rw [if_neg hs, show (none : Option Cl).isSome = false from rfl] at HRD
            have HY := Lib.hid (rdy_no HX.out hs)
            clear hs HX
            go_wp2_with fail
            refine HRD.out.mono ?_
            rintro e w6 ⟨rfl, hd⟩
            have HP : Hid (RQ wb l (j + 1) u17 w6) := by
              refine ⟨?_, HR.out.nw.then_ hd.nw⟩
              unfold rdyV
              rw [HY.out]
              exact kept_nw HR.out.own hd.nw
            clear HRD HR hd HY
            go_wp2
            go_roundw
            case rel => exact ⟨j + 1, by omega, by go_num, HP⟩
            case measure => simp [intOf]; omega
        · obtain rfl : j = nl := by omega
          have HRE := Lib.hid (fun W (h : Nw wb W) => ready_any _ _ S A1 c1 l W (HK.out.s.nw h))
          have HOV := Lib.hid (fun W (h : Nw wb W) => over_any _ _ S A1 c1 l W (HK.out.s.nw h))
          have HOP := Lib.hid (fun W (h : Nw wb W) => open_any _ _ S A1 c1 l W (HK.out.s.nw h))
          have HRO := Lib.hid (fun W (h : Nw wb W) => ropen_any _ _ T A2 A3 c2 c3 l W (HK.out.t.nw h))
          have HO := Lib.hid HR.out.own
          have HNB := Lib.hid HK.out.nw
          have HN0 := Lib.hid HR.out.nw
          have hrl := rdy_len l j
          have hz : (overB l = true ∧ ((((rdy l j).length : Nat) : Int) == 0) = true) ∨ (overB l = false ∧ ((((rdy l j).length : Nat) : Int) == 0) = false) := by
            unfold overB
            rw [HNL.out]
            by_cases h : (rdy l j).length = 0
            · exact .inl ⟨by simp [h], by simp [h]⟩
            · exact .inr ⟨by simp [h], by rw [beq_eq_false_iff_ne]; omega⟩
          have hval : ∀ t, t < (rdy l j).length → (rdyV l j)[t]? = some (.int .i64 (((rdy l j)[t]?.getD 0 : Nat) : Int)) := fun t ht => by
            unfold rdyV
            rw [List.getElem?_map, List.getElem?_eq_getElem ht]
            rfl
          unfold ReadyPost at HRE
          rw [HNL.out] at HRE HOP HRO
          generalize hxs : rdyV l j = xv at *
          generalize hf : (fun t : Nat => (((rdy l j)[t]?.getD 0 : Nat) : Int)) = f at *
          have hval' : ∀ t, t < (rdy l j).length → xv[t]? = some (.int .i64 (f t)) := fun t ht => by rw [← hf]; exact hval t ht
          generalize (rdy l j).length = z at *
          obtain ⟨A9, c9, rfl, r9⟩ := nat_of_own HO.out f hval'
          have HV := Lib.hid hval'
          have HR9 := Lib.hid r9
          generalize overB l = bo at *
          generalize opn l j = op at *
          clear hval hval' r9 hxs hf HO HR HK HG
          rcases hz with ⟨rfl, hz⟩ | ⟨rfl, hz⟩
          all_goals
            go_wp2_with fail
            refine (HRE.out _ HN0.out).mono ?_
            rintro e w7 ⟨v2, rfl, hown2, hb⟩
            obtain ⟨A8, c8, rfl, r8⟩ := nat_of_own hown2 f HV.out
            have HQ := Lib.hid (ints_same A8 A9 z c8 c9 f _ r8 (fun t ht => by
              obtain ⟨g, e, hc⟩ := HR9.out t ht
              refine ⟨g, e, ?_⟩
              have hgl := World.block_lt_of_cell? _ _ hc
              exact (hb.cell (p := ⟨g, t, none⟩) hgl).trans hc) (by omega))
            have HN7 := Lib.hid (HN0.out.then_ hb)
            clear hown2 r8 hb HRE
            go_wp2_with fail
            refine HQ.out.mono ?_
            rintro e w8 ⟨rfl, hd⟩
            have HN8 := Lib.hid (HN7.out.then_ hd.nw)
            clear hd HQ HN7
            go_wp2_with fail
            refine (HOV.out _ HN8.out).mono ?_
            rintro e w9 ⟨rfl, hb⟩
            have HN9 := Lib.hid (HN8.out.then_ hb)
            clear hb HN8 HOV
            go_wp2_with fail
            refine (HOP.out _ HN9.out).mono ?_
            rintro e w10 ⟨rfl, hb⟩
            have HN10 := Lib.hid (HN9.out.then_ hb)
            clear hb HN9 HOP
            go_wp2_with fail
            refine (HRO.out _ HN10.out).mono ?_
            rintro e w11 ⟨rfl, rfl⟩
            go_wp2_with fail
            refine (alive_any _).mono ?_
            rintro e w12 ⟨rfl, hb⟩
            have HN12 := Lib.hid (HNB.out.then_ (HN10.out.then_ hb))
            clear hb
            go_wp2
            go_ret
            exact ⟨rfl, HN12.out⟩

set_option maxRecDepth 100000 in
theorem schedPlays_walk (xs : List Int) (A : Option Addr) (c : Nat) (os : List Op) (B : Option Addr) (d : Nat) (w : World) (hA : IntsAt w A xs) (hc : xs.length ≤ c) (hB : OpsAt w B os) :
    Calls Try.prog 4 #[.slice A xs.length c, .slice B os.length d] w (TrueNw w) := by
  cases hf : fewB xs.length os.length
  · have HF := Lib.hid (few_any A B xs.length c os.length d)
    rw [hf] at HF
    clear hf hA hB hc
    go_enter Try.func4, Try.ntmps4
    go_wp2_with fail
    refine (HF.out _).mono ?_
    rintro e w0 ⟨rfl, rfl⟩
    go_wp2_with fail
    refine (alive_any _).mono ?_
    rintro e w1 ⟨rfl, hb⟩
    go_wp2
    go_ret
    exact ⟨rfl, hb⟩
  · exact schedPlays_good xs A c os B d w hA hc hB hf
end Go.Proofs.Ytemnopfcddcekaa
