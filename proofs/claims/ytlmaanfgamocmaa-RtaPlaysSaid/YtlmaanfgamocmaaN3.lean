/- The walk of the document's Play. -/
import Derived.Test.YtlmaanfgamocmaaN2
namespace Go.Proofs.Ytlmaanfgamocmaa
open Go.RowKit

theorem info43 : (Try.prog.info? 43).map (fun i => (i.zero, i.size, i.bytes)) = some (some (.agg #[.int .i64 0, .int .i64 0, .int .i64 0]), 3, 24) := by kernel_rfl
theorem info50 : (Try.prog.info? 50).map (fun i => (i.zero, i.size, i.bytes)) = some (some (.slice none 0 0), 1, 24) := by kernel_rfl
theorem info3 : (Try.prog.info? 3).map (fun i => (i.zero, i.size, i.bytes)) = some (some (.int .i64 0), 1, 8) := by kernel_rfl
theorem made3 {w : World} {base R n : Nat} (h : w.ownsRow base 43 3 (.slice (some ⟨R, 0, none⟩) n n) n (madeCells (Value.agg #[.int .i64 0, .int .i64 0, .int .i64 0]).cells (n * 3)).toList) : ∀ j, j < n * 3 → w.cell? ⟨R, j, none⟩ = some (.int .i64 0) := fun j hj => by
  rw [h.cellAt j hj]
  simp only [madeCells, Array.getElem?_toList]
  rw [Array.getElem?_map, show (Array.range (n * 3))[j]? = some j by rw [Array.getElem?_eq_getElem (by rw [Array.size_range]; omega), Array.getElem_range]]
  show some ((#[.int .i64 0, .int .i64 0, .int .i64 0] : Array Value)[j % 3]!) = _
  have : j % 3 = 0 ∨ j % 3 = 1 ∨ j % 3 = 2 := by omega
  rcases this with e | e | e <;> rw [e] <;> rfl
theorem made1 {w : World} {base R n : Nat} (h : w.ownsRow base 50 1 (.slice (some ⟨R, 0, none⟩) n n) n (madeCells #[.slice none 0 0] n).toList) : ∀ j, j < n → w.cell? ⟨R, j, none⟩ = some (.slice none 0 0) := fun j hj => by
  rw [h.cellAt j (by omega)]
  simp only [madeCells, Array.getElem?_toList]
  rw [Array.getElem?_map, show (Array.range n)[j]? = some j by rw [Array.getElem?_eq_getElem (by rw [Array.size_range]; omega), Array.getElem_range]]
  show some ((#[.slice none 0 0] : Array Value)[j % 1]!) = _
  rw [Nat.mod_one]
  rfl
theorem QI.congr_ {W : World} {RO RR base n : Nat} {P O sent worst left cnt cnt' : Nat → Nat} {V : Nat → Value} (h : QI W RO RR base n P O sent worst left cnt V) (he : ∀ j, j < n → cnt j = cnt' j) : QI W RO RR base n P O sent worst left cnt' V :=
  ⟨h.row, h.hv, fun j hj => by rw [← he j hj]; exact h.q j hj, h.dis, h.fo, h.fr, h.b0, h.b1, h.bz, h.ne⟩
theorem alloc_cell_past {w : World} {o : Obj} {b i : Nat} (h : b < w.heap.size) : (w.alloc o).cell? ⟨b, i, none⟩ = w.cell? ⟨b, i, none⟩ := World.cell?_alloc_past _ _ _ h
def RPlayPost (n : Nat) (P O : Nat → Nat) (s : Nat) (w : World) (e : Ending) (w' : World) : Prop :=
  ∃ R, e = .returned (.slice (some ⟨R, 0, none⟩) n n) ∧ SeenAt w' R n (pl n P O s).sent (pl n P O s).worst (lefts n P O s) ∧ Nw w w'
/-- Behind so many tasks that were looked at in a slot. -/
def L3 (RO RR base n : Nat) (P O : Nat → Nat) (s k : Nat) (b : Bool) (W : World) : Prop :=
  ∃ V, if b = true then QI W RO RR base n P O (pl n P O (s + 1)).sent (pl n P O (s + 1)).worst (fun _ => 0) (fun j => arr P O j (s + 1)) V
    else QI W RO RR base n P O (pl n P O s).sent (pl n P O s).worst (fun _ => 0) (fun j => arr P O j (s + 1)) V ∧ ∀ j, j < k → ¬ (pl n P O s).sent j < arr P O j (s + 1)

theorem L3.of_false {RO RR base n : Nat} {P O : Nat → Nat} {s k : Nat} {W : World} (h : L3 RO RR base n P O s k false W) : ∃ V, QI W RO RR base n P O (pl n P O s).sent (pl n P O s).worst (fun _ => 0) (fun j => arr P O j (s + 1)) V ∧ ∀ j, j < k → ¬ (pl n P O s).sent j < arr P O j (s + 1) := by
  obtain ⟨V, h⟩ := h
  rw [if_neg (by simp)] at h
  exact ⟨V, h⟩
theorem L3.of_true {RO RR base n : Nat} {P O : Nat → Nat} {s k : Nat} {W : World} (h : L3 RO RR base n P O s k true W) : ∃ V, QI W RO RR base n P O (pl n P O (s + 1)).sent (pl n P O (s + 1)).worst (fun _ => 0) (fun j => arr P O j (s + 1)) V := by
  obtain ⟨V, h⟩ := h
  rw [if_pos rfl] at h
  exact ⟨V, h⟩

set_option maxRecDepth 100000 in
set_option maxHeartbeats 20000000 in
theorem rplay_in (A : Option Addr) (n c : Nat) (P O : Nat → Nat) (s : Nat) (w : World) (hT : TN w A n P O) (hs : s ≤ 100000) : Calls Try.prog 17 #[.slice A n c, .int .i64 s] w (RPlayPost n P O s w) := by
  obtain ⟨i0, hii, hz0, hz1, hz2⟩ := info_parts info43
  obtain ⟨i1, hjj, hy0, hy1, hy2⟩ := info_parts info50
  obtain ⟨i2, hkk, hx0, hx1, hx2⟩ := info_parts info3
  have HT := Lib.hid hT
  have hlen := hT.len
  have HLE := Lib.hid (fun (k t : Nat) => sent_le (n := n) (P := P) (O := O) (fun k => (hT.ok k).1) k t)
  have HAR := Lib.hid (fun (k t : Nat) => arr_le (P := P) (O := O) (k := k) (s := t) (hT.ok k).1)
  have HWB := Lib.hid (fun (k t : Nat) => worst_bound (n := n) (P := P) (O := O) k t)
  have HPL := Lib.hid (pl_succ n P O)
  have HLT := Lib.hid (fun (q k t : Nat) => lt_arr (P := P) (O := O) (k := k) (q := q) (s := t) (hT.ok k).1)
  have HST := Lib.hid (fun (k t : Nat) => arr_step (P := P) (O := O) (k := k) (s := t) (hT.ok k).1)
  have HCA := Lib.hid (fun (k t : Nat) => came_at (P := P) (O := O) (k := k) (s := t) (hT.ok k).1)
  have HA0 := Lib.hid (fun (k : Nat) => arr_zero (P := P) (O := O) (k := k) (hT.ok k).1)
  clear hT
  unfold RPlayPost
  go_enter Try.func17, Try.ntmps17
  go_wp2_with (at_make; refine wpList_make_full _ rfl _ _ 39 rfl w.heap.size 43 i0 (.agg #[.int .i64 0, .int .i64 0, .int .i64 0]) 3 Try.underlying39 hii hz0 hz1 .i64 .i64 n n n rfl rfl ?ca0 ?cb0 ?cc0 ?cd0 ?ce0 ?_)
  case ca0 => trivial
  case cb0 => trivial
  case cc0 => rw [hz2]; omega
  case cd0 => unfold maxLen; omega
  case ce0 => exact Nat.le_refl _
  intro w1 hown1 hg1
  have HN1 : Hid (Nw w w1) := Lib.hid ((Below.refl _ w).grown hg1 (Nat.le_refl _) (by simp))
  have HO1 := Lib.hid hown1
  clear hown1 hg1
  go_wp2_with (at_make; refine wpList_make_full _ rfl _ _ 49 rfl w1.heap.size 50 i1 (.slice none 0 0) 1 Try.underlying49 hjj hy0 hy1 .i64 .i64 n n n rfl rfl ?ca1 ?cb1 ?cc1 ?cd1 ?ce1 ?_)
  case ca1 => trivial
  case cb1 => trivial
  case cc1 => rw [hy2]; omega
  case cd1 => unfold maxLen; omega
  case ce1 => exact Nat.le_refl _
  intro w2 hown2 hg2
  have hnw : Nw w1 w2 := (Below.refl _ w1).grown hg2 (Nat.le_refl _) (by simp)
  have HQ0 : Hid (QI w2 w.heap.size w1.heap.size w2.heap.size n P O (pl n P O 0).sent (pl n P O 0).worst (fun _ => 0) (fun j => arr P O j 0) (fun _ => .slice none 0 0)) := by
    have hR := (HO1.out.lt w.heap.size rfl).2
    have hR2 := (hown2.lt w1.heap.size rfl).2
    have hO : ∀ j, w2.cell? ⟨w.heap.size, j, none⟩ = w1.cell? ⟨w.heap.size, j, none⟩ := fun j => hnw.cell (p := ⟨w.heap.size, j, none⟩) hR
    refine ⟨fun j hj => ⟨(hO _).trans (made3 HO1.out _ (by omega)), (hO _).trans (made3 HO1.out _ (by omega)), (hO _).trans (made3 HO1.out _ (by omega))⟩, fun j hj => made1 hown2 j hj, fun j hj => .inl ⟨rfl, ?_⟩, fun i j _ _ _ g hg => (by cases hg),
      fun j => (hnw.frozen (p := ⟨w.heap.size, j, none⟩) hR).trans (HO1.out.frozenAt j), fun j => hown2.frozenAt j, by omega, hR2, Nat.le_refl _, by omega⟩
    rw [HA0.out]
    rfl
  have HN2 := Lib.hid (HN1.out.then_ hnw)
  have HB := Lib.hid (show w.heap.size ≤ w1.heap.size from HN1.out.size)
  clear hown2 hg2 hnw HO1 HN1
  go_wp2_with fail
  generalize w2.heap.size = base at *
  generalize w1.heap.size = RR at *
  generalize hRO : w.heap.size = RO at *
  have HRO := Lib.hid hRO
  clear hRO
  go_loopw [7] (fun i wr => ∃ k : Nat, k ≤ s ∧ i = .int .i64 k ∧ Hid (∃ V, QI wr RO RR base n P O (pl n P O k).sent (pl n P O k).worst (fun _ => 0) (fun j => arr P O j k) V) ∧ Hid (Nw w wr)) (fun i _ => s - (intOf i).toNat)
  case atStart => exact ⟨0, Nat.zero_le _, rfl, Lib.hid ⟨_, HQ0.out⟩, HN2⟩
  case round =>
    obtain ⟨k, hk, rfl, HI, HN⟩ := hrel
    clear HQ0 HN2
    by_cases hlt : k < s
    · obtain ⟨wo, rfl⟩ : ∃ wo : World, wo = wr := ⟨_, rfl⟩
      have HI2 : Hid (∃ V, QI wo RO RR base n P O (pl n P O k).sent (pl n P O k).worst (fun _ => 0) (cntN P O k 0) V) := by
        unfold Hid
        rw [cntN_zero]
        exact HI.out
      clear HI
      go_wp2_with fail
      go_loopw [8] (fun i wr => ∃ j : Nat, j ≤ n ∧ i = .int .i64 j ∧ Hid (∃ V, QI wr RO RR base n P O (pl n P O k).sent (pl n P O k).worst (fun _ => 0) (cntN P O k j) V) ∧ Hid (Nw w wr)) (fun i _ => n - (intOf i).toNat)
      case atStart => exact ⟨0, Nat.zero_le _, rfl, HI2, HN⟩
      case round =>
        clear HI2 HN
        obtain ⟨j, hj, rfl, HI, HN⟩ := hrel
        by_cases hjn : j < n
        · obtain ⟨ad, rfl, hp, f0, f1⟩ := (HT.out.nw HN.out).at_ j hjn
          obtain ⟨e3, e4, e5⟩ := HT.out.ok j
          have hst := HST.out j k
          have hnj : ¬ n ≤ j := by omega
          have d6 : (j : Int) < (n : Int) := by omega
          have d7 : (0 : Int) ≤ (j : Int) := by omega
          have hp0 : ¬ ((P j : Nat) : Int) = 0 := by omega
          have hp1 : (((P j : Nat) : Int) == 0) = false := by simp; omega
          by_cases ho : O j ≤ k
          · have hd1 : decide (((O j : Nat) : Int) ≤ (k : Int)) = true := by simp; omega
            by_cases hm : (k - O j) % P j = 0
            · have hm1 : ((k : Int) - ((O j : Nat) : Int)) % ((P j : Nat) : Int) = 0 := by rw [show (k : Int) - ((O j : Nat) : Int) = ((k - O j : Nat) : Int) by omega, ← Int.natCast_emod, hm]; rfl
              have hm2 : ((k : Int) - ((O j : Nat) : Int)).tmod ((P j : Nat) : Int) = 0 := by rw [Int.tmod_eq_emod_of_nonneg (by omega), hm1]
              rw [if_pos ⟨ho, hm⟩] at hst
              have HCAME := Lib.hid (HCA.out j k ho hm)
              have HYES := Lib.hid (cntN_yes hst)
              have hcj : cntN P O k j j = arr P O j k := by simp [cntN]
              have hsc := HLE.out j k
              have hak := HAR.out j k
              obtain ⟨V, hV⟩ := HI.out
              have HV := Lib.hid hV
              clear hV HI hst hm
              go_wp2_with fail
              go_quiet (fail)
              have HV3 := Lib.hid (HV.out.nw (nw_drewN (Below.refl _ _) nq))
              have HN3 := Lib.hid (nw_drewN HN.out nq)
              clear HV HN f0 f1 hp
              generalize wr.drewN nq = w3 at *
              have q1 := HV3.out.hv j hjn
              have HQ := Lib.hid (HV3.out.q j hjn)
              rw [hcj] at HQ
              have hb1 := HV3.out.b1
              have hbz := HV3.out.bz
              have hz1' : RR < w3.heap.size := by omega
              have HCELL : Hid ((w3.alloc (.cells #[.int .i64 (k : Int)] 3)).cell? ((⟨w3.heap.size, 0, none⟩ : Addr).add 0) = some (.int .i64 (cameF P O (pl n P O k).sent j (arr P O j k - (pl n P O k).sent j)))) := by
                unfold Hid
                rw [add_plain, alloc_cell_new rfl]
                unfold cameF
                rw [show (pl n P O k).sent j + (arr P O j k - (pl n P O k).sent j) = arr P O j k by omega, HCAME.out]
                rfl
              go_wp2_with (at_builtin; refine wpList_queue rfl _ _ rfl base (arr P O j k - (pl n P O k).sent j) (V j) (cameF P O (pl n P O k).sent j) rfl (HQ.out.nw (nw_alloc _ _)) i2 hkk hx0 hx1 hx2 ⟨w3.heap.size, 0, none⟩ 1 rfl HCELL.out (by omega) (by simp; omega) ?_)
              intro v' w5 hq' hg hat
              have HP := Lib.hid (HV3.out.push (nw_alloc _ _) hjn (by rw [hcj]; exact hsc) (by rw [hcj]; exact hq') hg (hat.imp id fun e => by rw [e]; simp))
              rw [HYES.out] at HP
              have hu : Upd (fun g => (V j).ownBlock = some g) (w3.alloc (.cells #[.int .i64 (k : Int)] 3)) w5 := Upd.of_grown hg fun g e => e
              have hnr : ¬ (V j).ownBlock = some RR := fun e => by have := HQ.out.lt RR e; omega
              have c5 : w5.cell? ⟨RR, j, none⟩ = some (V j) := (hu.cell (by simp; omega) hnr).trans ((alloc_cell_past hz1').trans q1)
              have fr5 : w5.frozen? ⟨RR, j, none⟩ = false := (hu.frozen (by simp; omega) hnr).trans ((((nw_alloc w3 (.cells #[.int .i64 (k : Int)] 3)).frozen (p := ⟨RR, j, none⟩) hz1')).trans (HV3.out.fr j))
              have hz5 : RR < w5.heap.size := Nat.lt_of_lt_of_le (by simp; omega) hu.size
              have HN5 : Hid (Nw w (w5.setCell ⟨RR, j, none⟩ v')) := by
                have hwb : w.heap.size ≤ base := by rw [HRO.out]; have := HB.out; omega
                refine (((HN3.out.then_ (nw_alloc w3 (.cells #[.int .i64 (k : Int)] 3))).grown hg (by rw [HRO.out]; simp; have := HB.out; omega) fun g e => ?_)).setCell (p := ⟨RR, j, none⟩) (by rw [HRO.out]; exact HB.out) v'
                have := HQ.out.lt g e
                omega
              have hform : ∃ g o cap, v' = .slice (some ⟨g, o, none⟩) (arr P O j k - (pl n P O k).sent j + 1) cap := by
                rcases hq' with ⟨-, e⟩ | ⟨g, o, cap, e, -⟩
                · omega
                · exact ⟨g, o, cap, e⟩
              obtain ⟨g', o', cap', rfl⟩ := hform
              clear hq' hg hat hu HQ HV3 HN3 HCELL HCAME HYES q1 hnr
              generalize arr P O j k - (pl n P O k).sent j + 1 = lenv at *
              go_wp2
              have HP2 : Hid (∃ V, QI (w5.setCell ⟨RR, j, none⟩ (.slice (some ⟨g', o', none⟩) lenv cap')) RO RR base n P O (pl n P O k).sent (pl n P O k).worst (fun _ => 0) (cntN P O k (j + 1)) V) := Lib.hid ⟨_, HP.out⟩
              clear HP
              generalize w5.setCell ⟨RR, j, none⟩ (.slice (some ⟨g', o', none⟩) lenv cap') = w6 at *
              go_roundw
              case rel => exact ⟨j + 1, by omega, by go_num, HP2, HN5⟩
              case measure => simp [intOf]; omega
            · rw [if_neg (fun e => hm e.2), Nat.add_zero] at hst
              have hm0 : ((k - O j) % P j : Nat) ≠ 0 := hm
              obtain ⟨r, hr⟩ : ∃ r, (k - O j) % P j = r := ⟨_, rfl⟩
              have hm1 : ((k : Int) - ((O j : Nat) : Int)) % ((P j : Nat) : Int) = (r : Int) := by rw [show (k : Int) - ((O j : Nat) : Int) = ((k - O j : Nat) : Int) by omega, ← Int.natCast_emod, hr]
              have hm2 : ((k : Int) - ((O j : Nat) : Int)).tmod ((P j : Nat) : Int) = (r : Int) := by rw [Int.tmod_eq_emod_of_nonneg (by omega), hm1]
              have hr0 : ((r : Int) == 0) = false := by rw [beq_eq_false_iff_ne]; omega
              have HI3 : Hid (∃ V, QI wr RO RR base n P O (pl n P O k).sent (pl n P O k).worst (fun _ => 0) (cntN P O k (j + 1)) V) := by
                unfold Hid
                rw [← cntN_no hst]
                exact HI.out
              clear hst hm hm0 hr HI
              generalize P j = p at *
              generalize O j = o at *
              go_wp2_with fail
              go_quiet (fail)
              have HI4 : Hid (∃ V, QI (wr.drewN nq) RO RR base n P O (pl n P O k).sent (pl n P O k).worst (fun _ => 0) (cntN P O k (j + 1)) V) := by
                obtain ⟨V, hV⟩ := HI3.out
                exact ⟨V, hV.nw (nw_drewN (Below.refl _ _) nq)⟩
              have HN4 := Lib.hid (nw_drewN HN.out nq)
              clear HI3 HN f0 f1 hp
              generalize wr.drewN nq = w4 at *
              go_wp2
              go_roundw
              case rel => exact ⟨j + 1, by omega, by go_num, HI4, HN4⟩
              case measure => simp [intOf]; omega
          · have hd1 : decide (((O j : Nat) : Int) ≤ (k : Int)) = false := by simp; omega
            rw [if_neg (fun e => ho e.1), Nat.add_zero] at hst
            have HI3 : Hid (∃ V, QI wr RO RR base n P O (pl n P O k).sent (pl n P O k).worst (fun _ => 0) (cntN P O k (j + 1)) V) := by
              unfold Hid
              rw [← cntN_no hst]
              exact HI.out
            clear hst HI
            generalize P j = p at *
            generalize O j = o at *
            go_wp2_with fail
            go_quiet (fail)
            have HI4 : Hid (∃ V, QI (wr.drewN nq) RO RR base n P O (pl n P O k).sent (pl n P O k).worst (fun _ => 0) (cntN P O k (j + 1)) V) := by
              obtain ⟨V, hV⟩ := HI3.out
              exact ⟨V, hV.nw (nw_drewN (Below.refl _ _) nq)⟩
            have HN4 := Lib.hid (nw_drewN HN.out nq)
            clear HI3 HN f0 f1 hp
            generalize wr.drewN nq = w4 at *
            go_wp2
            go_roundw
            case rel => exact ⟨j + 1, by omega, by go_num, HI4, HN4⟩
            case measure => simp [intOf]; omega
        · obtain rfl : j = n := by omega
          have HL0 : Hid (L3 RO RR base j P O k 0 false wr) := by
            obtain ⟨V, hV⟩ := HI.out
            refine ⟨V, ?_⟩
            rw [if_neg (by simp)]
            exact ⟨hV.congr_ fun i hi => by unfold cntN; rw [if_pos hi], fun i hi => absurd hi (Nat.not_lt_zero _)⟩
          clear HI
          obtain ⟨wo, rfl⟩ : ∃ wo : World, wo = wr := ⟨_, rfl⟩
          go_wp2_with fail
          go_loopw [9, 10] (fun b i wr => ∃ (t : Nat) (bb : Bool), t ≤ j ∧ b = .bool bb ∧ i = .int .i64 t ∧ Hid (L3 RO RR base j P O k t bb wr) ∧ Hid (Nw w wr)) (fun _ i _ => j - (intOf i).toNat)
          case atStart => exact ⟨0, false, Nat.zero_le _, rfl, rfl, HL0, HN⟩
          case round =>
            clear HL0 HN
            obtain ⟨t, bb, ht, rfl, rfl, HI, HN⟩ := hrel
            by_cases htj : t < j
            · have hdt : decide ((t : Int) < (j : Int)) = true := by simp; omega
              have hnt : ¬ j ≤ t := by omega
              have d6 : (t : Int) < (j : Int) := by omega
              have d7 : (0 : Int) ≤ (t : Int) := by omega
              cases bb
              · obtain ⟨V, hV, hna⟩ := HI.out.of_false
                have HV := Lib.hid hV
                have HNA := Lib.hid hna
                have q1 := hV.hv t htj
                have hq := hV.q t htj
                have hb1 := hV.b1
                have hbz := hV.bz
                have hz1' : RR < wr.heap.size := by omega
                clear hV hna HI
                by_cases hav : (pl j P O k).sent t < arr P O t (k + 1)
                · have hfi := first_of htj hav HNA.out
                  have hst := HPL.out k
                  rw [hfi] at hst
                  have ha := (HLT.out _ _ _).1 hav
                  have HE : Hid ((pl j P O (k + 1)).sent = upd (pl j P O k).sent t ((pl j P O k).sent t + 1) ∧ (pl j P O (k + 1)).worst = upd (pl j P O k).worst t (max ((pl j P O k).worst t) (k + 1 - (O t + (pl j P O k).sent t * P t)))) := by
                    unfold Hid
                    rw [hst]
                    exact ⟨rfl, rfl⟩
                  have hwb := HWB.out t k
                  have hsl := Nat.le_trans (HLE.out t k) (HAR.out t k)
                  have hal := HAR.out t (k + 1)
                  obtain ⟨r0, r1, -⟩ := HV.out.row t htj
                  have fo0 := HV.out.fo (t * 3)
                  have fo1 := HV.out.fo (t * 3 + 1)
                  have fr0 := HV.out.fr t
                  have hb0 := HV.out.b0
                  have hzo : RO < wr.heap.size := by omega
                  have hne1 := HV.out.ne
                  have hne2 := HV.out.ne.symm
                  have HQV := Lib.hid hq
                  rcases hq with ⟨-, e0⟩ | ⟨g, o, cap, e, h1, h2, h3, h4, h5, h6⟩
                  · omega
                  have HVE := Lib.hid e
                  rw [e] at q1 HQV
                  have c0 := h4 0 (by omega)
                  unfold cameF at c0
                  rw [Nat.add_zero, Nat.add_zero] at c0
                  obtain ⟨a, hae⟩ : ∃ a, O t + (pl j P O k).sent t * P t = a := ⟨_, rfl⟩
                  obtain ⟨ln, hln⟩ : ∃ ln, arr P O t (k + 1) - (pl j P O k).sent t = ln := ⟨_, rfl⟩
                  rw [hae] at ha c0 HE
                  rw [hln] at q1 h3 HQV
                  have hl1 : 1 ≤ ln := by omega
                  have hl2 : ln ≤ 200000 := by omega
                  have HLN := Lib.hid hln
                  have HAV := Lib.hid hav
                  have hl3 : (0 : Int) < (ln : Int) := by omega
                  have hl4 : (1 : Int) ≤ (ln : Int) := by omega
                  have hl5 : (ln : Int) ≤ (cap : Int) := by omega
                  have hak : a ≤ k := by omega
                  clear e h1 h4 h5 hfi hst hae hln hav hal HNA
                  obtain ⟨o2, ho2, hif⟩ : ∃ o2, (cap ≠ 1 → o2 = o + 1) ∧ (if cap = 1 then some (⟨g, o, none⟩ : Addr) else some ⟨g, o + 1, none⟩) = some ⟨g, o2, none⟩ := by
                    by_cases h : cap = 1
                    · exact ⟨o, fun e => absurd h e, by rw [if_pos h]⟩
                    · exact ⟨o + 1, fun _ => rfl, by rw [if_neg h]⟩
                  have HP1 : Hid (QI ((wr.setCell ⟨RR, t, none⟩ (.slice (some ⟨g, o2, none⟩) (ln - 1) (cap - 1))).setCell ⟨RO, t * 3, none⟩ (.int .i64 (((pl j P O k).sent t : Nat) + 1 : Int))) RO RR base j P O (pl j P O (k + 1)).sent (pl j P O k).worst (fun _ => 0) (fun i => arr P O i (k + 1)) (updV V t (.slice (some ⟨g, o2, none⟩) (ln - 1) (cap - 1)))) := by
                    unfold Hid
                    rw [HE.out.1]
                    refine HV.out.pop htj ((pl j P O k).sent t + 1) ?_ ?_
                    · rw [show arr P O t (k + 1) - ((pl j P O k).sent t + 1) = ln - 1 by have := HLN.out; omega]
                      exact qat_tail HQV.out (by omega) _ (fun h => ho2 (by omega)) (fun h => ho2 (by omega))
                    · rw [HVE.out]
                      rfl
                  have HW2 : Hid (Nw w ((wr.setCell ⟨RR, t, none⟩ (.slice (some ⟨g, o2, none⟩) (ln - 1) (cap - 1))).setCell ⟨RO, t * 3, none⟩ (.int .i64 (((pl j P O k).sent t : Nat) + 1 : Int)))) := by
                    unfold Hid
                    exact (HN.out.setCell (p := ⟨RR, t, none⟩) (by rw [HRO.out]; exact HB.out) _).setCell (p := ⟨RO, t * 3, none⟩) (by rw [HRO.out]; exact Nat.le_refl _) _
                  have HP3 := Lib.hid (HP1.out.worst_ htj (k + 1 - a))
                  have HW3 : Hid (Nw w (((wr.setCell ⟨RR, t, none⟩ (.slice (some ⟨g, o2, none⟩) (ln - 1) (cap - 1))).setCell ⟨RO, t * 3, none⟩ (.int .i64 (((pl j P O k).sent t : Nat) + 1 : Int))).setCell ⟨RO, t * 3 + 1, none⟩ (.int .i64 ((k + 1 - a : Nat) : Int)))) := HW2.out.setCell (p := ⟨RO, t * 3 + 1, none⟩) (by rw [HRO.out]; exact Nat.le_refl _) _
                  rw [show ((k + 1 - a : Nat) : Int) = (k : Int) - (a : Int) + 1 by omega] at HP3 HW3
                  have HUS := Lib.hid (upd_self (pl j P O k).worst t)
                  clear HV HQV HVE HLN HAV HN ho2
                  rcases (show k + 1 - a ≤ (pl j P O k).worst t ∨ (pl j P O k).worst t < k + 1 - a by omega) with hcm | hcm
                  · have hcm2 : ¬ (((pl j P O k).worst t : Nat) : Int) < (k : Int) - (a : Int) + 1 := by omega
                    have HL3 : Hid (L3 RO RR base j P O k (t + 1) true ((wr.setCell ⟨RR, t, none⟩ (.slice (some ⟨g, o2, none⟩) (ln - 1) (cap - 1))).setCell ⟨RO, t * 3, none⟩ (.int .i64 (((pl j P O k).sent t : Nat) + 1 : Int)))) := by
                      refine ⟨updV V t (.slice (some ⟨g, o2, none⟩) (ln - 1) (cap - 1)), ?_⟩
                      rw [if_pos rfl, HE.out.2, Nat.max_eq_left hcm, HUS.out]
                      exact HP1.out
                    clear HE HP1 HP3 HW3 HUS
                    generalize (pl j P O k).sent t = se at *
                    generalize (pl j P O k).worst t = wo at *
                    go_wp2
                    generalize ((wr.setCell ⟨RR, t, none⟩ (.slice (some ⟨g, o2, none⟩) (ln - 1) (cap - 1))).setCell ⟨RO, t * 3, none⟩ (.int .i64 ((se : Int) + 1))) = wf at *
                    go_roundw
                    case rel => exact ⟨t + 1, true, by omega, rfl, by go_num, HL3, HW2⟩
                    case measure => simp [intOf]; omega
                  · have hcm2 : (((pl j P O k).worst t : Nat) : Int) < (k : Int) - (a : Int) + 1 := by omega
                    have HL3 : Hid (L3 RO RR base j P O k (t + 1) true (((wr.setCell ⟨RR, t, none⟩ (.slice (some ⟨g, o2, none⟩) (ln - 1) (cap - 1))).setCell ⟨RO, t * 3, none⟩ (.int .i64 (((pl j P O k).sent t : Nat) + 1 : Int))).setCell ⟨RO, t * 3 + 1, none⟩ (.int .i64 ((k : Int) - (a : Int) + 1)))) := by
                      refine ⟨updV V t (.slice (some ⟨g, o2, none⟩) (ln - 1) (cap - 1)), ?_⟩
                      rw [if_pos rfl, HE.out.2, Nat.max_eq_right (by omega)]
                      exact HP3.out
                    clear HE HP1 HP3 HW2 HUS
                    generalize (pl j P O k).sent t = se at *
                    generalize (pl j P O k).worst t = wo at *
                    go_wp2
                    generalize ((wr.setCell ⟨RR, t, none⟩ (.slice (some ⟨g, o2, none⟩) (ln - 1) (cap - 1))).setCell ⟨RO, t * 3, none⟩ (.int .i64 ((se : Int) + 1))).setCell ⟨RO, t * 3 + 1, none⟩ (.int .i64 ((k : Int) - (a : Int) + 1)) = wf at *
                    go_roundw
                    case rel => exact ⟨t + 1, true, by omega, rfl, by go_num, HL3, HW3⟩
                    case measure => simp [intOf]; omega
                · have HL2 : Hid (L3 RO RR base j P O k (t + 1) false wr) := by
                    refine ⟨V, ?_⟩
                    rw [if_neg (by simp)]
                    refine ⟨HV.out, fun i hi => ?_⟩
                    by_cases e : i = t
                    · subst e; exact hav
                    · exact HNA.out i (by omega)
                  have hform : V t = .slice none 0 0 ∨ ∃ g o cap, V t = .slice (some ⟨g, o, none⟩) 0 cap := by
                    rcases hq with ⟨e, -⟩ | ⟨g, o, cap, e, -⟩
                    · exact .inl e
                    · refine .inr ⟨g, o, cap, ?_⟩
                      rw [show arr P O t (k + 1) - (pl j P O k).sent t = 0 by omega] at e
                      exact e
                  clear hq HV HNA
                  rcases hform with e | ⟨g, o, cap, e⟩
                  · rw [e] at q1
                    go_wp2
                    go_roundw
                    case rel => exact ⟨t + 1, false, by omega, rfl, by go_num, HL2, HN⟩
                    case measure => simp [intOf]; omega
                  · rw [e] at q1
                    go_wp2
                    go_roundw
                    case rel => exact ⟨t + 1, false, by omega, rfl, by go_num, HL2, HN⟩
                    case measure => simp [intOf]; omega
              · have HL2 : Hid (∃ V, QI wr RO RR base j P O (pl j P O (k + 1)).sent (pl j P O (k + 1)).worst (fun _ => 0) (fun i => arr P O i (k + 1)) V) := Lib.hid HI.out.of_true
                clear HI
                go_wp2
                go_roundw
                case rel => exact ⟨k + 1, by omega, by go_num, HL2, HN⟩
                case measure => simp [intOf]; omega
            · have hdt : decide ((t : Int) < (j : Int)) = false := by simp; omega
              have htj2 : j ≤ t := by omega
              have HL2 : Hid (∃ V, QI wr RO RR base j P O (pl j P O (k + 1)).sent (pl j P O (k + 1)).worst (fun _ => 0) (fun i => arr P O i (k + 1)) V) := by
                cases bb
                · obtain ⟨V, hV, hna⟩ := HI.out.of_false
                  refine ⟨V, ?_⟩
                  rw [HPL.out, first_of_none fun i hi => hna i (by omega)]
                  exact hV
                · exact HI.out.of_true
              clear HI
              go_wp2
              go_roundw
              case rel => exact ⟨k + 1, by omega, by go_num, HL2, HN⟩
              case measure => simp [intOf]; omega
    · obtain rfl : k = s := by omega
      have HI0 : Hid (∃ V, QI wr RO RR base n P O (pl n P O k).sent (pl n P O k).worst (leftN P O (pl n P O k).sent k 0) (fun j => arr P O j k) V) := by
        have e : leftN P O (pl n P O k).sent k 0 = fun _ => 0 := by funext j; simp [leftN]
        unfold Hid
        rw [e]
        exact HI.out
      clear HI HPL HLT HWB HAR HLE HST HCA HA0
      obtain ⟨wo, rfl⟩ : ∃ wo : World, wo = wr := ⟨_, rfl⟩
      go_wp2_with fail
      go_loopw [12] (fun i wr => ∃ j : Nat, j ≤ n ∧ i = .int .i64 j ∧ Hid (∃ V, QI wr RO RR base n P O (pl n P O k).sent (pl n P O k).worst (leftN P O (pl n P O k).sent k j) (fun j => arr P O j k) V) ∧ Hid (Nw w wr)) (fun i _ => n - (intOf i).toNat)
      case atStart => exact ⟨0, Nat.zero_le _, rfl, HI0, HN⟩
      case round =>
        clear HI0 HN
        obtain ⟨j, hj, rfl, HI, HN⟩ := hrel
        by_cases hjn : j < n
        · obtain ⟨V, hV⟩ := HI.out
          have q1 := hV.hv j hjn
          have hq := hV.q j hjn
          have hb0 := hV.b0
          have hb1 := hV.b1
          have hbz := hV.bz
          have hz1' : RR < wr.heap.size := by omega
          have hz2' : RO < wr.heap.size := by omega
          have r2 := (hV.row j hjn).2.2
          have fo2 := hV.fo (j * 3 + 2)
          have hnj : ¬ n ≤ j := by omega
          have d6 : (j : Int) < (n : Int) := by omega
          have d7 : (0 : Int) ≤ (j : Int) := by omega
          have hup := leftN_succ P O (pl n P O k).sent k j
          have hnext := hV.left_ hjn (arr P O j k - (pl n P O k).sent j)
          rw [hup] at hnext
          have HP : Hid (∃ V, QI (wr.setCell ⟨RO, j * 3 + 2, none⟩ (.int .i64 ((arr P O j k - (pl n P O k).sent j : Nat) : Int))) RO RR base n P O (pl n P O k).sent (pl n P O k).worst (leftN P O (pl n P O k).sent k (j + 1)) (fun j => arr P O j k) V) := Lib.hid ⟨_, hnext⟩
          have HN2 : Hid (Nw w (wr.setCell ⟨RO, j * 3 + 2, none⟩ (.int .i64 ((arr P O j k - (pl n P O k).sent j : Nat) : Int)))) := HN.out.setCell (p := ⟨RO, j * 3 + 2, none⟩) (by rw [HRO.out]; exact Nat.le_refl _) _
          have hform : (V j = .slice none 0 0 ∧ arr P O j k - (pl n P O k).sent j = 0) ∨ ∃ g o cap, V j = .slice (some ⟨g, o, none⟩) (arr P O j k - (pl n P O k).sent j) cap := by
            rcases hq with ⟨e, e2⟩ | ⟨g, o, cap, e, -⟩
            · exact .inl ⟨e, e2⟩
            · exact .inr ⟨g, o, cap, e⟩
          clear hq hV hup hnext HI HN
          rcases hform with ⟨e, e2⟩ | ⟨g, o, cap, e⟩
          · rw [e] at q1
            rw [e2] at HP HN2
            go_wp2
            go_roundw
            case rel => exact ⟨j + 1, by omega, by go_num, HP, HN2⟩
            case measure => simp [intOf]; omega
          · rw [e] at q1
            generalize arr P O j k - (pl n P O k).sent j = ln at *
            go_wp2
            go_roundw
            case rel => exact ⟨j + 1, by omega, by go_num, HP, HN2⟩
            case measure => simp [intOf]; omega
        · obtain rfl : j = n := by omega
          have HSE : Hid (SeenAt wr RO j (pl j P O k).sent (pl j P O k).worst (lefts j P O k)) := by
            obtain ⟨V, hV⟩ := HI.out
            refine ⟨fun i hi => ?_, Nat.lt_of_lt_of_le hV.b0 hV.bz⟩
            obtain ⟨a, b, c⟩ := hV.row i hi
            refine ⟨a, b, ?_⟩
            rw [c]
            unfold leftN lefts
            rw [if_pos hi]
          clear HI
          go_wp2
          go_ret
          exact ⟨RO, rfl, HSE.out, HN.out⟩
end Go.Proofs.Ytlmaanfgamocmaa
