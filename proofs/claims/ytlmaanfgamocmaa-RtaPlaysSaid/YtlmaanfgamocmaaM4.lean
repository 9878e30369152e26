/- The walk of Play. -/
import Derived.Test.YtlmaanfgamocmaaM3
namespace Go.Proofs.Ytlmaanfgamocmaa
open Go.RowKit

theorem Four.set {bx bo R k : Nat} {p o n s : Nat} {w : World} (h : Four bx bo R k p o n s w) (h1 : R ≠ bx) (h2 : R ≠ bo) (v : Value) : Four bx bo R k p o n s (w.setCell ⟨R, k * 3 + 2, none⟩ v) :=
  ⟨(set_far h1).trans h.1, (set_far h1).trans h.2.1, (set_far h2).trans h.2.2.1, (set_off (by omega)).trans h.2.2.2⟩

set_option maxRecDepth 100000 in
set_option maxHeartbeats 20000000 in
theorem play_in (A : Option Addr) (n c : Nat) (P O : Nat → Nat) (s : Nat) (w : World) (hT : TN w A n P O) (hs : s ≤ 100000) (hR : ∀ W, Nw w W → Calls Try.prog 12 #[.slice A n c] W (IntNw 0 W)) :
    Calls Try.prog 16 #[.slice A n c, .int .i64 s] w (PlayPost n P O s w) := by
  obtain ⟨i0, hii, hz0, hz1, hz2⟩ := info_parts info42
  have HT := Lib.hid hT
  have HR := Lib.hid hR
  have hlen := hT.len
  have hd1 : decide ((s : Int) < 0) = false := by simp
  have hd2 : decide ((100000 : Int) < (s : Int)) = false := by simp; omega
  unfold PlayPost
  have HLE := Lib.hid (fun (k t : Nat) => sent_le (n := n) (P := P) (O := O) (fun k => (hT.ok k).1) k t)
  have HAR := Lib.hid (fun (k t : Nat) => arr_le (P := P) (O := O) (k := k) (s := t) (hT.ok k).1)
  have HWB := Lib.hid (fun (k t : Nat) => worst_bound (n := n) (P := P) (O := O) k t)
  have HPL := Lib.hid (pl_succ n P O)
  have HLT := Lib.hid (fun (q k t : Nat) => lt_arr (P := P) (O := O) (k := k) (q := q) (s := t) (hT.ok k).1)
  clear hT hR
  go_enter Try.func16, Try.ntmps16
  go_wp2_with fail
  refine (HR.out _ (nw_alloc _ _)).mono ?_
  rintro e w1 ⟨rfl, hb⟩
  have c0 : w1.cell? ⟨w.heap.size, 0, none⟩ = some (.slice A n c) := by rw [hb.cell (p := ⟨w.heap.size, 0, none⟩) (by simp), alloc_cell_new rfl]; rfl
  have hz : w.heap.size < w1.heap.size := Nat.lt_of_lt_of_le (by simp) hb.size
  have HN1 := Lib.hid ((nw_alloc w (.cells #[.slice A n c] 22)).then_ hb)
  clear hb HR
  go_wp2_with (at_make; refine wpList_make_full _ rfl _ _ 36 rfl w1.heap.size 42 i0 (.agg #[.int .i64 0, .int .i64 0, .int .i64 0]) 3 Try.underlying36 hii hz0 hz1 .i64 .i64 n n n rfl rfl ?ca0 ?cb0 ?cc0 ?cd0 ?ce0 ?_)
  case ca0 => trivial
  case cb0 => trivial
  case cc0 => rw [hz2]; omega
  case cd0 => unfold maxLen; omega
  case ce0 => exact Nat.le_refl _
  intro w2 hown hg
  have HN2 := Lib.hid (HN1.out.then_ ((Below.refl _ _).grown hg (Nat.le_refl _) (by simp)))
  have HPI0 : Hid (PI (w2.alloc (.cells #[.slice (some ⟨w1.heap.size, 0, none⟩) n n] 36)) w.heap.size w2.heap.size w1.heap.size A n c (fun _ => 0) (fun _ => 0) (fun _ => 0)) := by
    have hR := (hown.lt w1.heap.size rfl).2
    have hnw := (Below.refl _ w1).grown hg (Nat.le_refl _) (by simp)
    exact PI.start (hown.alloc _) ((nw_alloc w2 (.cells #[.slice (some ⟨w1.heap.size, 0, none⟩) n n] 36)).cell (p := ⟨w.heap.size, 0, none⟩) (show w.heap.size < w2.heap.size by omega) |>.trans ((hnw.cell (p := ⟨w.heap.size, 0, none⟩) hz).trans c0)) (by rw [alloc_cell_new rfl]; rfl) (by simp; omega) (by simp) (by omega) (by omega)
  have HN3 := Lib.hid (HN2.out.then_ (nw_alloc w2 (.cells #[.slice (some ⟨w1.heap.size, 0, none⟩) n n] 36)))
  have HRZ := Lib.hid (show w.heap.size ≤ w1.heap.size by omega)
  clear hown hg HN2 HN1
  go_wp2_with fail
  clear c0 hz
  generalize w2.alloc (.cells #[.slice (some ⟨w1.heap.size, 0, none⟩) n n] 36) = w3 at *
  generalize w1.heap.size = R at *
  generalize w2.heap.size = bo at *
  generalize hbl : w.heap.size = bl at *
  have HBL := Lib.hid hbl
  clear hbl
  go_loopw [32] (fun i wr => ∃ k : Nat, k ≤ s ∧ i = .int .i64 k ∧ Hid (PI wr bl bo R A n c (pl n P O k).sent (pl n P O k).worst (fun _ => 0)) ∧ Hid (Nw w wr)) (fun i _ => s - (intOf i).toNat)
  case atStart => exact ⟨0, Nat.zero_le _, rfl, HPI0, HN3⟩
  case round =>
    clear HPI0 HN3
    obtain ⟨k, hk, rfl, HI, HN⟩ := hrel
    by_cases hlt : k < s
    · have HFI := Lib.hid (first_any bl bo R A n c P O _ _ _ k wr (HT.out.nw HN.out) HI.out (by omega))
      have HST := Lib.hid (HPL.out k)
      cases hf : firstI n P O (pl n P O k).sent k with
      | none =>
        rw [hf] at HFI HST
        have HE : Hid (pl n P O (k + 1) = pl n P O k) := HST.out
        clear hf HST
        go_wp2_with fail
        refine HFI.out.mono ?_
        rintro e w4 ⟨rfl, hb⟩
        have HI4 : Hid (PI w4 bl bo R A n c (pl n P O (k + 1)).sent (pl n P O (k + 1)).worst (fun _ => 0)) := by unfold Hid; rw [HE.out]; exact HI.out.nw hb
        have HN4 := Lib.hid (HN.out.then_ hb)
        clear hb HI HN HFI HE
        rw [show firstV none = -1 from rfl]
        go_wp2
        go_roundw
        case rel => exact ⟨k + 1, by omega, by go_num, HI4, HN4⟩
        case measure => simp [intOf]; omega
      | some i =>
        rw [hf] at HFI HST
        obtain ⟨hi, hav, -⟩ := first_some hf
        have HE : Hid ((pl n P O (k + 1)).sent = upd (pl n P O k).sent i ((pl n P O k).sent i + 1) ∧ (pl n P O (k + 1)).worst = upd (pl n P O k).worst i (max ((pl n P O k).worst i) (k + 1 - (O i + (pl n P O k).sent i * P i)))) := by
          unfold Hid
          rw [HST.out]
          exact ⟨rfl, rfl⟩
        rw [HLT.out] at hav
        have hwb := HWB.out i k
        have hsl := Nat.le_trans (HLE.out i k) (HAR.out i k)
        clear hf HST
        go_wp2_with fail
        refine HFI.out.mono ?_
        rintro e w4 ⟨rfl, hb⟩
        have HI4 := Lib.hid (HI.out.nw hb)
        have HN4 := Lib.hid (HN.out.then_ hb)
        clear hb HI HN HFI
        obtain ⟨ad, hA, hp, f0, f1⟩ := (HT.out.nw HN4.out).at_ i hi
        obtain ⟨e3, e4, e5⟩ := HT.out.ok i
        have q0 := HI4.out.c0
        have q1 := HI4.out.c1
        obtain ⟨r0, r1, -⟩ := HI4.out.row i hi
        have fr0 := HI4.out.fr (i * 3)
        have fr1 := HI4.out.fr (i * 3 + 1)
        have hz0' := HI4.out.z0
        have hz1' := HI4.out.z1
        have hz2' := HI4.out.z2
        have hn0 := HI4.out.n0
        have hn1 := HI4.out.n1
        have hni : ¬ n ≤ i := by omega
        have d6 : (i : Int) < (n : Int) := by omega
        have d7 : (0 : Int) ≤ (i : Int) := by omega
        rw [hA] at q0
        generalize (pl n P O k).sent i = se at *
        generalize (pl n P O k).worst i = wo at *
        generalize P i = p at *
        generalize O i = o at *
        generalize hm : se * p = m at *
        have hm2 : (se : Int) * (p : Int) = (m : Int) := by rw [← hm]; exact (Int.natCast_mul _ _).symm
        have HM := Lib.hid hm
        clear hA hm
        rw [show firstV (some i) = (i : Int) from rfl]
        have hm3 : IntKind.i64.wrap (m : Int) = (m : Int) := by rw [IntWalk.i64_in _ (by omega)]
        have hm4 : IntKind.i64.wrap ((o : Int) + (m : Int)) = (o : Int) + (m : Int) := by rw [IntWalk.i64_in _ (by omega)]
        have hv1 : ((k : Int) - ((o : Int) + (m : Int)) + 1) = ((k + 1 - (o + m) : Nat) : Int) := by omega
        obtain ⟨v, hv⟩ : ∃ v, k + 1 - (o + m) = v := ⟨_, rfl⟩
        rw [hv] at HE hv1
        have hvk : v ≤ k + 1 := by omega
        have HV := Lib.hid hv
        clear hv
        have hmx : ((max wo v : Nat) : Int) = if wo < v then (v : Int) else (wo : Int) := by split <;> omega
        have HE2 : Hid (PI ((w4.setCell ⟨R, i * 3, none⟩ (.int .i64 ((se : Int) + 1))).setCell ⟨R, i * 3 + 1, none⟩ (.int .i64 (if wo < v then (v : Int) else (wo : Int)))) bl bo R A n c (pl n P O (k + 1)).sent (pl n P O (k + 1)).worst (fun _ => 0)) := by
          unfold Hid
          rw [HE.out.1, HE.out.2, ← hmx]
          exact HI4.out.set2 hi _ _
        have HN5 : Hid (Nw w ((w4.setCell ⟨R, i * 3, none⟩ (.int .i64 ((se : Int) + 1))).setCell ⟨R, i * 3 + 1, none⟩ (.int .i64 (if wo < v then (v : Int) else (wo : Int))))) := by
          have hR : w.heap.size ≤ R := by rw [HBL.out]; exact HRZ.out
          exact (HN4.out.setCell (p := ⟨R, i * 3, none⟩) hR _).setCell (p := ⟨R, i * 3 + 1, none⟩) hR _
        clear HE HI4 HN4 hmx
        go_wp2_with fail
        go_quiet (fail)
        go_wp2_with fail
        go_region
        generalize (w4.setCell ⟨R, i * 3, none⟩ (.int .i64 ((se : Int) + 1))).setCell ⟨R, i * 3 + 1, none⟩ (.int .i64 (if wo < v then (v : Int) else (wo : Int))) = w5 at *
        have HI6 := Lib.hid (HE2.out.nw (nw_drewN (Below.refl _ _) (nq + 1)))
        have HN6 := Lib.hid (nw_drewN HN5.out (nq + 1))
        clear HE2 HN5 f0 f1 q0 q1 r0 r1 fr0 fr1 hp
        generalize w5.drewN (nq + 1) = w6 at *
        go_wp2
        go_roundw
        case rel => exact ⟨k + 1, by omega, by go_num, HI6, HN6⟩
        case measure => simp [intOf]; omega
    · obtain rfl : k = s := by omega
      have q0 := HI.out.c0
      have hz0' := HI.out.z0
      have HI0 : Hid (PI wr bl bo R A n c (pl n P O k).sent (pl n P O k).worst (leftN P O (pl n P O k).sent k 0)) := by
        have e : leftN P O (pl n P O k).sent k 0 = fun _ => 0 := by funext j; simp [leftN]
        unfold Hid
        rw [e]
        exact HI.out
      have HNW := HN
      have HLEK := Lib.hid (fun j => HLE.out j k)
      have HARK := Lib.hid (fun j => HAR.out j k)
      clear HI HN HPL HLT HWB HLE HAR
      obtain ⟨wo, rfl⟩ : ∃ wo : World, wo = wr := ⟨_, rfl⟩
      go_wp2_with fail
      clear q0 hz0'
      go_loopw [82] (fun i wr => ∃ j : Nat, j ≤ n ∧ i = .int .i64 j ∧ Hid (PI wr bl bo R A n c (pl n P O k).sent (pl n P O k).worst (leftN P O (pl n P O k).sent k j)) ∧ Hid (Nw w wr)) (fun i _ => n - (intOf i).toNat)
      case atStart => exact ⟨0, Nat.zero_le _, rfl, HI0, HNW⟩
      case round =>
        clear HI0 HNW
        obtain ⟨j, hj, rfl, HI, HN⟩ := hrel
        by_cases hjn : j < n
        · obtain ⟨ad, rfl, hp, f0, f1⟩ := (HT.out.nw HN.out).at_ j hjn
          obtain ⟨e3, e4, e5⟩ := HT.out.ok j
          have hnk : ¬ n ≤ j := by omega
          have d6 : (j : Int) < (n : Int) := by omega
          have d7 : (0 : Int) ≤ (j : Int) := by omega
          have HIA := Lib.hid ((HI.out.nw (nw_alloc wr (.cells #[.int .i64 (P j : Nat), .int .i64 (O j : Nat)] 34))).nw (nw_drew _))
          have HNE := Lib.hid (And.intro (show R ≠ wr.heap.size by have := HI.out.z2; omega) HI.out.n1)
          have HC := Lib.hid (fun W => come_any (P j) (O j) k (IntKind.i64.wrap ((k : Int) - 1)) W (IntWalk.i64_in _ (by omega)) e3 e4 e5 (by omega))
          have HZ := Lib.hid (And.intro (show wr.heap.size < (wr.alloc (.cells #[.int .i64 (P j : Nat), .int .i64 (O j : Nat)] 34)).drew.heap.size by simp) (And.intro HIA.out.z1 HIA.out.z2))
          have HS : Hid (Four wr.heap.size bo R j (P j) (O j) n ((pl n P O k).sent j) (wr.alloc (.cells #[.int .i64 (P j : Nat), .int .i64 (O j : Nat)] 34)).drew) :=
            ⟨by rw [World.cell?_drew, alloc_cell_new rfl]; rfl, by rw [World.cell?_drew, alloc_cell_new rfl]; rfl, HIA.out.c1, (HIA.out.row j hjn).1⟩
          have hle := HLEK.out j
          have hla := HARK.out j
          have harr : arr P O j k = (k - O j + P j - 1) / P j := rfl
          have HUP := Lib.hid (leftN_succ P O (pl n P O k).sent k j)
          have HN2 := Lib.hid ((HN.out.then_ (nw_alloc wr (.cells #[.int .i64 (P j : Nat), .int .i64 (O j : Nat)] 34))).then_ (nw_drew _))
          have HSET : Hid (∀ W, Nw (wr.alloc (.cells #[.int .i64 (P j : Nat), .int .i64 (O j : Nat)] 34)).drew W → PI (W.setCell ⟨R, j * 3 + 2, none⟩ (.int .i64 (arr P O j k - (pl n P O k).sent j : Nat))) bl bo R (some ad) n c (pl n P O k).sent (pl n P O k).worst (leftN P O (pl n P O k).sent k (j + 1))) := fun W h => by
            rw [← HUP.out]
            exact (HIA.out.nw h).set3 hjn _
          have HFR : Hid (∀ W, Nw (wr.alloc (.cells #[.int .i64 (P j : Nat), .int .i64 (O j : Nat)] 34)).drew W → W.frozen? ⟨R, j * 3 + 2, none⟩ = false ∧ W.cell? ⟨R, j * 3 + 2, none⟩ = some (.int .i64 (leftN P O (pl n P O k).sent k j j : Nat)) ∧ R < W.heap.size) := fun W h => ⟨(HIA.out.nw h).fr _, ((HIA.out.nw h).row j hjn).2.2, (HIA.out.nw h).z2⟩
          generalize leftN P O (pl n P O k).sent k j j = l0 at *
          rw [show ((arr P O j k - (pl n P O k).sent j : Nat) : Int) = IntKind.i64.wrap ((arr P O j k : Int) - ((pl n P O k).sent j : Int)) by rw [IntWalk.i64_in _ (by omega)]; omega] at HSET
          rw [harr] at HSET hle hla
          generalize P j = p at *
          generalize O j = o at *
          generalize (pl n P O k).sent j = se at *
          generalize (k - o + p - 1) / p = q at *
          clear harr HUP HIA HN HI
          go_wp2_with fail
          clear f0 f1 hp
          generalize wr.alloc (.cells #[.int .i64 p, .int .i64 o] 34) = wa at *
          have hfr := (HFR.out _ (Below.refl _ _)).1
          have hcl := (HFR.out _ (Below.refl _ _)).2.1
          go_region_held3 (fun w' => w'.cell? ⟨wr.heap.size, 0, none⟩ = some (.int .i64 p) ∧ w'.cell? ⟨wr.heap.size, 1, none⟩ = some (.int .i64 o) ∧ w'.cell? ⟨bo, 0, none⟩ = some (.slice (some ⟨R, 0, none⟩) n n) ∧ w'.cell? ⟨R, j * 3, none⟩ = some (.int .i64 se))
            (first | with_reducible exact HS.out | with_reducible exact Four.nw HS.out HZ.out hb1 | with_reducible exact Four.set (Four.nw HS.out HZ.out hb1) HNE.out.1 HNE.out.2 _)
            (first | (go_at_call 21; refine (HC.out _).mono ?_; rintro e w2 ⟨rfl, hb1⟩; obtain ⟨hfr2, hcl2, hzl2⟩ := HFR.out _ hb1))
          have hPI := Lib.hid (HSET.out w2 hb1)
          have hR : w.heap.size ≤ R := by rw [HBL.out]; exact HRZ.out
          have HN3 := Lib.hid ((HN2.out.then_ hb1).setCell (p := ⟨R, j * 3 + 2, none⟩) hR (.int .i64 (IntKind.i64.wrap ((q : Int) - (se : Int)))))
          rename_i hHeld
          clear hHeld
          generalize w2.setCell ⟨R, j * 3 + 2, none⟩ (.int .i64 (IntKind.i64.wrap ((q : Int) - (se : Int)))) = w5 at *
          clear hb1 hfr hcl hfr2 hcl2 hzl2 HS HZ HC HSET HFR HN2 HNE
          go_wp2
          go_roundw
          case rel => exact ⟨j + 1, by omega, by go_num, hPI, HN3⟩
          case measure => simp [intOf]; omega
        · obtain rfl : j = n := by omega
          have q1 := HI.out.c1
          have hz1' := HI.out.z1
          have HSE : Hid (SeenAt wr R j (pl j P O k).sent (pl j P O k).worst (fun i => arr P O i k - (pl j P O k).sent i)) := ⟨fun i hi => by
            obtain ⟨a, b, c⟩ := HI.out.row i hi
            refine ⟨a, b, ?_⟩
            rw [c]
            unfold leftN
            rw [if_pos hi], HI.out.z2⟩
          clear HI
          go_wp2
          exact bodyPost_ret (v := .tuple #[.slice (some ⟨R, 0, none⟩) j j, .int .i64 0]) (by simp [results, Try.results16, go_sem]) rfl ⟨R, rfl, HSE.out, HN.out⟩
end Go.Proofs.Ytlmaanfgamocmaa
