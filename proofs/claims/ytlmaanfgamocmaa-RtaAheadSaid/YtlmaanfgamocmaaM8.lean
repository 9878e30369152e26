/- The walk of RtaAhead. -/
import Derived.Test.YtlmaanfgamocmaaM7
namespace Go.Proofs.Ytlmaanfgamocmaa
open Go.RowKit

abbrev Two2 (b : Nat) (p o : Int) (w : World) : Prop := w.cell? ⟨b, 0, none⟩ = some (.int .i64 p) ∧ w.cell? ⟨b, 1, none⟩ = some (.int .i64 o)
theorem Two2.nw {b : Nat} {p o : Int} {w w' : World} (h : Two2 b p o w) (hz : b < w.heap.size) (hb : Nw w w') : Two2 b p o w' := ⟨(hb.cell (p := ⟨b, 0, none⟩) hz).trans h.1, (hb.cell (p := ⟨b, 1, none⟩) hz).trans h.2⟩

theorem per_more (l : List Tk) (t : Tk) {k : Nat} (hk : k < l.length) : per (l ++ [t]) k = per l k := by
  unfold per
  rw [List.getElem?_append_left hk]
theorem off_more (l : List Tk) (t : Tk) {k : Nat} (hk : k < l.length) : off (l ++ [t]) k = off l k := by
  unfold off
  rw [List.getElem?_append_left hk]
theorem ask_congr {P P' : Nat → Nat} (v : Nat) : ∀ i, (∀ k, k < i → P' k = P k) → ask P' i v = ask P i v
  | 0, _ => rfl
  | i + 1, h => by
    simp only [ask]
    rw [ask_congr v i (fun k hk => h k (by omega)), h i (by omega)]
theorem bnd_congr {P P' : Nat → Nat} {i : Nat} (h : ∀ k, k ≤ i → P' k = P k) : bnd P' i = bnd P i := by
  unfold bnd
  rw [h i (Nat.le_refl _)]
  congr 1
  funext w
  rw [ask_congr w i (fun k hk => h k (by omega))]

set_option maxRecDepth 100000 in
set_option maxHeartbeats 20000000 in
theorem rtaAhead_walk (A : Option Addr) (c : Nat) (l : List Tk) (p o x : Int) (w : World) (hA : TksAt w A l) (hc : l.length ≤ c) (hnil : A = none → l.length = 0 ∧ c = 0) : Calls Try.prog 7 #[.slice A l.length c, .agg #[.int .i64 p, .int .i64 o], .int .i64 x] w (TrueNw w) := by
  obtain ⟨i0, hii, hz0, hz1, hz2⟩ := info_parts info34
  have HA := Lib.hid (fun W (h : Nw w W) => hA.nw h)
  have HSM := Lib.hid (fun W (h : Nw w W) => small_len A c l W (hA.nw h))
  have HSM1 := Lib.hid (fun W => small_any (some ⟨World.heap W |>.size, 0, none⟩) 1 [⟨p, o⟩] (W.alloc (.cells #[.int .i64 p, .int .i64 o] 34)) fun j hj => by
    obtain rfl : j = 0 := by simpa using hj
    exact ⟨_, rfl, by simp [Addr.add], by rw [add_plain, alloc_cell_new rfl]; rfl, by rw [add_plain]; show World.cell? _ ⟨_, 0 * 2 + 1, none⟩ = _; rw [alloc_cell_new rfl]; rfl⟩)
  have HNEWS := Lib.hid (fun W (h : Nw w W) => news_tasks (hA.nw h))
  have HNIL := Lib.hid hnil
  have HRL := Lib.hid (rowT_len l)
  have HONE := Lib.hid (rowT_one l)
  generalize hL : l.length = n at *
  have HL := Lib.hid hL
  clear hA hL hnil
  have hw : decide (x < 0) = true ∨ (decide (x < 0) = false ∧ decide ((2000 : Int) < x) = true) ∨ (decide (x < 0) = false ∧ decide ((2000 : Int) < x) = false ∧ ∃ s : Nat, s ≤ 2000 ∧ x = s) := by
    by_cases h1 : x < 0
    · exact .inl (by simp [h1])
    · by_cases h2 : 2000 < x
      · exact .inr (.inl ⟨by simp [h1], by simp [h2]⟩)
      · exact .inr (.inr ⟨by simp [h1], by simp [h2], x.toNat, by omega, by omega⟩)
  have HW := Lib.hid hw
  have HB0 : Hid (Two2 w.heap.size p o (w.alloc (.cells #[.int .i64 p, .int .i64 o] 34))) := ⟨by rw [alloc_cell_new rfl]; rfl, by rw [alloc_cell_new rfl]; rfl⟩
  have HN0 := Lib.hid (nw_alloc w (.cells #[.int .i64 p, .int .i64 o] 34))
  clear hw
  go_enter Try.func7, Try.ntmps7
  go_wp2_with fail
  refine (HSM.out _ HN0.out).mono ?_
  rintro e w0 ⟨sm, rfl, rfl, hsm⟩
  clear HSM
  cases sm
  · clear HW HA HSM1 HNEWS HNIL HRL HONE HL HB0 hsm
    go_wp2_with fail
    refine (alive_any _).mono ?_
    rintro e w1 ⟨rfl, hb⟩
    have HN := Lib.hid (HN0.out.then_ hb)
    clear hb
    go_wp2
    go_ret
    exact ⟨rfl, HN.out⟩
  · clear hsm
    by_cases h60 : 60 < n
    · have h60' : decide ((60 : Int) < (n : Int)) = true := by simp; omega
      clear HW HA HSM1 HNEWS HNIL HRL HONE HL HB0
      go_wp2_with fail
      refine (alive_any _).mono ?_
      rintro e w1 ⟨rfl, hb⟩
      have HN := Lib.hid (HN0.out.then_ hb)
      clear hb
      go_wp2
      go_ret
      exact ⟨rfl, HN.out⟩
    · have h60' : decide ((60 : Int) < (n : Int)) = false := by simp; omega
      have hb0 := HB0.out
      obtain ⟨b0, b1⟩ := hb0
      have hwl : w.heap.size < (w.alloc (.cells #[.int .i64 p, .int .i64 o] 34)).heap.size := by simp
      generalize w.alloc (.cells #[.int .i64 p, .int .i64 o] 34) = wa at *
      go_wp2_with fail
      refine (HSM1.out wa).mono ?_
      rintro e w1 ⟨sm, rfl, rfl⟩
      have HN1 := Lib.hid (HN0.out.then_ (nw_alloc wa (.cells #[.int .i64 p, .int .i64 o] 34)))
      have HB1 := Lib.hid (HB0.out.nw hwl (nw_alloc wa (.cells #[.int .i64 p, .int .i64 o] 34)))
      have hwl1 : w.heap.size < (wa.alloc (.cells #[.int .i64 p, .int .i64 o] 34)).heap.size := by simp; omega
      clear HSM1 HB0 HN0 b0 b1 hwl
      generalize wa.alloc (.cells #[.int .i64 p, .int .i64 o] 34) = wb at *
      cases sm
      · clear HW HA HNEWS HNIL HRL HONE HL HB1
        go_wp2_with fail
        refine (alive_any _).mono ?_
        rintro e w1 ⟨rfl, hb⟩
        have HN := Lib.hid (HN1.out.then_ hb)
        clear hb
        go_wp2
        go_ret
        exact ⟨rfl, HN.out⟩
      · rcases HW.out with h1 | ⟨h1, h2⟩ | ⟨h1, h2, s, hs, rfl⟩
        case inl =>
          clear HW HA HNEWS HNIL HRL HONE HL HB1
          go_wp2_with fail
          refine (alive_any _).mono ?_
          rintro e w1 ⟨rfl, hb⟩
          have HN := Lib.hid (HN1.out.then_ hb)
          clear hb
          go_wp2
          go_ret
          exact ⟨rfl, HN.out⟩
        case inr.inl =>
          clear HW HA HNEWS HNIL HRL HONE HL HB1
          go_wp2_with fail
          refine (alive_any _).mono ?_
          rintro e w1 ⟨rfl, hb⟩
          have HN := Lib.hid (HN1.out.then_ hb)
          clear hb
          go_wp2
          go_ret
          exact ⟨rfl, HN.out⟩
        case inr.inr =>
          clear HW
          go_upto_region 3 with fail
          go_cut [7] from 40 to 45 (fun s7 wx => Hid (Nw wb wx) ∧ ∃ A' c', s7 = .slice A' (n + 1) c' ∧ n + 1 ≤ c' ∧ Hid (TksAt wx A' (l ++ [⟨p, o⟩])))
          case first =>
            have HB2 : Hid (Two2 w.heap.size p o wb.drew) := HB1.out.nw hwl1 (nw_drew _)
            have hwl2 : w.heap.size < wb.drew.heap.size := hwl1
            have hbs : wb.heap.size ≤ wb.drew.heap.size := Nat.le_refl _
            go_region_held3 (fun w' => w'.cell? ⟨w.heap.size, 0, none⟩ = some (.int .i64 p) ∧ w'.cell? ⟨w.heap.size, 1, none⟩ = some (.int .i64 o))
              (first | with_reducible exact HB2.out | with_reducible exact Two2.nw HB1.out hwl1 hb2 | with_reducible exact Two2.nw HB1.out hwl1 hb1 | with_reducible exact Two2.nw HB1.out hwl1 (nw_alloc2 hb1 _) | with_reducible exact Two2.nw HB1.out hwl1 (nw_drew2 (nw_alloc _ _)) | with_reducible exact Two2.nw HB1.out hwl1 (nw_drew2 (nw_alloc2 (nw_alloc _ _) _)))
              (first
                | (refine step_append (by rfl) _ _ _ (by rfl) wb.heap.size 34 i0 (.agg #[.int .i64 0, .int .i64 0]) 2 16 Try.underlying22 hii hz0 hz1 hz2 (by rfl) (by omega) _ 0 [] (by rfl) (drew_own (own_empty rfl (Nat.le_refl _))) A n c (rowT l) (by rfl) HNIL.out HRL.out (HNEWS.out _ (nw_drew2 (nw_alloc2 HN1.out _))) HONE.out (by unfold maxLen; omega) (by omega) (by first | omega | (simp [World.drew]; done) | (simp [World.drew]; omega)) ?_; intro v1 w1 hown1 hg1 hb1'; rw [Nat.zero_add, List.nil_append] at hown1; have hb1 : Nw wb w1 := Below.trans (nw_drew2 (nw_alloc wb (.cells #[] 34))) hb1'; skip)
                | (refine step_append (by rfl) _ _ _ (by rfl) wb.heap.size 34 i0 (.agg #[.int .i64 0, .int .i64 0]) 2 16 Try.underlying22 hii hz0 hz1 hz2 (by rfl) (by omega) _ 0 [] (by rfl) (drew_own (World.ownsRow.alloc (own_empty rfl (Nat.le_refl _)) _)) A n c (rowT l) (by rfl) HNIL.out HRL.out (HNEWS.out _ (nw_drew2 (nw_alloc2 (nw_alloc2 HN1.out _) _))) HONE.out (by unfold maxLen; omega) (by omega) (by first | omega | (simp [World.drew]; done) | (simp [World.drew]; omega)) ?_; intro v1 w1 hown1 hg1 hb1'; rw [Nat.zero_add, List.nil_append] at hown1; have hb1 : Nw wb w1 := Below.trans (nw_drew2 (nw_alloc2 (nw_alloc wb (.cells #[] 34)) (.cells #[.int .i64 p, .int .i64 o] 34))) hb1'; have hT : ∀ j u, ([.int .i64 p, .int .i64 o] : List Value)[j]? = some u → w1.cell? ((⟨wb.heap.size + 1, 0, none⟩ : Addr).add j) = some u := news_far (drew_news (news_new (by simp) _ _ _)) hg1 (by simp [World.drew]) (by omega))
                | (refine step_append (by rfl) _ _ _ (by rfl) wb.heap.size 34 i0 (.agg #[.int .i64 0, .int .i64 0]) 2 16 Try.underlying22 hii hz0 hz1 hz2 (by rfl) (by omega) _ 0 [] (by rfl) (drew_own (own_empty (H := wb.heap.size + 1) (by simp) (by omega))) A n c (rowT l) (by rfl) HNIL.out HRL.out (HNEWS.out _ (nw_drew2 (nw_alloc2 (nw_alloc2 HN1.out _) _))) HONE.out (by unfold maxLen; omega) (by omega) (by first | omega | (simp [World.drew]; done) | (simp [World.drew]; omega)) ?_; intro v1 w1 hown1 hg1 hb1'; rw [Nat.zero_add, List.nil_append] at hown1; have hb1 : Nw wb w1 := Below.trans (nw_drew2 (nw_alloc2 (nw_alloc wb (.cells #[.int .i64 p, .int .i64 o] 34)) (.cells #[] 34))) hb1'; have hT : ∀ j u, ([.int .i64 p, .int .i64 o] : List Value)[j]? = some u → w1.cell? ((⟨wb.heap.size, 0, none⟩ : Addr).add j) = some u := news_far (drew_news (news_nw (news_new rfl _ _ _) (by simp) (nw_alloc _ _))) hg1 (by simp [World.drew]; omega) (by omega))
                | (refine step_append (by rfl) _ _ _ (by rfl) wb.heap.size 34 i0 (.agg #[.int .i64 0, .int .i64 0]) 2 16 Try.underlying22 hii hz0 hz1 hz2 (by rfl) (by omega) v1 n (rowT l) (by rfl) (World.ownsRow.alloc hown1 _) (some ⟨w1.heap.size, 0, none⟩) 1 1 [.int .i64 p, .int .i64 o] (by rfl) (fun e => by cases e) (by rfl) (news_some (news_new rfl _ _ _)) (row2_one _ _) (by unfold maxLen; omega) (by omega) (by have := hb1.size; first | omega | (simp; omega) | (simp at this ⊢; omega)) ?_; intro v2 w2 hown2 hg2 hb2'; have hb2 : Nw wb w2 := Below.trans (by first | exact hb1 | exact nw_alloc2 hb1 _) hb2')
                | (refine step_append (by rfl) _ _ _ (by rfl) wb.heap.size 34 i0 (.agg #[.int .i64 0, .int .i64 0]) 2 16 Try.underlying22 hii hz0 hz1 hz2 (by rfl) (by omega) v1 n (rowT l) (by rfl) (hown1) (some ⟨wb.heap.size + 1, 0, none⟩) 1 1 [.int .i64 p, .int .i64 o] (by rfl) (fun e => by cases e) (by rfl) (news_some (hT)) (row2_one _ _) (by unfold maxLen; omega) (by omega) (by have := hb1.size; first | omega | (simp; omega) | (simp at this ⊢; omega)) ?_; intro v2 w2 hown2 hg2 hb2'; have hb2 : Nw wb w2 := Below.trans (by first | exact hb1 | exact nw_alloc2 hb1 _) hb2')
                | (refine step_append (by rfl) _ _ _ (by rfl) wb.heap.size 34 i0 (.agg #[.int .i64 0, .int .i64 0]) 2 16 Try.underlying22 hii hz0 hz1 hz2 (by rfl) (by omega) v1 n (rowT l) (by rfl) (hown1) (some ⟨wb.heap.size, 0, none⟩) 1 1 [.int .i64 p, .int .i64 o] (by rfl) (fun e => by cases e) (by rfl) (news_some (hT)) (row2_one _ _) (by unfold maxLen; omega) (by omega) (by have := hb1.size; first | omega | (simp; omega) | (simp at this ⊢; omega)) ?_; intro v2 w2 hown2 hg2 hb2'; have hb2 : Nw wb w2 := Below.trans (by first | exact hb1 | exact nw_alloc2 hb1 _) hb2'))
            all_goals
              obtain ⟨A', c', e, ht, hcc⟩ := tks_of_own (l := l ++ [⟨p, o⟩]) (v := v2) (w := w2) (base := wb.heap.size) (by
                rw [List.length_append, HL.out, rowT_append]
                exact hown2)
              rw [List.length_append, HL.out, List.length_singleton] at e hcc
              have HT := Lib.hid ht
              have HN2 := Lib.hid hb2
              subst e
              clear hown2 ht hg2 hb2' hb2
              go_wp2_with fail
              go_meet
              case rel => exact ⟨HN2, A', c', rfl, hcc, HT⟩
          case rest =>
            obtain ⟨HNX, A', c', rfl, hcc, HTM⟩ := hcut
            have HAX := Lib.hid (HA.out _ (HN1.out.then_ HNX.out))
            have HN2 := Lib.hid (HN1.out.then_ HNX.out)
            have hcn : l.length ≤ c := by rw [HL.out]; exact hc
            have hml : (l ++ [⟨p, o⟩] : List Tk).length = n + 1 := by rw [List.length_append, HL.out]; rfl
            have HPB := Lib.hid (fun (h : tRight l ≠ 0) W (hw : Nw wc W) => play_wrong A c l s W (HAX.out.nw hw) h)
            have HPG := Lib.hid (fun (h : tRight l = 0) W (hw : Nw wc W) => play_tasks A c l s W (HAX.out.nw hw) h (by omega))
            have HQB := Lib.hid (fun (h : tRight (l ++ [⟨p, o⟩]) ≠ 0) W (hw : Nw wc W) => play_wrong A' c' (l ++ [⟨p, o⟩]) s W (HTM.out.nw hw) h)
            have HQG := Lib.hid (fun (h : tRight (l ++ [⟨p, o⟩]) = 0) W (hw : Nw wc W) => play_tasks A' c' (l ++ [⟨p, o⟩]) s W (HTM.out.nw hw) h (by omega))
            have HBL := Lib.hid (fun (k : Nat) W (hw : Nw wc W) => bound_any A c l k W (HAX.out.nw hw) hcn)
            have HBM := Lib.hid (fun (k : Nat) W (hw : Nw wc W) => bound_any A' c' (l ++ [⟨p, o⟩]) k W (HTM.out.nw hw) (by rw [hml]; exact hcc))
            have HBO := Lib.hid (fun (h : tRight l = 0) (h2 : tRight (l ++ [⟨p, o⟩]) = 0) (k : Nat) (hk : k < n) => (show boundO (l ++ [⟨p, o⟩]) k = boundO l k by
              rw [boundO_in h (by rw [HL.out]; exact hk), boundO_in h2 (by rw [hml]; omega)]
              exact bnd_congr (fun j hj => per_more l _ (by rw [HL.out]; omega))))
            have HMO := Lib.hid (fun (k : Nat) (hk : k < n) => pl_more (n := n) (P := per l) (O := off l) (P' := per (l ++ [⟨p, o⟩])) (O' := off (l ++ [⟨p, o⟩])) (fun k hk => ⟨per_more l _ (by rw [HL.out]; exact hk), off_more l _ (by rw [HL.out]; exact hk)⟩) s k hk)
            have HAR := Lib.hid (fun (k : Nat) (hk : k < n) => (show arr (per (l ++ [⟨p, o⟩])) (off (l ++ [⟨p, o⟩])) k s = arr (per l) (off l) k s by
              unfold arr
              rw [per_more l _ (by rw [HL.out]; exact hk), off_more l _ (by rw [HL.out]; exact hk)]))
            rw [HL.out] at HPB HPG HBL
            rw [hml] at HQB HQG HBM
            have HREF : Hid (Nw wc wc) := Below.refl _ _
            clear HNEWS HNIL HRL HONE HB1 hwl1 HTM HAX HNX hcn hml HN1 HA HL
            by_cases hr : tRight l = 0
            · have HP := Lib.hid (HPG.out hr _ HREF.out)
              clear HPB HPG
              go_wp2_with fail
              refine HP.out.mono ?_
              rintro e w2 ⟨R1, rfl, hse1, hb⟩
              have HM2 := Lib.hid (HREF.out.then_ hb)
              have HS1 := Lib.hid hse1
              clear hse1 hb HP HREF
              by_cases hr2 : tRight (l ++ [⟨p, o⟩]) = 0
              · have HP := Lib.hid (HQG.out hr2 _ HM2.out)
                have HBO2 := Lib.hid (HBO.out hr hr2)
                clear HQB HQG HBO
                go_wp2_with fail
                refine HP.out.mono ?_
                rintro e w3 ⟨R2, rfl, hse2, hb⟩
                have HM3 := Lib.hid (HM2.out.then_ hb)
                have HS2 := Lib.hid hse2
                have HS1' := Lib.hid (HS1.out.nw hb)
                have hnn : (((n + 1 : Nat) : Int) != ((n : Int) + 1)) = false := by simp
                clear hse2 hb HP HM2 HS1
                go_wp2
                go_loopw [73] (fun i wr => ∃ k : Nat, k ≤ n ∧ i = .int .i64 k ∧ Hid (Nw wc wr) ∧ Hid (Nw w3 wr)) (fun i _ => n - (intOf i).toNat)
                case atStart => exact ⟨0, Nat.zero_le _, rfl, HM3, Lib.hid (Below.refl _ _)⟩
                case round =>
                  obtain ⟨k, hk, rfl, HN, HM⟩ := hrel
                  clear HM3
                  by_cases hlt : k < n
                  · have HB1 := Lib.hid (fun W (h : Nw wc W) => HBL.out k W h)
                    have HB2 := Lib.hid (fun W (h : Nw wc W) => HBM.out k W h)
                    rw [HBO2.out k hlt] at HB2
                    have HMK := Lib.hid (HMO.out k hlt)
                    have HAK := Lib.hid (HAR.out k hlt)
                    generalize boundO l (k : Nat) = b at *
                    unfold BndNw bndV at HB1 HB2
                    generalize b.getD 0 = bv at *
                    generalize b.isSome = bs at *
                    go_wp2_with fail
                    refine (HB1.out _ HN.out).mono ?_
                    rintro e w4 ⟨rfl, hb⟩
                    have HN4 := Lib.hid (HN.out.then_ hb)
                    have HM4 := Lib.hid (HM.out.then_ hb)
                    clear hb HN HM HB1
                    go_wp2_with fail
                    refine (HB2.out _ HN4.out).mono ?_
                    rintro e w5 ⟨rfl, hb⟩
                    have HN5 := Lib.hid (HN4.out.then_ hb)
                    have HM5 := Lib.hid (HM4.out.then_ hb)
                    clear hb HN4 HM4 HB2
                    obtain ⟨r0, r1, r2⟩ := (HS1'.out.nw HM5.out).row k hlt
                    obtain ⟨q0, q1, q2⟩ := (HS2.out.nw HM5.out).row k (by omega)
                    rw [HMK.out.1] at q0
                    rw [HMK.out.2] at q1
                    have e2 : lefts (n + 1) (per (l ++ [⟨p, o⟩])) (off (l ++ [⟨p, o⟩])) s k = lefts n (per l) (off l) s k := by
                      unfold lefts
                      rw [HAK.out, HMK.out.1]
                    rw [e2] at q2
                    have hz1' := (HS1'.out.nw HM5.out).z
                    have hz2' := (HS2.out.nw HM5.out).z
                    generalize (pl n (per l) (off l) s).sent k = a at *
                    generalize (pl n (per l) (off l) s).worst k = bb at *
                    generalize lefts n (per l) (off l) s k = cc at *
                    have hnk : ¬ n ≤ k := by omega
                    have hnk1 : ¬ n + 1 ≤ k := by omega
                    have d6 : (k : Int) < (n : Int) := by omega
                    have d8 : (k : Int) < ((n + 1 : Nat) : Int) := by omega
                    have d9 : (k : Int) < (n : Int) + 1 := by omega
                    have d7 : (0 : Int) ≤ (k : Int) := by omega
                    have hvv : ((bv : Int) != (bv : Int)) = false := by simp
                    have hss : (bs != bs) = false := by simp
                    clear HMK HAK e2
                    go_wp2_with fail
                    go_quiet (fail)
                    have HN6 := Lib.hid (nw_drewN HN5.out nq)
                    have HM6 := Lib.hid (nw_drewN HM5.out nq)
                    clear r0 r1 r2 q0 q1 q2 HN5 HM5 hz1' hz2'
                    generalize w5.drewN nq = w6 at *
                    go_wp2
                    go_roundw
                    case rel => exact ⟨k + 1, by omega, by go_num, HN6, HM6⟩
                    case measure => simp [intOf]; omega
                  · go_wp2_with fail
                    refine (alive_any _).mono ?_
                    rintro e w4 ⟨rfl, hb⟩
                    have HN4 := Lib.hid (HN2.out.then_ (HN.out.then_ hb))
                    clear hb
                    go_wp2
                    go_ret
                    exact ⟨rfl, HN4.out⟩
              · have HP := Lib.hid (HQB.out hr2 _ HM2.out)
                have hr3 : (tRight (l ++ [⟨p, o⟩]) != 0) = true := by simp [hr2]
                generalize tRight (l ++ [⟨p, o⟩]) = r2 at *
                clear HQB HQG HBO hr2
                go_wp2_with fail
                refine HP.out.mono ?_
                rintro e w3 ⟨rfl, hb⟩
                have HM3 := Lib.hid (HM2.out.then_ hb)
                clear hb HP HM2
                go_wp2_with fail
                refine (alive_any _).mono ?_
                rintro e w4 ⟨rfl, hb⟩
                have HN4 := Lib.hid (HN2.out.then_ (HM3.out.then_ hb))
                clear hb
                go_wp2
                go_ret
                exact ⟨rfl, HN4.out⟩
            · have HP := Lib.hid (HPB.out hr _ HREF.out)
              have HQ : Hid (∀ W, Nw wc W → Calls Try.prog 16 #[.slice A' (n + 1) c', .int .i64 s] W fun e w' => ∃ v r, e = .returned (.tuple #[v, .int .i64 r]) ∧ Nw W w') := fun W h => by
                by_cases h2 : tRight (l ++ [⟨p, o⟩]) = 0
                · refine (HQG.out h2 W h).mono ?_
                  rintro e w' ⟨R, rfl, -, hb⟩
                  exact ⟨_, _, rfl, hb⟩
                · refine (HQB.out h2 W h).mono ?_
                  rintro e w' ⟨rfl, hb⟩
                  exact ⟨_, _, rfl, hb⟩
              have hr3 : (tRight l != 0) = true := by simp [hr]
              generalize tRight l = r2 at *
              clear HQB HQG HBO HPB HPG hr
              go_wp2_with fail
              refine HP.out.mono ?_
              rintro e w2 ⟨rfl, hb⟩
              have HM2 := Lib.hid (HREF.out.then_ hb)
              clear hb HP HREF
              go_wp2_with fail
              refine (HQ.out _ HM2.out).mono ?_
              rintro e w3 ⟨v3, r3, rfl, hb⟩
              have HM3 := Lib.hid (HM2.out.then_ hb)
              clear hb HQ HM2
              go_wp2_with fail
              refine (alive_any _).mono ?_
              rintro e w4 ⟨rfl, hb⟩
              have HN4 := Lib.hid (HN2.out.then_ (HM3.out.then_ hb))
              clear hb
              go_wp2
              go_ret
              exact ⟨rfl, HN4.out⟩
end Go.Proofs.Ytlmaanfgamocmaa
