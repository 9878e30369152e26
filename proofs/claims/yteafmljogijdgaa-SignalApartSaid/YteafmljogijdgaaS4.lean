/- Contracts: the document's side: Bit, Bits, Get. -/
import Derived.Test.YteafmljogijdgaaS3
import Derived.Deep.AppendLies
namespace Go.Proofs.Yteafmljogijdgaa
open Go.RowKit

theorem testBit_num (n k : Nat) : ((((n / 2 ^ k : Nat) : Int) % 2) == 1) = n.testBit k := by
  rw [Nat.testBit_eq_decide_div_mod_eq]
  have h2 := Nat.mod_two_eq_zero_or_one (n / 2 ^ k)
  have : (((n / 2 ^ k : Nat) : Int) % 2) = ((n / 2 ^ k % 2 : Nat) : Int) := by push_cast; rfl
  rw [this]
  rcases h2 with h | h <;> rw [h] <;> rfl

set_option maxHeartbeats 800000 in
theorem obit_any (s : ByteArray) (k : Nat) (x y : Int) (hx : x = (k : Int) / 8) (hy : y = (k : Int) % 8) (w : World) :
    Calls Try.prog 16 #[.string s, .int .i64 x, .int .i64 y] w fun e w' => e = .returned (.bool (bitB s k)) ∧ w = w' := by
  have hx' : x = ((k / 8 : Nat) : Int) := by omega
  have hy' : y = ((k % 8 : Nat) : Int) := by omega
  clear hx hy
  have h7 : k % 8 < 8 := Nat.mod_lt _ (by decide)
  have hbit : bitB s k = if h : k / 8 < s.size then (s[k / 8]'h).toNat.testBit (k % 8) else false := rfl
  generalize k / 8 = a at hx' hbit
  generalize k % 8 = b at hy' hbit h7
  have HB := Lib.hid hbit
  clear hbit
  subst hx'
  subst hy'
  by_cases ha : a < s.size
  · have h1 := (s[a]'ha).toNat_lt
    have hm : ∃ m : Nat, (s[a]'ha).toNat = m := ⟨_, rfl⟩
    obtain ⟨m, hm⟩ := hm
    have hbb : bitB s k = m.testBit b := by rw [HB.out, dif_pos ha, hm]
    have HBB := Lib.hid hbb
    clear hbb HB
    have hmm : m < 256 := by rw [← hm]; exact h1
    have hd1 : decide ((a : Int) < 0) = false := by rw [decide_eq_false_iff_not]; omega
    have hd2 : decide (s.size ≤ a) = false := by rw [decide_eq_false_iff_not]; omega
    clear h1
    go_enter Try.func16, Try.ntmps16
    go_wp2
    go_loop [7, 8] (fun n i => ∃ k : Nat, k ≤ b ∧ i = .int .i64 k ∧ n = .int .i64 ((m / 2 ^ k : Nat) : Int)) (fun _ i => b - (intOf i).toNat)
    case atStart => exact ⟨0, Nat.zero_le _, rfl, by simp⟩
    case round =>
      obtain ⟨k, hk, rfl, rfl⟩ := hrel
      have hle : m / 2 ^ k ≤ m := Nat.div_le_self _ _
      have hsucc : m / 2 ^ (k + 1) = m / 2 ^ k / 2 := by rw [Nat.pow_succ, Nat.div_div_eq_div_mul]
      have htb := testBit_num m k
      generalize m / 2 ^ k = q at *
      have HS := Lib.hid hsucc
      have HT := Lib.hid htb
      clear hsucc htb
      by_cases hlt : k < b
      · go_wp2
        go_round
        case rel => exact ⟨k + 1, by omega, by go_num, by rw [HS.out]; go_num⟩
        case measure => simp [intOf]; omega
      · have e : k = b := by omega
        subst e
        go_wp2
        go_ret
        exact ⟨ret_bool (by rw [HBB.out, ← HT.out]), rfl⟩
  · go_enter Try.func16, Try.ntmps16
    go_wp2
    go_ret
    exact ⟨ret_bool (by rw [HB.out, dif_neg ha]), rfl⟩

theorem info3 : (Try.prog.info? 3).map (fun i => (i.zero, i.size, i.bytes)) = some (some (.int .i64 0), 1, 8) := by kernel_rfl

theorem Nw.at_ {w w1 : World} {o : Obj} (h : Nw (w.alloc o) w1) : Below (w.heap.size + 1) (w.alloc o) w1 := by
  have h' : Below (w.alloc o).heap.size (w.alloc o) w1 := h
  rwa [World.size_alloc] at h'

/-- The numbers of the first k bits. -/
def posL (st ln : Nat) (big : Bool) (k : Nat) : List Value := (List.range k).map fun i => .int .i64 (posN st ln big i : Nat)
theorem posL_succ (st ln : Nat) (big : Bool) (k : Nat) : posL st ln big (k + 1) = posL st ln big k ++ [.int .i64 (posN st ln big k : Nat)] := by
  simp [posL, List.range_succ]

/-- What a round of Bits keeps: the field's box, and what was gathered. -/
structure BInv (w : World) (st ln : Nat) (big sg : Bool) (v : Value) (k : Nat) (wr : World) : Prop where
  own : wr.ownsRow (w.heap.size + 1) 3 1 v k (posL st ln big k)
  below : Below (w.heap.size + 1) (w.alloc (fcells st ln big sg)) wr
theorem BInv.box {w : World} {st ln : Nat} {big sg : Bool} {v : Value} {k : Nat} {wr : World} (h : BInv w st ln big sg v k wr) :
    wr.cell? ⟨w.heap.size, 0, none⟩ = some (.int .i64 st) ∧ wr.cell? ⟨w.heap.size, 1, none⟩ = some (.int .i64 ln) ∧ wr.cell? ⟨w.heap.size, 2, none⟩ = some (.bool big) ∧ w.heap.size < wr.heap.size := by
  have hz := h.below.size
  simp at hz
  refine ⟨?_, ?_, ?_, by omega⟩ <;> rw [h.below.cell (by simp), alloc_cell_new rfl] <;> rfl

theorem one_news {w : World} (v : Value) (t : TypeId) : ∀ j u, [v][j]? = some u → (w.alloc (.cells #[v] t)).cell? ((⟨w.heap.size, 0, none⟩ : Addr).add j) = some u := by
  intro j u hj
  match j, hj with
  | 0, hj =>
    simp at hj
    subst hj
    rw [show (⟨w.heap.size, 0, none⟩ : Addr).add 0 = ⟨w.heap.size, 0, none⟩ from rfl, alloc_cell_new rfl]
    rfl

theorem BInv.put {w : World} {st ln : Nat} {big sg : Bool} {v v' : Value} {k : Nat} {wr w1 : World} {o : Obj} (h : BInv w st ln big sg v k wr)
    (hown : w1.ownsRow (w.heap.size + 1) 3 1 v' (k + 1) (posL st ln big k ++ [.int .i64 (posN st ln big k : Nat)])) (hg : (wr.alloc o).grownBy w1 v.ownBlock) : BInv w st ln big sg v' (k + 1) w1 := by
  have hz := h.below.size
  simp at hz
  refine ⟨by rw [posL_succ]; exact hown, (h.below.alloc hz o).grown hg (by simp; omega) fun j hj => (h.own.lt j hj).1⟩

/-- What a round of the inner loop keeps: the bit is put in its round. -/
def BIn (w : World) (st ln : Nat) (sg : Bool) (v : Value) (k q b : Nat) (wr : World) : Prop :=
  if b ≤ 7 - q % 8 then BInv w st ln true sg v k wr else BInv w st ln true sg v (k + 1) wr

set_option maxHeartbeats 3000000 in
theorem rbits_yes (st ln : Nat) (big sg : Bool) (hl1 : 1 ≤ ln) (hl2 : ln ≤ 60) (hs : st + ln ≤ 512) (w : World) :
    Calls Try.prog 15 #[fld st ln big sg] w fun e w' => ∃ v, e = .returned v ∧ w'.ownsRow (w.heap.size + 1) 3 1 v ln (posL st ln big ln) ∧ Nw w w' := by
  have hr : rightB st ln 64 = true := by simp only [rightB, decide_eq_true_eq]; omega
  have HR := Lib.hid hr
  clear hr
  obtain ⟨i0, hi, hz0, hz1, hz2⟩ := info_parts info3
  go_enter Try.func15, Try.ntmps15
  go_wp2_with fail
  refine (rright_any _ _ _ _ _ _).mono ?_
  rintro e w1 ⟨rfl, hb⟩
  rw [HR.out]
  have hI : BInv w st ln big sg (.slice none 0 0) 0 w1 := ⟨World.ownsRow_nil _ _ _ _, hb.at_⟩
  have HI := Lib.hid hI
  clear hI hb
  go_wp2
  go_loopw [3, 4] (fun v i wr => ∃ k : Nat, k ≤ ln ∧ i = .int .i64 k ∧ Hid (BInv w st ln big sg v k wr)) (fun _ i _ => ln - (intOf i).toNat)
  case atStart => exact ⟨0, Nat.zero_le _, rfl, HI⟩
  case round =>
    obtain ⟨k, hk, rfl, HK⟩ := hrel
    obtain ⟨b0, b1, b2, hbz⟩ := HK.out.box
    by_cases hlt : k < ln
    · cases big
      · have hown := HK.out.own
        go_wp2_with (at_builtin; refine wpList_append_own _ rfl _ _ 32 rfl (w.heap.size + 1) 3 i0 (.int .i64 0) 1 8 Try.underlying32 hi hz0 hz1 hz2 rfl (by decide) _ _ _ rfl (hown.alloc _) ⟨wr.heap.size, 0, none⟩ 1 1 [.int .i64 ((st : Int) + (k : Int))] rfl rfl ?c1 ?c2 ?c3 ?c4 ?c5 ?_)
        case c1 => exact one_news _ _
        case c2 => intro u hu; simp at hu; subst hu; rfl
        case c3 => unfold maxLen; omega
        case c4 => omega
        case c5 => simp; omega
        intro v' w2 hown' hg _
        have HP := Lib.hid (HK.out.put (by rw [show ((posN st ln false k : Nat) : Int) = (st : Int) + (k : Int) from by simp [posN]]; exact hown') hg)
        clear hown' hg hown HK b0 b1 b2
        go_wp2
        go_roundw
        case rel => exact ⟨k + 1, by omega, by go_num, HP⟩
        case measure => simp [intOf]; omega
      · have hpos : posN st ln true k = (st + ln - 1 - k) / 8 * 8 + 7 - (st + ln - 1 - k) % 8 := rfl
        have hq1 : (st : Int) + (ln : Int) - 1 - (k : Int) = ((st + ln - 1 - k : Nat) : Int) := by omega
        have hq2 : st + ln - 1 - k < 512 := by omega
        generalize st + ln - 1 - k = q at hq1 hq2 hpos
        have HPOS := Lib.hid hpos
        clear hpos
        go_wp2_with fail
        have HQ1 := Lib.hid hq1
        clear hq1 b0 b1 b2
        obtain ⟨wo, rfl⟩ : ∃ wo : World, wo = wr := ⟨_, rfl⟩
        go_loopw [3, 6] (fun v b wi => ∃ j : Nat, j ≤ 8 ∧ b = .int .i64 j ∧ Hid (BIn w st ln sg v k q j wi)) (fun _ b _ => 8 - (intOf b).toNat)
        case atStart => exact ⟨0, by omega, rfl, by unfold Hid BIn; rw [if_pos (by omega)]; exact HK.out⟩
        case round =>
          obtain ⟨j, hj, rfl, HJ⟩ := hrel
          by_cases hlt8 : j < 8
          · by_cases hje : j = 7 - q % 8
            · have ht : ((q : Int) / 8 * 8 + 7 - (j : Int) == (q : Int)) = true := by rw [beq_iff_eq]; omega
              have HJ0 : Hid (BInv w st ln true sg u3 k wr) := by
                have := HJ.out
                unfold BIn at this
                rw [if_pos (by omega)] at this
                exact this
              have hpp : ((posN st ln true k : Nat) : Int) = (q : Int) / 8 * 8 + (j : Int) := by rw [HPOS.out]; omega
              have HPP := Lib.hid hpp
              have HJE := Lib.hid hje
              have hwz := HJ0.out.below.size
              simp at hwz
              clear hpp hje HJ
              have hown := HJ0.out.own
              go_wp2_with (at_builtin; refine wpList_append_own _ rfl _ _ 32 rfl (w.heap.size + 1) 3 i0 (.int .i64 0) 1 8 Try.underlying32 hi hz0 hz1 hz2 rfl (by decide) _ _ _ rfl (hown.alloc _) ⟨wr.heap.size, 0, none⟩ 1 1 [.int .i64 ((q : Int) / 8 * 8 + (j : Int))] rfl rfl ?d1 ?d2 ?d3 ?d4 ?d5 ?_)
              case d1 => exact one_news _ _
              case d2 => intro u hu; simp at hu; subst hu; rfl
              case d3 => unfold maxLen; omega
              case d4 => omega
              case d5 => simp; omega
              intro v' w2 hown' hg _
              have HP : Hid (BIn w st ln sg v' k q (j + 1) w2) := by
                unfold Hid BIn
                have := HJE.out
                rw [if_neg (by omega)]
                exact HJ0.out.put (by rw [HPP.out]; exact hown') hg
              clear hown' hg hown HJ0 hwz ht
              go_wp2
              go_roundw
              case rel => exact ⟨j + 1, by omega, by go_num, HP⟩
              case measure => simp [intOf]; omega
            · have ht : ((q : Int) / 8 * 8 + 7 - (j : Int) == (q : Int)) = false := by rw [beq_eq_false_iff_ne]; omega
              have HP : Hid (BIn w st ln sg u3 k q (j + 1) wr) := by
                have := HJ.out
                unfold BIn at this
                unfold Hid BIn
                by_cases hl : j ≤ 7 - q % 8
                · rw [if_pos hl] at this
                  rw [if_pos (by omega)]
                  exact this
                · rw [if_neg hl] at this
                  rw [if_neg (by omega)]
                  exact this
              clear hje HJ
              go_wp2
              go_roundw
              case rel => exact ⟨j + 1, by omega, by go_num, HP⟩
              case measure => simp [intOf]; omega
          · have HP : Hid (BInv w st ln true sg u3 (k + 1) wr) := by
              have := HJ.out
              unfold BIn at this
              rw [if_neg (by omega)] at this
              exact this
            clear HJ
            go_wp2
            go_roundw
            case rel => exact ⟨k + 1, by omega, by go_num, HP⟩
            case measure => simp [intOf]; omega
    · go_wp2
      go_ret
      have e : k = ln := by omega
      subst e
      exact ⟨_, rfl, HK.out.own, ((Below.refl _ w).alloc (Nat.le_refl _) _).trans (HK.out.below.mono (by omega))⟩
end Go.Proofs.Yteafmljogijdgaa
