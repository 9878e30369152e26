/- Contracts of asked, Bound, the document's Bound. -/
import Derived.Test.YtlmaanfgamocmaaR3
import Derived.ScopeJumps
import Derived.WalkMore
namespace Go.Proofs.Ytlmaanfgamocmaa
open Go.RowKit

theorem ceil_int {v p : Nat} (hp : 1 ≤ p) : ((v : Int) + (p : Int) - 1) / (p : Int) = (((v + p - 1) / p : Nat) : Int) := by
  rw [Int.natCast_ediv, show (((v + p - 1 : Nat)) : Int) = (v : Int) + p - 1 by omega]
theorem ceil_le {v p : Nat} (hp : 1 ≤ p) : (v + p - 1) / p ≤ v := by
  rw [Nat.div_le_iff_le_mul_add_pred (by omega)]
  have : v ≤ p * v := Nat.le_mul_of_pos_left v (by omega)
  omega

/-- Tasks that may be, in memory: their periods and offsets. -/
structure TN (w : World) (A : Option Addr) (n : Nat) (P O : Nat → Nat) : Prop where
  at_ : ∀ k, k < n → ∃ ad, A = some ad ∧ (ad.add (k * 2)).block < w.heap.size ∧ w.cell? (ad.add (k * 2)) = some (.int .i64 (P k : Nat)) ∧ w.cell? ⟨(ad.add (k * 2)).block, (ad.add (k * 2)).off + 1, none⟩ = some (.int .i64 (O k : Nat))
  len : n ≤ 64
  ok : ∀ k, 1 ≤ P k ∧ P k ≤ 100000 ∧ O k ≤ 100000
theorem TN.nw {w w1 : World} {A : Option Addr} {n : Nat} {P O : Nat → Nat} (h : TN w A n P O) (hb : Nw w w1) : TN w1 A n P O := ⟨fun j hj => by
  obtain ⟨ad, e, hp, h0, h1⟩ := h.at_ j hj
  exact ⟨ad, e, Nat.lt_of_lt_of_le hp hb.size, (hb.cell hp).trans h0, (hb.cell (p := ⟨(ad.add (j * 2)).block, (ad.add (j * 2)).off + 1, none⟩) hp).trans h1⟩, h.len, h.ok⟩
theorem tn_of {w : World} {A : Option Addr} {l : List Tk} (h : TksAt w A l) (hr : tRight l = 0) : TN w A l.length (per l) (off l) := ⟨fun k hk => by
  obtain ⟨ad, e, hp, h0, h1⟩ := h k hk
  obtain ⟨e1, e2, -⟩ := right_at hr hk
  exact ⟨ad, e, hp, by rw [h0, e1], by rw [h1, e2]⟩, (tRight_zero hr).1, fun k => by
  by_cases hk : k < l.length
  · exact (right_at hr hk).2.2
  · unfold per off
    rw [List.getElem?_eq_none (by omega)]
    exact ⟨Nat.le_refl _, by decide, by decide⟩⟩

set_option maxHeartbeats 3000000 in
theorem asked_any (A : Option Addr) (c n : Nat) (P O : Nat → Nat) (i v : Nat) (w : World) (hT : TN w A n P O) (hc : n ≤ c) (hi : i ≤ n) (hv : v ≤ 100000) :
    Calls Try.prog 19 #[.slice A n c, .int .i64 i, .int .i64 v] w (IntNw (ask P i v : Nat) w) := by
  have HP := Lib.hid (ask_le P (fun k => (hT.ok k).1))
  have hlen := hT.len
  have HT := Lib.hid hT
  have HASK : Hid (∀ k, ask P (k + 1) v = ask P k v + (v + P k - 1) / P k) := fun k => rfl
  have h1 : (i : Int) ≤ (c : Int) := by omega
  have h2 : i ≤ c := by omega
  have h3 : ¬ c < i := by omega
  clear hT
  go_enter Try.func19, Try.ntmps19
  go_wp2
  go_loopw [7, 14] (fun a j wr => ∃ k : Nat, k ≤ i ∧ j = .int .i64 k ∧ a = .int .i64 (ask P k v : Nat) ∧ Hid (Nw w wr)) (fun _ j _ => i - (intOf j).toNat)
  case atStart => exact ⟨0, Nat.zero_le _, rfl, rfl, Lib.hid (Below.refl _ _)⟩
  case round =>
    obtain ⟨k, hk, rfl, rfl, HK⟩ := hrel
    by_cases hlt : k < i
    · obtain ⟨ad, rfl, hp, f0, f1⟩ := (HT.out.nw HK.out).at_ k (by omega)
      obtain ⟨e3, e4, e5⟩ := HT.out.ok k
      have hq := ceil_int (v := v) e3
      have hql := ceil_le (v := v) e3
      have hs := HASK.out k
      have hb := HP.out k v
      have hb2 : k * v ≤ 64 * 100000 := Nat.mul_le_mul (by omega) hv
      generalize P k = p at *
      generalize O k = o at *
      generalize ask P k v = a at *
      have HS := Lib.hid hs
      have hik : ¬ i ≤ k := by omega
      have hp0 : ¬ (p : Int) = 0 := by omega
      have hp1 : ((p : Int) == 0) = false := by simp; omega
      have hq2 : ((v : Int) + (p : Int) - 1).tdiv (p : Int) = (((v + p - 1) / p : Nat) : Int) := by rw [Int.tdiv_eq_ediv_of_nonneg (by omega), hq]
      generalize (v + p - 1) / p = q at *
      have HN2 := Lib.hid (HK.out.then_ (nw_alloc wr (.cells #[.int .i64 p, .int .i64 o] 34)))
      clear hs HK
      go_wp2
      go_roundw
      case rel => exact ⟨k + 1, by omega, by go_num, by rw [HS.out]; go_num, HN2⟩
      case measure => simp [intOf]; omega
    · obtain rfl : k = i := by omega
      go_wp2
      go_ret
      exact ⟨rfl, HK.out⟩
end Go.Proofs.Ytlmaanfgamocmaa
