/- Contracts: one bit set in memory. -/
import Derived.Test.YteafmljogijdgaaT1
namespace Go.Proofs.Yteafmljogijdgaa
open Go.RowKit

theorem and_one_i64 (x : Int) : bits .and .i64 x 1 = x % 2 := by
  unfold bits
  have h1 : (BitVec.ofInt 64 1) = 1#64 := rfl
  show IntKind.i64.wrap ((BitVec.ofInt 64 x &&& BitVec.ofInt 64 1).toNat : Int) = x % 2
  rw [h1, BitVec.toNat_and]
  have h2 : (1#64 : BitVec 64).toNat = 1 := rfl
  rw [h2, Nat.and_one_is_mod, BitVec.toNat_ofInt]
  have h3 : (((x % ((2 ^ 64 : Nat) : Int)).toNat % 2 : Nat) : Int) = x % 2 := by
    rw [show ((2 ^ 64 : Nat) : Int) = 18446744073709551616 from rfl]
    have hm := Int.emod_nonneg x (show (18446744073709551616 : Int) ≠ 0 by decide)
    omega
  rw [h3]
  rw [IntKind.wrap_i64]
  omega
theorem byte_tab : ∀ b : Fin 256, ∀ k : Fin 8, ∀ v : Bool,
    bits .or .u8 (bits .andNot .u8 (b.val : Int) (2 ^ k.val % 256)) ((if v then 1 else 0) * 2 ^ k.val % 256) = (byteSet b.val k.val v : Nat) := by
  decide +kernel
theorem byte_end (x k : Nat) (n : Int) (i : Nat) (hx : x < 256) (hk : k < 8) : bits .or .u8 (bits .andNot .u8 (x : Int) (2 ^ k % 256)) (n / 2 ^ i % 2 * 2 ^ k % 256) = (byteSet x k (nbit n i) : Nat) := by
  have h := byte_tab ⟨x, hx⟩ ⟨k, hk⟩ (nbit n i)
  have e : n / 2 ^ i % 2 = if nbit n i then 1 else 0 := by
    unfold nbit
    have := Int.emod_two_eq (n / 2 ^ i)
    rcases this with h | h <;> simp [h]
  rw [e]
  exact h

set_option maxHeartbeats 1600000 in
theorem set1_any (i b x cap sz : Nat) (n : Int) (Bh Bb Bn : Nat) (w : World) (hi : i < 60) (hb2 : b < 512) (hsz : b / 8 < sz) (hszc : sz ≤ 64) (hx : x < 256)
    (hh : w.cell? ⟨Bh, 0, none⟩ = some (.slice (some ⟨Bb, 0, none⟩) sz cap)) (hn : w.cell? ⟨Bn, 0, none⟩ = some (.int .i64 n)) (hc : w.cell? ⟨Bb, b / 8, none⟩ = some (.int .u8 x)) (hf : w.frozen? ⟨Bb, b / 8, none⟩ = false)
    (hne : Bh ≠ Bb) (hne2 : Bn ≠ Bb) :
    Calls Try.prog 24 #[.int .i64 i, .int .i64 b, .pointer (some ⟨Bh, 0, none⟩), .pointer (some ⟨Bn, 0, none⟩)] w fun e w' => e = .returned (.tuple #[]) ∧ Upd (fun k => k = Bb) w w' ∧ w'.cell? ⟨Bb, b / 8, none⟩ = some (.int .u8 (byteSet x (b % 8) (nbit n i) : Nat)) ∧
      (∀ j, j ≠ b / 8 → w'.cell? ⟨Bb, j, none⟩ = w.cell? ⟨Bb, j, none⟩) ∧ (∀ j, w'.frozen? ⟨Bb, j, none⟩ = w.frozen? ⟨Bb, j, none⟩) := by
  have hx0 : (0 : Int) ≤ (b : Int) / 8 ∧ (b : Int) / 8 < (sz : Int) := by omega
  have hx1 : (0 : Int) ≤ (b : Int) / 8 := hx0.1
  have hx2 : (b : Int) / 8 < (sz : Int) := hx0.2
  have hw1 : IntKind.i64.wrap ((b : Int) / 8) = ((b / 8 : Nat) : Int) := by rw [IntWalk.i64_in _ (by omega)]; omega
  have hw2 : (b : Int).tmod 8 = (b : Int) % 8 := by rw [Int.tmod_eq_emod_of_nonneg (by omega)]
  have hw3 : (0 : Int) ≤ (b : Int) % 8 := by omega
  have hw4 : ((b : Int) / 8).toNat = b / 8 := by omega
  go_enter Try.func24, Try.ntmps24
  go_wp2
  refine wp_region_still_tail 10 (by kernel_rfl) (by kernel_rfl) ?_
  change wpStill _ _ w.drew (fun a' => wpList _ _ _ _ a' w.drew) _ _
  simp only [List.take_succ_cons, List.take_zero, List.drop_succ_cons, List.drop_zero]
  iterate 10 still_step
  refine wpStill_nil ?_
  go_wp2_with fail
  generalize hG : (w.setCell { block := Bb, off := b / 8 } _).drew = wA
  have g1 : wA.cell? ⟨Bh, 0, none⟩ = some (.slice (some ⟨Bb, 0, none⟩) sz cap) := by
    rw [← hG]
    exact (World.cell?_setCell_other _ _ _ _ (fun e => hne (by injection e with e; exact e.symm))).trans hh
  have g2 : wA.cell? ⟨Bn, 0, none⟩ = some (.int .i64 n) := by
    rw [← hG]
    exact (World.cell?_setCell_other _ _ _ _ (fun e => hne2 (by injection e with e; exact e.symm))).trans hn
  obtain ⟨y, hy⟩ : ∃ y, y = bits BinOp.andNot IntKind.u8 (x : Int) (2 ^ (b % 8) % 256) := ⟨_, rfl⟩
  rw [← hy] at hG
  have g3 : wA.cell? ⟨Bb, b / 8, none⟩ = some (.int .u8 y) := by
    rw [← hG]
    exact cell_set_same hc
  have g4 : wA.frozen? ⟨Bb, b / 8, none⟩ = false := by
    rw [← hG]
    exact (World.frozen?_setCell ..).trans hf
  have HG := Lib.hid hG
  have HY := Lib.hid hy
  clear hG hh hn hc hf hy
  have hw5 : IntKind.i64.wrap ((b : Int) / 8) = ((b / 8 : Nat) : Int) := hw1
  have hsr : bits .and .i64 (n / 2 ^ i) 1 = (n / 2 ^ i) % 2 := and_one_i64 _
  refine wp_region_still_tail 15 (by kernel_rfl) (by kernel_rfl) ?_
  change wpStill _ _ wA.drew (fun a' => wpList _ _ _ _ a' wA.drew) _ _
  simp only [List.take_succ_cons, List.take_zero, List.drop_succ_cons, List.drop_zero]
  iterate 15 still_step
  refine wpStill_nil ?_
  clear hw1 hw2 hw3 hw4 hw5 hsr
  go_wp2
  go_end0
  rw [HY.out, byte_end x _ n i hx (Nat.mod_lt _ (by decide))]
  have hG := HG.out
  refine ⟨rfl, ?_, cell_set_same g3, fun j hj => ?_, fun j => ?_⟩
  · have hu : Upd (fun k => k = Bb) w wA := by
      rw [← hG]
      exact Upd.drew (Upd.setCell (S := fun k => k = Bb) (p := ⟨Bb, b / 8, none⟩) (Upd.refl _ w) rfl _)
    exact Upd.drew (Upd.setCell (S := fun k => k = Bb) (p := ⟨Bb, b / 8, none⟩) hu rfl _)
  · refine (World.cell?_setCell_other _ _ _ _ (fun e => hj (by injection e with _ e; exact e.symm))).trans ?_
    rw [← hG]
    exact World.cell?_setCell_other _ _ _ _ (fun e => hj (by injection e with _ e; exact e.symm))
  · refine (World.frozen?_setCell ..).trans ?_
    rw [← hG]
    exact World.frozen?_setCell ..
end Go.Proofs.Yteafmljogijdgaa
