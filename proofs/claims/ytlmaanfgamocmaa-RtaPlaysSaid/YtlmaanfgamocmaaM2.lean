/- The contract of the closure first of Play. -/
import Derived.Test.YtlmaanfgamocmaaM1
import Derived.Deep.RegionHeld3
namespace Go.Proofs.Ytlmaanfgamocmaa
open Go.RowKit

/-- What Play has in memory: the boxes of the tasks and of what is seen, and what is seen. -/
structure PI (W : World) (bl bo R : Nat) (A : Option Addr) (n c : Nat) (sent worst left : Nat → Nat) : Prop where
  c0 : W.cell? ⟨bl, 0, none⟩ = some (.slice A n c)
  c1 : W.cell? ⟨bo, 0, none⟩ = some (.slice (some ⟨R, 0, none⟩) n n)
  row : ∀ j, j < n → W.cell? ⟨R, j * 3, none⟩ = some (.int .i64 (sent j : Nat)) ∧ W.cell? ⟨R, j * 3 + 1, none⟩ = some (.int .i64 (worst j : Nat)) ∧ W.cell? ⟨R, j * 3 + 2, none⟩ = some (.int .i64 (left j : Nat))
  fr : ∀ j, W.frozen? ⟨R, j, none⟩ = false
  z0 : bl < W.heap.size
  z1 : bo < W.heap.size
  z2 : R < W.heap.size
  n0 : R ≠ bl
  n1 : R ≠ bo
theorem PI.nw {W W' : World} {bl bo R : Nat} {A : Option Addr} {n c : Nat} {sent worst left : Nat → Nat} (h : PI W bl bo R A n c sent worst left) (hb : Nw W W') : PI W' bl bo R A n c sent worst left :=
  ⟨(hb.cell h.z0).trans h.c0, (hb.cell h.z1).trans h.c1, fun j hj => ⟨(hb.cell (p := ⟨R, j * 3, none⟩) h.z2).trans (h.row j hj).1, (hb.cell (p := ⟨R, j * 3 + 1, none⟩) h.z2).trans (h.row j hj).2.1, (hb.cell (p := ⟨R, j * 3 + 2, none⟩) h.z2).trans (h.row j hj).2.2⟩,
   fun j => (hb.frozen (p := ⟨R, j, none⟩) h.z2).trans (h.fr j), Nat.lt_of_lt_of_le h.z0 hb.size, Nat.lt_of_lt_of_le h.z1 hb.size, Nat.lt_of_lt_of_le h.z2 hb.size, h.n0, h.n1⟩

/-- The cells that are read at one task. -/
abbrev Four (bx bo R k : Nat) (p o n s : Nat) (w : World) : Prop :=
  (w.cell? ⟨bx, 0, none⟩ = some (.int .i64 p) ∧ w.cell? ⟨bx, 1, none⟩ = some (.int .i64 o) ∧ w.cell? ⟨bo, 0, none⟩ = some (.slice (some ⟨R, 0, none⟩) n n) ∧ w.cell? ⟨R, k * 3, none⟩ = some (.int .i64 s))
theorem Four.nw {bx bo R k p o n s : Nat} {w w' : World} (h : Four bx bo R k p o n s w) (hz : bx < w.heap.size ∧ bo < w.heap.size ∧ R < w.heap.size) (hb : Nw w w') : Four bx bo R k p o n s w' :=
  ⟨(hb.cell (p := ⟨bx, 0, none⟩) hz.1).trans h.1, (hb.cell (p := ⟨bx, 1, none⟩) hz.1).trans h.2.1, (hb.cell (p := ⟨bo, 0, none⟩) hz.2.1).trans h.2.2.1, (hb.cell (p := ⟨R, k * 3, none⟩) hz.2.2).trans h.2.2.2⟩
def firstV : Option Nat → Int
  | some i => i
  | none => -1

set_option maxHeartbeats 3000000 in
theorem first_any (bl bo R : Nat) (A : Option Addr) (n c : Nat) (P O sent worst left : Nat → Nat) (s : Nat) (w : World) (hT : TN w A n P O) (hI : PI w bl bo R A n c sent worst left) (hs : s ≤ 100000) :
    Calls Try.prog 20 #[.int .i64 s, .pointer (some ⟨bl, 0, none⟩), .pointer (some ⟨bo, 0, none⟩)] w (IntNw (firstV (firstI n P O sent s)) w) := by
  have HT := Lib.hid hT
  have HI := Lib.hid hI
  have hlen := hT.len
  have hc0 := hI.c0
  have HF : Hid (∀ i, i < n → sent i < arr P O i (s + 1) → (∀ j, j < i → ¬ sent j < arr P O j (s + 1)) → firstI n P O sent s = some i) := fun i a b c => first_of a b c
  have HF0 : Hid ((∀ j, j < n → ¬ sent j < arr P O j (s + 1)) → firstI n P O sent s = none) := fun h => first_of_none h
  generalize firstI n P O sent s = res at *
  clear hT hI
  go_enter Try.func20, Try.ntmps20
  go_wp2
  clear hc0
  go_loopw [9] (fun i wr => ∃ k : Nat, k ≤ n ∧ i = .int .i64 k ∧ Hid (∀ j, j < k → ¬ sent j < arr P O j (s + 1)) ∧ Hid (Nw w wr)) (fun i _ => n - (intOf i).toNat)
  case atStart => exact ⟨0, Nat.zero_le _, rfl, Lib.hid (fun j h => absurd h (Nat.not_lt_zero _)), Lib.hid (Below.refl _ _)⟩
  case round =>
    obtain ⟨k, hk, rfl, HK, HN⟩ := hrel
    by_cases hlt : k < n
    · obtain ⟨ad, rfl, hp, f0, f1⟩ := (HT.out.nw HN.out).at_ k hlt
      obtain ⟨e3, e4, e5⟩ := HT.out.ok k
      have hnk : ¬ n ≤ k := by omega
      have d6 : (k : Int) < (n : Int) := by omega
      have d7 : (0 : Int) ≤ (k : Int) := by omega
      have HFK := Lib.hid (fun h => HF.out k hlt h HK.out)
      have HNK : Hid (¬ sent k < arr P O k (s + 1) → ∀ j, j < k + 1 → ¬ sent j < arr P O j (s + 1)) := fun h j hj => by
        by_cases e : j = k
        · subst e; exact h
        · exact HK.out j (by omega)
      have hrow := ((HI.out.nw HN.out).nw (nw_alloc wr (.cells #[.int .i64 (P k : Nat), .int .i64 (O k : Nat)] 34))).nw (nw_drew _)
      have HC := Lib.hid (fun W => come_any (P k) (O k) (s + 1) (s : Int) W (by omega) e3 e4 e5 (by omega))
      have HZ := Lib.hid (And.intro (show wr.heap.size < (wr.alloc (.cells #[.int .i64 (P k : Nat), .int .i64 (O k : Nat)] 34)).drew.heap.size by simp) (And.intro hrow.z1 hrow.z2))
      have HS : Hid (Four wr.heap.size bo R k (P k) (O k) n (sent k) (wr.alloc (.cells #[.int .i64 (P k : Nat), .int .i64 (O k : Nat)] 34)).drew) :=
        ⟨by rw [World.cell?_drew, alloc_cell_new rfl]; rfl, by rw [World.cell?_drew, alloc_cell_new rfl]; rfl, hrow.c1, (hrow.row k hlt).1⟩
      have harr : arr P O k (s + 1) = (s + 1 - O k + P k - 1) / P k := rfl
      rw [harr] at HFK HNK
      generalize P k = p at *
      generalize O k = o at *
      generalize sent k = sk at *
      generalize (s + 1 - o + p - 1) / p = q at *
      have HN2 := Lib.hid (HN.out.then_ (nw_alloc wr (.cells #[.int .i64 p, .int .i64 o] 34)))
      clear hrow harr HN
      go_wp2_with fail
      clear f0 f1 hp
      generalize wr.alloc (.cells #[.int .i64 p, .int .i64 o] 34) = wa at *
      go_region_held3 (fun w' => w'.cell? ⟨wr.heap.size, 0, none⟩ = some (.int .i64 p) ∧ w'.cell? ⟨wr.heap.size, 1, none⟩ = some (.int .i64 o) ∧ w'.cell? ⟨bo, 0, none⟩ = some (.slice (some ⟨R, 0, none⟩) n n) ∧ w'.cell? ⟨R, k * 3, none⟩ = some (.int .i64 sk))
        (first | with_reducible exact HS.out | with_reducible exact Four.nw HS.out HZ.out hb1)
        (first | (go_at_call 21; refine (HC.out _).mono ?_; rintro e w2 ⟨rfl, hb1⟩))
      have HN3 := Lib.hid ((HN2.out.then_ (nw_drew _)).then_ hb1)
      clear hb1 HS HZ HN2 HC
      by_cases hq : sk < q
      · have hq1 : (sk : Int) < (q : Int) := by omega
        have hr := HFK.out hq
        clear HFK HNK
        go_wp2
        go_ret
        rw [hr]
        exact ⟨rfl, HN3.out⟩
      · have hq1 : ¬ (sk : Int) < (q : Int) := by omega
        have HK2 := Lib.hid (HNK.out hq)
        clear HFK HNK
        go_wp2
        go_roundw
        case rel => exact ⟨k + 1, by omega, by go_num, HK2, HN3⟩
        case measure => simp [intOf]; omega
    · go_wp2
      go_ret
      obtain rfl : k = n := by omega
      rw [HF0.out HK.out]
      exact ⟨rfl, HN.out⟩
end Go.Proofs.Ytlmaanfgamocmaa
