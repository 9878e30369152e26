/- The walk of SchedApart. -/
import Derived.Test.YtemnopfcddcekaaT2
namespace Go.Proofs.Ytemnopfcddcekaa
open Go.RowKit

theorem nw_updI {w a b : World} {lo hi : Nat} (h : Nw w a) (hu : Upd (fun k => lo ≤ k ∧ k < hi) a b) (hR : w.heap.size ≤ lo) : Nw w b :=
  h.trans (hu.below h.size fun k hk e => by omega)
/-- The law's two sets of clients. -/
structure Two (w0 : World) (one : Int) (lo hi hi2 S T : Nat) (A B : Option Addr) (c d : Nat) (l m : List Cl) (w : World) : Prop where
  s : SI w lo hi S A c l
  t : SI w hi hi2 T B d m
  e : look l one = look m one
  nw : Nw w0 w
  lo0 : w0.heap.size ≤ lo
  le : lo ≤ hi
theorem Two.nw_ {w0 : World} {one : Int} {lo hi hi2 S T : Nat} {A B : Option Addr} {c d : Nat} {l m : List Cl} {w w' : World} (h : Two w0 one lo hi hi2 S T A B c d l m w) (k : Nw w w') : Two w0 one lo hi hi2 S T A B c d l m w' :=
  ⟨h.s.nw k, h.t.nw k, h.e, h.nw.then_ k, h.lo0, h.le⟩
theorem Two.s_ {w0 : World} {one : Int} {lo hi hi2 S T : Nat} {A B : Option Addr} {c d : Nat} {l l' m : List Cl} {w w' : World} (h : Two w0 one lo hi hi2 S T A B c d l m w) (hu : Upd (fun k => lo ≤ k ∧ k < hi) w w') (hs : SI w' lo hi S A c l') (he : look l' one = look m one) : Two w0 one lo hi hi2 S T A B c d l' m w' :=
  ⟨hs, h.t.upd hu (fun k h1 h2 => by omega), he, nw_updI h.nw hu h.lo0, h.lo0, h.le⟩
theorem Two.st {w0 : World} {one : Int} {lo hi hi2 S T : Nat} {A B : Option Addr} {c d : Nat} {l l' m m' : List Cl} {w w1 w2 : World} (h : Two w0 one lo hi hi2 S T A B c d l m w) (hu : Upd (fun k => lo ≤ k ∧ k < hi) w w1) (hs : SI w1 lo hi S A c l') (hu2 : Upd (fun k => hi ≤ k ∧ k < hi2) w1 w2) (ht : SI w2 hi hi2 T B d m') (he : look l' one = look m' one) : Two w0 one lo hi hi2 S T A B c d l' m' w2 :=
  ⟨hs.upd hu2 (fun k h1 h2 => by omega), ht, he, nw_updI (nw_updI h.nw hu h.lo0) hu2 (Nat.le_trans h.lo0 h.le), h.lo0, h.le⟩
/-- A box of a call. -/
theorem box_keep {w w1 : World} {lo hi : Nat} {a b : Value} (hu : Upd (fun k => lo ≤ k ∧ k < hi) (w.alloc (.cells #[a, b] 29)) w1) (h : hi ≤ w.heap.size) : w1.cell? ⟨w.heap.size, 0, none⟩ = some a ∧ w1.cell? ⟨w.heap.size, 1, none⟩ = some b ∧ w.heap.size < w1.heap.size := by
  refine ⟨?_, ?_, Nat.lt_of_lt_of_le (by simp) hu.size⟩
  · rw [hu.cell (by simp) (by show ¬ (_ ∧ _); omega), alloc_cell_new rfl]; rfl
  · rw [hu.cell (by simp) (by show ¬ (_ ∧ _); omega), alloc_cell_new rfl]; rfl

set_option maxHeartbeats 9000000 in
theorem schedApart_good (xs : List Int) (A : Option Addr) (c : Nat) (os : List Op) (B : Option Addr) (d : Nat) (one : Int) (w : World) (hA : IntsAt w A xs) (hc : xs.length ≤ c) (hB : OpsAt w B os) (hf : fewB xs.length os.length = true) :
    Calls Try.prog 3 #[.slice A xs.length c, .slice B os.length d, .int .i64 one] w (TrueNw w) := by
  have HF := Lib.hid (few_any A B xs.length c os.length d)
  rw [hf] at HF
  have hos : os.length ≤ 500 := by unfold fewB at hf; simp at hf; omega
  have HN := Lib.hid (fun W (h : Nw w W) => new_any xs A c W (hA.nw h) hc)
  have HB := Lib.hid hB
  clear hA hB hf hc
  generalize xs.length = n at *
  generalize hL : os.length = q at *
  have HL := Lib.hid hL
  clear hL
  go_enter Try.func3, Try.ntmps3
  go_wp2_with fail
  refine (HF.out _).mono ?_
  rintro e w0 ⟨rfl, rfl⟩
  clear HF
  go_wp2_with fail
  refine (HN.out _ (Below.refl _ _)).mono ?_
  rintro e w1 ⟨S, A1, c1, rfl, hb1, hs1⟩
  have HB1 : Hid (Nw w w1) := hb1
  have HS1 := Lib.hid hs1
  clear hb1 hs1
  go_wp2_with fail
  refine (HN.out _ HB1.out).mono ?_
  rintro e w2 ⟨T, A2, c2, rfl, hb2, hs2⟩
  have H0 : Hid (Two w one w.heap.size w1.heap.size w2.heap.size S T A1 A2 c1 c2 (newL xs) (newL xs) w2) := ⟨HS1.out.nw hb2, hs2, rfl, HB1.out.then_ hb2, Nat.le_refl _, HB1.out.size⟩
  have hz2 := hb2.size
  clear hb2 hs2 HN HB1 HS1
  generalize w1.heap.size = hi at *
  generalize hhi2 : w2.heap.size = hi2 at *
  have hle : hi2 ≤ w2.heap.size := by omega
  clear hhi2
  generalize newL xs = l0 at *
  go_wp2_with fail
  go_loopw [26] (fun i wr => ∃ (k : Nat) (l m : List Cl), k ≤ q ∧ i = .int .i64 k ∧ hi2 ≤ wr.heap.size ∧ Hid (Two w one w.heap.size hi hi2 S T A1 A2 c1 c2 l m wr)) (fun i _ => q - (intOf i).toNat)
  case atStart => exact ⟨0, _, _, Nat.zero_le _, rfl, hle, H0⟩
  case round =>
    obtain ⟨k, l, m, hk, rfl, hle2, HK⟩ := hrel
    clear H0 hle
    by_cases hlt : k < q
    · have hkl : k < os.length := by rw [HL.out]; exact hlt
      obtain ⟨ad, rfl, hp, f0, f1⟩ := (HB.out.nw HK.out.nw) k hkl
      generalize os[k]'hkl = o at *
      obtain ⟨cl, st⟩ := o
      have hqk : ¬ q ≤ k := by omega
      have HK1 := Lib.hid (HK.out.nw_ (nw_alloc wr (.cells #[.int .i64 cl, .bool st] 29)))
      clear HK
      by_cases he : cl = one
      · subst he
        have hne : (cl != cl) = false := by simp
        cases st
        · go_wp2_with fail
          refine (next_any _ _ S A1 c1 l cl _ HK1.out.s).mono ?_
          rintro e w3 ⟨rfl, hu, hs⟩
          obtain ⟨g0, g1, g2⟩ := box_keep hu (by have := hz2; omega)
          have HU := Lib.hid hu
          have HS := Lib.hid hs
          clear hu hs f0 f1
          go_wp2_with fail
          refine (next_any _ _ T A2 c2 m cl _ (HK1.out.t.upd HU.out (fun k h1 h2 => by omega))).mono ?_
          rintro e w4 ⟨rfl, hu2, ht⟩
          have hlk : look (nextL l cl) cl = look (nextL m cl) cl := by rw [look_next, look_next, if_pos rfl, if_pos rfl, HK1.out.e]
          have HK2 := Lib.hid (HK1.out.st HU.out HS.out hu2 ht hlk)
          have hle3 := HU.out.size
          have hle4 := hu2.size
          simp at hle3
          clear hu2 ht HK1 hlk g0 g1 HU HS
          go_wp2
          go_roundw
          case rel => exact ⟨k + 1, _, _, by omega, by go_num, by omega, HK2⟩
          case measure => simp [intOf]; omega
        · go_wp2_with fail
          refine (stay_any _ _ S A1 c1 l cl _ HK1.out.s).mono ?_
          rintro e w3 ⟨rfl, hu, hs⟩
          obtain ⟨g0, g1, g2⟩ := box_keep hu (by have := hz2; omega)
          have HU := Lib.hid hu
          have HS := Lib.hid hs
          clear hu hs f0 f1
          go_wp2_with fail
          refine (stay_any _ _ T A2 c2 m cl _ (HK1.out.t.upd HU.out (fun k h1 h2 => by omega))).mono ?_
          rintro e w4 ⟨rfl, hu2, ht⟩
          have hlk : look (stayL l cl) cl = look (stayL m cl) cl := by rw [look_stay, look_stay, if_pos rfl, if_pos rfl, HK1.out.e]
          have HK2 := Lib.hid (HK1.out.st HU.out HS.out hu2 ht hlk)
          have hle3 := HU.out.size
          have hle4 := hu2.size
          simp at hle3
          clear hu2 ht HK1 hlk g0 g1 HU HS
          go_wp2
          go_roundw
          case rel => exact ⟨k + 1, _, _, by omega, by go_num, by omega, HK2⟩
          case measure => simp [intOf]; omega
      · have hne : (cl != one) = true := by simp [he]
        cases st
        · go_wp2_with fail
          refine (next_any _ _ S A1 c1 l cl _ HK1.out.s).mono ?_
          rintro e w3 ⟨rfl, hu, hs⟩
          obtain ⟨g0, g1, g2⟩ := box_keep hu (by have := hz2; omega)
          have hlk : look (nextL l cl) one = look m one := by rw [look_next, if_neg (Ne.symm he)]; exact HK1.out.e
          have HK2 := Lib.hid (HK1.out.s_ hu hs hlk)
          have hle3 := hu.size
          simp at hle3
          clear hu hs HK1 hlk f0 f1
          go_wp2
          go_roundw
          case rel => exact ⟨k + 1, _, _, by omega, by go_num, by omega, HK2⟩
          case measure => simp [intOf]; omega
        · go_wp2_with fail
          refine (stay_any _ _ S A1 c1 l cl _ HK1.out.s).mono ?_
          rintro e w3 ⟨rfl, hu, hs⟩
          obtain ⟨g0, g1, g2⟩ := box_keep hu (by have := hz2; omega)
          have hlk : look (stayL l cl) one = look m one := by rw [look_stay, if_neg (Ne.symm he)]; exact HK1.out.e
          have HK2 := Lib.hid (HK1.out.s_ hu hs hlk)
          have hle3 := hu.size
          simp at hle3
          clear hu hs HK1 hlk f0 f1
          go_wp2
          go_roundw
          case rel => exact ⟨k + 1, _, _, by omega, by go_num, by omega, HK2⟩
          case measure => simp [intOf]; omega
    · have HAT1 := Lib.hid (fun W (h : Nw wr W) => at_any _ _ S A1 c1 l one W (HK.out.s.nw h))
      have HAT2 := Lib.hid (fun W (h : Nw wr W) => at_any _ _ T A2 c2 m one W (HK.out.t.nw h))
      rw [HK.out.e] at HAT1
      have hform : ∃ a b c, atV one (rdyO (look m one)) = stepV a b c := by
        cases rdyO (look m one) with
        | none => exact ⟨_, _, _, rfl⟩
        | some p => exact ⟨_, _, _, rfl⟩
      obtain ⟨a, b, c', hform⟩ := hform
      rw [hform] at HAT1 HAT2
      generalize (rdyO (look m one)).isSome = bb at *
      clear hform
      go_wp2_with fail
      refine (HAT1.out _ (Below.refl _ _)).mono ?_
      rintro e w3 ⟨rfl, hb⟩
      have HN3 := Lib.hid (hb.then_ (nw_alloc w3 (.cells #[.int .i64 a, .int .i64 b, .int .i64 c'] 32)))
      clear hb HAT1
      go_wp2_with fail
      refine (HAT2.out _ HN3.out).mono ?_
      rintro e w4 ⟨rfl, hb⟩
      have kc : ∀ o, w4.cell? ⟨w3.heap.size, o, none⟩ = (#[.int .i64 a, .int .i64 b, .int .i64 c'] : Array Value)[o]? := fun o => by rw [hb.cell (p := ⟨w3.heap.size, o, none⟩) (by simp), alloc_cell_new rfl]
      have k0 := kc 0
      have k1 := kc 1
      have k2 := kc 2
      have hz := hb.size
      simp at k0 k1 k2 hz
      have hzl : w3.heap.size < w4.heap.size := by omega
      have HN4 := Lib.hid (HK.out.nw.then_ (HN3.out.then_ (hb.then_ (nw_alloc w4 (.cells #[.int .i64 a, .int .i64 b, .int .i64 c'] 32)))))
      clear kc hb hz HAT2 HN3 HK
      go_wp2_with fail
      refine (alive_any _).mono ?_
      rintro e w5 ⟨rfl, hb⟩
      have HN5 := Lib.hid (HN4.out.then_ hb)
      clear hb k0 k1 k2 HN4
      go_wp2
      go_ret
      exact ⟨rfl, HN5.out⟩

set_option maxHeartbeats 1600000 in
theorem schedApart_walk (xs : List Int) (A : Option Addr) (c : Nat) (os : List Op) (B : Option Addr) (d : Nat) (one : Int) (w : World) (hA : IntsAt w A xs) (hc : xs.length ≤ c) (hB : OpsAt w B os) :
    Calls Try.prog 3 #[.slice A xs.length c, .slice B os.length d, .int .i64 one] w (TrueNw w) := by
  cases hf : fewB xs.length os.length
  · have HF := Lib.hid (few_any A B xs.length c os.length d)
    rw [hf] at HF
    clear hf hA hB hc
    go_enter Try.func3, Try.ntmps3
    go_wp2_with fail
    refine (HF.out _).mono ?_
    rintro e w0 ⟨rfl, rfl⟩
    go_wp2_with fail
    refine (alive_any _).mono ?_
    rintro e w1 ⟨rfl, hb⟩
    go_wp2
    go_ret
    exact ⟨rfl, hb⟩
  · exact schedApart_good xs A c os B d one w hA hc hB hf
end Go.Proofs.Ytemnopfcddcekaa
