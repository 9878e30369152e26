/- Tasks in memory; contracts of Right, of the document's Right, of small. -/
import Derived.Test.YtlmaanfgamocmaaU
namespace Go.Proofs.Ytlmaanfgamocmaa
open Go.RowKit

/-- A task: its period, and when it begins. -/
structure Tk where
  p : Int
  o : Int
def TksAt (w : World) (A : Option Addr) (l : List Tk) : Prop := ∀ j (h : j < l.length), ∃ ad, A = some ad ∧ (ad.add (j * 2)).block < w.heap.size ∧ w.cell? (ad.add (j * 2)) = some (.int .i64 (l[j]'h).p) ∧ w.cell? ⟨(ad.add (j * 2)).block, (ad.add (j * 2)).off + 1, none⟩ = some (.int .i64 (l[j]'h).o)
theorem TksAt.nw {w w1 : World} {A : Option Addr} {l : List Tk} (h : TksAt w A l) (hb : Nw w w1) : TksAt w1 A l := fun j hj => by
  obtain ⟨ad, e, hp, h0, h1⟩ := h j hj
  exact ⟨ad, e, Nat.lt_of_lt_of_le hp hb.size, (hb.cell hp).trans h0, (hb.cell (p := ⟨(ad.add (j * 2)).block, (ad.add (j * 2)).off + 1, none⟩) hp).trans h1⟩
def Tk.ok (t : Tk) : Bool := decide (1 ≤ t.p) && decide (t.p ≤ 100000) && decide (0 ≤ t.o) && decide (t.o ≤ 100000)
/-- The error's number: whether tasks may be. -/
def tRight (l : List Tk) : Int := if 64 < l.length then 9 else if l.all Tk.ok then 0 else 2
def IntNw (k : Int) (w : World) (e : Ending) (w' : World) : Prop := e = .returned (.int .i64 k) ∧ Nw w w'
theorem all_take {l : List Tk} {k : Nat} (h : k < l.length) (ha : (l.take k).all Tk.ok = true) : (l.take (k + 1)).all Tk.ok = (l[k]'h).ok := by
  rw [List.take_add_one, List.getElem?_eq_getElem h, Option.toList_some, List.all_append, ha]
  simp
theorem all_not {l : List Tk} {k : Nat} (h : k < l.length) (ha : (l[k]'h).ok = false) : l.all Tk.ok = false := by
  rw [List.all_eq_false]
  exact ⟨_, List.getElem_mem h, by simp [ha]⟩
/-- Which of a task's limits is passed first. -/
theorem ok_ways (t : Tk) : (t.p < 1 ∧ t.ok = false) ∨ (¬ t.p < 1 ∧ 100000 < t.p ∧ t.ok = false) ∨ (¬ t.p < 1 ∧ ¬ 100000 < t.p ∧ t.o < 0 ∧ t.ok = false) ∨ (¬ t.p < 1 ∧ ¬ 100000 < t.p ∧ ¬ t.o < 0 ∧ 100000 < t.o ∧ t.ok = false) ∨ (¬ t.p < 1 ∧ ¬ 100000 < t.p ∧ ¬ t.o < 0 ∧ ¬ 100000 < t.o ∧ t.ok = true) := by
  unfold Tk.ok
  by_cases h1 : t.p < 1
  · exact .inl ⟨h1, by simp; omega⟩
  · by_cases h2 : 100000 < t.p
    · exact .inr (.inl ⟨h1, h2, by simp; omega⟩)
    · by_cases h3 : t.o < 0
      · exact .inr (.inr (.inl ⟨h1, h2, h3, by simp; omega⟩))
      · by_cases h4 : 100000 < t.o
        · exact .inr (.inr (.inr (.inl ⟨h1, h2, h3, h4, by simp; omega⟩)))
        · exact .inr (.inr (.inr (.inr ⟨h1, h2, h3, h4, by simp; omega⟩)))

set_option maxHeartbeats 3000000 in
theorem right_any (A : Option Addr) (c : Nat) (l : List Tk) (w : World) (hA : TksAt w A l) : Calls Try.prog 12 #[.slice A l.length c] w (IntNw (tRight l) w) := by
  have HA := Lib.hid hA
  clear hA
  have HT : Hid (tRight l = if 64 < l.length then 9 else if l.all Tk.ok then 0 else 2) := rfl
  generalize tRight l = r at *
  generalize hL : l.length = n at *
  have HL := Lib.hid hL
  clear hL
  by_cases h64 : 64 < n
  · obtain rfl : r = 9 := by rw [HT.out, if_pos h64]
    have h64' : (64 : Int) < (n : Int) := by omega
    clear HT
    go_enter Try.func12, Try.ntmps12
    go_wp2
    go_ret
    exact ⟨rfl, Below.refl _ _⟩
  · have h64' : ¬ (64 : Int) < (n : Int) := by omega
    have HT1 : Hid (r = if l.all Tk.ok then 0 else 2) := by unfold Hid; rw [HT.out, if_neg h64]
    clear HT
    go_enter Try.func12, Try.ntmps12
    go_wp2
    go_loopw [10] (fun i wr => ∃ k : Nat, k ≤ n ∧ i = .int .i64 k ∧ Hid ((l.take k).all Tk.ok = true ∧ Nw w wr)) (fun i _ => n - (intOf i).toNat)
    case atStart => exact ⟨0, Nat.zero_le _, rfl, by unfold Hid; exact ⟨rfl, Below.refl _ _⟩⟩
    case round =>
      obtain ⟨k, hk, rfl, HK⟩ := hrel
      by_cases hlt : k < n
      · have hkl : k < l.length := by rw [HL.out]; exact hlt
        obtain ⟨ad, rfl, hp, f0, f1⟩ := (HA.out.nw HK.out.2) k hkl
        have HS := Lib.hid (all_take hkl HK.out.1)
        have HQ := Lib.hid (fun h => all_not (l := l) hkl h)
        generalize l[k]'hkl = t at *
        have HW := Lib.hid (ok_ways t)
        obtain ⟨p, o⟩ := t
        have hnk : ¬ n ≤ k := by omega
        have HN := Lib.hid (HK.out.2.then_ (nw_alloc wr (.cells #[.int .i64 p, .int .i64 o] 34)))
        simp only [] at f0 f1
        rcases HW.out with ⟨h1, hb⟩ | ⟨h1, h2, hb⟩ | ⟨h1, h2, h3, hb⟩ | ⟨h1, h2, h3, h4, hb⟩ | ⟨h1, h2, h3, h4, hb⟩
        case inr.inr.inr.inr =>
          have HP : Hid ((l.take (k + 1)).all Tk.ok = true ∧ Nw w (wr.alloc (.cells #[.int .i64 p, .int .i64 o] 34))) := Lib.hid ⟨HS.out.trans hb, HN.out⟩
          simp only [] at h1 h2 h3 h4
          clear hb HW HQ HS HN HK
          go_wp2
          go_roundw
          case rel => exact ⟨k + 1, by omega, by go_num, HP⟩
          case measure => simp [intOf]; omega
        all_goals
          obtain rfl : r = 2 := by rw [HT1.out, HQ.out hb]; rfl
          simp only [] at h1
          try simp only [] at h2
          try simp only [] at h3
          try simp only [] at h4
          clear hb HW HQ HS HK HT1
          go_wp2
          go_ret
          exact ⟨rfl, HN.out⟩
      · obtain rfl : r = 0 := by
          have h := HK.out.1
          have := HL.out
          rw [List.take_of_length_le (by omega)] at h
          rw [HT1.out, h]
          rfl
        have HN := Lib.hid HK.out.2
        clear HK HT1
        go_wp2
        go_ret
        exact ⟨rfl, HN.out⟩
end Go.Proofs.Ytlmaanfgamocmaa
