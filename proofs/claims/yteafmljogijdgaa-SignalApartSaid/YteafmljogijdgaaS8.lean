/- Contracts: Ints; the walk of SignalAll. -/
import Derived.Test.YteafmljogijdgaaS7
namespace Go.Proofs.Yteafmljogijdgaa
open Go.RowKit

/-- A slice of numbers that is read. -/
def IntsAt (w : World) (A : Option Addr) (n : Nat) (f : Nat → Int) : Prop := ∀ j, j < n → ∃ g, A = some ⟨g, 0, none⟩ ∧ w.cell? ⟨g, j, none⟩ = some (.int .i64 (f j))
theorem ints_of_own {w : World} {b n : Nat} {v : Value} {xs : List Value} (h : w.ownsRow b 3 1 v n xs) (f : Nat → Int) (hf : ∀ j, j < n → xs[j]? = some (.int .i64 (f j))) :
    ∃ A c, v = .slice A n c ∧ IntsAt w A n f := by
  rcases h.2 with ⟨rfl, rfl⟩ | ⟨g, cap, cur, rfl, _⟩
  · exact ⟨none, 0, rfl, fun j hj => absurd hj (Nat.not_lt_zero _)⟩
  · refine ⟨_, _, rfl, fun j hj => ⟨g, rfl, ?_⟩⟩
    have := h.cells (g := g) rfl j _ (hf j hj)
    rwa [show (⟨g, 0, none⟩ : Addr).add j = ⟨g, j, none⟩ from by unfold Addr.add; split <;> simp_all] at this

set_option maxHeartbeats 1600000 in
theorem ints_same (A B : Option Addr) (n c d : Nat) (f : Nat → Int) (w : World) (hA : IntsAt w A n f) (hB : IntsAt w B n f) (hn : n ≤ 140737488351232) :
    Calls Try.prog 11 #[.slice A n c, .slice B n d] w fun e w' => e = .returned (.bool true) ∧ Drawn w w' := by
  have HA := Lib.hid hA
  have HB := Lib.hid hB
  clear hA hB
  have hnn : ((n : Int) != (n : Int)) = false := by simp
  go_enter Try.func11, Try.ntmps11
  go_wp2
  go_loopw [5] (fun i wr => ∃ k : Nat, k ≤ n ∧ i = .int .i64 k ∧ Drawn w wr) (fun i _ => n - (intOf i).toNat)
  case atStart => exact ⟨0, Nat.zero_le _, rfl, Drawn.refl _⟩
  case round =>
    obtain ⟨k, hk, rfl, HD⟩ := hrel
    by_cases hlt : k < n
    · obtain ⟨g, rfl, h1⟩ := HA.out k hlt
      obtain ⟨g', rfl, h2⟩ := HB.out k hlt
      have c1 := (HD.cell ⟨g, k, none⟩).trans h1
      have c2 := (HD.cell ⟨g', k, none⟩).trans h2
      generalize f k = x at *
      clear h1 h2 HA HB
      go_wp2_with fail
      go_quiet (fail)
      have HD' := HD.then_ nq
      generalize wr.drewN nq = w3 at *
      clear c1 c2 HD
      go_wp2
      go_roundw
      case rel => exact ⟨k + 1, by omega, by go_num, HD'⟩
      case measure => simp [intOf]; omega
    · go_wp2
      go_ret
      exact ⟨rfl, HD⟩

set_option maxHeartbeats 3000000 in
theorem signalAll_bad (s : ByteArray) (A : Option Addr) (c : Nat) (fs : List Fld) (w : World) (hA : FldsAt w A fs) (hs : s.size ≤ 100) (hn : fs.length ≤ 60) (hall : fs.all (Fld.ok s) = false) :
    Calls Try.prog 4 #[.string s, .slice A fs.length c] w (TrueNw w) := by
  obtain ⟨i0, hi, hz0, hz1, hz2⟩ := info_parts info3
  have HALL := Lib.hid (all_any s A c fs w hA hn)
  have HB0 := Lib.hid hall
  have HA := Lib.hid hA
  clear hA hall
  generalize hL : fs.length = n at *
  have HL := Lib.hid hL
  clear hL
  go_enter Try.func4, Try.ntmps4
  go_wp2_with fail
  refine HALL.out.mono ?_
  rintro e w1 ⟨hb, ⟨hx, _⟩ | ⟨_, rfl⟩⟩
  · exact absurd (hx.symm.trans HB0.out) (by simp)
  have HB := Lib.hid hb
  clear hb HALL
  go_wp2
  go_loopw [7, 29] (fun v i wr => ∃ k : Nat, k ≤ n ∧ i = .int .i64 k ∧ Hid (AInv s fs w1 v k wr)) (fun _ i _ => n - (intOf i).toNat)
  case atStart => exact ⟨0, Nat.zero_le _, rfl, Lib.hid ⟨by simpa [vals] using World.ownsRow_nil w1 w1.heap.size 3 1, Below.refl _ _, by simp⟩⟩
  case round =>
    obtain ⟨k, hk, rfl, HI⟩ := hrel
    by_cases hlt : k < n
    · have hkl : k < fs.length := by rw [HL.out]; exact hlt
      obtain ⟨ad, rfl, hp, hf⟩ := (HA.out.below (HB.out.then_ HI.out.below)) k hkl
      have hvs := vals_succ s fs k hkl
      have has := all_succ s fs k hkl HI.out.ok
      have haf := all_fails s fs k hkl
      generalize fs[k]'hkl = f at *
      have HVS := Lib.hid hvs
      have HAS := Lib.hid has
      have HAF := Lib.hid haf
      obtain ⟨f0, f1, f2, f3⟩ := hf
      clear hvs has haf
      go_wp2_with fail
      refine (get_any _ _ _ _ _ _).mono ?_
      rintro e w2 ⟨rfl, hb⟩
      have HW1 : Hid (Nw wr w2) := Nw.then_ ((Below.refl _ wr).alloc (Nat.le_refl _) _) hb
      have HE : Hid (getE s f.st f.ln = if f.ok s then 0 else 2) := rfl
      have HV : Hid (getV s f.st f.ln f.big f.sg = f.get s) := rfl
      rw [HV.out]
      generalize getE s f.st f.ln = E at *
      generalize f.get s = V at *
      generalize f.ok s = b at *
      clear hb f0 f1 f2 f3 HV hp HA
      cases b
      · obtain rfl : E = 2 := HE.out
        have HB2 := Lib.hid (HB.out.then_ (Nw.then_ (HI.out.below) HW1.out))
        clear HE HI HB0 HW1 HB
        go_wp2_with fail
        refine (alive_any _).mono ?_
        rintro e w4 ⟨rfl, hb⟩
        have HB3 := Lib.hid (HB2.out.then_ hb)
        clear hb
        go_wp2
        go_ret
        exact ⟨rfl, HB3.out⟩
      · obtain rfl : E = 0 := HE.out
        have hown := HI.out.own.kept (grown_of_nw HW1.out) (by cases u7.ownBlock <;> simp)
        have hz := HI.out.below.size
        have hz' := HW1.out.size
        go_wp2_with (at_builtin; refine wpList_append_own _ rfl _ _ 32 rfl w1.heap.size 3 i0 (.int .i64 0) 1 8 Try.underlying32 hi hz0 hz1 hz2 rfl (by decide) _ _ _ rfl (hown.alloc _) ⟨w2.heap.size, 0, none⟩ 1 1 [.int .i64 V] rfl rfl ?c1 ?c2 ?c3 ?c4 ?c5 ?_)
        case c1 => exact one_news _ _
        case c2 => intro u hu; simp at hu; subst hu; rfl
        case c3 => unfold maxLen; omega
        case c4 => omega
        case c5 => simp; omega
        intro v' w3 hown' hg _
        have HP : Hid (AInv s fs w1 v' (k + 1) w3) := by
          refine ⟨by rw [HVS.out]; exact hown', ?_, HAS.out (by trivial)⟩
          exact ((HI.out.below.then_ HW1.out).alloc (by omega) _).grown hg (by simp; omega) fun j hj => (hown.lt j hj).1
        clear hown' hg hown HI HW1
        go_wp2
        go_roundw
        case rel => exact ⟨k + 1, by omega, by go_num, HP⟩
        case measure => simp [intOf]; omega
    · have h2 := HI.out.ok
      have HLo := HL.out
      rw [List.take_of_length_le (by omega)] at h2
      exact absurd (h2.symm.trans HB0.out) (by simp)

set_option maxHeartbeats 3000000 in
theorem signalAll_good (s : ByteArray) (A : Option Addr) (c : Nat) (fs : List Fld) (w : World) (hA : FldsAt w A fs) (hs : s.size ≤ 100) (hn : fs.length ≤ 60) (hall : fs.all (Fld.ok s) = true) :
    Calls Try.prog 4 #[.string s, .slice A fs.length c] w (TrueNw w) := by
  obtain ⟨i0, hi, hz0, hz1, hz2⟩ := info_parts info3
  have HALL := Lib.hid (all_any s A c fs w hA hn)
  have HB0 := Lib.hid hall
  have HA := Lib.hid hA
  clear hA hall
  generalize hL : fs.length = n at *
  have HL := Lib.hid hL
  clear hL
  go_enter Try.func4, Try.ntmps4
  go_wp2_with fail
  refine HALL.out.mono ?_
  rintro e w1 ⟨hb, ⟨_, v, rfl, hv⟩ | ⟨hx, rfl⟩⟩
  case inr => exact absurd (hx.symm.trans HB0.out) (by simp)
  have HB := Lib.hid hb
  have HV1 := Lib.hid hv
  clear hb HALL hv
  go_wp2
  go_loopw [7, 29] (fun v i wr => ∃ k : Nat, k ≤ n ∧ i = .int .i64 k ∧ Hid (AInv s fs w1 v k wr)) (fun _ i _ => n - (intOf i).toNat)
  case atStart => exact ⟨0, Nat.zero_le _, rfl, Lib.hid ⟨by simpa [vals] using World.ownsRow_nil w1 w1.heap.size 3 1, Below.refl _ _, by simp⟩⟩
  case round =>
    obtain ⟨k, hk, rfl, HI⟩ := hrel
    by_cases hlt : k < n
    · have hkl : k < fs.length := by rw [HL.out]; exact hlt
      obtain ⟨ad, rfl, hp, hf⟩ := (HA.out.below (HB.out.then_ HI.out.below)) k hkl
      have hvs := vals_succ s fs k hkl
      have has := all_succ s fs k hkl HI.out.ok
      have haf := all_fails s fs k hkl
      generalize fs[k]'hkl = f at *
      have HVS := Lib.hid hvs
      have HAS := Lib.hid has
      have HAF := Lib.hid haf
      obtain ⟨f0, f1, f2, f3⟩ := hf
      clear hvs has haf
      go_wp2_with fail
      refine (get_any _ _ _ _ _ _).mono ?_
      rintro e w2 ⟨rfl, hb⟩
      have HW1 : Hid (Nw wr w2) := Nw.then_ ((Below.refl _ wr).alloc (Nat.le_refl _) _) hb
      have HE : Hid (getE s f.st f.ln = if f.ok s then 0 else 2) := rfl
      have HV : Hid (getV s f.st f.ln f.big f.sg = f.get s) := rfl
      rw [HV.out]
      generalize getE s f.st f.ln = E at *
      generalize f.get s = V at *
      generalize f.ok s = b at *
      clear hb f0 f1 f2 f3 HV hp HA
      cases b
      · obtain rfl : E = 2 := HE.out
        exact absurd ((HAF.out (by trivial)).symm.trans HB0.out) (by simp)
      · obtain rfl : E = 0 := HE.out
        have hown := HI.out.own.kept (grown_of_nw HW1.out) (by cases u7.ownBlock <;> simp)
        have hz := HI.out.below.size
        have hz' := HW1.out.size
        go_wp2_with (at_builtin; refine wpList_append_own _ rfl _ _ 32 rfl w1.heap.size 3 i0 (.int .i64 0) 1 8 Try.underlying32 hi hz0 hz1 hz2 rfl (by decide) _ _ _ rfl (hown.alloc _) ⟨w2.heap.size, 0, none⟩ 1 1 [.int .i64 V] rfl rfl ?c1 ?c2 ?c3 ?c4 ?c5 ?_)
        case c1 => exact one_news _ _
        case c2 => intro u hu; simp at hu; subst hu; rfl
        case c3 => unfold maxLen; omega
        case c4 => omega
        case c5 => simp; omega
        intro v' w3 hown' hg _
        have HP : Hid (AInv s fs w1 v' (k + 1) w3) := by
          refine ⟨by rw [HVS.out]; exact hown', ?_, HAS.out (by trivial)⟩
          exact ((HI.out.below.then_ HW1.out).alloc (by omega) _).grown hg (by simp; omega) fun j hj => (hown.lt j hj).1
        clear hown' hg hown HI HW1
        go_wp2
        go_roundw
        case rel => exact ⟨k + 1, by omega, by go_num, HP⟩
        case measure => simp [intOf]; omega
    · have e : k = n := by omega
      subst e
      have HLo := HL.out
      have h1 := HI.out.own
      rw [List.take_of_length_le (by omega)] at h1
      have h2 := HV1.out.kept (grown_of_nw HI.out.below) (by cases v.ownBlock <;> simp)
      rw [HLo] at h2
      have hfj : ∀ j, j < k → (vals s fs)[j]? = some (.int .i64 ((fs[j]?.map (Fld.get s)).getD 0)) := fun j hj => by
        unfold vals
        rw [List.getElem?_map, List.getElem?_eq_getElem (by omega)]
        rfl
      obtain ⟨A1, c1, rfl, r1⟩ := ints_of_own h1 _ hfj
      obtain ⟨A2, c2, rfl, r2⟩ := ints_of_own h2 _ hfj
      have HQ := Lib.hid (ints_same A2 A1 k c2 c1 _ _ r2 r1 (by omega))
      have HB2 := Lib.hid (HB.out.then_ HI.out.below)
      clear h1 h2 r1 r2 HI HV1 hfj HB HLo HA HB0
      go_wp2_with fail
      refine HQ.out.mono ?_
      rintro e w2 ⟨rfl, hd⟩
      have HB3 := Lib.hid (HB2.out.then_ hd.nw)
      clear hd HB2
      go_wp2_with fail
      refine (alive_any _).mono ?_
      rintro e w4 ⟨rfl, hb⟩
      have HB4 := Lib.hid (HB3.out.then_ hb)
      clear hb
      go_wp2
      go_ret
      exact ⟨rfl, HB4.out⟩

theorem signalAll_big (s : ByteArray) (A : Option Addr) (n c : Nat) (w : World) (h : 100 < s.size ∨ (s.size ≤ 100 ∧ 60 < n)) :
    Calls Try.prog 4 #[.string s, .slice A n c] w (TrueNw w) := by
  rcases h with h | ⟨h, h'⟩
  all_goals
    go_enter Try.func4, Try.ntmps4
    go_wp2_with fail
    refine (alive_any _).mono ?_
    rintro e w1 ⟨rfl, hb⟩
    go_wp2
    go_ret
    exact ⟨rfl, hb⟩

theorem signalAll_walk (s : ByteArray) (A : Option Addr) (c : Nat) (fs : List Fld) (w : World) (hA : FldsAt w A fs) :
    Calls Try.prog 4 #[.string s, .slice A fs.length c] w (TrueNw w) := by
  by_cases h : 100 < s.size ∨ (s.size ≤ 100 ∧ 60 < fs.length)
  · exact signalAll_big s A _ c w h
  · cases hall : fs.all (Fld.ok s)
    · exact signalAll_bad s A c fs w hA (by omega) (by omega) hall
    · exact signalAll_good s A c fs w hA (by omega) (by omega) hall
end Go.Proofs.Yteafmljogijdgaa
