/- At, Next, Stay at any client. -/
import Derived.Test.YtemnopfcddcekaaT1
namespace Go.Proofs.Ytemnopfcddcekaa
open Go.RowKit

def look (l : List Cl) (x : Int) : Option Cl := if x < 0 then none else l[x.toNat]?
/-- The client, if it is ready. -/
def rdyO : Option Cl → Option Cl
  | some (m, s) => if s < 3 * m then some (m, s) else none
  | none => none
def atV (x : Int) : Option Cl → Value
  | some (_, s) => stepV x (s / 3 : Nat) (s % 3 + 1 : Nat)
  | none => stepV 0 0 0
def nextE : Option Cl → Int
  | some _ => 0
  | none => 12
def nextL (l : List Cl) (x : Int) : List Cl := match rdyO (look l x) with
  | some (m, s) => l.set x.toNat (m, s + 1)
  | none => l
def stayL (l : List Cl) (x : Int) : List Cl := match rdyO (look l x) with
  | some (m, s) => l.set x.toNat (m, stayS s)
  | none => l
theorem nextL_len (l : List Cl) (x : Int) : (nextL l x).length = l.length := by unfold nextL; split <;> simp
theorem stayL_len (l : List Cl) (x : Int) : (stayL l x).length = l.length := by unfold stayL; split <;> simp
theorem look_set {l : List Cl} {x : Int} {p q : Cl} (h : look l x = some p) (y : Int) : look (l.set x.toNat q) y = if y = x then some q else look l y := by
  unfold look at h
  split at h
  · cases h
  · have hlt := (List.getElem?_eq_some_iff.1 h).1
    unfold look
    by_cases e : y = x
    · subst e
      rw [if_pos rfl, if_neg (by assumption), List.getElem?_set_self hlt]
    · rw [if_neg e]
      by_cases hy : y < 0
      · rw [if_pos hy, if_pos hy]
      · rw [if_neg hy, if_neg hy, List.getElem?_set_ne (by omega)]
theorem rdyO_mk (m s : Nat) : rdyO (some (m, s)) = if s < 3 * m then some (m, s) else none := rfl
theorem rdyO_some {o : Option Cl} {p : Cl} (h : rdyO o = some p) : o = some p ∧ p.2 < 3 * p.1 := by
  cases o with
  | none => cases h
  | some q =>
    obtain ⟨m, s⟩ := q
    rw [rdyO_mk] at h
    by_cases hs : s < 3 * m
    · rw [if_pos hs] at h
      injection h with h; subst h; exact ⟨rfl, hs⟩
    · rw [if_neg hs] at h
      cases h
def nextO : Option Cl → Option Cl
  | some (m, s) => if s < 3 * m then some (m, s + 1) else some (m, s)
  | none => none
def stayO : Option Cl → Option Cl
  | some (m, s) => if s < 3 * m then some (m, stayS s) else some (m, s)
  | none => none
theorem look_next (l : List Cl) (x y : Int) : look (nextL l x) y = if y = x then nextO (look l y) else look l y := by
  unfold nextL
  cases h : rdyO (look l x) with
  | none =>
    by_cases e : y = x
    · subst e
      rw [if_pos rfl]
      show look l y = _
      cases h2 : look l y with
      | none => rfl
      | some p =>
        obtain ⟨m, s⟩ := p
        rw [h2, rdyO_mk] at h
        by_cases hs : s < 3 * m
        · rw [if_pos hs] at h
          cases h
        · simp only [nextO]
          rw [if_neg hs]
    · rw [if_neg e]
  | some p =>
    obtain ⟨m, s⟩ := p
    obtain ⟨h1, h2⟩ := rdyO_some h
    show look (l.set x.toNat (m, s + 1)) y = _
    rw [look_set h1]
    by_cases e : y = x
    · subst e
      rw [if_pos rfl, if_pos rfl, h1]
      simp only [nextO]
      rw [if_pos h2]
    · rw [if_neg e, if_neg e]
theorem look_stay (l : List Cl) (x y : Int) : look (stayL l x) y = if y = x then stayO (look l y) else look l y := by
  unfold stayL
  cases h : rdyO (look l x) with
  | none =>
    by_cases e : y = x
    · subst e
      rw [if_pos rfl]
      show look l y = _
      cases h2 : look l y with
      | none => rfl
      | some p =>
        obtain ⟨m, s⟩ := p
        rw [h2, rdyO_mk] at h
        by_cases hs : s < 3 * m
        · rw [if_pos hs] at h
          cases h
        · simp only [stayO]
          rw [if_neg hs]
    · rw [if_neg e]
  | some p =>
    obtain ⟨m, s⟩ := p
    obtain ⟨h1, h2⟩ := rdyO_some h
    show look (l.set x.toNat (m, stayS s)) y = _
    rw [look_set h1]
    by_cases e : y = x
    · subst e
      rw [if_pos rfl, if_pos rfl, h1]
      simp only [stayO]
      rw [if_pos h2]
    · rw [if_neg e, if_neg e]

theorem find_none (lo hi S : Nat) (A : Option Addr) (c : Nat) (l : List Cl) (x : Int) (w : World) (h : SI w lo hi S A c l) (hx : rdyO (look l x) = none) :
    Calls Try.prog 22 #[.pointer (some ⟨S, 0, none⟩), .int .i64 x] w fun e w' => e = .returned (.pointer none) ∧ Drawn w w' := by
  by_cases h0 : x < 0 ∨ (l.length : Int) ≤ x
  · exact find_out lo hi S A c l x w h h0
  · obtain ⟨i, rfl⟩ := Int.eq_ofNat_of_zero_le (show 0 ≤ x by omega)
    have hlt : i < l.length := by omega
    have e : l[i]? = some (l[i]'hlt) := List.getElem?_eq_getElem hlt
    have hl : look l (i : Int) = l[i]? := by unfold look; rw [if_neg (by omega)]; simp
    rw [hl, e] at hx
    cases hp : l[i]'hlt with
    | mk m s =>
      rw [hp] at hx e
      refine find_done lo hi S A c l i m s w h e fun hs => ?_
      rw [rdyO_mk, if_pos hs] at hx
      cases hx
theorem look_ready {l : List Cl} {x : Int} {m s : Nat} (hx : rdyO (look l x) = some (m, s)) : ∃ i : Nat, x = i ∧ l[i]? = some (m, s) ∧ s < 3 * m := by
  obtain ⟨h1, h2⟩ := rdyO_some hx
  unfold look at h1
  split at h1
  · cases h1
  · exact ⟨x.toNat, by omega, h1, h2⟩

theorem at_any (lo hi S : Nat) (A : Option Addr) (c : Nat) (l : List Cl) (x : Int) (w : World) (h : SI w lo hi S A c l) :
    Calls Try.prog 12 #[.pointer (some ⟨S, 0, none⟩), .int .i64 x] w (AtPost (atV x (rdyO (look l x))) (rdyO (look l x)).isSome w) := by
  cases hr : rdyO (look l x) with
  | none => exact at_none _ x w fun W hn => find_none lo hi S A c l x W (h.nw hn) hr
  | some p =>
    obtain ⟨m, s⟩ := p
    obtain ⟨i, rfl, h1, h2⟩ := look_ready hr
    obtain ⟨R, rfl, -⟩ := h.row i m s h1
    exact at_ready lo hi S R c l i m s w h h1 h2

def NextAny (lo hi S : Nat) (A : Option Addr) (c : Nat) (l : List Cl) (x : Int) (w : World) (e : Ending) (w' : World) : Prop :=
  e = .returned (.tuple #[atV x (rdyO (look l x)), .int .i64 (nextE (rdyO (look l x)))]) ∧ Upd (fun k => lo ≤ k ∧ k < hi) w w' ∧ SI w' lo hi S A c (nextL l x)
theorem next_any (lo hi S : Nat) (A : Option Addr) (c : Nat) (l : List Cl) (x : Int) (w : World) (h : SI w lo hi S A c l) :
    Calls Try.prog 11 #[.pointer (some ⟨S, 0, none⟩), .int .i64 x] w (NextAny lo hi S A c l x w) := by
  unfold NextAny nextL
  cases hr : rdyO (look l x) with
  | none =>
    refine (next_none ⟨S, 0, none⟩ x w fun W hn => at_none _ x W fun W' hn' => find_none lo hi S A c l x W' ((h.nw hn).nw hn') hr).mono ?_
    rintro e w' ⟨rfl, hb⟩
    exact ⟨rfl, Upd.of_nw hb, h.nw hb⟩
  | some p =>
    obtain ⟨m, s⟩ := p
    obtain ⟨i, rfl, h1, h2⟩ := look_ready hr
    obtain ⟨R, rfl, k1, k2, -⟩ := h.row i m s h1
    refine (next_ready lo hi S R c l i m s w h h1 h2).mono ?_
    rintro e w' ⟨rfl, hu, hs⟩
    exact ⟨rfl, hu.mono fun k _ e => by subst e; exact ⟨k1, k2⟩, by simpa using hs⟩
def StayAny (lo hi S : Nat) (A : Option Addr) (c : Nat) (l : List Cl) (x : Int) (w : World) (e : Ending) (w' : World) : Prop :=
  e = .returned (.tuple #[]) ∧ Upd (fun k => lo ≤ k ∧ k < hi) w w' ∧ SI w' lo hi S A c (stayL l x)
theorem stay_any (lo hi S : Nat) (A : Option Addr) (c : Nat) (l : List Cl) (x : Int) (w : World) (h : SI w lo hi S A c l) :
    Calls Try.prog 10 #[.pointer (some ⟨S, 0, none⟩), .int .i64 x] w (StayAny lo hi S A c l x w) := by
  unfold StayAny stayL
  cases hr : rdyO (look l x) with
  | none =>
    refine (stay_none _ x w (find_none lo hi S A c l x w h hr)).mono ?_
    rintro e w' ⟨rfl, hb⟩
    exact ⟨rfl, Upd.of_nw hb, h.nw hb⟩
  | some p =>
    obtain ⟨m, s⟩ := p
    obtain ⟨i, rfl, h1, h2⟩ := look_ready hr
    obtain ⟨R, rfl, k1, k2, -⟩ := h.row i m s h1
    refine (stay_ready lo hi S R c l i m s w h h1 h2).mono ?_
    rintro e w' ⟨rfl, hu, hs⟩
    exact ⟨rfl, hu.mono fun k _ e => by subst e; exact ⟨k1, k2⟩, by simpa using hs⟩

/-- The law's calls. -/
structure Op where
  cl : Int
  stay : Bool
def OpsAt (w : World) (A : Option Addr) (os : List Op) : Prop := ∀ j (h : j < os.length), ∃ ad, A = some ad ∧ (ad.add (j * 2)).block < w.heap.size ∧ w.cell? (ad.add (j * 2)) = some (.int .i64 (os[j]'h).cl) ∧ w.cell? ⟨(ad.add (j * 2)).block, (ad.add (j * 2)).off + 1, none⟩ = some (.bool (os[j]'h).stay)
theorem OpsAt.nw {w w1 : World} {A : Option Addr} {fs : List Op} (h : OpsAt w A fs) (hb : Nw w w1) : OpsAt w1 A fs := fun j hj => by
  obtain ⟨ad, e, hp, h0, h1⟩ := h j hj
  exact ⟨ad, e, Nat.lt_of_lt_of_le hp hb.size, (hb.cell hp).trans h0, (hb.cell (p := ⟨(ad.add (j * 2)).block, (ad.add (j * 2)).off + 1, none⟩) hp).trans h1⟩
def fewB (a b : Nat) : Bool := decide (a ≤ 120) && decide (b ≤ 500)
theorem few_any (A B : Option Addr) (n c m d : Nat) (w : World) : Calls Try.prog 7 #[.slice A n c, .slice B m d] w fun e w' => e = .returned (.bool (fewB n m)) ∧ w = w' := by
  unfold fewB
  by_cases h1 : n ≤ 120
  · have h1' : decide ((n : Int) ≤ 120) = true := by simp; omega
    rw [decide_eq_true h1, Bool.true_and]
    have e : decide (m ≤ 500) = decide ((m : Int) ≤ 500) := by
      by_cases h : m ≤ 500
      · rw [decide_eq_true h, decide_eq_true (by omega)]
      · rw [decide_eq_false h, decide_eq_false (by omega)]
    rw [e]
    go_enter Try.func7, Try.ntmps7
    go_wp2
    go_ret
    exact ⟨rfl, rfl⟩
  · have h1' : decide ((n : Int) ≤ 120) = false := by simp; omega
    rw [decide_eq_false h1, Bool.false_and]
    go_enter Try.func7, Try.ntmps7
    go_wp2
    go_ret
    exact ⟨rfl, rfl⟩
end Go.Proofs.Ytemnopfcddcekaa
