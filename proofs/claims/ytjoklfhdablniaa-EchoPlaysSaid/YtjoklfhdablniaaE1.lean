/- A table of packets in memory; contracts of has, Put. -/
import Derived.Test.YtjoklfhdablniaaU
namespace Go.Proofs.Ytjoklfhdablniaa
open Go.RowKit

structure Pk where
  id : Int
  fl : Int
  ln : Int
  data : ByteArray
  fr : Int
  tag : Int
  loop : Bool
abbrev Pk.cells (p : Pk) : Array Value := #[.int .i64 p.id, .int .i64 p.fl, .int .i64 p.ln, .string p.data, .int .i64 p.fr, .int .i64 p.tag, .bool p.loop]
abbrev Pk.val (p : Pk) : Value := .agg #[.int .i64 p.id, .int .i64 p.fl, .int .i64 p.ln, .string p.data, .int .i64 p.fr, .int .i64 p.tag, .bool p.loop]
def Pk.zero : Pk := ⟨0, 0, 0, ⟨#[]⟩, 0, 0, false⟩
abbrev zval : Value := .agg #[.int .i64 0, .int .i64 0, .int .i64 0, .string ⟨#[]⟩, .int .i64 0, .int .i64 0, .bool false]
theorem zval_eq : zval = Pk.zero.val := rfl

/-- What stands in a place. -/
def PlaceIs (w : World) (N : Nat) (v : Option Value) : Option Pk → Prop
  | none => v = some (.pointer none)
  | some p => ∃ b, v = some (.pointer (some ⟨b, 0, none⟩)) ∧ b < N ∧ Blk w b 25 p.cells

/-- A table: its struct is block T, its row block C; all of it lies below N. -/
structure TInv (w : World) (N T C : Nat) (L : List (Option Pk)) : Prop where
  hN : N ≤ w.heap.size
  hT : T < N
  hC : C < N
  hdr : Blk w T 50 #[.slice (some ⟨C, 0, none⟩) L.length L.length]
  row : ∃ cur, Blk w C 52 cur ∧ cur.size = L.length ∧ ∀ i (h : i < L.length), PlaceIs w N (cur[i]?) (L[i]'h)

theorem PlaceIs.upd {S : Nat → Prop} {w w' : World} {N : Nat} {v : Option Value} {o : Option Pk} (h : PlaceIs w N v o) (hu : Upd S w w') (hs : ∀ k, k < N → Blk w k 25 (match o with | some p => p.cells | none => #[]) → ¬ S k) : PlaceIs w' N v o := by
  cases o with
  | none => exact h
  | some p =>
    obtain ⟨b, hv, hb, hk⟩ := h
    exact ⟨b, hv, hb, hk.upd hu (hs b hb hk)⟩

theorem TInv.upd {S : Nat → Prop} {w w' : World} {N T C : Nat} {L : List (Option Pk)} (h : TInv w N T C L) (hu : Upd S w w') (hs : ∀ k, k < N → ¬ S k) : TInv w' N T C L := by
  obtain ⟨cur, hc, hz, hp⟩ := h.row
  exact ⟨Nat.le_trans h.hN hu.size, h.hT, h.hC, h.hdr.upd hu (hs _ h.hT), cur, hc.upd hu (hs _ h.hC), hz, fun i hi => (hp i hi).upd hu fun k hk _ => hs k hk⟩
theorem TInv.nw {w w' : World} {N T C : Nat} {L : List (Option Pk)} (h : TInv w N T C L) (hb : Nw w w') : TInv w' N T C L :=
  h.upd (S := fun _ => False) (Upd.of_nw hb) fun _ _ x => x
theorem TInv.mono {w : World} {N M T C : Nat} {L : List (Option Pk)} (h : TInv w N T C L) (hm : N ≤ M) (hM : M ≤ w.heap.size) : TInv w M T C L := by
  obtain ⟨cur, hc, hz, hp⟩ := h.row
  refine ⟨hM, Nat.lt_of_lt_of_le h.hT hm, Nat.lt_of_lt_of_le h.hC hm, h.hdr, cur, hc, hz, fun i hi => ?_⟩
  have := hp i hi
  cases hL : L[i] with
  | none => rw [hL] at this; exact this
  | some p =>
    rw [hL] at this
    obtain ⟨b, hv, hb, hk⟩ := this
    exact ⟨b, hv, Nat.lt_of_lt_of_le hb hm, hk⟩

/-- A place is written. -/
theorem TInv.put {w : World} {N T C : Nat} {L : List (Option Pk)} (h : TInv w N T C L) (i : Nat) (hi : i < L.length) (o : Option Pk) (v : Value) (hv : PlaceIs w N (some v) o) :
    TInv (w.setCell ⟨C, i, none⟩ v) N T C (L.set i o) := by
  obtain ⟨cur, hc, hz, hp⟩ := h.row
  have hTC : T ≠ C := h.hdr.ne_ hc (by decide)
  have hu : Upd (fun k => k = C) w (w.setCell ⟨C, i, none⟩ v) := Upd.set1 w C i v
  refine ⟨by simpa [World.setCell] using h.hN, h.hT, h.hC, by rw [List.length_set]; exact h.hdr.upd hu hTC, cur.setIfInBounds i v, hc.set_ i v, by simp [hz], fun j hj => ?_⟩
  have hj' : j < L.length := by simpa using hj
  have key : ∀ (u : Option Value) (x : Option Pk), PlaceIs w N u x → PlaceIs (w.setCell ⟨C, i, none⟩ v) N u x := fun u x hx => by
    refine hx.upd hu fun k _ hk e => ?_
    exact absurd e (Blk.ne_ hk hc (by decide))
  by_cases e : i = j
  · subst e
    rw [Array.getElem?_setIfInBounds_self_of_lt (by omega)]
    simpa using key _ _ hv
  · rw [Array.getElem?_setIfInBounds_ne e, List.getElem_set_ne e]
    exact key _ _ (hp j hj')

theorem TInv.cells {w : World} {N T C : Nat} {L : List (Option Pk)} (h : TInv w N T C L) :
    w.cell? ⟨T, 0, none⟩ = some (.slice (some ⟨C, 0, none⟩) L.length L.length) := by rw [h.hdr.cell]; rfl
theorem TInv.at_ {w : World} {N T C : Nat} {L : List (Option Pk)} (h : TInv w N T C L) (i : Nat) (hi : i < L.length) : PlaceIs w N (w.cell? ⟨C, i, none⟩) (L[i]'hi) := by
  obtain ⟨cur, hc, _, hp⟩ := h.row
  rw [hc.cell]
  exact hp i hi
theorem TInv.none_ {w : World} {N T C : Nat} {L : List (Option Pk)} (h : TInv w N T C L) (i : Nat) (hi : L[i]? = some none) : w.cell? ⟨C, i, none⟩ = some (.pointer none) := by
  obtain ⟨hlt, e⟩ := List.getElem?_eq_some_iff.1 hi
  have := h.at_ i hlt
  rw [e] at this
  exact this
theorem TInv.some_ {w : World} {N T C : Nat} {L : List (Option Pk)} (h : TInv w N T C L) (i : Nat) (p : Pk) (hi : L[i]? = some (some p)) : ∃ b, w.cell? ⟨C, i, none⟩ = some (.pointer (some ⟨b, 0, none⟩)) ∧ b < N ∧ Blk w b 25 p.cells := by
  obtain ⟨hlt, e⟩ := List.getElem?_eq_some_iff.1 hi
  have := h.at_ i hlt
  rw [e] at this
  exact this
theorem TInv.unfrozen {w : World} {N T C : Nat} {L : List (Option Pk)} (h : TInv w N T C L) (i : Nat) : w.frozen? ⟨C, i, none⟩ = false := by
  obtain ⟨cur, hc, _⟩ := h.row
  exact hc.frozen i

theorem has_nil (x e : Int) (b : Bool) (w : World) : Calls Try.prog 16 #[.pointer none, .int .i64 x, .bool b, .int .i64 e] w fun r w' => r = .returned (.int .i64 1) ∧ w = w' := by
  go_enter Try.func16, Try.ntmps16
  go_wp2
  go_ret
  exact ⟨rfl, rfl⟩

set_option maxHeartbeats 800000 in
theorem has_out (N T C : Nat) (L : List (Option Pk)) (x e : Int) (b : Bool) (w : World) (h : TInv w N T C L) (hx : x < 0 ∨ (L.length : Int) ≤ x) :
    Calls Try.prog 16 #[.pointer (some ⟨T, 0, none⟩), .int .i64 x, .bool b, .int .i64 e] w fun r w' => r = .returned (.int .i64 2) ∧ w = w' := by
  have hc := h.cells
  rcases hx with hx | hx
  · go_enter Try.func16, Try.ntmps16
    go_wp2
    go_ret
    exact ⟨rfl, rfl⟩
  · have h0 : ¬ x < 0 := by omega
    go_enter Try.func16, Try.ntmps16
    go_wp2
    go_ret
    exact ⟨rfl, rfl⟩

/-- What has answers at a place that is there. -/
def hasR (empty : Bool) (b : Bool) (e : Int) : Int := if (empty != b) then e else 0
set_option maxHeartbeats 1600000 in
theorem has_in (N T C : Nat) (L : List (Option Pk)) (i : Nat) (o : Option Pk) (e : Int) (b : Bool) (w : World) (h : TInv w N T C L) (hi : L[i]? = some o) :
    Calls Try.prog 16 #[.pointer (some ⟨T, 0, none⟩), .int .i64 i, .bool b, .int .i64 e] w fun r w' => r = .returned (.int .i64 (hasR o.isNone b e)) ∧ w = w' := by
  have hc := h.cells
  have hlt := (List.getElem?_eq_some_iff.1 hi).1
  have h0 : ¬ ((i : Int) < 0) := by omega
  have h1 : ¬ (L.length ≤ i) := by omega
  have h1' : ¬ ((L.length : Int) ≤ (i : Int)) := by omega
  cases o with
  | none =>
    have hp := h.none_ i hi
    clear h hi
    generalize L.length = n at *
    cases b
    · go_enter Try.func16, Try.ntmps16
      go_wp2
      go_ret
      exact ⟨rfl, rfl⟩
    · go_enter Try.func16, Try.ntmps16
      go_wp2
      go_ret
      exact ⟨rfl, rfl⟩
  | some p =>
    obtain ⟨g, hp, _, _⟩ := h.some_ i p hi
    clear h hi
    generalize L.length = n at *
    cases b
    · go_enter Try.func16, Try.ntmps16
      go_wp2
      go_ret
      exact ⟨rfl, rfl⟩
    · go_enter Try.func16, Try.ntmps16
      go_wp2
      go_ret
      exact ⟨rfl, rfl⟩
end Go.Proofs.Ytjoklfhdablniaa
