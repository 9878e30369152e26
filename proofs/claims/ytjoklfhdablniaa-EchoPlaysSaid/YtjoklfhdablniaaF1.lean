/- Room, Same. -/
import Derived.Test.YtjoklfhdablniaaE9
namespace Go.Proofs.Ytjoklfhdablniaa
open Go.RowKit

theorem room_any (x : Int) (w : World) : Calls Try.prog 12 #[.int .i64 x] w fun e w' => e = .returned (.int .i64 (roomN x : Nat)) ∧ w = w' := by
  unfold roomN
  by_cases h1 : x < 1
  · rw [if_pos h1]
    go_enter Try.func12, Try.ntmps12
    go_wp2
    go_ret
    exact ⟨rfl, rfl⟩
  · rw [if_neg h1]
    by_cases h2 : x > 1000
    · rw [if_pos h2]
      go_enter Try.func12, Try.ntmps12
      go_wp2
      go_ret
      exact ⟨rfl, rfl⟩
    · rw [if_neg h2]
      go_enter Try.func12, Try.ntmps12
      go_wp2
      go_ret
      exact ⟨by show Ending.returned (.int .i64 x) = _; rw [show max x 0 = x by omega], rfl⟩

/-- Seven cells from a place on are a packet. -/
def PkAt (w : World) (g o : Nat) (p : Pk) : Prop :=
  w.cell? ⟨g, o, none⟩ = some (.int .i64 p.id) ∧ w.cell? ⟨g, o + 1, none⟩ = some (.int .i64 p.fl) ∧ w.cell? ⟨g, o + 2, none⟩ = some (.int .i64 p.ln) ∧ w.cell? ⟨g, o + 3, none⟩ = some (.string p.data) ∧
    w.cell? ⟨g, o + 4, none⟩ = some (.int .i64 p.fr) ∧ w.cell? ⟨g, o + 5, none⟩ = some (.int .i64 p.tag) ∧ w.cell? ⟨g, o + 6, none⟩ = some (.bool p.loop)
def PksAt (w : World) (A : Option Addr) (l : List Pk) : Prop := ∀ i p, l[i]? = some p → ∃ g, A = some ⟨g, 0, none⟩ ∧ PkAt w g (i * 7) p
theorem PksAt.drawn {w w' : World} {A : Option Addr} {l : List Pk} (h : PksAt w A l) (hd : Drawn w w') : PksAt w' A l := fun i p hp => by
  obtain ⟨g, rfl, hg⟩ := h i p hp
  refine ⟨g, rfl, ?_⟩
  unfold PkAt
  simp only [hd.cell]
  exact hg

def SamePost (w : World) (e : Ending) (w' : World) : Prop := e = .returned (.bool true) ∧ Drawn w w'

set_option maxHeartbeats 1600000 in
theorem same_any (l : List Pk) (A1 A2 : Option Addr) (c1 c2 : Nat) (w : World) (hl : l.length ≤ 1000) (h1 : PksAt w A1 l) (h2 : PksAt w A2 l) :
    Calls Try.prog 13 #[.slice A1 l.length c1, .slice A2 l.length c2] w (SamePost w) := by
  have H1 := Lib.hid h1
  have H2 := Lib.hid h2
  clear h1 h2
  have HGET := Lib.hid (fun i (h : i < l.length) => (⟨l[i], by simp [h]⟩ : ∃ p, l[i]? = some p))
  generalize hn : l.length = n at *
  clear hn
  go_enter Try.func13, Try.ntmps13
  go_wp2
  go_loopw [5] (fun i wr => ∃ k : Nat, k ≤ n ∧ i = .int .i64 k ∧ Hid (Drawn w wr)) (fun i _ => n - (intOf i).toNat)
  case atStart => exact ⟨0, Nat.zero_le _, rfl, Lib.hid (Drawn.refl w)⟩
  case round =>
    obtain ⟨k, hk, rfl, HD⟩ := hrel
    by_cases hlt : k < n
    · obtain ⟨p, hp⟩ := HGET.out k hlt
      obtain ⟨g1, rfl, hg1⟩ := (H1.out.drawn HD.out) k p hp
      obtain ⟨g2, rfl, hg2⟩ := (H2.out.drawn HD.out) k p hp
      obtain ⟨a0, a1, a2, a3, a4, a5, a6⟩ := hg1
      obtain ⟨b0, b1, b2, b3, b4, b5, b6⟩ := hg2
      have hnk : ¬ n ≤ k := by omega
      go_wp2
      go_region
      clear a0 a1 a2 a3 a4 a5 a6 b0 b1 b2 b3 b4 b5 b6
      have HD2 : Hid (Drawn w wr.drew) := HD.out.then_ 1
      clear HD
      generalize wr.drew = wd at *
      go_wp2
      go_roundw
      case rel => exact ⟨k + 1, by omega, by go_num, HD2⟩
      case measure => simp [intOf]; omega
    · go_wp2
      go_ret
      exact ⟨rfl, HD.out⟩
end Go.Proofs.Ytjoklfhdablniaa
