/- The walk of EchoApart. -/
import Derived.Test.YtjoklfhdablniaaE6
import Derived.Deep.RegionWith
namespace Go.Proofs.Ytjoklfhdablniaa
open Go.RowKit

set_option maxHeartbeats 1600000 in
theorem echoApart_out (many i k : Int) (p q : Pk) (w : World)
    (h : many < 1 ∨ (1 ≤ many ∧ 100 < many) ∨ (1 ≤ many ∧ many ≤ 100 ∧ i < 0) ∨ (1 ≤ many ∧ many ≤ 100 ∧ 0 ≤ i ∧ k < 0) ∨ (1 ≤ many ∧ many ≤ 100 ∧ 0 ≤ i ∧ 0 ≤ k ∧ many ≤ i) ∨
      (1 ≤ many ∧ many ≤ 100 ∧ 0 ≤ i ∧ 0 ≤ k ∧ i < many ∧ many ≤ k) ∨ (1 ≤ many ∧ many ≤ 100 ∧ 0 ≤ i ∧ i < many ∧ i = k)) :
    Calls Try.prog 3 #[.int .i64 many, .int .i64 i, .int .i64 k, p.val, q.val] w (TrueNw w) := by
  rcases h with h | ⟨h1, h2⟩ | ⟨h1, h2, h3⟩ | ⟨h1, h2, h3, h4⟩ | ⟨h1, h2, h3, h4, h5⟩ | ⟨h1, h2, h3, h4, h5, h6⟩ | ⟨h1, h2, h3, h4, rfl⟩
  all_goals
    go_enter Try.func3, Try.ntmps3
    go_wp2_with fail
    refine (alive_any _).mono ?_
    rintro e w1 ⟨rfl, hb⟩
    go_wp2
    go_ret
    exact ⟨rfl, ((nw_alloc w _).then_ (nw_alloc _ _)).then_ hb⟩

def pkCells (w : World) (b : Nat) (p : Pk) : Prop :=
    w.cell? ⟨b, 0, none⟩ = some (.int .i64 p.id) ∧ w.cell? ⟨b, 1, none⟩ = some (.int .i64 p.fl) ∧ w.cell? ⟨b, 2, none⟩ = some (.int .i64 p.ln) ∧ w.cell? ⟨b, 3, none⟩ = some (.string p.data) ∧
      w.cell? ⟨b, 4, none⟩ = some (.int .i64 p.fr) ∧ w.cell? ⟨b, 5, none⟩ = some (.int .i64 p.tag) ∧ w.cell? ⟨b, 6, none⟩ = some (.bool p.loop)

theorem pkCells_upd {C : Nat} {w w' : World} {b : Nat} {p : Pk} (hu : Upd (fun k => k = C) w w') (hb : b < w.heap.size) (hne : b ≠ C) (h : pkCells w b p) : pkCells w' b p := by
  obtain ⟨h0, h1, h2, h3, h4, h5, h6⟩ := h
  exact ⟨(hu.cell hb hne).trans h0, (hu.cell hb hne).trans h1, (hu.cell hb hne).trans h2, (hu.cell hb hne).trans h3, (hu.cell hb hne).trans h4, (hu.cell hb hne).trans h5, (hu.cell hb hne).trans h6⟩
theorem both_flat {w : World} {b b' : Nat} {p q : Pk} (h : pkCells w b p) (k : pkCells w b' q) :
    w.cell? ⟨b, 0, none⟩ = some (.int .i64 p.id) ∧ w.cell? ⟨b, 1, none⟩ = some (.int .i64 p.fl) ∧ w.cell? ⟨b, 2, none⟩ = some (.int .i64 p.ln) ∧ w.cell? ⟨b, 3, none⟩ = some (.string p.data) ∧ w.cell? ⟨b, 4, none⟩ = some (.int .i64 p.fr) ∧ w.cell? ⟨b, 5, none⟩ = some (.int .i64 p.tag) ∧ w.cell? ⟨b, 6, none⟩ = some (.bool p.loop) ∧ w.cell? ⟨b', 0, none⟩ = some (.int .i64 q.id) ∧ w.cell? ⟨b', 1, none⟩ = some (.int .i64 q.fl) ∧ w.cell? ⟨b', 2, none⟩ = some (.int .i64 q.ln) ∧ w.cell? ⟨b', 3, none⟩ = some (.string q.data) ∧ w.cell? ⟨b', 4, none⟩ = some (.int .i64 q.fr) ∧ w.cell? ⟨b', 5, none⟩ = some (.int .i64 q.tag) ∧ w.cell? ⟨b', 6, none⟩ = some (.bool q.loop) :=
  ⟨h.1, h.2.1, h.2.2.1, h.2.2.2.1, h.2.2.2.2.1, h.2.2.2.2.2.1, h.2.2.2.2.2.2, k.1, k.2.1, k.2.2.1, k.2.2.2.1, k.2.2.2.2.1, k.2.2.2.2.2.1, k.2.2.2.2.2.2⟩

set_option maxHeartbeats 4000000 in
theorem echoApart_in (many i k : Nat) (p q : Pk) (w : World) (h1 : 1 ≤ many) (h2 : many ≤ 100) (hi : i < many) (hk : k < many) (hne : i ≠ k) :
    Calls Try.prog 3 #[.int .i64 many, .int .i64 i, .int .i64 k, p.val, q.val] w (TrueNw w) := by
  have hb : ((i : Int) == (k : Int)) = false := by rw [beq_eq_false_iff_ne]; omega
  have hroom : roomN (many : Int) = many := by
    unfold roomN
    rw [if_neg (by omega), if_neg (by omega)]
    omega
  have HRM := Lib.hid hroom
  have HNE := Lib.hid hne
  clear hroom hne
  go_enter Try.func3, Try.ntmps3
  go_wp2_with fail
  refine (new_any _ _).mono ?_
  rintro e w1 ⟨N, T, C, rfl, hb1, hT, hC, hin⟩
  have hbp := (Blk.nw (Blk.new w 25 p.cells) (nw_alloc _ (.cells q.cells 25))).nw hb1
  have hbq := Blk.nw (Blk.new (w.alloc (.cells p.cells 25)) 25 q.cells) hb1
  rw [World.size_alloc] at hbq
  rw [HRM.out] at hin
  have hzz : w.heap.size + 2 ≤ C := by simpa using hC
  have HI := Lib.hid hin
  have HU : Hid (Nw w w1) := ((nw_alloc w (.cells p.cells 25)).then_ (nw_alloc _ (.cells q.cells 25))).then_ hb1
  have HC := Lib.hid hzz
  have HBP := Lib.hid hbp
  have HBQ := Lib.hid hbq
  clear hin hb1 hT hC hzz hbp hbq
  obtain ⟨p0, p1, p2, p3, p4, p5, p6⟩ := pk_cells HBP.out
  obtain ⟨q0, q1, q2, q3, q4, q5, q6⟩ := pk_cells HBQ.out
  go_wp2_with fail
  have hC0 : w.heap.size ≠ C := by have := HC.out; omega
  have hC1 : w.heap.size + 1 ≠ C := by have := HC.out; omega
  have hB0 : Hid (w.heap.size < w1.drew.heap.size) := HBP.out.lt
  have hB1 : Hid (w.heap.size + 1 < w1.drew.heap.size) := HBQ.out.lt
  have HP0 : Hid (pkCells w1.drew w.heap.size p) := pk_cells HBP.out
  have HQ0 : Hid (pkCells w1.drew (w.heap.size + 1) q) := pk_cells HBQ.out
  have FL0 := Lib.hid (both_flat HP0.out HQ0.out)
  have HID : Hid (TInv w1.drew N T C (List.replicate many none)) := HI.out.nw (nw_drew _)
  have HL1 : Hid ((List.replicate many (none : Option Pk))[i]? = some none) := by unfold Hid; simp [hi]
  have HL2 : Hid (((List.replicate many (none : Option Pk)).set i (some p))[k]? = some none) := by unfold Hid; rw [List.getElem?_set_ne HNE.out]; simp [hk]
  go_region_held3 (fun w' => w'.cell? ⟨w.heap.size, 0, none⟩ = some (.int .i64 p.id) ∧ w'.cell? ⟨w.heap.size, 1, none⟩ = some (.int .i64 p.fl) ∧ w'.cell? ⟨w.heap.size, 2, none⟩ = some (.int .i64 p.ln) ∧ w'.cell? ⟨w.heap.size, 3, none⟩ = some (.string p.data) ∧ w'.cell? ⟨w.heap.size, 4, none⟩ = some (.int .i64 p.fr) ∧ w'.cell? ⟨w.heap.size, 5, none⟩ = some (.int .i64 p.tag) ∧ w'.cell? ⟨w.heap.size, 6, none⟩ = some (.bool p.loop) ∧ w'.cell? ⟨w.heap.size + 1, 0, none⟩ = some (.int .i64 q.id) ∧ w'.cell? ⟨w.heap.size + 1, 1, none⟩ = some (.int .i64 q.fl) ∧ w'.cell? ⟨w.heap.size + 1, 2, none⟩ = some (.int .i64 q.ln) ∧ w'.cell? ⟨w.heap.size + 1, 3, none⟩ = some (.string q.data) ∧ w'.cell? ⟨w.heap.size + 1, 4, none⟩ = some (.int .i64 q.fr) ∧ w'.cell? ⟨w.heap.size + 1, 5, none⟩ = some (.int .i64 q.tag) ∧ w'.cell? ⟨w.heap.size + 1, 6, none⟩ = some (.bool q.loop))
    (first | with_reducible exact FL0.out | with_reducible exact both_flat (pkCells_upd (hu1.trans hu2) hB0.out hC0 HP0.out) (pkCells_upd (hu1.trans hu2) hB1.out hC1 HQ0.out) | with_reducible exact both_flat (pkCells_upd hu1 hB0.out hC0 HP0.out) (pkCells_upd hu1 hB1.out hC1 HQ0.out))
    (first
      | (go_at_call_of 8 (p.data); refine (put_ok N T C (List.replicate many none) i p _ (by with_reducible exact HID.out) HL1.out).mono ?_; rintro e w2 ⟨rfl, hu1, M1, hi1⟩)
      | (go_at_call_of 8 (q.data); refine (put_ok M1 T C _ k q _ (by with_reducible exact hi1) HL2.out).mono ?_; rintro e w3 ⟨rfl, hu2, M2, hi2⟩))
  have HI3 := Lib.hid hi2
  have HD : Hid (Upd (fun k => k = C) w1 w3) := ((Upd.refl _ w1).drew).trans (hu1.trans hu2)
  have HU3 := Lib.hid (nw_upd HU.out HD.out (by have := HC.out; omega : w.heap.size ≤ C))
  have HBP3 := Lib.hid (HBP.out.upd HD.out hC0)
  have HBQ3 := Lib.hid (HBQ.out.upd HD.out hC1)
  clear hi2 hi1 hu1 hu2 p0 p1 p2 p3 p4 p5 p6 q0 q1 q2 q3 q4 q5 q6 HD HU HBP HBQ HI HID HP0 HQ0 FL0 HL1 HL2 hB0 hB1 HRM
  generalize hL0 : ((List.replicate many (none : Option Pk)).set i (some p)).set k (some q) = L at *
  have e1 : L[i]? = some (some p) := by rw [← hL0, List.getElem?_set_ne (Ne.symm HNE.out)]; simp [hi]
  have e2 : (L.set i none)[k]? = some (some q) := by rw [List.getElem?_set_ne HNE.out, ← hL0]; simp [hk]
  have e3 : cntL ((L.set i none).set k none) ((L.set i none).set k none).length = 0 := by
    have : (L.set i none).set k none = List.replicate many none := by
      apply List.ext_getElem?
      intro j
      rw [← hL0]
      by_cases hjk : k = j
      · subst hjk
        simp [hk]
      · by_cases hji : i = j
        · subst hji
          rw [List.getElem?_set_ne hjk]
          simp [hi]
        · rw [List.getElem?_set_ne hjk, List.getElem?_set_ne hji, List.getElem?_set_ne hjk, List.getElem?_set_ne hji]
    rw [this]
    simp [cntL]
  have e4 : ((L.set i none).set k none).length ≤ 1000 := by rw [← hL0]; simp; omega
  have E1 := Lib.hid e1
  have E2 := Lib.hid e2
  have E3 := Lib.hid e3
  have E4 := Lib.hid e4
  clear e1 e2 e3 e4 hL0
  go_wp2_with fail
  refine (get_some M2 T C L i p _ HI3.out E1.out).mono ?_
  rintro e w4 ⟨rfl, hu, hI⟩
  have HI4 := Lib.hid (hI.nw (nw_alloc w4 (.cells p.cells 25)))
  have HU4 := Lib.hid ((nw_upd HU3.out hu (by have := HC.out; omega : w.heap.size ≤ C)).then_ (nw_alloc w4 (.cells p.cells 25)))
  have HBP4 := Lib.hid ((HBP3.out.upd hu hC0).nw (nw_alloc w4 (.cells p.cells 25)))
  have HBQ4 := Lib.hid ((HBQ3.out.upd hu hC1).nw (nw_alloc w4 (.cells p.cells 25)))
  have HX4 := Lib.hid (Blk.new w4 25 p.cells)
  clear hu hI HI3 HU3 HBP3 HBQ3
  go_wp2_with fail
  refine (peek_some M2 T C (L.set i none) k q _ HI4.out E2.out).mono ?_
  rintro e w5 ⟨rfl, hb⟩
  have hb2 := hb.then_ (nw_alloc w5 (.cells q.cells 25))
  have HI5 := Lib.hid (HI4.out.nw hb2)
  have HU5 := Lib.hid (HU4.out.then_ hb2)
  have HBP5 := Lib.hid (HBP4.out.nw hb2)
  have HBQ5 := Lib.hid (HBQ4.out.nw hb2)
  have HX5 := Lib.hid (HX4.out.nw hb2)
  have HY5 := Lib.hid (Blk.new w5 25 q.cells)
  clear hb hb2 HI4 HU4 HBP4 HBQ4 HX4
  go_wp2_with fail
  refine (get_some M2 T C (L.set i none) k q _ HI5.out E2.out).mono ?_
  rintro e w6 ⟨rfl, hu, hI⟩
  have HI6 := Lib.hid (hI.nw (nw_alloc w6 (.cells q.cells 25)))
  have HU6 := Lib.hid ((nw_upd HU5.out hu (by have := HC.out; omega : w.heap.size ≤ C)).then_ (nw_alloc w6 (.cells q.cells 25)))
  have hCX : w4.heap.size ≠ C := fun e => by
    obtain ⟨cur, hc, _⟩ := HI5.out.row
    exact HX5.out.ne_ hc (by decide) e
  have hCY : w5.heap.size ≠ C := fun e => by
    obtain ⟨cur, hc, _⟩ := HI5.out.row
    exact HY5.out.ne_ hc (by decide) e
  have hp := HBP5.out.upd hu hC0
  have hq := HBQ5.out.upd hu hC1
  have hx := HX5.out.upd hu hCX
  have hy := HY5.out.upd hu hCY
  have l1 := hp.lt
  have l2 := hq.lt
  have l3 := hx.lt
  have l4 := hy.lt
  obtain ⟨p0, p1, p2, p3, p4, p5, p6⟩ := pk_cells hp
  obtain ⟨q0, q1, q2, q3, q4, q5, q6⟩ := pk_cells hq
  obtain ⟨x0, x1, x2, x3, x4, x5, x6⟩ := pk_cells hx
  obtain ⟨y0, y1, y2, y3, y4, y5, y6⟩ := pk_cells hy
  clear hu hI HI5 HU5 HBP5 HBQ5 HX5 HY5 hp hq hx hy hCX hCY hC0 hC1
  go_wp2_with fail
  refine (len_any M2 T C _ _ HI6.out E4.out).mono ?_
  rintro e w7 ⟨rfl, hb⟩
  rw [E3.out]
  have HU7 := Lib.hid (HU6.out.then_ hb)
  clear hb HI6 HU6 p0 p1 p2 p3 p4 p5 p6 q0 q1 q2 q3 q4 q5 q6 x0 x1 x2 x3 x4 x5 x6 y0 y1 y2 y3 y4 y5 y6
  go_wp2_with fail
  refine (alive_any _).mono ?_
  rintro e w8 ⟨rfl, hb⟩
  have HU8 := Lib.hid (HU7.out.then_ hb)
  clear hb HU7
  go_wp2
  go_ret
  exact ⟨rfl, HU8.out⟩

theorem echoApart_walk (many i k : Int) (p q : Pk) (w : World) : Calls Try.prog 3 #[.int .i64 many, .int .i64 i, .int .i64 k, p.val, q.val] w (TrueNw w) := by
  by_cases h : 1 ≤ many ∧ many ≤ 100 ∧ 0 ≤ i ∧ 0 ≤ k ∧ i < many ∧ k < many ∧ i ≠ k
  · obtain ⟨h1, h2, h3, h4, h5, h6, h7⟩ := h
    obtain ⟨m, rfl⟩ := Int.eq_ofNat_of_zero_le (show 0 ≤ many by omega)
    obtain ⟨a, rfl⟩ := Int.eq_ofNat_of_zero_le h3
    obtain ⟨b, rfl⟩ := Int.eq_ofNat_of_zero_le h4
    exact echoApart_in m a b p q w (by omega) (by omega) (by omega) (by omega) (by omega)
  · exact echoApart_out many i k p q w (by omega)
end Go.Proofs.Ytjoklfhdablniaa
