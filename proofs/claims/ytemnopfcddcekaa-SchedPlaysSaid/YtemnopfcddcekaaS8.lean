/- The chapter's example. -/
import Derived.Test.YtemnopfcddcekaaS7
namespace Go.Proofs.Ytemnopfcddcekaa
open Go.RowKit

/-- What is new from w on may be written. -/
theorem nw_updR {w a b : World} {R : Nat} (h : Nw w a) (hu : Upd (fun k => k = R) a b) (hR : w.heap.size ≤ R) : Nw w b :=
  h.trans (hu.below h.size fun k hk e => by omega)
/-- A box's third cell. -/
structure Box3 (b : Nat) (p : Int) (w : World) : Prop where
  c : w.cell? ⟨b, 2, none⟩ = some (.int .i64 p)
  z : b < w.heap.size
theorem Box3.new (w : World) (x y : Int) (p : Int) : Box3 w.heap.size p (w.alloc (.cells #[.int .i64 x, .int .i64 y, .int .i64 p] 32)) := ⟨by rw [alloc_cell_new rfl]; rfl, by simp⟩
theorem Box3.upd {S : Nat → Prop} {b : Nat} {p : Int} {w w' : World} (h : Box3 b p w) (hu : Upd S w w') (hs : ¬ S b) : Box3 b p w' := ⟨(hu.cell h.z hs).trans h.c, Nat.lt_of_lt_of_le h.z hu.size⟩
theorem Box3.nw {b : Nat} {p : Int} {w w' : World} (h : Box3 b p w) (hu : Nw w w') : Box3 b p w' := h.upd (S := fun _ => False) (Upd.of_nw hu) (fun x => x)

set_option maxHeartbeats 6000000 in
theorem alive_any (w : World) : Calls Try.prog 8 #[] w (TrueNw w) := by
  have hA : IntsAt (w.alloc (.cells #[.int .i64 1] 3)) (some ⟨w.heap.size, 0, none⟩) [1] := fun j hj => by
    obtain rfl : j = 0 := by simpa using hj
    exact ⟨_, rfl, by simp [Addr.add], by rw [add_plain, alloc_cell_new rfl]; rfl⟩
  have HN := Lib.hid (new_any [1] (some ⟨w.heap.size, 0, none⟩) 1 _ hA (Nat.le_refl _))
  clear hA
  go_enter Try.func8, Try.ntmps8
  go_wp2_with fail
  refine HN.out.mono ?_
  clear HN
  rintro e w1 ⟨S, A, c, rfl, hb, hsi⟩
  rw [show newL [1] = [(1, 0)] from rfl] at hsi
  obtain ⟨R, rfl, hR, hR', -⟩ := hsi.row 0 1 0 rfl
  have HR : Hid (w.heap.size ≤ R ∧ R < w1.heap.size) := by unfold Hid; simp at hR; omega
  have HS1 := Lib.hid hsi
  have HN1 : Hid (Nw w w1) := (nw_alloc _ _).then_ hb
  clear hsi hb hR hR'
  go_wp2_with fail
  refine (next_ready _ _ S R c [(1, 0)] 0 1 0 _ HS1.out rfl (by decide)).mono ?_
  rintro e w2 ⟨rfl, hu, hs⟩
  rw [show [((1 : Nat), 0)].set 0 (1, 0 + 1) = [(1, 1)] from rfl] at hs
  have hz := hu.size
  have HS2 := Lib.hid (hs.nw (nw_alloc w2 (.cells #[.int .i64 0, .int .i64 0, .int .i64 1] 32)))
  have HN2 := Lib.hid ((nw_updR HN1.out hu HR.out.1).then_ (nw_alloc w2 (.cells #[.int .i64 0, .int .i64 0, .int .i64 1] 32)))
  have HZ2 : Hid (R < w2.heap.size) := by have := HR.out.2; unfold Hid; omega
  have HB2 := Lib.hid (Box3.new w2 0 0 1)
  clear hu hs hz HS1 HN1
  go_wp2_with fail
  refine (next_ready _ _ S R c [(1, 1)] 0 1 1 _ HS2.out rfl (by decide)).mono ?_
  rintro e w3 ⟨rfl, hu, hs⟩
  rw [show [((1 : Nat), 1)].set 0 (1, 1 + 1) = [(1, 2)] from rfl] at hs
  have hz := hu.size
  have HS3 := Lib.hid (hs.nw (nw_alloc w3 (.cells #[.int .i64 0, .int .i64 0, .int .i64 2] 32)))
  have HN3 := Lib.hid ((nw_updR HN2.out hu HR.out.1).then_ (nw_alloc w3 (.cells #[.int .i64 0, .int .i64 0, .int .i64 2] 32)))
  have HZ3 : Hid (R < w3.heap.size) := by have := HZ2.out; unfold Hid; simp at hz; omega
  have HB2' := Lib.hid ((HB2.out.upd hu (by show ¬ w2.heap.size = R; have := HZ2.out; omega)).nw (nw_alloc w3 (.cells #[.int .i64 0, .int .i64 0, .int .i64 2] 32)))
  clear HB2
  have HB2 := HB2'
  clear HB2'
  have HB3 := Lib.hid (Box3.new w3 0 0 2)
  clear hu hs hz HS2 HN2
  go_wp2_with fail
  refine (stay_ready _ _ S R c [(1, 2)] 0 1 2 _ HS3.out rfl (by decide)).mono ?_
  rintro e w4 ⟨rfl, hu, hs⟩
  rw [show [((1 : Nat), 2)].set 0 (1, stayS 2) = [(1, 1)] from rfl] at hs
  have hz := hu.size
  have HS4 := Lib.hid hs
  have HN4 := Lib.hid (nw_updR HN3.out hu HR.out.1)
  have HZ4 : Hid (R < w4.heap.size) := by have := HZ3.out; unfold Hid; simp at hz; omega
  have HB2' := Lib.hid (HB2.out.upd hu (by show ¬ w2.heap.size = R; have := HZ2.out; omega))
  have HB3' := Lib.hid (HB3.out.upd hu (by show ¬ w3.heap.size = R; have := HZ3.out; omega))
  clear HB2 HB3
  have HB2 := HB2'
  have HB3 := HB3'
  clear HB2' HB3' hu hs hz HS3 HN3
  go_wp2_with fail
  refine (next_ready _ _ S R c [(1, 1)] 0 1 1 _ HS4.out rfl (by decide)).mono ?_
  rintro e w5 ⟨rfl, hu, hs⟩
  rw [show [((1 : Nat), 1)].set 0 (1, 1 + 1) = [(1, 2)] from rfl] at hs
  have hz := hu.size
  have HS5 := Lib.hid (hs.nw (nw_alloc w5 (.cells #[.int .i64 0, .int .i64 0, .int .i64 2] 32)))
  have HN5 := Lib.hid ((nw_updR HN4.out hu HR.out.1).then_ (nw_alloc w5 (.cells #[.int .i64 0, .int .i64 0, .int .i64 2] 32)))
  have HZ5 : Hid (R < w5.heap.size) := by have := HZ4.out; unfold Hid; omega
  have HB2' := Lib.hid ((HB2.out.upd hu (by show ¬ w2.heap.size = R; have := HZ2.out; omega)).nw (nw_alloc w5 (.cells #[.int .i64 0, .int .i64 0, .int .i64 2] 32)))
  clear HB2
  have HB2 := HB2'
  clear HB2'
  have HB3' := Lib.hid ((HB3.out.upd hu (by show ¬ w3.heap.size = R; have := HZ3.out; omega)).nw (nw_alloc w5 (.cells #[.int .i64 0, .int .i64 0, .int .i64 2] 32)))
  clear HB3
  have HB3 := HB3'
  clear HB3'
  have HB5 := Lib.hid (Box3.new w5 0 0 2)
  clear hu hs hz HS4 HN4
  go_wp2_with fail
  refine (next_ready _ _ S R c [(1, 2)] 0 1 2 _ HS5.out rfl (by decide)).mono ?_
  rintro e w6 ⟨rfl, hu, hs⟩
  rw [show [((1 : Nat), 2)].set 0 (1, 2 + 1) = [(1, 3)] from rfl] at hs
  have hz := hu.size
  have HS6 := Lib.hid (hs.nw (nw_alloc w6 (.cells #[.int .i64 0, .int .i64 0, .int .i64 3] 32)))
  have HN6 := Lib.hid ((nw_updR HN5.out hu HR.out.1).then_ (nw_alloc w6 (.cells #[.int .i64 0, .int .i64 0, .int .i64 3] 32)))
  have HZ6 : Hid (R < w6.heap.size) := by have := HZ5.out; unfold Hid; simp at hz; omega
  have HB2' := Lib.hid ((HB2.out.upd hu (by show ¬ w2.heap.size = R; have := HZ2.out; omega)).nw (nw_alloc w6 (.cells #[.int .i64 0, .int .i64 0, .int .i64 3] 32)))
  clear HB2
  have HB2 := HB2'
  clear HB2'
  have HB3' := Lib.hid ((HB3.out.upd hu (by show ¬ w3.heap.size = R; have := HZ3.out; omega)).nw (nw_alloc w6 (.cells #[.int .i64 0, .int .i64 0, .int .i64 3] 32)))
  clear HB3
  have HB3 := HB3'
  clear HB3'
  have HB5' := Lib.hid ((HB5.out.upd hu (by show ¬ w5.heap.size = R; have := HZ5.out; omega)).nw (nw_alloc w6 (.cells #[.int .i64 0, .int .i64 0, .int .i64 3] 32)))
  clear HB5
  have HB5 := HB5'
  clear HB5'
  have HB6 := Lib.hid (Box3.new w6 0 0 3)
  clear hu hs hz HS5 HN5
  go_wp2_with fail
  refine (next_none _ 0 _ (fun W hn => at_none _ 0 W (fun W' hn' => find_done _ _ S _ c [(1, 3)] 0 1 3 W' ((HS6.out.nw hn).nw hn') rfl (by decide)))).mono ?_
  rintro e w7 ⟨rfl, hb⟩
  have hb' := hb.then_ (nw_alloc w7 (.cells #[.int .i64 0, .int .i64 0, .int .i64 0] 32))
  have HS7 := Lib.hid (HS6.out.nw hb')
  have HN7 := Lib.hid (HN6.out.then_ hb')
  have B2 := HB2.out.nw hb
  have B3 := HB3.out.nw hb
  have B5 := HB5.out.nw hb
  have B6 := HB6.out.nw hb
  obtain ⟨c2, z2⟩ := B2
  obtain ⟨c3, z3⟩ := B3
  obtain ⟨c5, z5⟩ := B5
  obtain ⟨c6, z6⟩ := B6
  clear hb hb' HS6 HN6 HB2 HB3 HB5 HB6
  go_wp2_with fail
  refine (over_any _ _ S _ c _ _ HS7.out).mono ?_
  rintro e w8 ⟨rfl, hb⟩
  rw [show overB [(1, 3)] = true from rfl]
  have HN8 := Lib.hid (HN7.out.then_ hb)
  clear hb c2 c3 c5 c6
  go_wp2
  go_ret
  exact ⟨rfl, HN8.out⟩
end Go.Proofs.Ytemnopfcddcekaa
