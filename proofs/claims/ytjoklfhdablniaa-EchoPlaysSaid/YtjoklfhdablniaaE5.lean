/- The chapter's example. -/
import Derived.Test.YtjoklfhdablniaaE4
import Derived.Deep.RegionHeld3
namespace Go.Proofs.Ytjoklfhdablniaa
open Go.RowKit

theorem nw_upd {w a b : World} {C : Nat} (h : Nw w a) (hu : Upd (fun k => k = C) a b) (hC : w.heap.size ≤ C) : Nw w b :=
  h.trans (hu.below h.size fun k hk e => by omega)

set_option maxHeartbeats 1600000 in
theorem alive_any (w : World) : Calls Try.prog 6 #[] w (TrueNw w) := by
  go_enter Try.func6, Try.ntmps6
  go_wp2_with fail
  refine (new_any _ _).mono ?_
  rintro e w1 ⟨N, T, C, rfl, hb, hT, hC, hi⟩
  rw [show roomN 1 = 1 from rfl, show List.replicate 1 (none : Option Pk) = [none] from rfl] at hi
  have HI := Lib.hid hi
  have HU : Hid (Nw w w1) := hb
  have HC := Lib.hid hC
  clear hi hb hT hC
  go_wp2_with fail
  refine (packet_any _ _).mono ?_
  rintro e w2 ⟨rfl, hb⟩
  have HI2 := Lib.hid (HI.out.nw hb)
  have HU2 := Lib.hid (HU.out.then_ hb)
  clear hb HI HU
  go_wp2_with fail
  refine (put_ok N T C _ 0 ⟨0, 0, 0, ⟨#[]⟩, 0, 1, false⟩ _ HI2.out rfl).mono ?_
  rintro e w3 ⟨rfl, hu, M, hi⟩
  have HI3 := Lib.hid hi
  have HU3 := Lib.hid (nw_upd HU2.out hu HC.out)
  clear hu hi HI2 HU2
  go_wp2_with fail
  refine (packet_any _ _).mono ?_
  rintro e w4 ⟨rfl, hb⟩
  have HI4 := Lib.hid (HI3.out.nw hb)
  have HU4 := Lib.hid (HU3.out.then_ hb)
  clear hb HI3 HU3
  go_wp2_with fail
  refine (put_full M T C _ 0 ⟨0, 0, 0, ⟨#[]⟩, 0, 2, false⟩ _ _ HI4.out rfl).mono ?_
  rintro e w5 ⟨rfl, hb⟩
  have HI5 := Lib.hid (HI4.out.nw hb)
  have HU5 := Lib.hid (HU4.out.then_ hb)
  clear hb HI4 HU4
  go_wp2_with fail
  refine (get_some M T C _ 0 ⟨0, 0, 0, ⟨#[]⟩, 0, 1, false⟩ _ HI5.out rfl).mono ?_
  rintro e w6 ⟨rfl, hu, hi⟩
  have HI6 := Lib.hid (hi.nw (nw_alloc w6 (.cells #[.int .i64 0, .int .i64 0, .int .i64 0, .string ⟨#[]⟩, .int .i64 0, .int .i64 1, .bool false] 25)))
  have HU6 := Lib.hid ((nw_upd HU5.out hu HC.out).then_ (nw_alloc w6 (.cells #[.int .i64 0, .int .i64 0, .int .i64 0, .string ⟨#[]⟩, .int .i64 0, .int .i64 1, .bool false] 25)))
  clear hu hi HI5 HU5
  go_wp2_with fail
  refine (get_none M T C _ 0 _ HI6.out rfl).mono ?_
  rintro e w7 ⟨rfl, hb⟩
  have hc := hb.cell (p := ⟨w6.heap.size, 5, none⟩) (by simp)
  rw [alloc_cell_new rfl] at hc
  have hz := hb.size
  simp at hz
  have hz' : w6.heap.size < w7.heap.size := by omega
  have HU7 := Lib.hid (HU6.out.then_ hb)
  clear hb HI6 HU6 hz
  go_wp2
  go_ret
  exact ⟨rfl, HU7.out.then_ (nw_alloc _ _)⟩
end Go.Proofs.Ytjoklfhdablniaa
