/- The walk of SchedNil. -/
import Derived.Test.YtemnopfcddcekaaS8
namespace Go.Proofs.Ytemnopfcddcekaa
open Go.RowKit

set_option maxHeartbeats 3000000 in
theorem schedNil_walk (n : Int) (w : World) : Calls Try.prog 6 #[.int .i64 n] w (TrueNw w) := by
  go_enter Try.func6, Try.ntmps6
  go_wp2_with fail
  refine (stay_none _ n _ (find_nil n _)).mono ?_
  rintro e w1 ⟨rfl, hb⟩
  have HN1 : Hid (Nw w w1) := hb
  clear hb
  go_wp2_with fail
  refine (next_nil n _).mono ?_
  rintro e w2 ⟨rfl, hb⟩
  have HN2 := Lib.hid (HN1.out.then_ (hb.then_ (nw_alloc w2 (.cells #[.int .i64 0, .int .i64 0, .int .i64 0] 32))))
  clear hb HN1
  go_wp2_with fail
  refine (at_none _ n _ (fun W _ => find_nil n W)).mono ?_
  rintro e w3 ⟨rfl, hb⟩
  have HN3 := Lib.hid (HN2.out.then_ (hb.then_ (nw_alloc w3 (.cells #[.int .i64 0, .int .i64 0, .int .i64 0] 32))))
  have k : ∀ o, w3.cell? ⟨w2.heap.size, o, none⟩ = (#[.int .i64 0, .int .i64 0, .int .i64 0] : Array Value)[o]? := fun o => by rw [hb.cell (p := ⟨w2.heap.size, o, none⟩) (by simp), alloc_cell_new rfl]
  have c0 := k 0
  have c1 := k 1
  have c2 := k 2
  have hz := hb.size
  simp at c0 c1 c2 hz
  have hlt : w2.heap.size < w3.heap.size := by omega
  clear k hb hz HN2
  go_wp2_with fail
  refine (ready_nil _).mono ?_
  rintro e w4 ⟨rfl, hb⟩
  have HN4 := Lib.hid (HN3.out.then_ hb)
  clear hb HN3 c0 c1 c2
  go_wp2_with fail
  refine (open_nil _).mono ?_
  rintro e w5 ⟨rfl, hb⟩
  have HN5 := Lib.hid (HN4.out.then_ hb)
  clear hb HN4
  go_wp2_with fail
  refine (over_nil _).mono ?_
  rintro e w6 ⟨rfl, hb⟩
  have HN6 := Lib.hid (HN5.out.then_ hb)
  clear hb HN5
  go_wp2_with fail
  refine (alive_any _).mono ?_
  rintro e w7 ⟨rfl, hb⟩
  have HN7 := Lib.hid (HN6.out.then_ hb)
  clear hb HN6
  go_wp2
  go_ret
  exact ⟨rfl, HN7.out⟩
end Go.Proofs.Ytemnopfcddcekaa
