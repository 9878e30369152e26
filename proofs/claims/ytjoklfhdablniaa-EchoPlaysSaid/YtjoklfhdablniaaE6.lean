/- The walk of EchoNil. -/
import Derived.Test.YtjoklfhdablniaaE5
namespace Go.Proofs.Ytjoklfhdablniaa
open Go.RowKit

theorem blk_zero {w : World} {b : Nat} (h : Blk w b 25 Pk.zero.cells) :
    w.cell? ⟨b, 0, none⟩ = some (.int .i64 0) ∧ w.cell? ⟨b, 1, none⟩ = some (.int .i64 0) ∧ w.cell? ⟨b, 2, none⟩ = some (.int .i64 0) ∧ w.cell? ⟨b, 3, none⟩ = some (.string ⟨#[]⟩) ∧
      w.cell? ⟨b, 4, none⟩ = some (.int .i64 0) ∧ w.cell? ⟨b, 5, none⟩ = some (.int .i64 0) ∧ w.cell? ⟨b, 6, none⟩ = some (.bool false) := pk_cells h

set_option maxHeartbeats 1600000 in
theorem echoNil_walk (n : Int) (p : Pk) (w : World) : Calls Try.prog 5 #[.int .i64 n, p.val] w (TrueNw w) := by
  go_enter Try.func5, Try.ntmps5
  go_wp2_with fail
  refine (get_nil _ _).mono ?_
  rintro e w1 ⟨rfl, hb⟩
  have HP := Lib.hid (Blk.nw (Blk.new w 25 p.cells) hb)
  have HU1 := Lib.hid (Nw.then_ (nw_alloc w (.cells p.cells 25)) hb)
  clear hb
  go_wp2_with fail
  refine (peek_nil _ _).mono ?_
  rintro e w2 ⟨rfl, hb⟩
  have HX := Lib.hid (Blk.nw (Blk.new w1 25 Pk.zero.cells) hb)
  have HU2 := Lib.hid ((HU1.out.then_ (nw_alloc w1 (.cells Pk.zero.cells 25))).then_ hb)
  have HP2 := Lib.hid (HP.out.nw ((nw_alloc w1 (.cells Pk.zero.cells 25)).then_ hb))
  obtain ⟨p0, p1, p2, p3, p4, p5, p6⟩ := pk_cells HP2.out
  have hlt := HP2.out.lt
  clear hb HU1 HP
  go_wp2_with fail
  refine (put_nil _ p _).mono ?_
  rintro e w3 ⟨rfl, hb⟩
  have HU3 := Lib.hid ((HU2.out.then_ (nw_alloc w2 (.cells Pk.zero.cells 25))).then_ hb)
  have HX3 := Lib.hid (HX.out.nw ((nw_alloc w2 (.cells Pk.zero.cells 25)).then_ hb))
  have HY3 := Lib.hid (Blk.nw (Blk.new w2 25 Pk.zero.cells) hb)
  clear hb HU2 p0 p1 p2 p3 p4 p5 p6 hlt HP2 HX
  obtain ⟨x0, x1, x2, x3, x4, x5, x6⟩ := blk_zero HX3.out
  obtain ⟨y0, y1, y2, y3, y4, y5, y6⟩ := blk_zero HY3.out
  go_wp2_with fail
  refine (len_nil _).mono ?_
  rintro e w4 ⟨rfl, hb⟩
  have HU4 := Lib.hid (HU3.out.then_ hb)
  clear hb HU3 HX3 HY3 x0 x1 x2 x3 x4 x5 x6 y0 y1 y2 y3 y4 y5 y6
  go_wp2_with fail
  refine (flush_nil _).mono ?_
  rintro e w5 ⟨rfl, hb⟩
  have HU5 := Lib.hid (HU4.out.then_ hb)
  clear hb HU4
  go_wp2_with fail
  refine (alive_any _).mono ?_
  rintro e w6 ⟨rfl, hb⟩
  have HU6 := Lib.hid (HU5.out.then_ hb)
  clear hb HU5
  go_wp2
  go_ret
  exact ⟨rfl, HU6.out⟩
end Go.Proofs.Ytjoklfhdablniaa
