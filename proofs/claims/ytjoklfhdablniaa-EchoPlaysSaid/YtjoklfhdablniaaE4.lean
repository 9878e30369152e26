/- Contracts of Len, New, packet; the walks of EchoNil and EchoApart. -/
import Derived.Test.YtjoklfhdablniaaE3
namespace Go.Proofs.Ytjoklfhdablniaa
open Go.RowKit

/-- How many of the first places are not empty. -/
def cntL (L : List (Option Pk)) (k : Nat) : Nat := (L.take k).countP Option.isSome
theorem cntL_succ (L : List (Option Pk)) (k : Nat) (o : Option Pk) (h : L[k]? = some o) : cntL L (k + 1) = cntL L k + if o.isSome then 1 else 0 := by
  obtain ⟨hlt, e⟩ := List.getElem?_eq_some_iff.1 h
  unfold cntL
  rw [List.take_succ_eq_append_getElem hlt, List.countP_append, e]
  cases o <;> simp
theorem cntL_le (L : List (Option Pk)) (k : Nat) : cntL L k ≤ k := by
  unfold cntL
  exact Nat.le_trans List.countP_le_length (by simp; omega)

set_option maxHeartbeats 800000 in
theorem len1_any (i : Int) (p : Pk) (Bn n : Nat) (w : World) (hn : w.cell? ⟨Bn, 0, none⟩ = some (.int .i64 n)) (hf : w.frozen? ⟨Bn, 0, none⟩ = false) (hB : Bn < w.heap.size) (hb : n ≤ 1000) :
    Calls Try.prog 18 #[.int .i64 i, p.val, .pointer (some ⟨Bn, 0, none⟩)] w fun e w' => e = .returned (.tuple #[]) ∧ w' = (w.setCell ⟨Bn, 0, none⟩ (.int .i64 ((n + 1 : Nat) : Int))).alloc (.cells p.cells 25) := by
  go_enter Try.func18, Try.ntmps18
  go_wp2
  go_end0
  exact ⟨rfl, by rw [show ((n + 1 : Nat) : Int) = (n : Int) + 1 from by omega]⟩

structure LenInv (w : World) (Bn : Nat) (L : List (Option Pk)) (i : Nat) (W : World) : Prop where
  n : W.cell? ⟨Bn, 0, none⟩ = some (.int .i64 (cntL L i : Nat))
  f : W.frozen? ⟨Bn, 0, none⟩ = false
  lt : Bn < W.heap.size
  nw : Nw w W

set_option maxHeartbeats 1600000 in
theorem len_any (N T C : Nat) (L : List (Option Pk)) (w : World) (h : TInv w N T C L) (hL : L.length ≤ 1000) :
    Calls Try.prog 11 #[.pointer (some ⟨T, 0, none⟩)] w fun e w' => e = .returned (.int .i64 (cntL L L.length : Nat)) ∧ Nw w w' := by
  have H := Lib.hid h
  clear h
  go_enter Try.func11, Try.ntmps11
  go_wp2_with fail
  refine (each18 _ T C L.length (fun _ => L) _ (LenInv w w.heap.size L) hL (fun _ _ => rfl) ?_ ?_ ?_ ?_ ?_).mono ?_
  · exact fun i W _ hi => ⟨N, H.out.nw hi.nw⟩
  · exact fun i W W' hi hb => ⟨(hb.cell (p := ⟨w.heap.size, 0, none⟩) hi.lt).trans hi.n, (hb.frozen (p := ⟨w.heap.size, 0, none⟩) hi.lt).trans hi.f, Nat.lt_of_lt_of_le hi.lt hb.size, hi.nw.then_ hb⟩
  · exact fun i W _ hi hx => ⟨by rw [cntL_succ L i none hx]; exact hi.n, hi.f, hi.lt, hi.nw⟩
  · intro i W p hlt hi hx
    have hle := cntL_le L i
    refine (len1_any i p _ _ W hi.n hi.f hi.lt (by omega)).mono ?_
    rintro e W' ⟨rfl, rfl⟩
    refine ⟨rfl, ?_, ?_, by simp [World.setCell]; exact Nat.lt_succ_of_lt hi.lt, ?_⟩
    · rw [World.cell?_alloc_past _ _ _ (by simpa [World.setCell] using hi.lt), cell_set_same hi.n, cntL_succ L i (some p) hx]
      rfl
    · rw [World.frozen?_alloc_past _ _ _ (by simpa [World.setCell] using hi.lt)]
      exact (World.frozen?_setCell ..).trans hi.f
    · exact ((hi.nw.setCell (p := ⟨w.heap.size, 0, none⟩) (Nat.le_refl _) _)).alloc (by simpa [World.setCell] using hi.nw.size) _
  · exact ⟨by rw [alloc_cell_new rfl]; rfl, World.frozen?_alloc_at _ _ _ _ rfl, by simp, nw_alloc _ _⟩
  · rintro e w1 ⟨rfl, hi⟩
    have h1 := hi.n
    have HN := Lib.hid hi.nw
    clear hi
    go_wp2
    go_ret
    exact ⟨rfl, HN.out⟩

theorem each_nil (v : Value) (w : World) : Calls Try.prog 17 #[.pointer none, v] w fun e w' => e = .returned (.tuple #[]) ∧ w = w' := by
  go_enter Try.func17, Try.ntmps17
  go_wp2
  exact bodyPost_ret (results_none rfl _ _ _) rfl ⟨rfl, rfl⟩
theorem len_nil (w : World) : Calls Try.prog 11 #[.pointer none] w fun e w' => e = .returned (.int .i64 0) ∧ Nw w w' := by
  go_enter Try.func11, Try.ntmps11
  go_wp2_with fail
  refine (each_nil _ _).mono ?_
  rintro e w1 ⟨rfl, rfl⟩
  go_wp2
  go_ret
  exact ⟨rfl, nw_alloc _ _⟩
theorem flush_nil (w : World) : Calls Try.prog 14 #[.pointer none] w fun e w' => e = .returned (.slice none 0 0) ∧ Nw w w' := by
  go_enter Try.func14, Try.ntmps14
  go_wp2_with fail
  refine (each_nil _ _).mono ?_
  rintro e w1 ⟨rfl, rfl⟩
  go_wp2
  go_ret
  exact ⟨rfl, (nw_alloc _ _).then_ (nw_alloc _ _)⟩
theorem packet_any (n : Int) (w : World) : Calls Try.prog 15 #[.int .i64 n] w fun e w' => e = .returned (Pk.val ⟨0, 0, 0, ⟨#[]⟩, 0, n, false⟩) ∧ Nw w w' := by
  go_enter Try.func15, Try.ntmps15
  go_wp2
  exact bodyPost_ret (v := Pk.val ⟨0, 0, 0, ⟨#[]⟩, 0, n, false⟩) (by simp [results, Try.results15, go_sem]) rfl ⟨rfl, nw_alloc _ _⟩

theorem info52 : (Try.prog.info? 52).map (fun i => (i.zero, i.size, i.bytes)) = some (some (.pointer none), 1, 8) := by kernel_rfl
theorem made_nils (n : Nat) (cur : Array Value) (ht : cur.toList.take n = (madeCells #[.pointer none] n).toList) : ∀ i, i < n → cur[i]? = some (.pointer none) := by
  intro i hi
  have h1 : cur.toList[i]? = (cur.toList.take n)[i]? := by rw [List.getElem?_take, if_pos hi]
  have h2 : cur[i]? = cur.toList[i]? := by simp
  rw [h2, h1, ht]
  simp [madeCells, hi, Nat.mod_one]

def roomN (x : Int) : Nat := if x < 1 then 1 else if x > 1000 then 1000 else x.toNat
theorem roomN_le (x : Int) : roomN x ≤ 1000 ∧ 1 ≤ roomN x := by
  unfold roomN
  split
  · omega
  · split <;> omega

set_option maxHeartbeats 1600000 in
theorem new_at (x : Int) (n : Nat) (w : World) (hn : n ≤ 1000) (hc : (x < 1 ∧ n = 1) ∨ (1 ≤ x ∧ x ≤ 1000 ∧ x = (n : Int)) ∨ (1000 < x ∧ n = 1000)) :
    Calls Try.prog 7 #[.int .i64 x] w fun e w' => ∃ N T C, e = .returned (.pointer (some ⟨T, 0, none⟩)) ∧ Nw w w' ∧ w.heap.size ≤ T ∧ w.heap.size ≤ C ∧ TInv w' N T C (List.replicate n none) := by
  obtain ⟨i0, hi, hz0, hz1, hz2⟩ := info_parts info52
  have fin : ∀ (w1 : World), w1.ownsRow w.heap.size 52 1 (.slice (some ⟨w.heap.size, 0, none⟩) n n) n (madeCells #[.pointer none] n).toList → w.grownBy w1 none →
      ∃ N T C, Ending.returned (.pointer (some ⟨w1.heap.size, 0, none⟩)) = .returned (.pointer (some ⟨T, 0, none⟩)) ∧ Nw w (w1.alloc (.cells #[.slice (some ⟨w.heap.size, 0, none⟩) n n] 50)) ∧ w.heap.size ≤ T ∧ w.heap.size ≤ C ∧
        TInv (w1.alloc (.cells #[.slice (some ⟨w.heap.size, 0, none⟩) n n] 50)) N T C (List.replicate n none) := by
    intro w1 hown hg
    have hnw : Nw w w1 := (Below.refl _ _).grown hg (Nat.le_refl _) (by simp)
    rcases hown.2 with ⟨h, _⟩ | ⟨g, cap, cur, hv, _, hh, _, _, hcur, htake⟩
    · cases h
    · injection hv with hv1 hv2 hv3
      injection hv1 with hv1
      injection hv1 with hv1
      subst hv1 hv3
      have hlt : w.heap.size < w1.heap.size := (show Blk w1 w.heap.size 52 cur from hh).lt
      refine ⟨w1.heap.size + 1, w1.heap.size, w.heap.size, rfl, hnw.then_ (nw_alloc _ _), by omega, Nat.le_refl _, ⟨by simp, by omega, by omega, ?_, cur, ?_, by simp; omega, ?_⟩⟩
      · rw [List.length_replicate]
        exact Blk.new _ _ _
      · exact (show Blk w1 w.heap.size 52 cur from hh).nw (nw_alloc _ _)
      · intro i hi
        simp at hi
        rw [List.getElem_replicate]
        exact made_nils n cur (by simpa using htake) i hi
  have FIN := Lib.hid fin
  clear fin
  rcases hc with ⟨h1, he⟩ | ⟨h1, h2, he⟩ | ⟨h1, he⟩
  · have HE := Lib.hid he
    clear he
    go_enter Try.func7, Try.ntmps7
    go_wp2_with (at_make; refine wpList_make_full _ rfl _ _ 48 rfl w.heap.size 52 i0 (.pointer none) 1 Try.underlying48 hi hz0 hz1 .i64 .i64 1 1 n rfl rfl ?ca0 ?cb0 ?cc0 ?cd0 ?ce0 ?_)
    case ca0 => have := HE.out; omega
    case cb0 => have := HE.out; omega
    case cc0 => rw [hz2]; omega
    case cd0 => unfold maxLen; omega
    case ce0 => exact Nat.le_refl _
    intro w1 hown hg
    have HO := Lib.hid (FIN.out w1 hown hg)
    clear hown hg
    go_wp2
    go_ret
    exact HO.out
  · have HE := Lib.hid he
    clear he
    go_enter Try.func7, Try.ntmps7
    go_wp2_with (at_make; refine wpList_make_full _ rfl _ _ 48 rfl w.heap.size 52 i0 (.pointer none) 1 Try.underlying48 hi hz0 hz1 .i64 .i64 x x n rfl rfl ?ca1 ?cb1 ?cc1 ?cd1 ?ce1 ?_)
    case ca1 => have := HE.out; omega
    case cb1 => have := HE.out; omega
    case cc1 => rw [hz2]; omega
    case cd1 => unfold maxLen; omega
    case ce1 => exact Nat.le_refl _
    intro w1 hown hg
    have HO := Lib.hid (FIN.out w1 hown hg)
    clear hown hg
    go_wp2
    go_ret
    exact HO.out
  · have HE := Lib.hid he
    clear he
    go_enter Try.func7, Try.ntmps7
    go_wp2_with (at_make; refine wpList_make_full _ rfl _ _ 48 rfl w.heap.size 52 i0 (.pointer none) 1 Try.underlying48 hi hz0 hz1 .i64 .i64 1000 1000 n rfl rfl ?ca2 ?cb2 ?cc2 ?cd2 ?ce2 ?_)
    case ca2 => have := HE.out; omega
    case cb2 => have := HE.out; omega
    case cc2 => rw [hz2]; omega
    case cd2 => unfold maxLen; omega
    case ce2 => exact Nat.le_refl _
    intro w1 hown hg
    have HO := Lib.hid (FIN.out w1 hown hg)
    clear hown hg
    go_wp2
    go_ret
    exact HO.out

theorem new_any (x : Int) (w : World) :
    Calls Try.prog 7 #[.int .i64 x] w fun e w' => ∃ N T C, e = .returned (.pointer (some ⟨T, 0, none⟩)) ∧ Nw w w' ∧ w.heap.size ≤ T ∧ w.heap.size ≤ C ∧ TInv w' N T C (List.replicate (roomN x) none) := by
  refine new_at x (roomN x) w (roomN_le x).1 ?_
  unfold roomN
  split
  · exact .inl ⟨by omega, rfl⟩
  · split
    · exact .inr (.inr ⟨by omega, rfl⟩)
    · exact .inr (.inl ⟨by omega, by omega, by omega⟩)
end Go.Proofs.Ytjoklfhdablniaa
