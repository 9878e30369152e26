/- Flush. -/
import Derived.Test.YtjoklfhdablniaaE8
namespace Go.Proofs.Ytjoklfhdablniaa
open Go.RowKit

/-- What stands when Flush has gone through i places. -/
structure FInv (w0 : World) (base Bo Bt T C : Nat) (L : List (Option Pk)) (i : Nat) (W : World) : Prop where
  out : ∃ v, W.cell? ⟨Bo, 0, none⟩ = some v ∧ W.ownsRow base 25 7 v (outL L i).length (rowL (outL L i))
  fo : W.frozen? ⟨Bo, 0, none⟩ = false
  bt : W.cell? ⟨Bt, 0, none⟩ = some (.pointer (some ⟨T, 0, none⟩))
  t : ∃ N, N ≤ w0.heap.size ∧ TInv W N T C (clr L i)
  upd : Upd (fun k => k = C) w0 W
  ho : Bo < W.heap.size
  ht : Bt < W.heap.size
  hb : base ≤ W.heap.size

theorem FInv.nw {w0 : World} {base Bo Bt T C : Nat} {L : List (Option Pk)} {i : Nat} {W W' : World} (h : FInv w0 base Bo Bt T C L i W) (k : Nw W W') : FInv w0 base Bo Bt T C L i W' := by
  obtain ⟨v, hv, hown⟩ := h.out
  obtain ⟨N, hN, ht⟩ := h.t
  exact ⟨⟨v, (k.cell (p := ⟨Bo, 0, none⟩) h.ho).trans hv, kept_nw hown k⟩, (k.frozen (p := ⟨Bo, 0, none⟩) h.ho).trans h.fo, (k.cell (p := ⟨Bt, 0, none⟩) h.ht).trans h.bt, ⟨N, hN, ht.nw k⟩,
    h.upd.trans (Upd.of_nw k), Nat.lt_of_lt_of_le h.ho k.size, Nat.lt_of_lt_of_le h.ht k.size, Nat.le_trans h.hb k.size⟩

theorem row_news (w : World) (cs : Array Value) (t : TypeId) : ∀ j u, cs.toList[j]? = some u → (w.alloc (.cells cs t)).cell? ((⟨w.heap.size, 0, none⟩ : Addr).add j) = some u :=
  blk_news (Blk.new w t cs)

set_option maxHeartbeats 3000000 in
theorem flush1_any (w0 : World) (base Bo Bt T C : Nat) (L : List (Option Pk)) (i : Nat) (p : Pk) (W : World) (hL : L.length ≤ 1000) (hx : L[i]? = some (some p)) (h : FInv w0 base Bo Bt T C L i W)
    (hCb : C < base) (hob : Bo < base) (htb : Bt < base) (hCo : Bo ≠ C) (hCt : Bt ≠ C) (hot : Bo ≠ Bt) (hw0 : w0.heap.size ≤ Bo) :
    Calls Try.prog 19 #[.int .i64 i, p.val, .pointer (some ⟨Bo, 0, none⟩), .pointer (some ⟨Bt, 0, none⟩)] W fun e W' => e = .returned (.tuple #[]) ∧ FInv w0 base Bo Bt T C L (i + 1) W' := by
  obtain ⟨i0, hi, hz0, hz1, hz2⟩ := info_parts info25
  obtain ⟨v, hv, hown⟩ := h.out
  have hlt := (List.getElem?_eq_some_iff.1 hx).1
  have hol := outL_len L i
  have hH1 := h.ho
  have hH2 := h.ht
  have hH3 := h.hb
  have hf := h.fo
  have H := Lib.hid h
  have HX := Lib.hid hx
  have HOWN := Lib.hid hown
  have HLT := Lib.hid hlt
  have HOL := Lib.hid hol
  clear h hx hown hlt hol
  go_enter Try.func19, Try.ntmps19
  go_wp2_with (at_builtin; refine wpList_append_own _ rfl _ _ 39 rfl base 25 i0 zval 7 64 Try.underlying39 hi hz0 hz1 hz2 rfl (by decide) _ _ _ rfl ((HOWN.out.alloc _).alloc _) ⟨W.heap.size + 1, 0, none⟩ 1 1 p.cells.toList rfl rfl ?c1 ?c2 ?c3 ?c4 ?c5 ?_)
  case c2 => exact ⟨rfl, rfl, rfl, rfl, rfl, rfl, rfl⟩
  case c3 => have := HLT.out; have := HOL.out; unfold maxLen; omega
  case c4 => have := HLT.out; have := HOL.out; omega
  case c5 => simp; omega
  intro v' w2 hown' hg _
  have hnb : ∀ k, v.ownBlock = some k → base ≤ k := fun k hk => (HOWN.out.lt k hk).1
  have hu : Below base W w2 := (((Below.refl base W).alloc hH3 _).alloc (by simp; omega) _).grown hg (by simp; omega) (fun k hk => hnb k hk)
  have g1 : w2.cell? ⟨Bo, 0, none⟩ = some v := (hu.cell (p := ⟨Bo, 0, none⟩) hob).trans hv
  have g2 : w2.frozen? ⟨Bo, 0, none⟩ = false := (hu.frozen (p := ⟨Bo, 0, none⟩) hob).trans hf
  have g3 : w2.cell? ⟨Bt, 0, none⟩ = some (.pointer (some ⟨T, 0, none⟩)) := (hu.cell (p := ⟨Bt, 0, none⟩) htb).trans H.out.bt
  have hz2 := hu.size
  obtain ⟨N, hN, hT⟩ := H.out.t
  obtain ⟨g', cap', rfl, -, -⟩ := hown'.form (by omega)
  have hgb := (hown'.lt g' rfl).1
  have hown2 : w2.ownsRow base 25 7 (.slice (some ⟨g', 0, none⟩) ((outL L i).length + 1) cap') (outL L (i + 1)).length (rowL (outL L (i + 1))) := by
    rw [outL_some HX.out, rowL_append, rowL_one, List.length_append]
    exact hown'
  have hsg : Upd (fun k => k = Bo) w2 (w2.setCell ⟨Bo, 0, none⟩ (.slice (some ⟨g', 0, none⟩) ((outL L i).length + 1) cap')) := Upd.set1 _ _ _ _
  have hT2 : TInv w2 N T C (clr L i) := hT.upd (S := fun k => base ≤ k) ⟨hu.os, hu.tape, hu.output, hu.size, fun k _ hk => hu.block k (by omega)⟩ (fun k hk => by show ¬ base ≤ k; omega)
  have hT3 := hT2.upd hsg (fun k hk => by show ¬ k = Bo; omega)
  have hown3 := ownsRow_setCell_below hown2 (a := ⟨Bo, 0, none⟩) hob (.slice (some ⟨g', 0, none⟩) ((outL L i).length + 1) cap')
  have hm : (w2.setCell ⟨Bo, 0, none⟩ (.slice (some ⟨g', 0, none⟩) ((outL L i).length + 1) cap')).cell? ⟨Bo, 0, none⟩ = some (.slice (some ⟨g', 0, none⟩) ((outL L i).length + 1) cap') := cell_set_same g1
  have hm2 : (w2.setCell ⟨Bo, 0, none⟩ (.slice (some ⟨g', 0, none⟩) ((outL L i).length + 1) cap')).cell? ⟨Bt, 0, none⟩ = some (.pointer (some ⟨T, 0, none⟩)) := (hsg.cell (by omega) (by show ¬ Bt = Bo; omega)).trans g3
  have hfz : (w2.setCell ⟨Bo, 0, none⟩ (.slice (some ⟨g', 0, none⟩) ((outL L i).length + 1) cap')).frozen? ⟨Bo, 0, none⟩ = false := (World.frozen?_setCell ..).trans g2
  have hup : Upd (fun k => k = C) w0 (w2.setCell ⟨Bo, 0, none⟩ (.slice (some ⟨g', 0, none⟩) ((outL L i).length + 1) cap')) := by
    have h0 := H.out.upd
    refine ⟨hsg.os.trans (hu.os.trans h0.os), hsg.tape.trans (hu.tape.trans h0.tape), hsg.output.trans (hu.output.trans h0.output), Nat.le_trans h0.size (Nat.le_trans hu.size hsg.size), fun k hk hks => ?_⟩
    rw [hsg.block k (by have := h0.size; omega) (by show ¬ k = Bo; omega), hu.block k (by omega), h0.block k hk hks]
  have hzs := hsg.size
  clear hu hown' hown2 hg hsg hT hT2
  have HT3 := Lib.hid hT3
  have HO3 := Lib.hid hown3
  have HM := Lib.hid hm
  have HUP := Lib.hid hup
  have HFZ := Lib.hid hfz
  clear hT3 hown3 hup
  have hc := HT3.out.cells
  have hl3 : (clr L i).length = L.length := clr_length (by have := HLT.out; omega)
  rw [hl3] at hc
  have hh : i < L.length := HLT.out
  have hh2 : ¬ L.length ≤ i := by omega
  have hcf := HT3.out.unfrozen i
  obtain ⟨q, hq1, hq2, hq3⟩ := HT3.out.some_ i p (by rw [clr_at]; exact HX.out)
  clear hq2 hq3
  go_wp2
  clear hc hcf hq1 hm
  generalize (w2.setCell ⟨Bo, 0, none⟩ (.slice (some ⟨g', 0, none⟩) ((outL L i).length + 1) cap')) = w3 at *
  go_end0
  have hUC := Upd.set1 w3 C i (.pointer none)
  refine ⟨rfl, ⟨_, (hUC.cell (by omega) hCo).trans HM.out, ?_⟩, (hUC.frozen (by omega) hCo).trans HFZ.out, (hUC.cell (by omega) hCt).trans hm2, ⟨N, hN, ?_⟩, HUP.out.trans hUC, by simp [World.setCell]; omega, by simp [World.setCell]; omega, by simp [World.setCell]; omega⟩
  · exact ownsRow_setCell_below HO3.out (a := ⟨C, i, none⟩) hCb _
  · rw [← clr_succ hh]
    exact HT3.out.put i (by rw [hl3]; exact hh) none _ rfl

/-- What Flush answers. -/
def FlushPost (w : World) (T C : Nat) (L : List (Option Pk)) (e : Ending) (w' : World) : Prop :=
  ∃ v, e = .returned v ∧ w'.ownsRow (w.heap.size + 2) 25 7 v (outL L L.length).length (rowL (outL L L.length)) ∧ Upd (fun k => k = C) w w' ∧ ∃ N, N ≤ w.heap.size ∧ TInv w' N T C (List.replicate L.length none)

set_option maxHeartbeats 3000000 in
theorem flush_any (N T C : Nat) (L : List (Option Pk)) (w : World) (h : TInv w N T C L) (hL : L.length ≤ 1000) :
    Calls Try.prog 14 #[.pointer (some ⟨T, 0, none⟩)] w (FlushPost w T C L) := by
  have H := Lib.hid h
  have hTN := h.hT
  have hCN := h.hC
  have hNN := h.hN
  clear h
  go_enter Try.func14, Try.ntmps14
  go_wp2_with fail
  refine (each19 _ _ T C L.length (clr L) _ (FInv w (w.heap.size + 2) (w.heap.size + 1) w.heap.size T C L) hL (fun i hi => clr_length hi) ?_ ?_ ?_ ?_ ?_).mono ?_
  · exact fun i W _ hi => ⟨_, hi.t.choose_spec.2⟩
  · exact fun i W W' hi hb => hi.nw hb
  · intro i W hlt hi hx
    rw [clr_at] at hx
    obtain ⟨v, hv, hown⟩ := hi.out
    obtain ⟨M, hM, ht⟩ := hi.t
    exact ⟨⟨v, hv, by rw [outL_none hx]; exact hown⟩, hi.fo, hi.bt, ⟨M, hM, by rw [clr_succ_none hx]; exact ht⟩, hi.upd, hi.ho, hi.ht, hi.hb⟩
  · intro i W p hlt hi hx
    rw [clr_at] at hx
    exact flush1_any w _ _ _ T C L i p W hL hx hi (by omega) (by omega) (by omega) (by omega) (by omega) (by omega) (by omega)
  · refine ⟨⟨.slice none 0 0, ?_, ?_⟩, World.frozen?_alloc_at _ _ _ _ (by simp), ?_, ⟨N, hNN, ?_⟩, ((Upd.refl _ w).alloc _).alloc _, by simp, by simp; omega, by simp⟩
    · rw [alloc_cell_new (by simp)]; rfl
    · have : outL L 0 = [] := by simp [outL]
      rw [this]
      exact World.ownsRow_nil _ _ _ _
    · rw [World.cell?_alloc_past _ _ _ (by simp), alloc_cell_new rfl]; rfl
    · rw [clr_zero]
      exact (H.out.nw (nw_alloc _ _)).nw (nw_alloc _ _)
  · rintro e w1 ⟨rfl, hi⟩
    obtain ⟨v, hv, hown⟩ := hi.out
    have HOWN := Lib.hid hown
    have HU := Lib.hid hi.upd
    have hTT : ∃ M, M ≤ w.heap.size ∧ TInv w1 M T C (List.replicate L.length none) := by rw [← clr_full]; exact hi.t
    have HT := Lib.hid hTT
    clear hi hown hTT
    go_wp2
    go_ret
    exact ⟨v, rfl, HOWN.out, HU.out, HT.out⟩
end Go.Proofs.Ytjoklfhdablniaa
