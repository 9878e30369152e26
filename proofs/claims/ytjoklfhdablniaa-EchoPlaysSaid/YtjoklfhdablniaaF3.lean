/- EchoPlays: the walk. -/
import Derived.Test.YtjoklfhdablniaaF2
import Derived.Deep.DeepCutAuto
namespace Go.Proofs.Ytjoklfhdablniaa
open Go.RowKit

/-- What the law's own two rows hold at first. -/
theorem ai_start {n : Nat} {H F : Nat} {w : World} {cH cF : Nat} {xs ys : List Value} (h1 : w.ownsRow cH 25 7 (.slice (some ⟨H, 0, none⟩) n n) n xs) (hx : xs = (madeCells zval.cells (n * 7)).toList)
    (h2 : w.ownsRow cF 4 1 (.slice (some ⟨F, 0, none⟩) n n) n ys) (hy : ys = (madeCells (Value.bool false).cells (n * 1)).toList) : AI H F n (List.replicate n none) w := by
  have hlt := (h1.lt H rfl).2
  refine ⟨fun i hi => ⟨Pk.zero, ?_, fun q hq => ?_⟩, fun j => h1.frozenAt j, fun i o ho => ?_, ?_, hlt⟩
  · have k : ∀ j, j < 7 → w.cell? ⟨H, i * 7 + j, none⟩ = Pk.zero.cells[j]? := fun j hj => by
      rw [h1.cellAt (i * 7 + j) (by omega), hx]
      have : (madeCells zval.cells (n * 7)).toList[i * 7 + j]? = zval.cells[j]? := by
        simp only [madeCells, Array.getElem?_toList]
        rw [Array.getElem?_map, show (Array.range (n * 7))[i * 7 + j]? = some (i * 7 + j) by rw [Array.getElem?_eq_getElem (by rw [Array.size_range]; omega), Array.getElem_range]]
        show some (zval.cells[(i * 7 + j) % zval.cells.size]!) = _
        rw [show (i * 7 + j) % zval.cells.size = j by show (i * 7 + j) % 7 = j; omega]
        match j, hj with
        | 0, _ => rfl
        | 1, _ => rfl
        | 2, _ => rfl
        | 3, _ => rfl
        | 4, _ => rfl
        | 5, _ => rfl
        | 6, _ => rfl
      rw [this]
      rfl
    exact ⟨k 0 (by decide), k 1 (by decide), k 2 (by decide), k 3 (by decide), k 4 (by decide), k 5 (by decide), k 6 (by decide)⟩
  · simp [hi] at hq
  · have hi : i < n := by have := (List.getElem?_eq_some_iff.1 ho).1; simpa using this
    rw [List.getElem?_replicate, if_pos hi] at ho
    injection ho with ho
    subst ho
    rw [h2.cellAt i (by omega), hy]
    simp [madeCells, hi]
    show #[Value.bool false][i % 1]! = _
    rw [Nat.mod_one]
    rfl
  · rcases h2.2 with ⟨h, _⟩ | ⟨g, cap, cur, hv, _, hh, _⟩
    · cases h
    · injection hv with hv
      injection hv with hv
      injection hv with hv
      subst hv
      exact ⟨cur, hh⟩

/-- What stands at each round's head. -/
structure EI (w0 : World) (T C H F n : Nat) (L : List (Option Pk)) (w : World) : Prop where
  t : TI T C H n L w
  a : AI H F n L w
  nw : Nw w0 w
theorem EI.nw_ {w0 : World} {T C H F n : Nat} {L : List (Option Pk)} {w w' : World} (h : EI w0 T C H F n L w) (k : Nw w w') : EI w0 T C H F n L w' := ⟨h.t.nw k, h.a.nw k, h.nw.then_ k⟩
/-- As EI, the table and the law's rows being apart. -/
structure EI2 (w0 : World) (T C H F n : Nat) (L L' : List (Option Pk)) (w : World) : Prop where
  t : TI T C H n L w
  a : AI H F n L' w
  nw : Nw w0 w
/-- How the blocks lie. -/
structure Lie (w0 : World) (T C H F : Nat) : Prop where
  TH : T ≠ H
  TF : T ≠ F
  CH : C ≠ H
  CF : C ≠ F
  HF : H ≠ F
  T0 : w0.heap.size ≤ T
  C0 : w0.heap.size ≤ C
  H0 : w0.heap.size ≤ H
  F0 : w0.heap.size ≤ F

theorem ei_start {w w1 : World} {N T C n : Nat} {f g : World → World} {t e t' e' : TypeId} {z z' : Value} {s s' : Nat} (hb : Nw w w1) (hT : w.heap.size ≤ T) (hC : w.heap.size ≤ C) (h : TInv w1 N T C (List.replicate n none))
    (hf : MakeIs t e z s n f) (hg : MakeIs t' e' z' s' n g) {H F : Nat} (hH : (H = w1.heap.size ∧ F = (f w1.drew).heap.size) ∨ (F = w1.heap.size ∧ H = (f w1.drew).heap.size)) (ha : AI H F n (List.replicate n none) (g (f w1.drew))) :
    Lie w T C H F ∧ EI w T C H F n (List.replicate n none) (g (f w1.drew)) := by
  have n1 : Nw w1 w1.drew := nw_drew _
  have n2 : Nw w1.drew (f w1.drew) := (Below.refl _ _).grown (hf.grown _) (Nat.le_refl _) (by simp)
  have n3 : Nw (f w1.drew) (g (f w1.drew)) := (Below.refl _ _).grown (hg.grown _) (Nat.le_refl _) (by simp)
  have hlt : w1.heap.size < (f w1.drew).heap.size := ((hf.own w1.drew).lt w1.heap.size rfl).2
  have hz := hb.size
  have h1 := h.hT
  have h2 := h.hC
  have h3 := h.hN
  refine ⟨⟨by omega, by omega, by omega, by omega, by omega, hT, hC, by omega, by omega⟩, ⟨⟨⟨N, ((h.nw n1).nw n2).nw n3⟩, by simp, fun i hi e => ?_⟩, ha, ((hb.then_ n1).then_ n2).then_ n3⟩⟩
  have := (((h.nw n1).nw n2).nw n3).none_ i (by simp [hi])
  rw [e] at this
  injection this with this
  injection this with this
  cases this

theorem ei_put {w0 : World} {T C H F n : Nat} {L : List (Option Pk)} {w wx : World} {k bi : Int} (hl : Lie w0 T C H F) (h : EI w0 T C H F n L w) (b : Nat) (p : Pk) (hb : b < n) (hx : wx = ((putW w H F b p).alloc (.cells (Op.cells ⟨k, bi, p⟩) 42)).drew) :
    AI H F n (L.set b (some p)) wx ∧ TI T C H n L wx ∧ Nw w0 wx ∧ Blk wx w.heap.size 42 (Op.cells ⟨k, bi, p⟩) := by
  have hu := putW_upd w H F b p
  have hz : (putW w H F b p).heap.size = w.heap.size := by simp [World.setCell]
  have hn : Nw (putW w H F b p) wx := by rw [hx]; exact (nw_alloc _ _).then_ (nw_drew _)
  have hs := h.nw.size
  refine ⟨(h.a.putW_ b p hl.HF (by rw [h.t.len]; exact hb) hb).nw hn, (h.t.upd h.a hu (by show ¬ (T = H ∨ T = F); exact fun e => e.elim hl.TH hl.TF) (by show ¬ (C = H ∨ C = F); exact fun e => e.elim hl.CH hl.CF) (fun b hb => hb)).nw hn, ?_, ?_⟩
  · exact Nw.then_ (h.nw.trans (hu.below hs fun k hk e => by have := hl.H0; have := hl.F0; rcases e with rfl | rfl <;> omega)) hn
  · rw [hx, ← hz]
    exact (Blk.new _ _ _).nw (nw_drew _)

theorem ei_off {w0 : World} {T C H F n : Nat} {L : List (Option Pk)} {w : World} (hl : Lie w0 T C H F) (b : Nat) (h : EI2 w0 T C H F n (L.set b none) L w) (hb : b < n) (o : Obj) :
    EI w0 T C H F n (L.set b none) ((w.setCell ⟨F, b, none⟩ (.bool false)).alloc o) := by
  have hu := Upd.set1 w F b (.bool false)
  have hlen : b < L.length := by have := h.t.len; rw [List.length_set] at this; omega
  exact ⟨(h.t.upd h.a hu (by show ¬ T = F; exact hl.TF) (by show ¬ C = F; exact hl.CF) (fun b hb => .inr hb)).nw (nw_alloc _ _), (h.a.off b hl.HF hlen).nw (nw_alloc _ _), (nw_upd h.nw hu hl.F0).then_ (nw_alloc _ _)⟩
theorem pk_one (p : Pk) : ∀ u ∈ p.cells.toList, u.oneCell' = true := by
  intro u hu
  simp at hu
  rcases hu with rfl | rfl | rfl | rfl | rfl | rfl | rfl <;> rfl
theorem own_upd {S : Nat → Prop} {w w' : World} {base e size n : Nat} {v : Value} {xs : List Value} (h : w.ownsRow base e size v n xs) (hu : Upd S w w') (hs : ∀ k, base ≤ k → ¬ S k) : w'.ownsRow base e size v n xs := by
  refine ⟨h.1, ?_⟩
  rcases h.2 with h0 | ⟨g, cap, cur, hv, hb, hh, hr⟩
  · exact .inl h0
  · exact .inr ⟨g, cap, cur, hv, hb, (hu.block g (show Blk w g e cur from hh).lt (hs g hb)).trans hh, hr⟩
theorem pks_of_own {w : World} {base : Nat} {v : Value} {l : List Pk} (h : w.ownsRow base 25 7 v l.length (rowL l)) : ∃ A c, v = .slice A l.length c ∧ PksAt w A l := by
  rcases h.2 with ⟨rfl, h0⟩ | ⟨g, cap, cur, rfl, _⟩
  · refine ⟨none, 0, by rw [h0], fun i p hp => ?_⟩
    have := List.eq_nil_of_length_eq_zero h0
    subst this
    simp at hp
  · refine ⟨_, _, rfl, fun i p hp => ⟨g, rfl, ?_⟩⟩
    have hlt := (List.getElem?_eq_some_iff.1 hp).1
    have k : ∀ j, j < 7 → w.cell? ⟨g, i * 7 + j, none⟩ = p.cells[j]? := fun j hj => by
      rw [h.cellAt (i * 7 + j) (by omega)]
      have gen : ∀ (l : List Pk) (i : Nat), l[i]? = some p → (rowL l)[i * 7 + j]? = p.cells[j]? := by
        intro l
        induction l with
        | nil => intro i hi; simp at hi
        | cons q l ih =>
          intro i hi
          have e : rowL (q :: l) = q.cells.toList ++ rowL l := by simp [rowL]
          rw [e]
          cases i with
          | zero =>
            simp at hi
            subst hi
            rw [List.getElem?_append_left (by simp; omega)]
            simp
          | succ i =>
            rw [List.getElem?_append_right (by simp; omega)]
            have := ih i (by simpa using hi)
            rw [← this]
            congr 1
            simp
            omega
      exact gen l i hp
    exact ⟨k 0 (by decide), k 1 (by decide), k 2 (by decide), k 3 (by decide), k 4 (by decide), k 5 (by decide), k 6 (by decide)⟩

/-- What stands when j places have been gone through for Flush. -/
structure CInv (ws : World) (H F n : Nat) (L : List (Option Pk)) (v : Value) (j : Nat) (w : World) : Prop where
  a : AI H F n (clr L j) w
  own : w.ownsRow ws.heap.size 25 7 v (outL L j).length (rowL (outL L j))
  u : Upd (fun k => k = F) ws w
theorem CInv.ei {w0 ws w : World} {T C H F n j : Nat} {L : List (Option Pk)} {v : Value} (hl : Lie w0 T C H F) (he : EI w0 T C H F n L ws) (h : CInv ws H F n L v j w) : TI T C H n L w ∧ Nw w0 w :=
  ⟨he.t.upd he.a h.u (by show ¬ T = F; exact hl.TF) (by show ¬ C = F; exact hl.CF) (fun b hb => .inr hb), nw_upd he.nw h.u hl.F0⟩
theorem CInv.start {w0 ws : World} {T C H F n : Nat} {L : List (Option Pk)} (he : EI w0 T C H F n L ws) : CInv ws H F n L (.slice none 0 0) 0 ws :=
  ⟨by rw [clr_zero]; exact he.a, by simpa [outL, rowL] using World.ownsRow_nil ws ws.heap.size 25 7, Upd.refl _ _⟩
theorem CInv.step_none {ws w : World} {H F n j : Nat} {L : List (Option Pk)} {v : Value} (hne : H ≠ F) (h : CInv ws H F n L v j w) (hx : L[j]? = some none) (hF : F < ws.heap.size) : CInv ws H F n L v (j + 1) (w.setCell ⟨F, j, none⟩ (.bool false)) := by
  have hlt := (List.getElem?_eq_some_iff.1 hx).1
  have hu := Upd.set1 w F j (.bool false)
  refine ⟨?_, ?_, h.u.trans hu⟩
  · rw [← clr_succ hlt]
    exact h.a.off j hne (by rw [clr_length (by omega)]; exact hlt)
  · rw [outL_none hx]
    exact own_upd h.own hu (fun k hk => by show ¬ k = F; omega)
theorem CInv.step_some {ws w w2 : World} {H F n j : Nat} {L : List (Option Pk)} {v v' : Value} {p : Pk} {o : Obj} (hne : H ≠ F) (h : CInv ws H F n L v j w) (hx : L[j]? = some (some p)) (hF : F < ws.heap.size) (hH : H < ws.heap.size)
    (hown : w2.ownsRow ws.heap.size 25 7 v' ((outL L j).length + 1) (rowL (outL L j) ++ p.cells.toList)) (hg : (w.alloc o).grownBy w2 v.ownBlock) : CInv ws H F n L v' (j + 1) (w2.setCell ⟨F, j, none⟩ (.bool false)) ∧ AI H F n (clr L j) w2 := by
  have hlt := (List.getElem?_eq_some_iff.1 hx).1
  have hz := h.u.size
  have hb : Below ws.heap.size w w2 := ((Below.refl ws.heap.size w).alloc hz o).grown hg (by simp; omega) (fun k hk => (h.own.lt k hk).1)
  have hu2 : Upd (fun k => ws.heap.size ≤ k) w w2 := ⟨hb.os, hb.tape, hb.output, hb.size, fun k _ hk => hb.block k (by omega)⟩
  have ha2 := h.a.upd hu2 (by show ¬ ws.heap.size ≤ H; omega) (by show ¬ ws.heap.size ≤ F; omega)
  have hu := Upd.set1 w2 F j (.bool false)
  have hw2 : Upd (fun k => k = F) ws w2 := ⟨hb.os.trans h.u.os, hb.tape.trans h.u.tape, hb.output.trans h.u.output, Nat.le_trans hz hb.size, fun k hk hkf => (hb.block k hk).trans (h.u.block k hk hkf)⟩
  refine ⟨⟨?_, ?_, hw2.trans hu⟩, ha2⟩
  · rw [← clr_succ hlt]
    exact ha2.off j hne (by rw [clr_length (by omega)]; exact hlt)
  · rw [outL_some hx, rowL_append, rowL_one, List.length_append]
    exact own_upd hown hu (fun k hk => by show ¬ k = F; omega)

set_option maxRecDepth 100000 in
set_option maxHeartbeats 40000000 in
theorem echoPlays_good (many : Int) (A : Option Addr) (c : Nat) (os : List Op) (w : World) (hA : OpsAt w A os) (hn : os.length ≤ 400) : Calls Try.prog 4 #[.int .i64 many, .slice A os.length c] w (TrueNw w) := by
  obtain ⟨i0, hi, hz0, hz1, hz2⟩ := info_parts info25
  obtain ⟨i1, hi1, hy0, hy1, hy2⟩ := info_parts info4
  have hr := roomN_le many
  obtain ⟨f39, M39⟩ := make_is 39 25 i0 zval 7 (roomN many) Try.underlying39 hi hz0 hz1 (by rw [hz2]; omega) (by unfold maxLen; omega)
  obtain ⟨f40, M40⟩ := make_is 40 4 i1 _ 1 (roomN many) Try.underlying40 hi1 hy0 hy1 (by rw [hy2]; omega) (by unfold maxLen; omega)
  have HN := Lib.hid (new_any many)
  have HR := Lib.hid (room_any many)
  have HA := Lib.hid hA
  clear hA
  generalize roomN many = n at *
  have hn1 : n ≤ 1000 := hr.1
  clear hr
  generalize hL : os.length = l at *
  have HL := Lib.hid hL
  clear hL hy0 hy1 hy2 hi1
  have HM39 := Lib.hid M39
  have HM40 := Lib.hid M40
  clear M39 M40
  go_enter Try.func4, Try.ntmps4
  go_wp2_with fail
  refine (HN.out _).mono ?_
  rintro e w1 ⟨N, T, C, rfl, hb, hT, hC, hin⟩
  have HB := Lib.hid hb
  have HTC := Lib.hid (And.intro hT hC)
  have HI := Lib.hid hin
  clear hb hT hC hin HN
  go_wp2_with fail
  refine (HR.out _).mono ?_
  rintro e w2 ⟨rfl, rfl⟩
  clear HR
  go_wp2_with fail
  go_cut [7, 8] from 30 (fun s7 s8 wx => ∃ H F, s7 = .slice (some ⟨H, 0, none⟩) n n ∧ s8 = .slice (some ⟨F, 0, none⟩) n n ∧ Hid (Lie w T C H F) ∧ Hid (EI w T C H F n (List.replicate n none) wx))
  case first =>
    have ha := HM39.out.run w1.drew
    have hb := HM40.out.run w1.drew
    have hc := HM39.out.run (f40 w1.drew)
    have hd := HM40.out.run (f39 w1.drew)
    go_region
    · have g1 := (HM39.out.own w1.drew).kept (HM40.out.grown (f39 w1.drew)) (by simp [Value.ownBlock])
      have g2 := HM40.out.own (f39 w1.drew)
      have st := ei_start HB.out HTC.out.1 HTC.out.2 HI.out HM39.out HM40.out (.inl ⟨rfl, rfl⟩) (ai_start g1 rfl g2 rfl)
      have S1 := Lib.hid st.1
      have S2 := Lib.hid st.2
      clear st g1 g2 ha hb hc hd
      go_wp2_with fail
      go_meet
      case rel => exact ⟨_, _, rfl, rfl, S1, S2⟩
    · have g1 := (HM40.out.own w1.drew).kept (HM39.out.grown (f40 w1.drew)) (by simp [Value.ownBlock])
      have g2 := HM39.out.own (f40 w1.drew)
      have st := ei_start HB.out HTC.out.1 HTC.out.2 HI.out HM40.out HM39.out (.inr ⟨rfl, rfl⟩) (ai_start g2 rfl g1 rfl)
      have S1 := Lib.hid st.1
      have S2 := Lib.hid st.2
      clear st g1 g2 ha hb hc hd
      go_wp2_with fail
      go_meet
      case rel => exact ⟨_, _, rfl, rfl, S1, S2⟩
  case rest =>
    obtain ⟨H, F, rfl, rfl, HLI, HE⟩ := hcut
    clear HB HTC HI HM39 HM40
    go_wp2
    go_loopw [9, 36] (fun c i wr => ∃ (k : Nat) (L : List (Option Pk)), k ≤ l ∧ i = .int .i64 k ∧ c = .int .i64 (cntL L n : Nat) ∧ Hid (EI w T C H F n L wr)) (fun _ i _ => l - (intOf i).toNat)
    case atStart => exact ⟨0, _, Nat.zero_le _, rfl, by rw [cntL_nones]; rfl, HE⟩
    case round =>
      obtain ⟨k, L, hk, rfl, rfl, HK⟩ := hrel
      clear HE
      by_cases hlt : k < l
      · have hkl : k < os.length := by rw [HL.out]; exact hlt
        obtain ⟨ad, rfl, hp, hf⟩ := (HA.out.below HK.out.nw) k hkl
        generalize os[k]'hkl = o at *
        obtain ⟨kd, bx, p⟩ := o
        obtain ⟨c0, c1, c2, c3, c4, c5, c6, c7, c8⟩ := hf
        have hka : ¬ l ≤ k := by omega
        have hlenL := HK.out.t.len
        have hFlt := HK.out.a.fF
        have hHlt := HK.out.a.hH
        go_upto_region 10 with fail
        go_cut [12, 36] from 36 to 169 (fun s12 s36 wx => ∃ inb : Bool, s12 = .bool inb ∧ s36 = .int .i64 k ∧ (inb = true ↔ 0 ≤ bx ∧ bx < n) ∧ wx = wr.alloc (.cells #[.int .i64 kd, .int .i64 bx, .int .i64 p.id, .int .i64 p.fl, .int .i64 p.ln, .string p.data, .int .i64 p.fr, .int .i64 p.tag, .bool p.loop] 42))
        case first =>
          have hdd : bx < 0 ∨ (¬ bx < 0 ∧ decide (bx < (n : Int)) = false) ∨ (¬ bx < 0 ∧ decide (bx < (n : Int)) = true) := by
            by_cases h : bx < 0
            · exact .inl h
            · by_cases h' : bx < (n : Int)
              · exact .inr (.inr ⟨h, by simp [h']⟩)
              · exact .inr (.inl ⟨h, by simp [h']⟩)
          rcases hdd with hx | ⟨hx, hx'⟩ | ⟨hx, hx'⟩
          · go_wp2_with fail
            go_meet
            case rel => exact ⟨false, rfl, rfl, by simp; omega, rfl⟩
          · go_wp2_with fail
            go_meet
            case rel => exact ⟨false, rfl, rfl, by simp at hx' ⊢; omega, rfl⟩
          · go_wp2_with fail
            go_meet
            case rel => exact ⟨true, rfl, rfl, by simp at hx' ⊢; omega, rfl⟩
        case rest =>
          obtain ⟨inb, rfl, rfl, hin, rfl⟩ := hcut
          clear c0 c1 c2 c3 c4 c5 c6 c7 c8 HA
          have HK9 : Hid (EI w T C H F n L (wr.alloc (.cells (Op.cells ⟨kd, bx, p⟩) 42))) := ⟨HK.out.t.nw (nw_alloc _ _), HK.out.a.nw (nw_alloc _ _), HK.out.nw.then_ (nw_alloc _ _)⟩
          have hbxc : (inb = false ∧ (bx < 0 ∨ (¬ bx < 0 ∧ (n : Int) ≤ bx))) ∨ (inb = true ∧ ∃ b : Nat, b < n ∧ bx = b) := by
            by_cases h : 0 ≤ bx ∧ bx < n
            · exact .inr ⟨hin.2 h, bx.toNat, by omega, by omega⟩
            · refine .inl ⟨?_, by omega⟩
              cases inb
              · rfl
              · exact absurd (hin.1 rfl) h
          by_cases h0 : kd = 0
          · subst h0
            clear hin
            rcases hbxc with ⟨rfl, hx⟩ | ⟨rfl, b, hbn, rfl⟩
            ·
              have hxx : bx < 0 ∨ (L.length : Int) ≤ bx := by omega
              have HXX := Lib.hid hxx
              clear hxx hx
              obtain ⟨N', hN'⟩ := HK9.out.t.t
              have HN' := Lib.hid hN'
              clear hN' hlenL
              go_wp2_with fail
              refine (put_out N' T C L bx p _ HN'.out HXX.out).mono ?_
              rintro e wP ⟨rfl, hb⟩
              have HP := Lib.hid (HK9.out.nw_ hb)
              clear hb HN' HK9
              obtain ⟨N', hN'⟩ := HP.out.t.t
              have hlen' := HP.out.t.len
              have HN' := Lib.hid hN'
              clear hN'
              go_wp2_with fail
              refine (len_any N' T C _ _ HN'.out (by rw [hlen']; exact hn1)).mono ?_
              rintro e wL ⟨rfl, hb⟩
              rw [hlen']
              have HTL := Lib.hid (HP.out.nw_ hb)
              clear hb HN' HP hlen'
              have hcc : ((cntL L n : Int) != (cntL L n : Int)) = false := by simp
              go_wp2
              go_roundw
              case rel => exact ⟨k + 1, L, by omega, by go_num, rfl, HTL⟩
              case measure => simp [intOf]; omega
            ·
              have hbL : b < L.length := by omega
              have hnb : ¬ n ≤ b := by omega
              obtain ⟨o, ho⟩ : ∃ o, L[b]? = some o := ⟨_, List.getElem?_eq_getElem hbL⟩
              have HO := Lib.hid ho
              cases o with
              | none =>
                have hfb : wr.cell? ⟨F, b, none⟩ = some (.bool false) := HK.out.a.f b _ ho
                clear ho
                obtain ⟨r, hr, -⟩ := HK.out.a.h b hbn
                obtain ⟨r0, r1, r2, r3, r4, r5, r6⟩ := hr
                have z0 := HK.out.a.hz (b * 7)
                have z1 := HK.out.a.hz (b * 7 + 1)
                have z2 := HK.out.a.hz (b * 7 + 2)
                have z3 := HK.out.a.hz (b * 7 + 3)
                have z4 := HK.out.a.hz (b * 7 + 4)
                have z5 := HK.out.a.hz (b * 7 + 5)
                have z6 := HK.out.a.hz (b * 7 + 6)
                have zf := HK.out.a.fz b
                have hHF := HLI.out.HF
                have hcl := cntL_le L n
                have hcs : cntL (L.set b (some p)) n = cntL L n + 1 := by
                  have := cntL_set_some p HO.out
                  rwa [hlenL] at this
                have HCS := Lib.hid hcs
                clear HK9 hcs
                go_wp2_with fail
                go_region
                clear r0 r1 r2 r3 r4 r5 r6 z0 z1 z2 z3 z4 z5 z6 zf hfb
                obtain ⟨wx, hwx⟩ : ∃ wx : World, wx = ((putW wr H F b p).alloc (.cells (Op.cells ⟨0, b, p⟩) 42)).drew := ⟨_, rfl⟩
                rw [← hwx]
                have hX := ei_put HLI.out HK.out b p hbn hwx
                have hbx := hX.2.2.2
                have o0 := (hbx.cell 0)
                have o1 := (hbx.cell 1)
                have o2 := (hbx.cell 2)
                have o3 := (hbx.cell 3)
                have o4 := (hbx.cell 4)
                have o5 := (hbx.cell 5)
                have o6 := (hbx.cell 6)
                have o7 := (hbx.cell 7)
                have o8 := (hbx.cell 8)
                simp at o0 o1 o2 o3 o4 o5 o6 o7 o8
                have HX := Lib.hid hX
                clear hX hbx hwx HK hHlt hFlt
                obtain ⟨N', hN'⟩ := HX.out.2.1.t
                have HN' := Lib.hid hN'
                clear hN'
                go_wp2_with fail
                refine (put_ok3 N' T C H L b p _ HN'.out HO.out (by rw [HX.out.2.1.len]; exact HX.out.2.1.c) HX.out.1.hH).mono ?_
                rintro e wP ⟨rfl, hu, hM, hcl'⟩
                have HP : Hid (EI w T C H F n (L.set b (some p)) wP) := ⟨⟨hM, by rw [List.length_set]; exact HX.out.2.1.len, by rw [HX.out.2.1.len] at hcl'; exact hcl'⟩, HX.out.1.upd hu (by show ¬ H = C; exact fun e => HLI.out.CH e.symm) (by show ¬ F = C; exact fun e => HLI.out.CF e.symm), nw_upd HX.out.2.2.1 hu HLI.out.C0⟩
                clear hu hM hcl' HX HN' o0 o1 o2 o3 o4 o5 o6 o7 o8
                obtain ⟨N', hN'⟩ := HP.out.t.t
                have hlen' := HP.out.t.len
                have HN' := Lib.hid hN'
                clear hN'
                go_wp2_with fail
                refine (len_any N' T C _ _ HN'.out (by rw [hlen']; exact hn1)).mono ?_
                rintro e wL ⟨rfl, hb⟩
                rw [hlen']
                have HTL := Lib.hid (HP.out.nw_ hb)
                clear hb HN' HP hlen'
                rw [HCS.out]
                have hcc : (((cntL L n + 1 : Nat) : Int) != (cntL L n : Int) + 1) = false := by simp
                go_wp2
                go_roundw
                case rel => exact ⟨k + 1, L.set b (some p), by omega, by go_num, by rw [HCS.out]; simp, HTL⟩
                case measure => simp [intOf]; omega
              | some q =>
                have hfb : wr.cell? ⟨F, b, none⟩ = some (.bool true) := HK.out.a.f b _ ho
                clear ho
                obtain ⟨N', hN'⟩ := HK9.out.t.t
                have HN' := Lib.hid hN'
                clear hN' hlenL HK
                go_wp2_with fail
                refine (put_full N' T C L b p q _ HN'.out HO.out).mono ?_
                rintro e wP ⟨rfl, hb⟩
                have HP := Lib.hid (HK9.out.nw_ hb)
                clear hb HN' HK9 hfb
                obtain ⟨N', hN'⟩ := HP.out.t.t
                have hlen' := HP.out.t.len
                have HN' := Lib.hid hN'
                clear hN'
                go_wp2_with fail
                refine (len_any N' T C _ _ HN'.out (by rw [hlen']; exact hn1)).mono ?_
                rintro e wL ⟨rfl, hb⟩
                rw [hlen']
                have HTL := Lib.hid (HP.out.nw_ hb)
                clear hb HN' HP hlen'
                have hcc : ((cntL L n : Int) != (cntL L n : Int)) = false := by simp
                go_wp2
                go_roundw
                case rel => exact ⟨k + 1, L, by omega, by go_num, rfl, HTL⟩
                case measure => simp [intOf]; omega
          by_cases hk1 : kd = 1
          ·
            clear hin
            subst hk1
            rcases hbxc with ⟨rfl, hx⟩ | ⟨rfl, b, hbn, rfl⟩
            ·
              have hxx : bx < 0 ∨ (L.length : Int) ≤ bx := by omega
              have HXX := Lib.hid hxx
              clear hxx hx hlenL
              have hb14 := Blk.new (wr.alloc (.cells (Op.cells ⟨1, bx, p⟩) 42)) 25 Pk.zero.cells
              have hb42 := (Blk.new wr 42 (Op.cells ⟨1, bx, p⟩)).nw (nw_alloc _ (.cells Pk.zero.cells 25))
              rw [World.size_alloc] at hb14
              have HK10 := Lib.hid (HK9.out.nw_ (nw_alloc _ (.cells Pk.zero.cells 25)))
              have HB14 := Lib.hid hb14
              have HB42 := Lib.hid hb42
              clear hb14 hb42 HK9
              obtain ⟨N', hN'⟩ := HK10.out.t.t
              have HN' := Lib.hid hN'
              clear hN'
              go_wp2_with fail
              refine (peek_out N' T C L bx _ HN'.out HXX.out).mono ?_
              rintro e wP ⟨rfl, hb⟩
              have HK11 := Lib.hid (HK10.out.nw_ (hb.then_ (nw_alloc wP (.cells Pk.zero.cells 25))))
              have HC14 := Lib.hid (HB14.out.nw (hb.then_ (nw_alloc wP (.cells Pk.zero.cells 25))))
              have HC42 := Lib.hid (HB42.out.nw (hb.then_ (nw_alloc wP (.cells Pk.zero.cells 25))))
              have hb14 := HB14.out.nw hb
              have hb42 := HB42.out.nw hb
              have l14 := hb14.lt
              have l42 := hb42.lt
              obtain ⟨p0, p1, p2, p3, p4, p5, p6⟩ := blk_zero hb14
              have g0 := hb42.cell 0
              have g1 := hb42.cell 1
              simp at g0 g1
              clear hb hb14 hb42 HN' HK10 HB14 HB42

              obtain ⟨N2, hN2⟩ := HK11.out.t.t
              have HN2 := Lib.hid hN2
              clear hN2
              go_wp2_with fail
              refine (get_out N2 T C L bx _ HN2.out HXX.out).mono ?_

              rintro e wG ⟨rfl, hb⟩
              have HK12 := Lib.hid (HK11.out.nw_ (hb.then_ (nw_alloc wG (.cells Pk.zero.cells 25))))
              have hb14 := HC14.out.nw hb
              have l14' := hb14.lt
              clear p0 p1 p2 p3 p4 p5 p6
              obtain ⟨p0, p1, p2, p3, p4, p5, p6⟩ := blk_zero hb14
              clear hb hb14 HN2 HK11 HC14 HC42

              obtain ⟨N', hN'⟩ := HK12.out.t.t
              have hlen' := HK12.out.t.len
              have HN' := Lib.hid hN'
              clear hN'
              go_wp2_with fail
              refine (len_any N' T C _ _ HN'.out (by rw [hlen']; exact hn1)).mono ?_
              rintro e wL ⟨rfl, hb⟩
              rw [hlen']
              have HTL := Lib.hid (HK12.out.nw_ hb)
              clear hb HN' HK12 hlen'
              have hcc : ((cntL L n : Int) != (cntL L n : Int)) = false := by simp
              go_wp2
              go_roundw
              case rel => exact ⟨k + 1, L, by omega, by go_num, rfl, HTL⟩
              case measure => simp [intOf]; omega
            ·
              have hbL : b < L.length := by omega
              have hnb : ¬ n ≤ b := by omega
              obtain ⟨o, ho⟩ : ∃ o, L[b]? = some o := ⟨_, List.getElem?_eq_getElem hbL⟩
              have HO := Lib.hid ho
              cases o with
              | none =>
                have hfb : wr.cell? ⟨F, b, none⟩ = some (.bool false) := HK.out.a.f b _ ho
                clear ho
                clear HK hlenL

                have hb14 := Blk.new (wr.alloc (.cells (Op.cells ⟨1, b, p⟩) 42)) 25 Pk.zero.cells
                have hb42 := (Blk.new wr 42 (Op.cells ⟨1, b, p⟩)).nw (nw_alloc _ (.cells Pk.zero.cells 25))
                rw [World.size_alloc] at hb14
                have HK10 := Lib.hid (HK9.out.nw_ (nw_alloc _ (.cells Pk.zero.cells 25)))
                have HB14 := Lib.hid hb14
                have HB42 := Lib.hid hb42
                clear hb14 hb42 HK9
                obtain ⟨N', hN'⟩ := HK10.out.t.t
                have HN' := Lib.hid hN'
                clear hN'
                go_wp2_with fail
                refine (peek_none N' T C L b _ HN'.out HO.out).mono ?_
                rintro e wP ⟨rfl, hb⟩
                have HK11 := Lib.hid (HK10.out.nw_ (hb.then_ (nw_alloc wP (.cells Pk.zero.cells 25))))
                have HC14 := Lib.hid (HB14.out.nw (hb.then_ (nw_alloc wP (.cells Pk.zero.cells 25))))
                have HC42 := Lib.hid (HB42.out.nw (hb.then_ (nw_alloc wP (.cells Pk.zero.cells 25))))
                have hb14 := HB14.out.nw hb
                have hb42 := HB42.out.nw hb
                have l14 := hb14.lt
                have l42 := hb42.lt
                obtain ⟨p0, p1, p2, p3, p4, p5, p6⟩ := blk_zero hb14
                have g0 := hb42.cell 0
                have g1 := hb42.cell 1
                simp at g0 g1
                clear hb hb14 hb42 HN' HK10 HB14 HB42

                obtain ⟨N2, hN2⟩ := HK11.out.t.t
                have HN2 := Lib.hid hN2
                clear hN2
                go_wp2_with fail
                refine (get_none N2 T C L b _ HN2.out HO.out).mono ?_

                rintro e wG ⟨rfl, hb⟩
                have HK12 := Lib.hid (HK11.out.nw_ (hb.then_ (nw_alloc wG (.cells Pk.zero.cells 25))))
                have hb14 := HC14.out.nw hb
                have l14' := hb14.lt
                clear p0 p1 p2 p3 p4 p5 p6
                obtain ⟨p0, p1, p2, p3, p4, p5, p6⟩ := blk_zero hb14
                clear hb hb14 HN2 HK11 HC14 HC42

                obtain ⟨N', hN'⟩ := HK12.out.t.t
                have hlen' := HK12.out.t.len
                have HN' := Lib.hid hN'
                clear hN'
                go_wp2_with fail
                refine (len_any N' T C _ _ HN'.out (by rw [hlen']; exact hn1)).mono ?_
                rintro e wL ⟨rfl, hb⟩
                rw [hlen']
                have HTL := Lib.hid (HK12.out.nw_ hb)
                clear hb HN' HK12 hlen'
                have hcc : ((cntL L n : Int) != (cntL L n : Int)) = false := by simp
                go_wp2
                go_roundw
                case rel => exact ⟨k + 1, L, by omega, by go_num, rfl, HTL⟩
                case measure => simp [intOf]; omega
              | some q =>
                have hfb : wr.cell? ⟨F, b, none⟩ = some (.bool true) := HK.out.a.f b _ ho
                clear ho
                obtain ⟨r, ⟨r0, r1, r2, r3, r4, r5, r6⟩, hrq⟩ := HK.out.a.h b hbn
                obtain rfl := hrq q HO.out
                clear hrq HK

                have hb14 := Blk.new (wr.alloc (.cells (Op.cells ⟨1, b, p⟩) 42)) 25 q.cells
                have hb42 := (Blk.new wr 42 (Op.cells ⟨1, b, p⟩)).nw (nw_alloc _ (.cells q.cells 25))
                rw [World.size_alloc] at hb14
                have HK10 := Lib.hid (HK9.out.nw_ (nw_alloc _ (.cells q.cells 25)))
                have HB14 := Lib.hid hb14
                have HB42 := Lib.hid hb42
                clear hb14 hb42 HK9
                obtain ⟨N', hN'⟩ := HK10.out.t.t
                have HN' := Lib.hid hN'
                clear hN'
                go_wp2_with fail
                refine (peek_some N' T C L b q _ HN'.out HO.out).mono ?_
                rintro e wP ⟨rfl, hb⟩
                have HK11 := Lib.hid (HK10.out.nw_ (hb.then_ (nw_alloc wP (.cells q.cells 25))))
                have HC14 := Lib.hid (HB14.out.nw (hb.then_ (nw_alloc wP (.cells q.cells 25))))
                have HC42 := Lib.hid (HB42.out.nw (hb.then_ (nw_alloc wP (.cells q.cells 25))))
                have hb14 := HB14.out.nw hb
                have hb42 := HB42.out.nw hb
                have l14 := hb14.lt
                have l42 := hb42.lt
                obtain ⟨p0, p1, p2, p3, p4, p5, p6⟩ := pk_cells hb14
                have g0 := hb42.cell 0
                have g1 := hb42.cell 1
                simp at g0 g1
                clear hb hb14 hb42 HN' HK10 HB14 HB42

                obtain ⟨N2, hN2⟩ := HK11.out.t.t
                have HN2 := Lib.hid hN2
                clear hN2
                go_wp2_with fail
                refine (get_some3 N2 T C H L b q _ HN2.out HO.out (by rw [HK11.out.t.len]; exact HK11.out.t.c)).mono ?_

                rintro e wG ⟨rfl, hu, hI, hcl'⟩
                have hlen2 := HK11.out.t.len
                rw [hlen2] at hcl'
                have HK12 : Hid (EI2 w T C H F n (L.set b none) L wG) := ⟨⟨⟨_, hI⟩, by rw [List.length_set]; exact hlen2, hcl'⟩, HK11.out.a.upd hu (by show ¬ H = C; exact fun e => HLI.out.CH e.symm) (by show ¬ F = C; exact fun e => HLI.out.CF e.symm), nw_upd HK11.out.nw hu HLI.out.C0⟩
                have n14 : wr.heap.size + 1 ≠ C := by
                  obtain ⟨cur, hc, _⟩ := HN2.out.row
                  exact HC14.out.ne_ hc (by decide)
                have n42 : wr.heap.size ≠ C := by
                  obtain ⟨cur, hc, _⟩ := HN2.out.row
                  exact HC42.out.ne_ hc (by decide)
                have hb14 := HC14.out.upd hu n14
                have hb42 := HC42.out.upd hu n42
                have l14' := hb14.lt
                have l42' := hb42.lt
                clear p0 p1 p2 p3 p4 p5 p6 g0 g1
                obtain ⟨p0, p1, p2, p3, p4, p5, p6⟩ := pk_cells hb14
                have g0 := hb42.cell 0
                have g1 := hb42.cell 1
                simp at g0 g1
                have hfb2 : wG.cell? ⟨F, b, none⟩ = some (.bool true) := HK12.out.a.f b _ HO.out
                have hfz2 := HK12.out.a.fz b
                have hFlt2 := HK12.out.a.fF
                have hcs : cntL (L.set b none) n + 1 = cntL L n := by
                  have := cntL_set_none HO.out
                  rwa [hlen2] at this
                have hcl2 := cntL_le (L.set b none) n
                rw [← hcs]
                have hA := ei_off HLI.out b HK12.out hbn (.cells q.cells 25)
                have HA2 := Lib.hid hA
                clear hu hI hcl' hb14 hb42 HN2 HK11 HC14 HC42 HK12 hcs hA hfb hlen2
                go_wp2_with fail
                generalize (wG.setCell ⟨F, b, none⟩ (.bool false)).alloc (.cells q.cells 25) = wZ at *

                obtain ⟨N', hN'⟩ := HA2.out.t.t
                have hlen' := HA2.out.t.len
                have HN' := Lib.hid hN'
                clear hN'
                go_wp2_with fail
                refine (len_any N' T C _ _ HN'.out (by rw [hlen']; exact hn1)).mono ?_
                rintro e wL ⟨rfl, hb⟩
                rw [hlen']
                have HTL := Lib.hid (HA2.out.nw_ hb)
                clear hb HN' HA2 hlen'
                have hcc : ((cntL (L.set b none) n : Int) != (cntL (L.set b none) n : Int)) = false := by simp
                go_wp2
                go_roundw
                case rel => exact ⟨k + 1, L.set b none, by omega, by go_num, rfl, HTL⟩
                case measure => simp [intOf]; omega
          by_cases hk2 : kd = 2
          ·
            clear hin
            subst hk2
            rcases hbxc with ⟨rfl, hx⟩ | ⟨rfl, b, hbn, rfl⟩
            ·
              have hxx : bx < 0 ∨ (L.length : Int) ≤ bx := by omega
              have HXX := Lib.hid hxx
              clear hxx hx hlenL
              have hb14 := Blk.new (wr.alloc (.cells (Op.cells ⟨2, bx, p⟩) 42)) 25 Pk.zero.cells
              have hb42 := (Blk.new wr 42 (Op.cells ⟨2, bx, p⟩)).nw (nw_alloc _ (.cells Pk.zero.cells 25))
              rw [World.size_alloc] at hb14
              have HK10 := Lib.hid (HK9.out.nw_ (nw_alloc _ (.cells Pk.zero.cells 25)))
              have HB14 := Lib.hid hb14
              have HB42 := Lib.hid hb42
              clear hb14 hb42 HK9
              obtain ⟨N', hN'⟩ := HK10.out.t.t
              have HN' := Lib.hid hN'
              clear hN'
              go_wp2_with fail
              refine (peek_out N' T C L bx _ HN'.out HXX.out).mono ?_
              rintro e wP ⟨rfl, hb⟩
              have HK11 := Lib.hid (HK10.out.nw_ (hb.then_ (nw_alloc wP (.cells Pk.zero.cells 25))))
              have HC14 := Lib.hid (HB14.out.nw (hb.then_ (nw_alloc wP (.cells Pk.zero.cells 25))))
              have HC42 := Lib.hid (HB42.out.nw (hb.then_ (nw_alloc wP (.cells Pk.zero.cells 25))))
              have hb14 := HB14.out.nw hb
              have hb42 := HB42.out.nw hb
              have l14 := hb14.lt
              have l42 := hb42.lt
              obtain ⟨p0, p1, p2, p3, p4, p5, p6⟩ := blk_zero hb14
              have g0 := hb42.cell 0
              have g1 := hb42.cell 1
              simp at g0 g1
              clear hb hb14 hb42 HN' HK10 HB14 HB42

              go_wp2
              go_roundw
              case rel => exact ⟨k + 1, L, by omega, by go_num, rfl, HK11⟩
              case measure => simp [intOf]; omega
            ·
              have hbL : b < L.length := by omega
              have hnb : ¬ n ≤ b := by omega
              obtain ⟨o, ho⟩ : ∃ o, L[b]? = some o := ⟨_, List.getElem?_eq_getElem hbL⟩
              have HO := Lib.hid ho
              cases o with
              | none =>
                have hfb : wr.cell? ⟨F, b, none⟩ = some (.bool false) := HK.out.a.f b _ ho
                clear ho
                clear HK hlenL

                have hb14 := Blk.new (wr.alloc (.cells (Op.cells ⟨2, b, p⟩) 42)) 25 Pk.zero.cells
                have hb42 := (Blk.new wr 42 (Op.cells ⟨2, b, p⟩)).nw (nw_alloc _ (.cells Pk.zero.cells 25))
                rw [World.size_alloc] at hb14
                have HK10 := Lib.hid (HK9.out.nw_ (nw_alloc _ (.cells Pk.zero.cells 25)))
                have HB14 := Lib.hid hb14
                have HB42 := Lib.hid hb42
                clear hb14 hb42 HK9
                obtain ⟨N', hN'⟩ := HK10.out.t.t
                have HN' := Lib.hid hN'
                clear hN'
                go_wp2_with fail
                refine (peek_none N' T C L b _ HN'.out HO.out).mono ?_
                rintro e wP ⟨rfl, hb⟩
                have HK11 := Lib.hid (HK10.out.nw_ (hb.then_ (nw_alloc wP (.cells Pk.zero.cells 25))))
                have HC14 := Lib.hid (HB14.out.nw (hb.then_ (nw_alloc wP (.cells Pk.zero.cells 25))))
                have HC42 := Lib.hid (HB42.out.nw (hb.then_ (nw_alloc wP (.cells Pk.zero.cells 25))))
                have hb14 := HB14.out.nw hb
                have hb42 := HB42.out.nw hb
                have l14 := hb14.lt
                have l42 := hb42.lt
                obtain ⟨p0, p1, p2, p3, p4, p5, p6⟩ := blk_zero hb14
                have g0 := hb42.cell 0
                have g1 := hb42.cell 1
                simp at g0 g1
                clear hb hb14 hb42 HN' HK10 HB14 HB42

                go_wp2
                go_roundw
                case rel => exact ⟨k + 1, L, by omega, by go_num, rfl, HK11⟩
                case measure => simp [intOf]; omega
              | some q =>
                have hfb : wr.cell? ⟨F, b, none⟩ = some (.bool true) := HK.out.a.f b _ ho
                clear ho
                obtain ⟨r, ⟨r0, r1, r2, r3, r4, r5, r6⟩, hrq⟩ := HK.out.a.h b hbn
                obtain rfl := hrq q HO.out
                clear hrq HK

                have hb14 := Blk.new (wr.alloc (.cells (Op.cells ⟨2, b, p⟩) 42)) 25 q.cells
                have hb42 := (Blk.new wr 42 (Op.cells ⟨2, b, p⟩)).nw (nw_alloc _ (.cells q.cells 25))
                rw [World.size_alloc] at hb14
                have HK10 := Lib.hid (HK9.out.nw_ (nw_alloc _ (.cells q.cells 25)))
                have HB14 := Lib.hid hb14
                have HB42 := Lib.hid hb42
                clear hb14 hb42 HK9
                obtain ⟨N', hN'⟩ := HK10.out.t.t
                have HN' := Lib.hid hN'
                clear hN'
                go_wp2_with fail
                refine (peek_some N' T C L b q _ HN'.out HO.out).mono ?_
                rintro e wP ⟨rfl, hb⟩
                have HK11 := Lib.hid (HK10.out.nw_ (hb.then_ (nw_alloc wP (.cells q.cells 25))))
                have HC14 := Lib.hid (HB14.out.nw (hb.then_ (nw_alloc wP (.cells q.cells 25))))
                have HC42 := Lib.hid (HB42.out.nw (hb.then_ (nw_alloc wP (.cells q.cells 25))))
                have hb14 := HB14.out.nw hb
                have hb42 := HB42.out.nw hb
                have l14 := hb14.lt
                have l42 := hb42.lt
                obtain ⟨p0, p1, p2, p3, p4, p5, p6⟩ := pk_cells hb14
                have g0 := hb42.cell 0
                have g1 := hb42.cell 1
                simp at g0 g1
                clear hb hb14 hb42 HN' HK10 HB14 HB42

                go_wp2
                go_roundw
                case rel => exact ⟨k + 1, L, by omega, by go_num, rfl, HK11⟩
                case measure => simp [intOf]; omega
          by_cases hk3 : kd = 3
          ·
            subst hk3
            clear hbxc HK hin
            obtain ⟨wo, rfl⟩ : ∃ wo : World, wo = wr := ⟨_, rfl⟩
            have HC0 := Lib.hid (CInv.start HK9.out)
            have hFs := HK9.out.a.fF
            have hHs := HK9.out.a.hH
            have hlt9 : wo.heap.size < (wo.alloc (.cells (Op.cells ⟨3, bx, p⟩) 42)).heap.size := by simp
            go_wp2_with fail
            obtain ⟨ws, hws⟩ : ∃ ws : World, ws = wo.alloc (.cells (Op.cells ⟨3, bx, p⟩) 42) := ⟨_, rfl⟩
            rw [← hws] at HK9 HC0 hFs hHs hlt9 ⊢
            clear hws
            go_loopw [20, 142] (fun v i wr => ∃ j : Nat, j ≤ n ∧ i = .int .i64 j ∧ Hid (CInv ws H F n L v j wr)) (fun _ i _ => n - (intOf i).toNat)
            case atStart => exact ⟨0, Nat.zero_le _, rfl, HC0⟩
            case round =>
              obtain ⟨j, hj, rfl, HJ⟩ := hrel
              clear HC0
              by_cases hjn : j < n
              · have hjL : j < L.length := by omega
                have hnj : ¬ n ≤ j := by omega
                have hfz := HJ.out.a.fz j
                have hFl := HJ.out.a.fF
                have hzz := HJ.out.u.size
                obtain ⟨o, ho⟩ : ∃ o, L[j]? = some o := ⟨_, List.getElem?_eq_getElem hjL⟩
                have HO := Lib.hid ho
                cases o with
                | none =>
                  have hfj : wr.cell? ⟨F, j, none⟩ = some (.bool false) := HJ.out.a.f j none (by rw [clr_at]; exact ho)
                  have HJ2 := Lib.hid (HJ.out.step_none HLI.out.HF ho hFs)
                  clear ho HJ
                  go_wp2_with fail
                  clear hfj hfz
                  generalize wr.setCell ⟨F, j, none⟩ (.bool false) = wj at *
                  go_roundw
                  case rel => exact ⟨j + 1, by omega, by go_num, HJ2⟩
                  case measure => simp [intOf]; omega
                | some q =>
                  have hfj : wr.cell? ⟨F, j, none⟩ = some (.bool true) := HJ.out.a.f j (some q) (by rw [clr_at]; exact ho)
                  obtain ⟨r, ⟨r0, r1, r2, r3, r4, r5, r6⟩, hrq⟩ := HJ.out.a.h j hjn
                  obtain rfl := hrq q (by rw [clr_at]; exact ho)
                  have hHl := HJ.out.a.hH
                  have hown := HJ.out.own
                  have hol := outL_len L j
                  have HOWN := Lib.hid hown
                  clear hrq ho hown
                  go_wp2_with (at_builtin; refine wpList_append_own _ rfl _ _ 39 rfl ws.heap.size 25 i0 zval 7 64 Try.underlying39 hi hz0 hz1 hz2 rfl (by decide) _ _ _ rfl (HOWN.out.alloc _) ⟨wr.heap.size, 0, none⟩ 1 1 q.cells.toList rfl rfl (row_news _ _ _) (pk_one q) (by unfold maxLen; omega) (by omega) (by simp; omega) ?_)
                  intro v' w2 hown' hg _
                  have st := HJ.out.step_some HLI.out.HF HO.out hFs hHs hown' hg
                  have HJ2 := Lib.hid st.1
                  have hfz2 := st.2.fz j
                  have hFl2 := st.2.fF
                  have hfj2 : w2.cell? ⟨F, j, none⟩ = some (.bool true) := st.2.f j (some q) (by rw [clr_at]; exact HO.out)
                  clear st hown' hg HJ HOWN hfj hfz r0 r1 r2 r3 r4 r5 r6 hFl hHl
                  go_wp2_with fail
                  clear hfj2 hfz2
                  generalize w2.setCell ⟨F, j, none⟩ (.bool false) = wj at *
                  go_roundw
                  case rel => exact ⟨j + 1, by omega, by go_num, HJ2⟩
                  case measure => simp [intOf]; omega
              · obtain rfl : j = n := by omega
                have hei := HJ.out.ei HLI.out HK9.out
                have ha := HJ.out.a
                have hcl : clr L j = List.replicate j none := by rw [← hlenL]; exact clr_full L
                rw [hcl] at ha
                have hown := HJ.out.own
                have hou : (outL L j).length ≤ j := outL_len L j
                have HOU := Lib.hid hou
                have HOWN := Lib.hid hown
                have HA := Lib.hid ha
                have HT := Lib.hid hei.1
                have HN := Lib.hid hei.2
                have hzz := HJ.out.u.size
                have hCws : C < ws.heap.size := by
                  obtain ⟨N', hN'⟩ := HK9.out.t.t
                  exact Nat.lt_of_lt_of_le hN'.hC hN'.hN
                clear hei ha hown hcl HK9 HJ hou
                obtain ⟨N', hN'⟩ := HT.out.t
                have HN' := Lib.hid hN'
                clear hN'
                go_wp2_with fail
                refine (flush_any N' T C L _ HN'.out (by omega)).mono ?_
                rintro e wF ⟨v2, rfl, hown2, hu, M, hM, ht2⟩
                rw [hlenL] at hown2 ht2
                have hnC : ¬ (fun k => k = C) H := by show ¬ H = C; exact fun e => HLI.out.CH e.symm
                have HE2 : Hid (EI w T C H F j (List.replicate j none) wF) := ⟨⟨⟨M, ht2⟩, by simp, fun i hi e => by
                    have := ht2.none_ i (by simp [hi])
                    rw [e] at this
                    injection this with this
                    injection this with this
                    cases this⟩, HA.out.upd hu hnC (by show ¬ F = C; exact fun e => HLI.out.CF e.symm), nw_upd HN.out hu HLI.out.C0⟩
                have hown1 := own_upd HOWN.out hu (fun k hk => by show ¬ k = C; omega)
                obtain ⟨A1, c1, rfl, P1⟩ := pks_of_own hown1
                obtain ⟨A2, c2, rfl, P2⟩ := pks_of_own hown2
                have HP1 := Lib.hid P1
                have HP2 := Lib.hid P2
                clear hown1 hown2 P1 P2 hu ht2 hnC HOWN HA HT HN HN'
                have HS := Lib.hid (same_any (outL L j) A2 A1 c2 c1 wF (by have := HOU.out; omega) HP2.out HP1.out)
                generalize (outL L j).length = m at *
                go_wp2_with fail
                refine HS.out.mono ?_
                rintro e wS ⟨rfl, hd⟩
                have HE3 := Lib.hid (HE2.out.nw_ hd.nw)
                clear hd HE2 HS HP1 HP2
                obtain ⟨N', hN'⟩ := HE3.out.t.t
                have hlen' := HE3.out.t.len
                have HN' := Lib.hid hN'
                clear hN'
                go_wp2_with fail
                refine (len_any N' T C _ _ HN'.out (by rw [hlen']; exact hn1)).mono ?_
                rintro e wL ⟨rfl, hb⟩
                rw [hlen']
                have HTL := Lib.hid (HE3.out.nw_ hb)
                clear hb HN' HE3 hlen'
                rw [cntL_nones]
                have hcc : (((0 : Nat) : Int) != (0 : Int)) = false := by simp
                go_wp2
                go_roundw
                case rel => exact ⟨k + 1, List.replicate j none, by omega, by go_num, by rw [cntL_nones]; rfl, HTL⟩
                case measure => simp [intOf]; omega
          ·
            have e0 : (kd == 0) = false := by simp [h0]
            have e1 : (kd == 1) = false := by simp [hk1]
            have e2 : (kd == 2) = false := by simp [hk2]
            have e3 : (kd == 3) = false := by simp [hk3]
            clear hbxc hin HK hlenL
            obtain ⟨N', hN'⟩ := HK9.out.t.t
            have hlen' := HK9.out.t.len
            have HN' := Lib.hid hN'
            clear hN'
            go_wp2_with fail
            refine (len_any N' T C _ _ HN'.out (by rw [hlen']; exact hn1)).mono ?_
            rintro e wL ⟨rfl, hb⟩
            rw [hlen']
            have HTL := Lib.hid (HK9.out.nw_ hb)
            clear hb HN' HK9 hlen'
            have hcc : ((cntL L n : Int) != (cntL L n : Int)) = false := by simp
            go_wp2
            go_roundw
            case rel => exact ⟨k + 1, L, by omega, by go_num, rfl, HTL⟩
            case measure => simp [intOf]; omega
      · go_wp2_with fail
        refine (alive_any _).mono ?_
        rintro e w8 ⟨rfl, hb⟩
        have H8 := Lib.hid (HK.out.nw.then_ hb)
        clear hb
        go_wp2
        go_ret
        exact ⟨rfl, H8.out⟩

set_option maxRecDepth 100000 in
theorem echoPlays_walk (many : Int) (A : Option Addr) (c : Nat) (os : List Op) (w : World) (hA : OpsAt w A os) : Calls Try.prog 4 #[.int .i64 many, .slice A os.length c] w (TrueNw w) := by
  by_cases hn : os.length ≤ 400
  · exact echoPlays_good many A c os w hA hn
  · have h : 400 < (os.length : Int) := by omega
    clear hn
    go_enter Try.func4, Try.ntmps4
    go_wp2_with fail
    refine (alive_any _).mono ?_
    rintro e w1 ⟨rfl, hb⟩
    have H1 := Lib.hid hb
    clear hb
    go_wp2
    go_ret
    exact ⟨rfl, H1.out⟩
end Go.Proofs.Ytjoklfhdablniaa
