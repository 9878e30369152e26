/- EchoPlays: what stands in memory. -/
import Derived.Test.YtjoklfhdablniaaF1
import Derived.Laws.OwnMore
namespace Go.Proofs.Ytjoklfhdablniaa
open Go.RowKit
set_option linter.unusedSimpArgs false

structure Op where
  kind : Int
  box : Int
  p : Pk
abbrev Op.cells (o : Op) : Array Value := #[.int .i64 o.kind, .int .i64 o.box, .int .i64 o.p.id, .int .i64 o.p.fl, .int .i64 o.p.ln, .string o.p.data, .int .i64 o.p.fr, .int .i64 o.p.tag, .bool o.p.loop]
def OpAt (w : World) (p : Addr) (o : Op) : Prop :=
  w.cell? p = some (.int .i64 o.kind) ∧ w.cell? ⟨p.block, p.off + 1, none⟩ = some (.int .i64 o.box) ∧ w.cell? ⟨p.block, p.off + 2, none⟩ = some (.int .i64 o.p.id) ∧ w.cell? ⟨p.block, p.off + 3, none⟩ = some (.int .i64 o.p.fl) ∧
    w.cell? ⟨p.block, p.off + 4, none⟩ = some (.int .i64 o.p.ln) ∧ w.cell? ⟨p.block, p.off + 5, none⟩ = some (.string o.p.data) ∧ w.cell? ⟨p.block, p.off + 6, none⟩ = some (.int .i64 o.p.fr) ∧ w.cell? ⟨p.block, p.off + 7, none⟩ = some (.int .i64 o.p.tag) ∧ w.cell? ⟨p.block, p.off + 8, none⟩ = some (.bool o.p.loop)
def OpsAt (w : World) (A : Option Addr) (os : List Op) : Prop := ∀ j (h : j < os.length), ∃ ad, A = some ad ∧ (ad.add (j * 9)).block < w.heap.size ∧ OpAt w (ad.add (j * 9)) (os[j]'h)
theorem OpAt.below {B : Nat} {w w1 : World} {p : Addr} {f : Op} (h : OpAt w p f) (hb : Below B w w1) (hp : p.block < B) : OpAt w1 p f := by
  obtain ⟨h0, h1, h2, h3, h4, h5, h6, h7, h8⟩ := h
  have k : ∀ o v, w.cell? ⟨p.block, o, none⟩ = some v → w1.cell? ⟨p.block, o, none⟩ = some v := fun o v hv => (hb.cell (p := ⟨p.block, o, none⟩) hp).trans hv
  exact ⟨(hb.cell hp).trans h0, k _ _ h1, k _ _ h2, k _ _ h3, k _ _ h4, k _ _ h5, k _ _ h6, k _ _ h7, k _ _ h8⟩
theorem OpsAt.below {w w1 : World} {A : Option Addr} {fs : List Op} (h : OpsAt w A fs) (hb : Nw w w1) : OpsAt w1 A fs := fun j hj => by
  obtain ⟨ad, e, hp, hf⟩ := h j hj
  exact ⟨ad, e, Nat.lt_of_lt_of_le hp hb.size, hf.below hb hp⟩

/-- What makes a slice. -/
structure MakeIs (t e : TypeId) (z : Value) (size n : Nat) (f : World → World) : Prop where
  run : ∀ w, (Instr.makeSlice t (.int .i64 (n : Int)) (.int .i64 (n : Int))).run Try.prog w = .ok (.slice (some ⟨w.heap.size, 0, none⟩) n n) (f w)
  own : ∀ w, (f w).ownsRow w.heap.size e size (.slice (some ⟨w.heap.size, 0, none⟩) n n) n (madeCells z.cells (n * size)).toList
  grown : ∀ w : World, w.grownBy (f w) none
theorem make_is (t e : TypeId) (i : TypeInfo) (z : Value) (size n : Nat) (ht : Try.prog.underlying t = some (.slice e)) (hi : Try.prog.info? e = some i) (hz : i.zero = some z) (hs : i.size = size) (hb : i.bytes * n ≤ 281474976710656) (hn : n ≤ maxLen) :
    ∃ f, MakeIs t e z size n f := by
  have h : ∀ w : World, ∃ w', (Instr.makeSlice t (.int .i64 (n : Int)) (.int .i64 (n : Int))).run Try.prog w = .ok (.slice (some ⟨w.heap.size, 0, none⟩) n n) w' ∧
      w'.ownsRow w.heap.size e size (.slice (some ⟨w.heap.size, 0, none⟩) n n) n (madeCells z.cells (n * size)).toList ∧ w.grownBy w' none := fun w =>
    run_make_full (P := Try.prog) w w.heap.size t e i z size ht hi hz hs .i64 .i64 n hb hn (Nat.le_refl _)
  classical
  exact ⟨fun w => Classical.choose (h w), fun w => (Classical.choose_spec (h w)).1, fun w => (Classical.choose_spec (h w)).2.1, fun w => (Classical.choose_spec (h w)).2.2⟩
theorem info4 : (Try.prog.info? 4).map (fun i => (i.zero, i.size, i.bytes)) = some (some (.bool false), 1, 1) := by kernel_rfl

/-- The table, no place of which points at block H. -/
structure TI (T C H n : Nat) (L : List (Option Pk)) (w : World) : Prop where
  t : ∃ N, TInv w N T C L
  len : L.length = n
  c : Clr w C n H

/-- The law's own two rows: H the packets, F which there are. -/
structure AI (H F n : Nat) (L : List (Option Pk)) (w : World) : Prop where
  h : ∀ i, i < n → ∃ p, PkAt w H (i * 7) p ∧ ∀ q, L[i]? = some (some q) → q = p
  hz : ∀ j, w.frozen? ⟨H, j, none⟩ = false
  f : ∀ i o, L[i]? = some o → w.cell? ⟨F, i, none⟩ = some (.bool o.isSome)
  fb : ∃ cur, Blk w F 4 cur
  hH : H < w.heap.size

theorem PkAt.upd {S : Nat → Prop} {w w' : World} {g o : Nat} {p : Pk} (h : PkAt w g o p) (hu : Upd S w w') (hg : g < w.heap.size) (hs : ¬ S g) : PkAt w' g o p := by
  obtain ⟨h0, h1, h2, h3, h4, h5, h6⟩ := h
  have k : ∀ j v, w.cell? ⟨g, j, none⟩ = some v → w'.cell? ⟨g, j, none⟩ = some v := fun j v hv => (hu.cell hg hs).trans hv
  exact ⟨k _ _ h0, k _ _ h1, k _ _ h2, k _ _ h3, k _ _ h4, k _ _ h5, k _ _ h6⟩
theorem AI.fF {H F n : Nat} {L : List (Option Pk)} {w : World} (h : AI H F n L w) : F < w.heap.size := by
  obtain ⟨cur, hc⟩ := h.fb
  exact hc.lt
theorem AI.fz {H F n : Nat} {L : List (Option Pk)} {w : World} (h : AI H F n L w) (j : Nat) : w.frozen? ⟨F, j, none⟩ = false := by
  obtain ⟨cur, hc⟩ := h.fb
  exact hc.frozen j
theorem AI.upd {S : Nat → Prop} {H F n : Nat} {L : List (Option Pk)} {w w' : World} (h : AI H F n L w) (hu : Upd S w w') (hsH : ¬ S H) (hsF : ¬ S F) : AI H F n L w' := by
  obtain ⟨cur, hc⟩ := h.fb
  refine ⟨fun i hi => ?_, fun j => (hu.frozen h.hH hsH).trans (h.hz j), fun i o ho => (hu.cell hc.lt hsF).trans (h.f i o ho), ⟨cur, hc.upd hu hsF⟩, Nat.lt_of_lt_of_le h.hH hu.size⟩
  obtain ⟨p, hp, hq⟩ := h.h i hi
  exact ⟨p, hp.upd hu h.hH hsH, hq⟩
theorem AI.nw {H F n : Nat} {L : List (Option Pk)} {w w' : World} (h : AI H F n L w) (hu : Nw w w') : AI H F n L w' := h.upd (S := fun _ => False) (Upd.of_nw hu) (fun x => x) (fun x => x)
theorem TI.nw {T C H n : Nat} {L : List (Option Pk)} {w w' : World} (h : TI T C H n L w) (hu : Nw w w') : TI T C H n L w' := by
  obtain ⟨N, hN⟩ := h.t
  exact ⟨⟨N, hN.nw hu⟩, h.len, h.c.nw hu (Nat.lt_of_lt_of_le hN.hC hN.hN)⟩
theorem clr_of_type {w : World} {N T C F n : Nat} {L : List (Option Pk)} {cur : Array Value} (h : TInv w N T C L) (hl : L.length = n) (hF : Blk w F 4 cur) : Clr w C n F := by
  intro i hi e
  have h1 := h.at_ i (by omega)
  cases hL : L[i]'(by omega) with
  | none =>
    rw [hL, e] at h1
    injection h1 with h1
    injection h1 with h1
    cases h1
  | some p =>
    rw [hL, e] at h1
    obtain ⟨b, hv, hb, hk⟩ := h1
    injection hv with hv
    injection hv with hv
    injection hv with hv
    injection hv with hv
    subst hv
    exact hk.ne_ hF (by decide) rfl
theorem TI.upd {S : Nat → Prop} {T C H F n : Nat} {L L' : List (Option Pk)} {w w' : World} (h : TI T C H n L w) (ha : AI H F n L' w) (hu : Upd S w w') (hT : ¬ S T) (hC : ¬ S C) (hs : ∀ b, S b → b = H ∨ b = F) : TI T C H n L w' := by
  obtain ⟨N, hN⟩ := h.t
  obtain ⟨cur, hc⟩ := ha.fb
  refine ⟨⟨N, hN.updx hu hT hC fun b hb => ?_⟩, h.len, h.c.upd hu (Nat.lt_of_lt_of_le hN.hC hN.hN) hC⟩
  rcases hs b hb with rfl | rfl
  · rw [h.len]; exact h.c
  · exact clr_of_type hN rfl hc
/-- A place's sign is turned off. -/
theorem AI.off {H F n : Nat} {L : List (Option Pk)} {w : World} (h : AI H F n L w) (i : Nat) (hne : H ≠ F) (hi : i < L.length) : AI H F n (L.set i none) (w.setCell ⟨F, i, none⟩ (.bool false)) := by
  obtain ⟨cur, hc⟩ := h.fb
  have hu := Upd.set1 w F i (.bool false)
  refine ⟨fun j hj => ?_, fun j => (hu.frozen h.hH hne).trans (h.hz j), fun j o ho => ?_, ⟨_, hc.set_ i _⟩, by simpa [World.setCell] using h.hH⟩
  · obtain ⟨p, hp, hq⟩ := h.h j hj
    refine ⟨p, hp.upd hu h.hH hne, fun q hq' => hq q ?_⟩
    by_cases e : i = j
    · subst e
      rw [List.getElem?_set_self hi] at hq'
      cases hq'
    · rwa [List.getElem?_set_ne e] at hq'
  · by_cases e : i = j
    · subst e
      rw [List.getElem?_set_self hi] at ho
      injection ho with ho
      subst ho
      exact cell_set_same (h.f i _ (List.getElem?_eq_getElem hi))
    · rw [List.getElem?_set_ne e] at ho
      rw [World.cell?_setCell_other _ _ _ _ (fun h => e (by injection h with _ h))]
      exact h.f j o ho
/-- A packet is put. -/
theorem AI.on {H F n : Nat} {L : List (Option Pk)} {w w' : World} (h : AI H F n L w) (i : Nat) (p : Pk) (hi : i < L.length) (hp : PkAt w' H (i * 7) p) (ho : ∀ j, j ≠ i → ∀ q, PkAt w H (j * 7) q → PkAt w' H (j * 7) q)
    (hz : ∀ j, w'.frozen? ⟨H, j, none⟩ = false) (hf : w'.cell? ⟨F, i, none⟩ = some (.bool true)) (hfo : ∀ j, j ≠ i → w'.cell? ⟨F, j, none⟩ = w.cell? ⟨F, j, none⟩) (hb : ∃ cur, Blk w' F 4 cur) (hH : H < w'.heap.size) : AI H F n (L.set i (some p)) w' := by
  refine ⟨fun j hj => ?_, hz, fun j o hjo => ?_, hb, hH⟩
  · by_cases e : i = j
    · subst e
      refine ⟨p, hp, fun q hq => ?_⟩
      rw [List.getElem?_set_self hi] at hq
      injection hq with hq
      injection hq with hq
      exact hq.symm
    · obtain ⟨r, hr, hq⟩ := h.h j hj
      exact ⟨r, ho j (Ne.symm e) r hr, fun q hq' => hq q (by rwa [List.getElem?_set_ne e] at hq')⟩
  · by_cases e : i = j
    · subst e
      rw [List.getElem?_set_self hi] at hjo
      injection hjo with hjo
      subst hjo
      exact hf
    · rw [List.getElem?_set_ne e] at hjo
      rw [hfo j (Ne.symm e)]
      exact h.f j o hjo
abbrev putW (w : World) (H F b : Nat) (p : Pk) : World :=
  ((((((((w.setCell ⟨H, b * 7, none⟩ (.int .i64 p.id)).setCell ⟨H, b * 7 + 1, none⟩ (.int .i64 p.fl)).setCell ⟨H, b * 7 + 2, none⟩ (.int .i64 p.ln)).setCell ⟨H, b * 7 + 3, none⟩ (.string p.data)).setCell ⟨H, b * 7 + 4, none⟩ (.int .i64 p.fr)).setCell
    ⟨H, b * 7 + 5, none⟩ (.int .i64 p.tag)).setCell ⟨H, b * 7 + 6, none⟩ (.bool p.loop)).setCell ⟨F, b, none⟩ (.bool true))
theorem putW_upd (w : World) (H F b : Nat) (p : Pk) : Upd (fun k => k = H ∨ k = F) w (putW w H F b p) := by
  have h : ∀ (w' : World) j v, Upd (fun k => k = H ∨ k = F) w w' → Upd (fun k => k = H ∨ k = F) w (w'.setCell ⟨H, j, none⟩ v) := fun w' j v h => h.setCell (p := ⟨H, j, none⟩) (.inl rfl) v
  have g : ∀ (w' : World) j v, Upd (fun k => k = H ∨ k = F) w w' → Upd (fun k => k = H ∨ k = F) w (w'.setCell ⟨F, j, none⟩ v) := fun w' j v h => h.setCell (p := ⟨F, j, none⟩) (.inr rfl) v
  exact g _ _ _ (h _ _ _ (h _ _ _ (h _ _ _ (h _ _ _ (h _ _ _ (h _ _ _ (h _ _ _ (Upd.refl _ w))))))))
theorem AI.putW_ {H F n : Nat} {L : List (Option Pk)} {w : World} (h : AI H F n L w) (b : Nat) (p : Pk) (hne : H ≠ F) (hb : b < L.length) (hn : b < n) : AI H F n (L.set b (some p)) (putW w H F b p) := by
  have e : ∀ (w : World) (x y : Nat) v, x ≠ y → (w.setCell ⟨H, x, none⟩ v).cell? ⟨H, y, none⟩ = w.cell? ⟨H, y, none⟩ := fun w x y v hxy => World.cell?_setCell_other _ _ _ _ (fun h => hxy (by injection h))
  have eF : ∀ (w : World) (x y : Nat) v, (w.setCell ⟨F, x, none⟩ v).cell? ⟨H, y, none⟩ = w.cell? ⟨H, y, none⟩ := fun w x y v => World.cell?_setCell_other _ _ _ _ (fun h => hne (by injection h with h; exact h.symm))
  have eH : ∀ (w : World) (x y : Nat) v, (w.setCell ⟨H, x, none⟩ v).cell? ⟨F, y, none⟩ = w.cell? ⟨F, y, none⟩ := fun w x y v => World.cell?_setCell_other _ _ _ _ (fun h => hne (by injection h))
  obtain ⟨r, ⟨r0, r1, r2, r3, r4, r5, r6⟩, -⟩ := h.h b hn
  have hf := h.f b _ (List.getElem?_eq_getElem hb)
  refine h.on b p hb ⟨?_, ?_, ?_, ?_, ?_, ?_, ?_⟩ (fun j hj q hq => ?_) (fun j => ?_) ?_ (fun j hj => ?_) ?_ ?_
  · simp (disch := omega) only [eF, e]
    exact cell_set_same r0
  · simp (disch := omega) only [eF, e]
    exact cell_set_same (by simp (disch := omega) only [eF, e]; exact r1)
  · simp (disch := omega) only [eF, e]
    exact cell_set_same (by simp (disch := omega) only [eF, e]; exact r2)
  · simp (disch := omega) only [eF, e]
    exact cell_set_same (by simp (disch := omega) only [eF, e]; exact r3)
  · simp (disch := omega) only [eF, e]
    exact cell_set_same (by simp (disch := omega) only [eF, e]; exact r4)
  · simp (disch := omega) only [eF, e]
    exact cell_set_same (by simp (disch := omega) only [eF, e]; exact r5)
  · simp (disch := omega) only [eF, e]
    exact cell_set_same (by simp (disch := omega) only [eF, e]; exact r6)
  · unfold PkAt
    simp (disch := omega) only [eF, e]
    exact hq
  · simp only [World.frozen?_setCell]
    exact h.hz j
  · exact cell_set_same (by simp only [eH]; exact hf)
  · rw [World.cell?_setCell_other _ _ _ _ (fun h => hj (by injection h with _ h; omega))]
    simp only [eH]
  · obtain ⟨cur, hc⟩ := h.fb
    have hH : ∀ (w' : World) c x v, Blk w' F 4 c → Blk (w'.setCell ⟨H, x, none⟩ v) F 4 c := fun w' c x v hb => hb.far (p := ⟨H, x, none⟩) (fun e => hne e.symm) v
    exact ⟨_, (hH _ _ _ _ (hH _ _ _ _ (hH _ _ _ _ (hH _ _ _ _ (hH _ _ _ _ (hH _ _ _ _ (hH _ _ _ _ hc))))))).set_ b _⟩
  · exact Nat.lt_of_lt_of_le h.hH (putW_upd w H F b p).size
theorem cntL_set_some {L : List (Option Pk)} {i : Nat} (p : Pk) (h : L[i]? = some none) : cntL (L.set i (some p)) L.length = cntL L L.length + 1 := by
  have hlt := (List.getElem?_eq_some_iff.1 h).1
  have e := (List.getElem?_eq_some_iff.1 h).2
  unfold cntL
  rw [List.take_of_length_le (by simp), List.take_length, List.countP_set hlt, e]
  simp
theorem cntL_set_none {L : List (Option Pk)} {i : Nat} {p : Pk} (h : L[i]? = some (some p)) : cntL (L.set i none) L.length + 1 = cntL L L.length := by
  have hlt := (List.getElem?_eq_some_iff.1 h).1
  have e := (List.getElem?_eq_some_iff.1 h).2
  unfold cntL
  rw [List.take_of_length_le (by simp), List.take_length, List.countP_set hlt, e]
  have : 0 < List.countP Option.isSome L := by
    rw [List.countP_pos_iff]
    exact ⟨some p, List.mem_of_getElem? h, rfl⟩
  simp
  omega
theorem cntL_nones (n : Nat) : cntL (List.replicate n none) n = 0 := by
  unfold cntL
  rw [List.take_of_length_le (by simp), List.countP_eq_zero]
  intro a ha
  rw [List.mem_replicate] at ha
  simp [ha.2]
end Go.Proofs.Ytjoklfhdablniaa
