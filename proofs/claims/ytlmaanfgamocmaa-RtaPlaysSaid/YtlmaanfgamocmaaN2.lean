/- The document's Play: what is in memory. -/
import Derived.Test.YtlmaanfgamocmaaN1
import Derived.Test.YtlmaanfgamocmaaR6
namespace Go.Proofs.Ytlmaanfgamocmaa
open Go.RowKit

theorem wpList_queue {w : World} {ops : Array Oper} {rest : List Oper} {o : Oper} {a : Act} {Q : Exit → Act → World → Prop} (hgd : o.guard = none) (s x : Operand)
    (ho : o.op = .call { callee := .builtin .append, args := #[s, x], argTypes := #[50, 50] }) (base len : Nat) (v : Value) (f : Nat → Int) (hs : a.eval s = v) (hq : QAt w base v len f)
    (i : TypeInfo) (hi : Try.prog.info? 3 = some i) (hz : i.zero = some (.int .i64 0)) (hz1 : i.size = 1) (hz2 : i.bytes = 8) (ad : Addr) (c : Nat) (hx : a.eval x = .slice (some ad) 1 c) (hc : w.cell? (ad.add 0) = some (.int .i64 (f len))) (hlen : len ≤ 1000000) (hbase : base ≤ w.heap.size)
    (h : ∀ v' w', QAt w' base v' (len + 1) f → w.grownBy w' v.ownBlock → (v'.ownBlock = v.ownBlock ∨ v'.ownBlock = some w.heap.size) → wpList Try.prog ops Q rest (a.put o.dst v') w') : wpList Try.prog ops Q (o :: rest) a w := by
  refine wpList_plain hgd fun K hK => ?_
  obtain ⟨v', w', hr, h1, h2, h3⟩ := run_queue w base len v f hq i hi hz hz1 hz2 o.type ad c hc hlen hbase
  unfold Oper.wp execOp
  simp only [ho, resolve, invoke, builtin, Sem.run_bind, Sem.run_pure, Result.andThen_ok, List.map_toArray, List.map_cons, List.map_nil, hs, hx, hr]
  exact hK _ _ (h v' w' h1 h2 h3)

/-- When a frame came. -/
def cameF (P O sent : Nat → Nat) (j : Nat) : Nat → Int := fun t => ((O j + (sent j + t) * P j : Nat) : Int)
/-- The document's rows, and what is seen, in memory. -/
structure QI (W : World) (RO RR base n : Nat) (P O sent worst left cnt : Nat → Nat) (V : Nat → Value) : Prop where
  row : ∀ j, j < n → W.cell? ⟨RO, j * 3, none⟩ = some (.int .i64 (sent j : Nat)) ∧ W.cell? ⟨RO, j * 3 + 1, none⟩ = some (.int .i64 (worst j : Nat)) ∧ W.cell? ⟨RO, j * 3 + 2, none⟩ = some (.int .i64 (left j : Nat))
  hv : ∀ j, j < n → W.cell? ⟨RR, j, none⟩ = some (V j)
  q : ∀ j, j < n → QAt W base (V j) (cnt j - sent j) (cameF P O sent j)
  dis : ∀ i j, i < n → j < n → i ≠ j → ∀ g, (V i).ownBlock = some g → (V j).ownBlock ≠ some g
  fo : ∀ j, W.frozen? ⟨RO, j, none⟩ = false
  fr : ∀ j, W.frozen? ⟨RR, j, none⟩ = false
  b0 : RO < base
  b1 : RR < base
  bz : base ≤ W.heap.size
  ne : RO ≠ RR
theorem QI.nw {W W' : World} {RO RR base n : Nat} {P O sent worst left cnt : Nat → Nat} {V : Nat → Value} (h : QI W RO RR base n P O sent worst left cnt V) (hb : Nw W W') : QI W' RO RR base n P O sent worst left cnt V := by
  have z0 : RO < W.heap.size := Nat.lt_of_lt_of_le h.b0 h.bz
  have z1 : RR < W.heap.size := Nat.lt_of_lt_of_le h.b1 h.bz
  exact ⟨fun j hj => ⟨(hb.cell (p := ⟨RO, j * 3, none⟩) z0).trans (h.row j hj).1, (hb.cell (p := ⟨RO, j * 3 + 1, none⟩) z0).trans (h.row j hj).2.1, (hb.cell (p := ⟨RO, j * 3 + 2, none⟩) z0).trans (h.row j hj).2.2⟩,
    fun j hj => (hb.cell (p := ⟨RR, j, none⟩) z1).trans (h.hv j hj), fun j hj => (h.q j hj).nw hb, h.dis, fun j => (hb.frozen (p := ⟨RO, j, none⟩) z0).trans (h.fo j), fun j => (hb.frozen (p := ⟨RR, j, none⟩) z1).trans (h.fr j), h.b0, h.b1, Nat.le_trans h.bz hb.size, h.ne⟩
def updV (V : Nat → Value) (i : Nat) (v : Value) : Nat → Value := fun j => if j = i then v else V j
theorem updV_same (V : Nat → Value) (i : Nat) (v : Value) : updV V i v i = v := by simp [updV]
theorem updV_off {V : Nat → Value} {i j : Nat} {v : Value} (h : j ≠ i) : updV V i v j = V j := by simp [updV, h]
theorem dis_upd {n : Nat} {V : Nat → Value} {i : Nat} {v' : Value} (h : ∀ i j, i < n → j < n → i ≠ j → ∀ g, (V i).ownBlock = some g → (V j).ownBlock ≠ some g) (hi : i < n) (hv : ∀ j, j < n → j ≠ i → ∀ g, (V j).ownBlock = some g → v'.ownBlock ≠ some g) :
    ∀ a b, a < n → b < n → a ≠ b → ∀ g, (updV V i v' a).ownBlock = some g → (updV V i v' b).ownBlock ≠ some g := by
  intro a b ha hb hab g hg hg2
  by_cases ea : a = i
  · subst ea
    rw [updV_same] at hg
    rw [updV_off (Ne.symm hab)] at hg2
    exact hv b hb (Ne.symm hab) g hg2 hg
  · rw [updV_off ea] at hg
    by_cases eb : b = i
    · subst eb
      rw [updV_same] at hg2
      exact hv a ha ea g hg hg2
    · rw [updV_off eb] at hg2
      exact h a b ha hb hab g hg hg2

/-- A frame has come: it is appended to its row. -/
theorem QI.push {W W1 W2 : World} {RO RR base n : Nat} {P O sent worst left cnt : Nat → Nat} {V : Nat → Value} (h : QI W RO RR base n P O sent worst left cnt V) (hn : Nw W W1) {i : Nat} (hi : i < n) (hsc : sent i ≤ cnt i) {v' : Value}
    (hq : QAt W2 base v' (cnt i - sent i + 1) (cameF P O sent i)) (hg : W1.grownBy W2 (V i).ownBlock) (hat : v'.ownBlock = (V i).ownBlock ∨ v'.ownBlock = some W1.heap.size) :
    QI (W2.setCell ⟨RR, i, none⟩ v') RO RR base n P O sent worst left (upd cnt i (cnt i + 1)) (updV V i v') := by
  have h1 := h.nw hn
  have hu : Upd (fun k => (V i).ownBlock = some k) W1 W2 := Upd.of_grown hg fun k e => e
  have hown : ∀ j, j < n → ∀ g, (V j).ownBlock = some g → base ≤ g ∧ g < W1.heap.size := fun j hj => (h1.q j hj).lt
  have hz1 := h1.bz
  have hb0 := h.b0
  have hb1 := h.b1
  have nRO : ¬ (V i).ownBlock = some RO := fun e => by have := hown i hi _ e; omega
  have nRR : ¬ (V i).ownBlock = some RR := fun e => by have := hown i hi _ e; omega
  have hne := h.ne
  have kRO : ∀ j, (W2.setCell ⟨RR, i, none⟩ v').cell? ⟨RO, j, none⟩ = W1.cell? ⟨RO, j, none⟩ := fun j => (set_far hne.symm).trans (hu.cell (by omega) nRO)
  have hus : Upd (fun k => k = RR) W2 (W2.setCell ⟨RR, i, none⟩ v') := Upd.set1 W2 RR i v'
  refine ⟨fun j hj => ⟨(kRO _).trans (h1.row j hj).1, (kRO _).trans (h1.row j hj).2.1, (kRO _).trans (h1.row j hj).2.2⟩, fun j hj => ?_, fun j hj => ?_, dis_upd h.dis hi fun j hj hji g hg2 e => ?_,
    fun j => ?_, fun j => ?_, h.b0, h.b1, Nat.le_trans h1.bz (Nat.le_trans hg.size hus.size), h.ne⟩
  · by_cases e : j = i
    · subst e
      rw [updV_same]
      exact cell_set_same ((hu.cell (by omega) nRR).trans (h1.hv j hj))
    · rw [updV_off e]
      exact (set_off (Ne.symm e)).trans ((hu.cell (by omega) nRR).trans (h1.hv j hj))
  · by_cases e : j = i
    · subst e
      rw [updV_same, upd_same, show cnt j + 1 - sent j = cnt j - sent j + 1 by omega]
      exact hq.upd hus fun g hg2 e => by have := hq.lt g hg2; omega
    · rw [updV_off e, upd_off e]
      refine ((h1.q j hj).upd hu fun g hg2 e2 => ?_).upd hus fun g hg2 e2 => ?_
      · exact h.dis j i hj hi e g hg2 e2
      · have := hown j hj g hg2; omega
  · rcases hat with hat | hat
    · rw [hat] at e
      exact h.dis j i hj hi hji g hg2 e
    · rw [hat] at e
      injection e with e
      have := hown j hj g hg2
      omega
  · rw [World.frozen?_setCell, hu.frozen (by omega) nRO]
    exact h1.fo j
  · rw [World.frozen?_setCell, hu.frozen (by omega) nRR]
    exact h1.fr j
/-- The first one of a row is sent. -/
theorem QI.pop {W : World} {RO RR base n : Nat} {P O sent worst left cnt : Nat → Nat} {V : Nat → Value} (h : QI W RO RR base n P O sent worst left cnt V) {i : Nat} (hi : i < n) {v' : Value} (x : Nat)
    (hq : QAt W base v' (cnt i - x) (cameF P O (upd sent i x) i)) (hat : v'.ownBlock = (V i).ownBlock) :
    QI ((W.setCell ⟨RR, i, none⟩ v').setCell ⟨RO, i * 3, none⟩ (.int .i64 x)) RO RR base n P O (upd sent i x) worst left cnt (updV V i v') := by
  have hown : ∀ j, j < n → ∀ g, (V j).ownBlock = some g → base ≤ g ∧ g < W.heap.size := fun j hj => (h.q j hj).lt
  have hb0 := h.b0
  have hb1 := h.b1
  have hne := h.ne
  have hus : Upd (fun k => k = RR ∨ k = RO) W ((W.setCell ⟨RR, i, none⟩ v').setCell ⟨RO, i * 3, none⟩ (.int .i64 x)) :=
    ((Upd.set1 W RR i v').mono fun k _ e => .inl e).trans ((Upd.set1 _ RO _ _).mono fun k _ e => .inr e)
  refine ⟨fun j hj => ?_, fun j hj => ?_, fun j hj => ?_, dis_upd h.dis hi fun j hj hji g hg2 e => ?_, fun j => ?_, fun j => ?_, h.b0, h.b1, Nat.le_trans h.bz hus.size, h.ne⟩
  · obtain ⟨r0, r1, r2⟩ := h.row j hj
    by_cases e : j = i
    · subst e
      rw [upd_same]
      exact ⟨cell_set_same ((set_far hne.symm).trans r0), (set_off (by omega)).trans ((set_far hne.symm).trans r1), (set_off (by omega)).trans ((set_far hne.symm).trans r2)⟩
    · rw [upd_off e]
      exact ⟨(set_off (by omega)).trans ((set_far hne.symm).trans r0), (set_off (by omega)).trans ((set_far hne.symm).trans r1), (set_off (by omega)).trans ((set_far hne.symm).trans r2)⟩
  · by_cases e : j = i
    · subst e
      rw [updV_same]
      exact (set_far hne).trans (cell_set_same (h.hv j hj))
    · rw [updV_off e]
      exact (set_far hne).trans ((set_off (Ne.symm e)).trans (h.hv j hj))
  · by_cases e : j = i
    · subst e
      rw [updV_same, upd_same]
      exact hq.upd hus fun g hg2 e => by
        rw [hat] at hg2
        have := hown j hj g hg2
        omega
    · rw [updV_off e, upd_off e]
      have hf : cameF P O (upd sent i x) j = cameF P O sent j := by unfold cameF; rw [upd_off e]
      rw [hf]
      exact (h.q j hj).upd hus fun g hg2 e2 => by have := hown j hj g hg2; omega
  · rw [hat] at e
    exact h.dis j i hj hi hji g hg2 e
  · rw [World.frozen?_setCell, World.frozen?_setCell]; exact h.fo j
  · rw [World.frozen?_setCell, World.frozen?_setCell]; exact h.fr j
theorem QI.worst_ {W : World} {RO RR base n : Nat} {P O sent worst left cnt : Nat → Nat} {V : Nat → Value} (h : QI W RO RR base n P O sent worst left cnt V) {i : Nat} (hi : i < n) (x : Nat) :
    QI (W.setCell ⟨RO, i * 3 + 1, none⟩ (.int .i64 x)) RO RR base n P O sent (upd worst i x) left cnt V := by
  have hown : ∀ j, j < n → ∀ g, (V j).ownBlock = some g → base ≤ g ∧ g < W.heap.size := fun j hj => (h.q j hj).lt
  have hb0 := h.b0
  have hus : Upd (fun k => k = RO) W (W.setCell ⟨RO, i * 3 + 1, none⟩ (.int .i64 x)) := Upd.set1 W RO _ _
  refine ⟨fun j hj => ?_, fun j hj => (set_far h.ne).trans (h.hv j hj), fun j hj => (h.q j hj).upd hus fun g hg2 e2 => by have := hown j hj g hg2; omega, h.dis, fun j => ?_, fun j => ?_, h.b0, h.b1, Nat.le_trans h.bz hus.size, h.ne⟩
  · obtain ⟨r0, r1, r2⟩ := h.row j hj
    by_cases e : j = i
    · subst e
      rw [upd_same]
      exact ⟨(set_off (by omega)).trans r0, cell_set_same r1, (set_off (by omega)).trans r2⟩
    · rw [upd_off e]
      exact ⟨(set_off (by omega)).trans r0, (set_off (by omega)).trans r1, (set_off (by omega)).trans r2⟩
  · rw [World.frozen?_setCell]; exact h.fo j
  · rw [World.frozen?_setCell]; exact h.fr j
theorem upd_self (f : Nat → Nat) (i : Nat) : upd f i (f i) = f := by
  funext j
  unfold upd
  split
  · rename_i h; rw [h]
  · rfl
theorem came_next (P O sent : Nat → Nat) (i t : Nat) : cameF P O (upd sent i (sent i + 1)) i t = cameF P O sent i (t + 1) := by
  unfold cameF
  rw [upd_same, show sent i + 1 + t = sent i + (t + 1) by omega]
/-- What is left of a row whose first one is taken. -/
theorem qat_tail {W : World} {base g o len cap : Nat} {P O sent : Nat → Nat} {i : Nat} {k : Nat} (h : QAt W base (.slice (some ⟨g, o, none⟩) len cap) len (cameF P O sent i)) (hk : k + 1 = len) (o' : Nat) (ho : 0 < k → o' = o + 1) (ho2 : 0 < cap - 1 → o' = o + 1) :
    QAt W base (.slice (some ⟨g, o', none⟩) k (cap - 1)) k (cameF P O (upd sent i (sent i + 1)) i) := by
  rcases h with ⟨e, -⟩ | ⟨g', o2, cap', e, h1, h2, h3, h4, h5, h6⟩
  · cases e
  · injection e with e1 e2 e3
    injection e1 with e1
    injection e1 with e1 e4
    subst e1 e4 e3
    refine .inr ⟨g, o', cap - 1, rfl, h1, h2, by omega, fun j hj => ?_, fun j hj => ?_, h6⟩
    · rw [came_next, ho (by omega), show o + 1 + j = o + (j + 1) by omega]
      exact h4 (j + 1) (by omega)
    · rw [ho2 (by omega), show o + 1 + j = o + (j + 1) by omega]
      exact h5 (j + 1) (by omega)
theorem QI.left_ {W : World} {RO RR base n : Nat} {P O sent worst left cnt : Nat → Nat} {V : Nat → Value} (h : QI W RO RR base n P O sent worst left cnt V) {i : Nat} (hi : i < n) (x : Nat) :
    QI (W.setCell ⟨RO, i * 3 + 2, none⟩ (.int .i64 x)) RO RR base n P O sent worst (upd left i x) cnt V := by
  have hown : ∀ j, j < n → ∀ g, (V j).ownBlock = some g → base ≤ g ∧ g < W.heap.size := fun j hj => (h.q j hj).lt
  have hb0 := h.b0
  have hus : Upd (fun k => k = RO) W (W.setCell ⟨RO, i * 3 + 2, none⟩ (.int .i64 x)) := Upd.set1 W RO _ _
  refine ⟨fun j hj => ?_, fun j hj => (set_far h.ne).trans (h.hv j hj), fun j hj => (h.q j hj).upd hus fun g hg2 e2 => by have := hown j hj g hg2; omega, h.dis, fun j => ?_, fun j => ?_, h.b0, h.b1, Nat.le_trans h.bz hus.size, h.ne⟩
  · obtain ⟨r0, r1, r2⟩ := h.row j hj
    by_cases e : j = i
    · subst e
      rw [upd_same]
      exact ⟨(set_off (by omega)).trans r0, (set_off (by omega)).trans r1, cell_set_same r2⟩
    · rw [upd_off e]
      exact ⟨(set_off (by omega)).trans r0, (set_off (by omega)).trans r1, (set_off (by omega)).trans r2⟩
  · rw [World.frozen?_setCell]; exact h.fo j
  · rw [World.frozen?_setCell]; exact h.fr j
/-- One frame more comes in a slot, or none. -/
theorem arr_step {P O : Nat → Nat} {k s : Nat} (hp : 1 ≤ P k) : arr P O k (s + 1) = arr P O k s + if O k ≤ s ∧ (s - O k) % P k = 0 then 1 else 0 := by
  unfold arr
  by_cases h : O k ≤ s
  · rw [show s + 1 - O k + P k - 1 = s - O k + 1 * P k by omega, Nat.add_mul_div_right _ _ (by omega)]
    generalize s - O k = x
    have h1 : x = P k * (x / P k) + x % P k := (Nat.div_add_mod x (P k)).symm
    have h2 : x % P k < P k := Nat.mod_lt _ (by omega)
    have := rem_div (v := x) hp
    rw [this]
    by_cases h3 : x % P k = 0
    · rw [if_neg (show ¬ 0 < x % P k by omega), if_pos ⟨h, h3⟩]
    · rw [if_pos (show 0 < x % P k by omega), if_neg (fun e => h3 e.2)]
  · rw [if_neg (fun e => h e.1), show s + 1 - O k = 0 by omega, show s - O k = 0 by omega, Nat.add_zero]
/-- The slot in which one comes. -/
theorem came_at {P O : Nat → Nat} {k s : Nat} (hp : 1 ≤ P k) (h : O k ≤ s) (h2 : (s - O k) % P k = 0) : O k + arr P O k s * P k = s := by
  unfold arr
  rw [rem_div hp, if_neg (by omega), Nat.add_zero]
  have := Nat.div_add_mod (s - O k) (P k)
  rw [Nat.mul_comm] at this
  omega
/-- How many have come when so many tasks have been gone through in a slot. -/
def cntN (P O : Nat → Nat) (s k : Nat) : Nat → Nat := fun j => if j < k then arr P O j (s + 1) else arr P O j s
theorem cntN_zero (P O : Nat → Nat) (s : Nat) : cntN P O s 0 = fun j => arr P O j s := by funext j; simp [cntN]
theorem cntN_yes {P O : Nat → Nat} {s k : Nat} (h : arr P O k (s + 1) = arr P O k s + 1) : upd (cntN P O s k) k (cntN P O s k k + 1) = cntN P O s (k + 1) := by
  funext j
  unfold upd cntN
  by_cases e : j = k
  · subst e
    rw [if_pos rfl, if_neg (Nat.lt_irrefl _), if_pos (by omega), h]
  · rw [if_neg e]
    by_cases h2 : j < k
    · rw [if_pos h2, if_pos (by omega)]
    · rw [if_neg h2, if_neg (by omega)]
theorem cntN_no {P O : Nat → Nat} {s k : Nat} (h : arr P O k (s + 1) = arr P O k s) : cntN P O s k = cntN P O s (k + 1) := by
  funext j
  unfold cntN
  by_cases e : j = k
  · subst e
    rw [if_neg (Nat.lt_irrefl _), if_pos (by omega), h]
  · by_cases h2 : j < k
    · rw [if_pos h2, if_pos (by omega)]
    · rw [if_neg h2, if_neg (by omega)]
end Go.Proofs.Ytlmaanfgamocmaa
