/- The walk of RtaAhead: what is appended. -/
import Derived.Test.YtlmaanfgamocmaaM6
namespace Go.Proofs.Ytlmaanfgamocmaa
open Go.RowKit

/-- append at a step of a region that draws its order, nothing appended let in. -/
theorem step_append {P : Program} {w : World} {ops : Array Oper} {o : Oper} {a : Act} {K : Act → World → Prop} {Q : Exit → Act → World → Prop} {E : Prop} (hgd : o.guard = none) (s x : Operand) (t : TypeId)
    (ho : o.op = .call { callee := .builtin .append, args := #[s, x], argTypes := #[t, t] })
    (base : Nat) (e : TypeId) (i : TypeInfo) (z : Value) (size bytes : Nat) (ht : P.underlying t = some (.slice e)) (hi : P.info? e = some i) (hz : i.zero = some z)
    (hsize : i.size = size) (hby : i.bytes = bytes) (hzs : z.cells.size = size) (hsz : 0 < size)
    (v : Value) (n : Nat) (xs : List Value) (hs : a.eval s = v) (hown : w.ownsRow base e size v n xs)
    (A : Option Addr) (m c : Nat) (news : List Value) (hx : a.eval x = .slice A m c) (hA : A = none → m = 0 ∧ c = 0) (hl : news.length = m * size) (hnews : ∀ ad, A = some ad → ∀ j u, news[j]? = some u → w.cell? (ad.add j) = some u) (h1 : ∀ u ∈ news, u.oneCell' = true)
    (h63 : n + m ≤ maxLen) (hbytes : (n + m) * bytes ≤ 140737488355328) (hbase : base ≤ w.heap.size)
    (h : ∀ v' w', w'.ownsRow base e size v' (n + m) (xs ++ news) → w.grownBy w' v.ownBlock → Below base w w' → K (a.put o.dst v') w') :
    if Region.wanted o (yielded ops a.tmps) = true then Oper.wp P o a w K Q else E := by
  have hw : Region.wanted o (yielded ops a.tmps) = true := by simp [Region.wanted, hgd]
  rw [if_pos hw]
  cases A with
  | some ad =>
    exact wp_append_own w s x t ho base e i z size bytes ht hi hz hsize hby hzs hsz v n xs hs hown ad m c news hx hl (hnews ad rfl) h1 h63 hbytes hbase fun v' w' h2 h3 _ => h v' w' h2 h3 ((Below.refl _ _).grown h3 hbase fun j hj => (hown.lt j hj).1)
  | none =>
    obtain ⟨rfl, rfl⟩ := hA rfl
    have hn0 : news = [] := List.eq_nil_of_length_eq_zero (by omega)
    subst hn0
    have hr := run_append_owned_none (P := P) (w := w) base t o.type e i size ht hi v n xs hown
    unfold Oper.wp execOp
    simp only [ho, resolve, invoke, builtin, Sem.run_bind, Sem.run_pure, Result.andThen_ok, List.map_toArray, List.map_cons, List.map_nil, hs, hx, hr]
    refine h v w (by simpa using hown) ⟨rfl, rfl, rfl, Nat.le_refl _, fun _ _ _ => rfl⟩ (Below.refl _ _)

theorem add_succ {w : World} {ad : Addr} {k : Nat} {v : Value} (h : w.cell? (ad.add k) = some v) : ad.add (k + 1) = ⟨(ad.add k).block, (ad.add k).off + 1, none⟩ := by
  have hsp := World.cell?_spot h
  have hbl : (ad.add k).block = ad.block := by unfold Addr.add; split <;> rfl
  have hof : (ad.add k).off = ad.off + k := by
    unfold Addr.add
    split
    · rename_i h0; omega
    · rfl
  rw [hbl, hof]
  unfold Addr.add
  rw [if_neg (by omega)]
  rfl
theorem news_tasks {w : World} {A : Option Addr} {l : List Tk} (h : TksAt w A l) : ∀ ad, A = some ad → ∀ j u, (rowT l)[j]? = some u → w.cell? (ad.add j) = some u := fun ad hA j u hu => by
  have hj := (List.getElem?_eq_some_iff.1 hu).1
  rw [rowT_len] at hj
  have key : ∀ i, i < l.length → w.cell? (ad.add (i * 2)) = (rowT l)[i * 2]? ∧ w.cell? (ad.add (i * 2 + 1)) = (rowT l)[i * 2 + 1]? := fun i hi => by
    obtain ⟨ad', hA', -, h0, h1⟩ := h i hi
    rw [hA] at hA'
    injection hA' with hA'
    subst hA'
    obtain ⟨r0, r1⟩ := rowT_at l i _ (List.getElem?_eq_getElem hi)
    rw [r0, r1, add_succ h0]
    exact ⟨h0, h1⟩
  rcases (show j = j / 2 * 2 ∨ j = j / 2 * 2 + 1 by omega) with e | e
  · rw [← hu, e]
    exact (key (j / 2) (by omega)).1
  · rw [← hu, e]
    exact (key (j / 2) (by omega)).2
theorem rowT_one (l : List Tk) : ∀ u ∈ rowT l, u.oneCell' = true := by
  intro u hu
  unfold rowT at hu
  rw [List.mem_flatMap] at hu
  obtain ⟨t, -, hu⟩ := hu
  simp at hu
  rcases hu with rfl | rfl <;> rfl
theorem nw_alloc2 {a w : World} (h : Nw a w) (o : Obj) : Nw a (w.alloc o) := h.then_ (nw_alloc w o)
theorem nw_drew2 {a w : World} (h : Nw a w) : Nw a w.drew := h.then_ (nw_drew w)
theorem own_empty {w : World} {base H : Nat} (hH : w.heap.size = H) (hb : base ≤ H) : (w.alloc (.cells #[] 34)).ownsRow base 34 2 (.slice (some ⟨H, 0, none⟩) 0 0) 0 [] := by
  subst hH
  exact World.ownsRow_lit w #[] 0 hb (by unfold maxLen; omega) rfl
theorem news_far {w w' : World} {b H : Nat} {cs : List Value} (h : ∀ j u, cs[j]? = some u → w.cell? ((⟨b, 0, none⟩ : Addr).add j) = some u) (hg : w.grownBy w' (Value.slice (some ⟨H, 0, none⟩) 0 0).ownBlock) (hb : b < w.heap.size) (hne : b ≠ H) : ∀ j u, cs[j]? = some u → w'.cell? ((⟨b, 0, none⟩ : Addr).add j) = some u := fun j u hu => by
  rw [add_plain]
  have := h j u hu
  rw [add_plain] at this
  rw [hg.cell_far _ hb (fun e => hne (by simpa [Value.ownBlock] using e))]
  exact this
theorem news_new {w : World} {H : Nat} (hH : w.heap.size = H) (a b : Value) (t : TypeId) : ∀ j u, [a, b][j]? = some u → (w.alloc (.cells #[a, b] t)).cell? ((⟨H, 0, none⟩ : Addr).add j) = some u := by
  subst hH
  exact row2_news w a b t
theorem news_nw {w w' : World} {b : Nat} {cs : List Value} (h : ∀ j u, cs[j]? = some u → w.cell? ((⟨b, 0, none⟩ : Addr).add j) = some u) (hb : b < w.heap.size) (hn : Nw w w') : ∀ j u, cs[j]? = some u → w'.cell? ((⟨b, 0, none⟩ : Addr).add j) = some u := fun j u hu => by
  have := h j u hu
  rw [add_plain] at this ⊢
  exact (hn.cell (p := ⟨b, j, none⟩) hb).trans this
theorem news_some {w : World} {a : Addr} {cs : List Value} (h : ∀ j u, cs[j]? = some u → w.cell? (a.add j) = some u) : ∀ ad, some a = some ad → ∀ j u, cs[j]? = some u → w.cell? (ad.add j) = some u := fun ad e => by
  cases e
  exact h
theorem drew_own {w : World} {base : Nat} {e : TypeId} {size n : Nat} {v : Value} {xs : List Value} (h : w.ownsRow base e size v n xs) : w.drew.ownsRow base e size v n xs := h
theorem drew_news {w : World} {a : Addr} {cs : List Value} (h : ∀ j u, cs[j]? = some u → w.cell? (a.add j) = some u) : ∀ j u, cs[j]? = some u → w.drew.cell? (a.add j) = some u := h
end Go.Proofs.Ytlmaanfgamocmaa
