/- A row of numbers that is appended to behind and cut ahead. -/
import Derived.Test.YtlmaanfgamocmaaM3
import Derived.Deep.AppendSrc
namespace Go.Proofs.Ytlmaanfgamocmaa
open Go.RowKit

/-- A row of numbers in a block of its own, wherever it begins there. -/
def QAt (w : World) (base : Nat) (v : Value) (len : Nat) (f : Nat → Int) : Prop :=
  (v = .slice none 0 0 ∧ len = 0) ∨
  ∃ g o cap, v = .slice (some ⟨g, o, none⟩) len cap ∧ base ≤ g ∧ g < w.heap.size ∧ len ≤ cap ∧ (∀ j, j < len → w.cell? ⟨g, o + j, none⟩ = some (.int .i64 (f j))) ∧ (∀ j, j < cap → (w.cell? ⟨g, o + j, none⟩).isSome = true) ∧ ∀ j, w.frozen? ⟨g, j, none⟩ = false
theorem QAt.upd {S : Nat → Prop} {w w' : World} {base : Nat} {v : Value} {len : Nat} {f : Nat → Int} (h : QAt w base v len f) (hu : Upd S w w') (hs : ∀ g, v.ownBlock = some g → ¬ S g) : QAt w' base v len f := by
  rcases h with ⟨rfl, rfl⟩ | ⟨g, o, cap, rfl, h1, h2, h3, h4, h5, h6⟩
  · exact .inl ⟨rfl, rfl⟩
  · have hg := hs g rfl
    exact .inr ⟨g, o, cap, rfl, h1, Nat.lt_of_lt_of_le h2 hu.size, h3, fun j hj => (hu.cell h2 hg).trans (h4 j hj), fun j hj => by rw [hu.cell h2 hg]; exact h5 j hj, fun j => (hu.frozen h2 hg).trans (h6 j)⟩
theorem QAt.nw {w w' : World} {base : Nat} {v : Value} {len : Nat} {f : Nat → Int} (h : QAt w base v len f) (hu : Nw w w') : QAt w' base v len f := h.upd (S := fun _ => False) (Upd.of_nw hu) fun _ _ x => x
theorem QAt.lt {w : World} {base : Nat} {v : Value} {len : Nat} {f : Nat → Int} (h : QAt w base v len f) : ∀ g, v.ownBlock = some g → base ≤ g ∧ g < w.heap.size := fun g hg => by
  rcases h with ⟨rfl, rfl⟩ | ⟨g', o, cap, rfl, h1, h2, -⟩
  · cases hg
  · injection hg with hg
    subst hg
    exact ⟨h1, h2⟩
theorem zero_size (m : Nat) : (Builtin.zeroCells (Value.int .i64 0).cells m).size = m := by
  simp [Builtin.zeroCells, Value.cells]
theorem run_queue (w : World) (base len : Nat) (v : Value) (f : Nat → Int) (hq : QAt w base v len f) (i : TypeInfo) (hi : Try.prog.info? 3 = some i) (hz : i.zero = some (.int .i64 0)) (hz1 : i.size = 1) (hz2 : i.bytes = 8)
    (ty : TypeId) (ad : Addr) (c : Nat) (hx : w.cell? (ad.add 0) = some (.int .i64 (f len))) (hlen : len ≤ 1000000) (hbase : base ≤ w.heap.size) :
    ∃ v' w', (Builtin.append_ #[50, 50] ty #[v, .slice (some ad) 1 c]).run Try.prog w = .ok v' w' ∧ QAt w' base v' (len + 1) f ∧ w.grownBy w' v.ownBlock ∧ (v'.ownBlock = v.ownBlock ∨ v'.ownBlock = some w.heap.size) := by
  have hnews : ∀ j u, [Value.int .i64 (f len)][j]? = some u → w.cell? (ad.add j) = some u := fun j u hu => by
    have : j = 0 := by have := (List.getElem?_eq_some_iff.1 hu).1; simpa using this
    subst this
    simp at hu
    subst hu
    exact hx
  have grown : ∀ (olds : List Value) (cap : Nat), olds.length = len → (∀ j, j < len → olds[j]? = some (.int .i64 (f j))) → len + 1 ≤ cap → ∀ row,
      QAt (w.drew.alloc (.cells (olds.toArray ++ [Value.int .i64 (f len)].toArray ++ Builtin.zeroCells (Value.int .i64 0).cells (cap - (len + 1))) 3)) base (.slice (some ⟨w.heap.size, 0, none⟩) (len + 1) cap) (len + 1) f ∧
      w.grownBy (w.drew.alloc (.cells (olds.toArray ++ [Value.int .i64 (f len)].toArray ++ Builtin.zeroCells (Value.int .i64 0).cells (cap - (len + 1))) 3)) row := fun olds cap ho hol hc row => by
    have hnew : ∀ (C : Array Value) j, (w.drew.alloc (.cells C 3)).cell? ⟨w.heap.size, j, none⟩ = C[j]? := fun C j => alloc_cell_new (w := w.drew) rfl j
    refine ⟨.inr ⟨w.heap.size, 0, cap, rfl, hbase, by simp, hc, fun j hj => ?_, fun j hj => ?_, fun j => ?_⟩, ⟨rfl, rfl, rfl, by simp, fun k hk _ => ?_⟩⟩
    · rw [hnew, Nat.zero_add]
      rw [Array.getElem?_append_left (by simp; omega)]
      by_cases e : j < len
      · rw [Array.getElem?_append_left (by simpa [ho] using e)]
        simpa using hol j e
      · have : j = len := by omega
        subst this
        rw [Array.getElem?_append_right (by simp [ho])]
        simp [ho]
    · rw [hnew, Nat.zero_add, Array.getElem?_eq_getElem (by
        rw [Array.size_append, Array.size_append, zero_size]
        simp [ho]
        omega)]
      rfl
    · exact World.frozen?_alloc_at _ _ _ _ rfl
    · exact (nw_alloc w.drew _).block k hk
  have hcg := grownCap_ge w (len + 1)
  rcases hq with ⟨rfl, rfl⟩ | ⟨g, o, cap, rfl, h1, h2, h3, h4, h5, h6⟩
  · have hr := run_append_nil (P := Try.prog) w 50 ty 3 i (.int .i64 0) Try.underlying50 hi hz ad 1 c [.int .i64 (f 0)] (by rw [hz1]; rfl) hnews (by omega) (by omega) (by rw [hz2]; omega)
    obtain ⟨g1, g2⟩ := grown [] (grownCap w 1 0 3) rfl (fun j hj => absurd hj (Nat.not_lt_zero _)) (hcg 0 3) (Value.ownBlock (.slice none 0 0))
    refine ⟨_, _, hr, ?_, ?_, .inr rfl⟩
    · simpa using g1
    · simpa using g2
  · by_cases hroom : len + 1 ≤ cap
    · have hsrc : Src Try.prog i.size 50 (.slice (some ad) 1 c) 1 [.int .i64 (f len)] w := Src.ofSlice w Try.underlying50 ad 1 c _ (by rw [hz1]; rfl) hnews (by intro u hu; simp at hu; subst hu; rfl)
      have hr := run_append_room_src (P := Try.prog) w 50 50 ty 3 i Try.underlying50 hi g o len cap (.slice (some ad) 1 c) 1 [.int .i64 (f len)] hsrc hroom (fun j hj => by
        have : j = 0 := by simpa using hj
        subst this
        rw [hz1, Nat.mul_one, Nat.add_zero]
        exact h5 len (by omega)) (fun j hj => h6 _)
      rw [hz1, Nat.mul_one] at hr
      simp only [World.setCells] at hr
      refine ⟨_, _, hr, .inr ⟨g, o, cap, rfl, h1, by simpa using h2, hroom, fun j hj => ?_, fun j hj => ?_, fun j => ?_⟩, ⟨rfl, rfl, rfl, by simp, fun k hk hne => ?_⟩, .inl rfl⟩
      · by_cases e : j = len
        · subst e
          obtain ⟨u, hu⟩ := Option.isSome_iff_exists.1 (h5 j (by omega))
          exact cell_set_same hu
        · exact (set_off (by omega)).trans (h4 j (by omega))
      · by_cases e : j = len
        · subst e
          obtain ⟨u, hu⟩ := Option.isSome_iff_exists.1 (h5 j hj)
          rw [cell_set_same hu]
          rfl
        · rw [set_off (by omega)]
          exact h5 j hj
      · rw [World.frozen?_setCell]
        exact h6 j
      · exact Below.heap_setCell w ⟨g, o + len, none⟩ _ k (fun e => hne (by rw [e]; rfl))
    · have hr := run_append_grow (P := Try.prog) w 50 ty 3 i (.int .i64 0) Try.underlying50 hi hz ⟨g, o, none⟩ len cap ((List.range len).map fun j => .int .i64 (f j)) (by rw [hz1]; simp) (fun j u hu => by
          rw [List.getElem?_map] at hu
          have hj : j < len := by
            refine Classical.byContradiction fun h => ?_
            rw [List.getElem?_eq_none (by simpa using Nat.le_of_not_lt h)] at hu
            cases hu
          rw [List.getElem?_range hj] at hu
          injection hu with hu
          subst hu
          have := h4 j hj
          by_cases e : j = 0
          · subst e
            simpa [Addr.add] using this
          · simpa [Addr.add, e] using this) ad 1 c [.int .i64 (f len)] (by rw [hz1]; rfl) hnews (by omega) (by omega) (growslice_fits (by omega) (by rw [hz2]; omega))
      obtain ⟨g1, g2⟩ := grown ((List.range len).map fun j => .int .i64 (f j)) (grownCap w (len + 1) cap 3) (by simp) (fun j hj => by rw [List.getElem?_map, List.getElem?_range hj]; rfl) (hcg cap 3) (Value.ownBlock (.slice (some ⟨g, o, none⟩) len cap))
      exact ⟨_, _, hr, g1, g2, .inr rfl⟩
end Go.Proofs.Ytlmaanfgamocmaa
