/- Contracts: All, Ints; the walk of SignalAll. -/
import Derived.Test.YteafmljogijdgaaS6
namespace Go.Proofs.Yteafmljogijdgaa
open Go.RowKit

structure Fld where
  st : Int
  ln : Int
  big : Bool
  sg : Bool
def FldAt (w : World) (p : Addr) (f : Fld) : Prop :=
  w.cell? p = some (.int .i64 f.st) ∧ w.cell? ⟨p.block, p.off + 1, none⟩ = some (.int .i64 f.ln) ∧ w.cell? ⟨p.block, p.off + 2, none⟩ = some (.bool f.big) ∧ w.cell? ⟨p.block, p.off + 3, none⟩ = some (.bool f.sg)
def FldsAt (w : World) (A : Option Addr) (fs : List Fld) : Prop := ∀ j (h : j < fs.length), ∃ ad, A = some ad ∧ (ad.add (j * 4)).block < w.heap.size ∧ FldAt w (ad.add (j * 4)) (fs[j]'h)

theorem FldAt.below {B : Nat} {w w1 : World} {p : Addr} {f : Fld} (h : FldAt w p f) (hb : Below B w w1) (hp : p.block < B) : FldAt w1 p f :=
  ⟨(hb.cell hp).trans h.1, (hb.cell (p := ⟨p.block, p.off + 1, none⟩) hp).trans h.2.1, (hb.cell (p := ⟨p.block, p.off + 2, none⟩) hp).trans h.2.2.1, (hb.cell (p := ⟨p.block, p.off + 3, none⟩) hp).trans h.2.2.2⟩
theorem FldsAt.below {w w1 : World} {A : Option Addr} {fs : List Fld} (h : FldsAt w A fs) (hb : Nw w w1) : FldsAt w1 A fs := fun j hj => by
  obtain ⟨ad, e, hp, hf⟩ := h j hj
  exact ⟨ad, e, Nat.lt_of_lt_of_le hp hb.size, hf.below hb hp⟩

def Fld.ok (s : ByteArray) (f : Fld) : Bool := rightB f.st f.ln s.size
def Fld.get (s : ByteArray) (f : Fld) : Int := getV s f.st f.ln f.big f.sg
def vals (s : ByteArray) (fs : List Fld) : List Value := fs.map fun f => .int .i64 (f.get s)

/-- What All answers. -/
def AllPost (s : ByteArray) (fs : List Fld) (w : World) (e : Ending) (w' : World) : Prop :=
  Nw w w' ∧ ((fs.all (Fld.ok s) = true ∧ ∃ v, e = .returned (.tuple #[v, .int .i64 0]) ∧ w'.ownsRow w.heap.size 3 1 v fs.length (vals s fs)) ∨
    (fs.all (Fld.ok s) = false ∧ e = .returned (.tuple #[.slice none 0 0, .int .i64 2])))

theorem vals_succ (s : ByteArray) (fs : List Fld) (k : Nat) (h : k < fs.length) : vals s (fs.take (k + 1)) = vals s (fs.take k) ++ [.int .i64 ((fs[k]'h).get s)] := by
  unfold vals
  rw [List.take_succ_eq_append_getElem h, List.map_append]
  rfl
theorem all_succ (s : ByteArray) (fs : List Fld) (k : Nat) (h : k < fs.length) (h0 : (fs.take k).all (Fld.ok s) = true) (h1 : (fs[k]'h).ok s = true) : (fs.take (k + 1)).all (Fld.ok s) = true := by
  rw [List.take_succ_eq_append_getElem h, List.all_append, h0]
  simp [h1]
theorem all_fails (s : ByteArray) (fs : List Fld) (k : Nat) (h : k < fs.length) (h1 : (fs[k]'h).ok s = false) : fs.all (Fld.ok s) = false := by
  rw [List.all_eq_false]
  exact ⟨_, List.getElem_mem h, by simp [h1]⟩

theorem grown_of_nw {w w1 : World} (h : Nw w w1) : w.grownBy w1 none := ⟨h.os, h.tape, h.output, h.size, fun k hk _ => h.block k hk⟩

structure AInv (s : ByteArray) (fs : List Fld) (w : World) (v : Value) (k : Nat) (wr : World) : Prop where
  own : wr.ownsRow w.heap.size 3 1 v k (vals s (fs.take k))
  below : Nw w wr
  ok : (fs.take k).all (Fld.ok s) = true

set_option maxHeartbeats 3000000 in
theorem all_any (s : ByteArray) (A : Option Addr) (c : Nat) (fs : List Fld) (w : World) (hA : FldsAt w A fs) (hn : fs.length ≤ 60) :
    Calls Try.prog 10 #[.string s, .slice A fs.length c] w (AllPost s fs w) := by
  obtain ⟨i0, hi, hz0, hz1, hz2⟩ := info_parts info3
  have HA := Lib.hid hA
  clear hA
  generalize hL : fs.length = n at *
  have HL := Lib.hid hL
  clear hL
  go_enter Try.func10, Try.ntmps10
  go_wp2
  go_loopw [6, 13] (fun v i wr => ∃ k : Nat, k ≤ n ∧ i = .int .i64 k ∧ Hid (AInv s fs w v k wr)) (fun _ i _ => n - (intOf i).toNat)
  case atStart => exact ⟨0, Nat.zero_le _, rfl, Lib.hid ⟨by simpa [vals] using World.ownsRow_nil w w.heap.size 3 1, Below.refl _ _, by simp⟩⟩
  case round =>
    obtain ⟨k, hk, rfl, HI⟩ := hrel
    by_cases hlt : k < n
    · have hkl : k < fs.length := by rw [HL.out]; exact hlt
      obtain ⟨ad, rfl, hp, hf⟩ := (HA.out.below HI.out.below) k hkl
      have hvs := vals_succ s fs k hkl
      have has := all_succ s fs k hkl HI.out.ok
      have haf := all_fails s fs k hkl
      generalize fs[k]'hkl = f at *
      have HVS := Lib.hid hvs
      have HAS := Lib.hid has
      have HAF := Lib.hid haf
      obtain ⟨f0, f1, f2, f3⟩ := hf
      clear hvs has haf
      go_wp2_with fail
      refine (get_any _ _ _ _ _ _).mono ?_
      rintro e w1 ⟨rfl, hb⟩
      have HW1 : Hid (Nw wr w1) := Nw.then_ ((Below.refl _ wr).alloc (Nat.le_refl _) _) hb
      have HE : Hid (getE s f.st f.ln = if f.ok s then 0 else 2) := rfl
      have HV : Hid (getV s f.st f.ln f.big f.sg = f.get s) := rfl
      rw [HV.out]
      generalize getE s f.st f.ln = E at *
      generalize f.get s = V at *
      generalize f.ok s = b at *
      clear hb f0 f1 f2 f3 HV hp HA
      cases b
      · obtain rfl : E = 2 := HE.out
        go_wp2
        go_ret2
        exact ⟨HI.out.below.then_ HW1.out, .inr ⟨HAF.out (by trivial), rfl⟩⟩
      · obtain rfl : E = 0 := HE.out
        have hown := HI.out.own.kept (grown_of_nw HW1.out) (by cases u6.ownBlock <;> simp)
        have hz := HI.out.below.size
        have hz' := HW1.out.size
        go_wp2_with (at_builtin; refine wpList_append_own _ rfl _ _ 32 rfl w.heap.size 3 i0 (.int .i64 0) 1 8 Try.underlying32 hi hz0 hz1 hz2 rfl (by decide) _ _ _ rfl (hown.alloc _) ⟨w1.heap.size, 0, none⟩ 1 1 [.int .i64 V] rfl rfl ?c1 ?c2 ?c3 ?c4 ?c5 ?_)
        case c1 => exact one_news _ _
        case c2 => intro u hu; simp at hu; subst hu; rfl
        case c3 => unfold maxLen; omega
        case c4 => omega
        case c5 => simp; omega
        intro v' w2 hown' hg _
        have HP : Hid (AInv s fs w v' (k + 1) w2) := by
          refine ⟨by rw [HVS.out]; exact hown', ?_, HAS.out (by trivial)⟩
          exact ((HI.out.below.then_ HW1.out).alloc (by omega) _).grown hg (by simp; omega) fun j hj => (hown.lt j hj).1
        clear hown' hg hown HI HW1
        go_wp2
        go_roundw
        case rel => exact ⟨k + 1, by omega, by go_num, HP⟩
        case measure => simp [intOf]; omega
    · go_wp2
      go_ret2
      have e : k = n := by omega
      have HLo := HL.out
      have h1 := HI.out.own
      have h2 := HI.out.ok
      rw [List.take_of_length_le (by omega)] at h1 h2
      refine ⟨HI.out.below, .inl ⟨h2, u6, rfl, ?_⟩⟩
      rw [HLo, ← e]
      exact h1
end Go.Proofs.Yteafmljogijdgaa
