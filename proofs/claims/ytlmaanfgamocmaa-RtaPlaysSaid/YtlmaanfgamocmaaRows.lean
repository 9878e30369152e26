/-
  No cell of these rows narrows 'for every input' (looked for: loops, veiled, ifaces, maps, wideKeys, modest, calm, conditions, laid).
  DERIVED. THE GIVEN ROWS OF THIS SEAT. 5 by the template 'for every input the law returns true; each argument reads behind the call as it read before'; 0 by the template 'total and deterministic' (their statements: YtlmaanfgamocmaaTotals.lean).
  GIVEN WITH THE SEED: the statements are not yours to turn. If you find one false, say at which input.
  Laid BY PROGRAM, IN A SANDBOX (cutbox-rows.mjs): the forced cells as the released guide's own fill.sh prints them over the translation e23b99e2fb085b91… (all of the seat's roots in one cut). By AI agents, Wed Nov 11 2026. No macro, syntax, notation, axiom, sorry.
-/
import Derived.Test.YtlmaanfgamocmaaChecked
import GoSem.Claim
import GoSem.ClaimJoined
import GoSem.ClaimMapViews
import Derived.JoinedTies
import Derived.KernelRfl
namespace Go.Proofs.Ytlmaanfgamocmaa
/- THE CELL 'sum', in the pinned program and in every row, IS THE sha256 OF THE DUMP (.gsa) THAT YtlmaanfgamocmaaProg.lean LOADS. Nothing in Lean hashes anything: it is a label: what it is worth is what the hold of that sum in a sandbox is worth. -/
noncomputable def Try.pinned : Pinned := { name := "ytlmaanfgamocmaa", sum := "e23b99e2fb085b913d96252eecd55fcdc3aa0b32d23636fba0e4cb9b9520aab7", checked := Try.checked }
namespace Rows
def none {H : Type} : Left H := { results := [], args := [] }

/-- 'signalboxlaw38.RtaBounds': WHATEVER THE INPUT: true; the input reads as it did. -/
def rtaBoundsSpec : ChangeSpec := { name := "rtaBounds", fn := fun _ => fun
  | [d1, d2] => { results := [.lit (.bool true)], args := [d1, d2] }
  | _ => none }
def rtaBoundsRow : OpenClaim := { program := "ytlmaanfgamocmaa", sum := "e23b99e2fb085b913d96252eecd55fcdc3aa0b32d23636fba0e4cb9b9520aab7", func := "signalbox/signalboxlaw38.RtaBounds", spec := "rtaBounds", apart := false }
def RtaBoundsSaid : Prop := rtaBoundsRow.holds Try.pinned (OpenSpec.ofChange rtaBoundsSpec)

/-- ITS FALSE NEIGHBOUR: 'it returns false'. Refute it at one input. -/
def rtaBoundsWrong : ChangeSpec := { name := "rtaBounds", fn := fun _ => fun
  | [d1, d2] => { results := [.lit (.bool false)], args := [d1, d2] }
  | _ => none }
def RtaBoundsWrongFalsely : Prop := rtaBoundsRow.holds Try.pinned (OpenSpec.ofChange rtaBoundsWrong)

/-- 'signalboxlaw38.RtaPlays': WHATEVER THE INPUT: true; the input reads as it did. -/
def rtaPlaysSpec : ChangeSpec := { name := "rtaPlays", fn := fun _ => fun
  | [d1, d2] => { results := [.lit (.bool true)], args := [d1, d2] }
  | _ => none }
def rtaPlaysRow : OpenClaim := { program := "ytlmaanfgamocmaa", sum := "e23b99e2fb085b913d96252eecd55fcdc3aa0b32d23636fba0e4cb9b9520aab7", func := "signalbox/signalboxlaw38.RtaPlays", spec := "rtaPlays", unfollowed := true, recurses := true, apart := false }
def RtaPlaysSaid : Prop := rtaPlaysRow.holds Try.pinned (OpenSpec.ofChange rtaPlaysSpec)

/-- ITS FALSE NEIGHBOUR: 'it returns false'. Refute it at one input. -/
def rtaPlaysWrong : ChangeSpec := { name := "rtaPlays", fn := fun _ => fun
  | [d1, d2] => { results := [.lit (.bool false)], args := [d1, d2] }
  | _ => none }
def RtaPlaysWrongFalsely : Prop := rtaPlaysRow.holds Try.pinned (OpenSpec.ofChange rtaPlaysWrong)

/-- 'signalboxlaw38.RtaSafe': WHATEVER THE INPUT: true; the input reads as it did. -/
def rtaSafeSpec : ChangeSpec := { name := "rtaSafe", fn := fun _ => fun
  | [d1, d2] => { results := [.lit (.bool true)], args := [d1, d2] }
  | _ => none }
def rtaSafeRow : OpenClaim := { program := "ytlmaanfgamocmaa", sum := "e23b99e2fb085b913d96252eecd55fcdc3aa0b32d23636fba0e4cb9b9520aab7", func := "signalbox/signalboxlaw38.RtaSafe", spec := "rtaSafe", unfollowed := true, recurses := true, apart := false }
def RtaSafeSaid : Prop := rtaSafeRow.holds Try.pinned (OpenSpec.ofChange rtaSafeSpec)

/-- ITS FALSE NEIGHBOUR: 'it returns false'. Refute it at one input. -/
def rtaSafeWrong : ChangeSpec := { name := "rtaSafe", fn := fun _ => fun
  | [d1, d2] => { results := [.lit (.bool false)], args := [d1, d2] }
  | _ => none }
def RtaSafeWrongFalsely : Prop := rtaSafeRow.holds Try.pinned (OpenSpec.ofChange rtaSafeWrong)

/-- 'signalboxlaw38.RtaJust': WHATEVER THE INPUT: true; the input reads as it did. -/
def rtaJustSpec : ChangeSpec := { name := "rtaJust", fn := fun _ => fun
  | [d1, d2] => { results := [.lit (.bool true)], args := [d1, d2] }
  | _ => none }
def rtaJustRow : OpenClaim := { program := "ytlmaanfgamocmaa", sum := "e23b99e2fb085b913d96252eecd55fcdc3aa0b32d23636fba0e4cb9b9520aab7", func := "signalbox/signalboxlaw38.RtaJust", spec := "rtaJust", unfollowed := true, recurses := true, apart := false }
def RtaJustSaid : Prop := rtaJustRow.holds Try.pinned (OpenSpec.ofChange rtaJustSpec)

/-- ITS FALSE NEIGHBOUR: 'it returns false'. Refute it at one input. -/
def rtaJustWrong : ChangeSpec := { name := "rtaJust", fn := fun _ => fun
  | [d1, d2] => { results := [.lit (.bool false)], args := [d1, d2] }
  | _ => none }
def RtaJustWrongFalsely : Prop := rtaJustRow.holds Try.pinned (OpenSpec.ofChange rtaJustWrong)

/-- 'signalboxlaw38.RtaAhead': WHATEVER THE INPUT: true; the input reads as it did. -/
def rtaAheadSpec : ChangeSpec := { name := "rtaAhead", fn := fun _ => fun
  | [d1, d2, d3] => { results := [.lit (.bool true)], args := [d1, d2, d3] }
  | _ => none }
def rtaAheadRow : OpenClaim := { program := "ytlmaanfgamocmaa", sum := "e23b99e2fb085b913d96252eecd55fcdc3aa0b32d23636fba0e4cb9b9520aab7", func := "signalbox/signalboxlaw38.RtaAhead", spec := "rtaAhead", unfollowed := true, recurses := true, apart := false }
def RtaAheadSaid : Prop := rtaAheadRow.holds Try.pinned (OpenSpec.ofChange rtaAheadSpec)

/-- ITS FALSE NEIGHBOUR: 'it returns false'. Refute it at one input. -/
def rtaAheadWrong : ChangeSpec := { name := "rtaAhead", fn := fun _ => fun
  | [d1, d2, d3] => { results := [.lit (.bool false)], args := [d1, d2, d3] }
  | _ => none }
def RtaAheadWrongFalsely : Prop := rtaAheadRow.holds Try.pinned (OpenSpec.ofChange rtaAheadWrong)

/- THE SECOND FORM. 'bulk': how many values and letters a reading holds, each counted each time it is reached (what is shared counts as often as it is met; a slice's spare places count too). A statement '..UptoSaid' is the law's where the arguments, and the package variables that the reading takes, are together of bulk at most 1048576: NARROWER than '..Said'. Prove '..Said' where nothing that the law and all that it calls make is longer than what came in: it says more and counts as full. Else prove '..UptoSaid'. A law counts once. -/
mutual
def uptoBulk {H : Type} : DataW H → Nat
  | .lit (.string bytes) => bytes.length + 1
  | .lit _ => 1
  | .nil => 1
  | .ptr d => uptoBulk d + 1
  | .slice elems spare => uptoBulkAll elems + uptoBulkAll spare + 1
  | .agg parts => uptoBulkAll parts + 1
  | .iface _ d => uptoBulk d + 1
  | .map entries => uptoBulkEntries entries + 1
  | .held _ => 1
def uptoBulkAll {H : Type} : List (DataW H) → Nat
  | [] => 0
  | d :: r => uptoBulk d + uptoBulkAll r
def uptoBulkEntries {H : Type} : List (Lit × DataW H) → Nat
  | [] => 0
  | x :: r => uptoBulkEntry x + uptoBulkEntries r
def uptoBulkEntry {H : Type} : Lit × DataW H → Nat
  | (.string bytes, d) => bytes.length + uptoBulk d + 1
  | (_, d) => uptoBulk d + 1
 end
def uptoSmall : (H : Type) → List (DataW H) → Bool := fun _ ds => decide (uptoBulkAll ds ≤ 1048576)
def OpenSpec.upto (s : _root_.Go.ChangeSpec) : _root_.Go.OpenSpec := { _root_.Go.OpenSpec.ofChange s with cond := some uptoSmall }

/-- 'signalboxlaw38.RtaBounds', WHERE WHAT IT READS IS OF BULK AT MOST 1048576: true; the input reads as it did. -/
def rtaBoundsUptoRow : OpenClaim := { program := "ytlmaanfgamocmaa", sum := "e23b99e2fb085b913d96252eecd55fcdc3aa0b32d23636fba0e4cb9b9520aab7", func := "signalbox/signalboxlaw38.RtaBounds", spec := "rtaBounds", apart := false, narrowed := true }
def RtaBoundsUptoSaid : Prop := rtaBoundsUptoRow.holds Try.pinned (OpenSpec.upto rtaBoundsSpec)

/-- 'signalboxlaw38.RtaPlays', WHERE WHAT IT READS IS OF BULK AT MOST 1048576: true; the input reads as it did. -/
def rtaPlaysUptoRow : OpenClaim := { program := "ytlmaanfgamocmaa", sum := "e23b99e2fb085b913d96252eecd55fcdc3aa0b32d23636fba0e4cb9b9520aab7", func := "signalbox/signalboxlaw38.RtaPlays", spec := "rtaPlays", unfollowed := true, recurses := true, apart := false, narrowed := true }
def RtaPlaysUptoSaid : Prop := rtaPlaysUptoRow.holds Try.pinned (OpenSpec.upto rtaPlaysSpec)

/-- 'signalboxlaw38.RtaSafe', WHERE WHAT IT READS IS OF BULK AT MOST 1048576: true; the input reads as it did. -/
def rtaSafeUptoRow : OpenClaim := { program := "ytlmaanfgamocmaa", sum := "e23b99e2fb085b913d96252eecd55fcdc3aa0b32d23636fba0e4cb9b9520aab7", func := "signalbox/signalboxlaw38.RtaSafe", spec := "rtaSafe", unfollowed := true, recurses := true, apart := false, narrowed := true }
def RtaSafeUptoSaid : Prop := rtaSafeUptoRow.holds Try.pinned (OpenSpec.upto rtaSafeSpec)

/-- 'signalboxlaw38.RtaJust', WHERE WHAT IT READS IS OF BULK AT MOST 1048576: true; the input reads as it did. -/
def rtaJustUptoRow : OpenClaim := { program := "ytlmaanfgamocmaa", sum := "e23b99e2fb085b913d96252eecd55fcdc3aa0b32d23636fba0e4cb9b9520aab7", func := "signalbox/signalboxlaw38.RtaJust", spec := "rtaJust", unfollowed := true, recurses := true, apart := false, narrowed := true }
def RtaJustUptoSaid : Prop := rtaJustUptoRow.holds Try.pinned (OpenSpec.upto rtaJustSpec)

/-- 'signalboxlaw38.RtaAhead', WHERE WHAT IT READS IS OF BULK AT MOST 1048576: true; the input reads as it did. -/
def rtaAheadUptoRow : OpenClaim := { program := "ytlmaanfgamocmaa", sum := "e23b99e2fb085b913d96252eecd55fcdc3aa0b32d23636fba0e4cb9b9520aab7", func := "signalbox/signalboxlaw38.RtaAhead", spec := "rtaAhead", unfollowed := true, recurses := true, apart := false, narrowed := true }
def RtaAheadUptoSaid : Prop := rtaAheadUptoRow.holds Try.pinned (OpenSpec.upto rtaAheadSpec)

end Rows
end Go.Proofs.Ytlmaanfgamocmaa
