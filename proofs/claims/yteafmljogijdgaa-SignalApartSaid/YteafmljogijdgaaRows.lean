/-
  No cell of these rows narrows 'for every input' (looked for: loops, veiled, ifaces, maps, wideKeys, modest, calm, conditions, laid).
  DERIVED. THE GIVEN ROWS OF THIS SEAT. 4 by the template 'for every input the law returns true; each argument reads behind the call as it read before'; 0 by the template 'total and deterministic' (their statements: YteafmljogijdgaaTotals.lean).
  GIVEN WITH THE SEED: the statements are not yours to turn. If you find one false, say at which input.
  Laid BY PROGRAM, IN A SANDBOX (cutbox-rows.mjs): the forced cells as the released guide's own fill.sh prints them over the translation 486da6af6d6ea2f9… (all of the seat's roots in one cut). By AI agents, Wed Nov 11 2026. No macro, syntax, notation, axiom, sorry.
-/
import Derived.Test.YteafmljogijdgaaChecked
import GoSem.Claim
import GoSem.ClaimJoined
import GoSem.ClaimMapViews
import Derived.JoinedTies
import Derived.KernelRfl
namespace Go.Proofs.Yteafmljogijdgaa
/- THE CELL 'sum', in the pinned program and in every row, IS THE sha256 OF THE DUMP (.gsa) THAT YteafmljogijdgaaProg.lean LOADS. Nothing in Lean hashes anything: it is a label: what it is worth is what the hold of that sum in a sandbox is worth. -/
noncomputable def Try.pinned : Pinned := { name := "yteafmljogijdgaa", sum := "486da6af6d6ea2f9f40ee09742320479d63d799442dc5df3ef71cf0885cb4a7a", checked := Try.checked }
namespace Rows
def none {H : Type} : Left H := { results := [], args := [] }

/-- 'signalboxlaw33.SignalGets': WHATEVER THE INPUT: true; the input reads as it did. -/
def signalGetsSpec : ChangeSpec := { name := "signalGets", fn := fun _ => fun
  | [d1, d2] => { results := [.lit (.bool true)], args := [d1, d2] }
  | _ => none }
def signalGetsRow : OpenClaim := { program := "yteafmljogijdgaa", sum := "486da6af6d6ea2f9f40ee09742320479d63d799442dc5df3ef71cf0885cb4a7a", func := "signalbox/signalboxlaw33.SignalGets", spec := "signalGets", unfollowed := true, recurses := true, apart := false }
def SignalGetsSaid : Prop := signalGetsRow.holds Try.pinned (OpenSpec.ofChange signalGetsSpec)

/-- ITS FALSE NEIGHBOUR: 'it returns false'. Refute it at one input. -/
def signalGetsWrong : ChangeSpec := { name := "signalGets", fn := fun _ => fun
  | [d1, d2] => { results := [.lit (.bool false)], args := [d1, d2] }
  | _ => none }
def SignalGetsWrongFalsely : Prop := signalGetsRow.holds Try.pinned (OpenSpec.ofChange signalGetsWrong)

/-- 'signalboxlaw33.SignalAll': WHATEVER THE INPUT: true; the input reads as it did. -/
def signalAllSpec : ChangeSpec := { name := "signalAll", fn := fun _ => fun
  | [d1, d2] => { results := [.lit (.bool true)], args := [d1, d2] }
  | _ => none }
def signalAllRow : OpenClaim := { program := "yteafmljogijdgaa", sum := "486da6af6d6ea2f9f40ee09742320479d63d799442dc5df3ef71cf0885cb4a7a", func := "signalbox/signalboxlaw33.SignalAll", spec := "signalAll", unfollowed := true, recurses := true, apart := false }
def SignalAllSaid : Prop := signalAllRow.holds Try.pinned (OpenSpec.ofChange signalAllSpec)

/-- ITS FALSE NEIGHBOUR: 'it returns false'. Refute it at one input. -/
def signalAllWrong : ChangeSpec := { name := "signalAll", fn := fun _ => fun
  | [d1, d2] => { results := [.lit (.bool false)], args := [d1, d2] }
  | _ => none }
def SignalAllWrongFalsely : Prop := signalAllRow.holds Try.pinned (OpenSpec.ofChange signalAllWrong)

/-- 'signalboxlaw33.SignalSets': WHATEVER THE INPUT: true; the input reads as it did. -/
def signalSetsSpec : ChangeSpec := { name := "signalSets", fn := fun _ => fun
  | [d1, d2, d3] => { results := [.lit (.bool true)], args := [d1, d2, d3] }
  | _ => none }
def signalSetsRow : OpenClaim := { program := "yteafmljogijdgaa", sum := "486da6af6d6ea2f9f40ee09742320479d63d799442dc5df3ef71cf0885cb4a7a", func := "signalbox/signalboxlaw33.SignalSets", spec := "signalSets", unfollowed := true, recurses := true, apart := false }
def SignalSetsSaid : Prop := signalSetsRow.holds Try.pinned (OpenSpec.ofChange signalSetsSpec)

/-- ITS FALSE NEIGHBOUR: 'it returns false'. Refute it at one input. -/
def signalSetsWrong : ChangeSpec := { name := "signalSets", fn := fun _ => fun
  | [d1, d2, d3] => { results := [.lit (.bool false)], args := [d1, d2, d3] }
  | _ => none }
def SignalSetsWrongFalsely : Prop := signalSetsRow.holds Try.pinned (OpenSpec.ofChange signalSetsWrong)

/-- 'signalboxlaw33.SignalApart': WHATEVER THE INPUT: true; the input reads as it did. -/
def signalApartSpec : ChangeSpec := { name := "signalApart", fn := fun _ => fun
  | [d1, d2, d3, d4, d5] => { results := [.lit (.bool true)], args := [d1, d2, d3, d4, d5] }
  | _ => none }
def signalApartRow : OpenClaim := { program := "yteafmljogijdgaa", sum := "486da6af6d6ea2f9f40ee09742320479d63d799442dc5df3ef71cf0885cb4a7a", func := "signalbox/signalboxlaw33.SignalApart", spec := "signalApart", unfollowed := true, recurses := true, apart := false }
def SignalApartSaid : Prop := signalApartRow.holds Try.pinned (OpenSpec.ofChange signalApartSpec)

/-- ITS FALSE NEIGHBOUR: 'it returns false'. Refute it at one input. -/
def signalApartWrong : ChangeSpec := { name := "signalApart", fn := fun _ => fun
  | [d1, d2, d3, d4, d5] => { results := [.lit (.bool false)], args := [d1, d2, d3, d4, d5] }
  | _ => none }
def SignalApartWrongFalsely : Prop := signalApartRow.holds Try.pinned (OpenSpec.ofChange signalApartWrong)

/- THE SECOND FORM. 'bulk': how many values and letters a reading holds, each counted each time it is reached (what is shared counts as often as it is met; a slice's spare places count too). A statement '..UptoSaid' is the law's where the arguments, and the package variables that the reading takes, are together of bulk at most 1048576: NARROWER than '..Said'. Prove '..Said' where nothing that the law and all that it calls make is longer than what came in: it says more and counts as full. Else prove '..UptoSaid'. A law counts once. -/
mutual
def uptoBulk {H : Type} : DataW H → Nat
  | .lit (.string bytes) => bytes.length + 1
  | .lit _ => 1
  | .nil => 1
  | .ptr d => uptoBulk d + 1
  | .slice elems spare => uptoBulkAll elems + uptoBulkAll spare + 1
  | .agg parts => uptoBulkAll parts + 1
  | .iface _ d => uptoBulk d + 1
  | .map entries => uptoBulkEntries entries + 1
  | .held _ => 1
def uptoBulkAll {H : Type} : List (DataW H) → Nat
  | [] => 0
  | d :: r => uptoBulk d + uptoBulkAll r
def uptoBulkEntries {H : Type} : List (Lit × DataW H) → Nat
  | [] => 0
  | x :: r => uptoBulkEntry x + uptoBulkEntries r
def uptoBulkEntry {H : Type} : Lit × DataW H → Nat
  | (.string bytes, d) => bytes.length + uptoBulk d + 1
  | (_, d) => uptoBulk d + 1
 end
def uptoSmall : (H : Type) → List (DataW H) → Bool := fun _ ds => decide (uptoBulkAll ds ≤ 1048576)
def OpenSpec.upto (s : _root_.Go.ChangeSpec) : _root_.Go.OpenSpec := { _root_.Go.OpenSpec.ofChange s with cond := some uptoSmall }

/-- 'signalboxlaw33.SignalGets', WHERE WHAT IT READS IS OF BULK AT MOST 1048576: true; the input reads as it did. -/
def signalGetsUptoRow : OpenClaim := { program := "yteafmljogijdgaa", sum := "486da6af6d6ea2f9f40ee09742320479d63d799442dc5df3ef71cf0885cb4a7a", func := "signalbox/signalboxlaw33.SignalGets", spec := "signalGets", unfollowed := true, recurses := true, apart := false, narrowed := true }
def SignalGetsUptoSaid : Prop := signalGetsUptoRow.holds Try.pinned (OpenSpec.upto signalGetsSpec)

/-- 'signalboxlaw33.SignalAll', WHERE WHAT IT READS IS OF BULK AT MOST 1048576: true; the input reads as it did. -/
def signalAllUptoRow : OpenClaim := { program := "yteafmljogijdgaa", sum := "486da6af6d6ea2f9f40ee09742320479d63d799442dc5df3ef71cf0885cb4a7a", func := "signalbox/signalboxlaw33.SignalAll", spec := "signalAll", unfollowed := true, recurses := true, apart := false, narrowed := true }
def SignalAllUptoSaid : Prop := signalAllUptoRow.holds Try.pinned (OpenSpec.upto signalAllSpec)

/-- 'signalboxlaw33.SignalSets', WHERE WHAT IT READS IS OF BULK AT MOST 1048576: true; the input reads as it did. -/
def signalSetsUptoRow : OpenClaim := { program := "yteafmljogijdgaa", sum := "486da6af6d6ea2f9f40ee09742320479d63d799442dc5df3ef71cf0885cb4a7a", func := "signalbox/signalboxlaw33.SignalSets", spec := "signalSets", unfollowed := true, recurses := true, apart := false, narrowed := true }
def SignalSetsUptoSaid : Prop := signalSetsUptoRow.holds Try.pinned (OpenSpec.upto signalSetsSpec)

/-- 'signalboxlaw33.SignalApart', WHERE WHAT IT READS IS OF BULK AT MOST 1048576: true; the input reads as it did. -/
def signalApartUptoRow : OpenClaim := { program := "yteafmljogijdgaa", sum := "486da6af6d6ea2f9f40ee09742320479d63d799442dc5df3ef71cf0885cb4a7a", func := "signalbox/signalboxlaw33.SignalApart", spec := "signalApart", unfollowed := true, recurses := true, apart := false, narrowed := true }
def SignalApartUptoSaid : Prop := signalApartUptoRow.holds Try.pinned (OpenSpec.upto signalApartSpec)

end Rows
end Go.Proofs.Yteafmljogijdgaa
