/-
  No cell of these rows narrows 'for every input' (looked for: loops, veiled, ifaces, maps, wideKeys, modest, calm, conditions, laid).
  DERIVED. THE GIVEN ROWS OF THIS SEAT. 3 by the template 'for every input the law returns true; each argument reads behind the call as it read before'; 0 by the template 'total and deterministic' (their statements: YtjoklfhdablniaaTotals.lean).
  GIVEN WITH THE SEED: the statements are not yours to turn. If you find one false, say at which input.
  Laid BY PROGRAM, IN A SANDBOX (cutbox-rows.mjs): the forced cells as the released guide's own fill.sh prints them over the translation b6a16643809e5f71… (all of the seat's roots in one cut). By AI agents, Wed Nov 11 2026. No macro, syntax, notation, axiom, sorry.
-/
import Derived.Test.YtjoklfhdablniaaChecked
import GoSem.Claim
import GoSem.ClaimJoined
import GoSem.ClaimMapViews
import Derived.JoinedTies
import Derived.KernelRfl
namespace Go.Proofs.Ytjoklfhdablniaa
/- THE CELL 'sum', in the pinned program and in every row, IS THE sha256 OF THE DUMP (.gsa) THAT YtjoklfhdablniaaProg.lean LOADS. Nothing in Lean hashes anything: it is a label: what it is worth is what the hold of that sum in a sandbox is worth. -/
noncomputable def Try.pinned : Pinned := { name := "ytjoklfhdablniaa", sum := "b6a16643809e5f7118fabfdc81224df40ec943e68f96b40a50aacf728e618871", checked := Try.checked }
namespace Rows
def none {H : Type} : Left H := { results := [], args := [] }

/-- 'signalboxlaw16.EchoApart': WHATEVER THE INPUT: true; the input reads as it did. -/
def echoApartSpec : ChangeSpec := { name := "echoApart", fn := fun _ => fun
  | [d1, d2, d3, d4, d5] => { results := [.lit (.bool true)], args := [d1, d2, d3, d4, d5] }
  | _ => none }
def echoApartRow : OpenClaim := { program := "ytjoklfhdablniaa", sum := "b6a16643809e5f7118fabfdc81224df40ec943e68f96b40a50aacf728e618871", func := "signalbox/signalboxlaw16.EchoApart", spec := "echoApart", unfollowed := true, recurses := true, apart := false }
def EchoApartSaid : Prop := echoApartRow.holds Try.pinned (OpenSpec.ofChange echoApartSpec)

/-- ITS FALSE NEIGHBOUR: 'it returns false'. Refute it at one input. -/
def echoApartWrong : ChangeSpec := { name := "echoApart", fn := fun _ => fun
  | [d1, d2, d3, d4, d5] => { results := [.lit (.bool false)], args := [d1, d2, d3, d4, d5] }
  | _ => none }
def EchoApartWrongFalsely : Prop := echoApartRow.holds Try.pinned (OpenSpec.ofChange echoApartWrong)

/-- 'signalboxlaw16.EchoPlays': WHATEVER THE INPUT: true; the input reads as it did. -/
def echoPlaysSpec : ChangeSpec := { name := "echoPlays", fn := fun _ => fun
  | [d1, d2] => { results := [.lit (.bool true)], args := [d1, d2] }
  | _ => none }
def echoPlaysRow : OpenClaim := { program := "ytjoklfhdablniaa", sum := "b6a16643809e5f7118fabfdc81224df40ec943e68f96b40a50aacf728e618871", func := "signalbox/signalboxlaw16.EchoPlays", spec := "echoPlays", unfollowed := true, recurses := true, apart := false }
def EchoPlaysSaid : Prop := echoPlaysRow.holds Try.pinned (OpenSpec.ofChange echoPlaysSpec)

/-- ITS FALSE NEIGHBOUR: 'it returns false'. Refute it at one input. -/
def echoPlaysWrong : ChangeSpec := { name := "echoPlays", fn := fun _ => fun
  | [d1, d2] => { results := [.lit (.bool false)], args := [d1, d2] }
  | _ => none }
def EchoPlaysWrongFalsely : Prop := echoPlaysRow.holds Try.pinned (OpenSpec.ofChange echoPlaysWrong)

/-- 'signalboxlaw16.EchoNil': WHATEVER THE INPUT: true; the input reads as it did. -/
def echoNilSpec : ChangeSpec := { name := "echoNil", fn := fun _ => fun
  | [d1, d2] => { results := [.lit (.bool true)], args := [d1, d2] }
  | _ => none }
def echoNilRow : OpenClaim := { program := "ytjoklfhdablniaa", sum := "b6a16643809e5f7118fabfdc81224df40ec943e68f96b40a50aacf728e618871", func := "signalbox/signalboxlaw16.EchoNil", spec := "echoNil", unfollowed := true, recurses := true, apart := false }
def EchoNilSaid : Prop := echoNilRow.holds Try.pinned (OpenSpec.ofChange echoNilSpec)

/-- ITS FALSE NEIGHBOUR: 'it returns false'. Refute it at one input. -/
def echoNilWrong : ChangeSpec := { name := "echoNil", fn := fun _ => fun
  | [d1, d2] => { results := [.lit (.bool false)], args := [d1, d2] }
  | _ => none }
def EchoNilWrongFalsely : Prop := echoNilRow.holds Try.pinned (OpenSpec.ofChange echoNilWrong)

/- THE SECOND FORM. 'bulk': how many values and letters a reading holds, each counted each time it is reached (what is shared counts as often as it is met; a slice's spare places count too). A statement '..UptoSaid' is the law's where the arguments, and the package variables that the reading takes, are together of bulk at most 1048576: NARROWER than '..Said'. Prove '..Said' where nothing that the law and all that it calls make is longer than what came in: it says more and counts as full. Else prove '..UptoSaid'. A law counts once. -/
mutual
def uptoBulk {H : Type} : DataW H → Nat
  | .lit (.string bytes) => bytes.length + 1
  | .lit _ => 1
  | .nil => 1
  | .ptr d => uptoBulk d + 1
  | .slice elems spare => uptoBulkAll elems + uptoBulkAll spare + 1
  | .agg parts => uptoBulkAll parts + 1
  | .iface _ d => uptoBulk d + 1
  | .map entries => uptoBulkEntries entries + 1
  | .held _ => 1
def uptoBulkAll {H : Type} : List (DataW H) → Nat
  | [] => 0
  | d :: r => uptoBulk d + uptoBulkAll r
def uptoBulkEntries {H : Type} : List (Lit × DataW H) → Nat
  | [] => 0
  | x :: r => uptoBulkEntry x + uptoBulkEntries r
def uptoBulkEntry {H : Type} : Lit × DataW H → Nat
  | (.string bytes, d) => bytes.length + uptoBulk d + 1
  | (_, d) => uptoBulk d + 1
 end
def uptoSmall : (H : Type) → List (DataW H) → Bool := fun _ ds => decide (uptoBulkAll ds ≤ 1048576)
def OpenSpec.upto (s : _root_.Go.ChangeSpec) : _root_.Go.OpenSpec := { _root_.Go.OpenSpec.ofChange s with cond := some uptoSmall }

/-- 'signalboxlaw16.EchoApart', WHERE WHAT IT READS IS OF BULK AT MOST 1048576: true; the input reads as it did. -/
def echoApartUptoRow : OpenClaim := { program := "ytjoklfhdablniaa", sum := "b6a16643809e5f7118fabfdc81224df40ec943e68f96b40a50aacf728e618871", func := "signalbox/signalboxlaw16.EchoApart", spec := "echoApart", unfollowed := true, recurses := true, apart := false, narrowed := true }
def EchoApartUptoSaid : Prop := echoApartUptoRow.holds Try.pinned (OpenSpec.upto echoApartSpec)

/-- 'signalboxlaw16.EchoPlays', WHERE WHAT IT READS IS OF BULK AT MOST 1048576: true; the input reads as it did. -/
def echoPlaysUptoRow : OpenClaim := { program := "ytjoklfhdablniaa", sum := "b6a16643809e5f7118fabfdc81224df40ec943e68f96b40a50aacf728e618871", func := "signalbox/signalboxlaw16.EchoPlays", spec := "echoPlays", unfollowed := true, recurses := true, apart := false, narrowed := true }
def EchoPlaysUptoSaid : Prop := echoPlaysUptoRow.holds Try.pinned (OpenSpec.upto echoPlaysSpec)

/-- 'signalboxlaw16.EchoNil', WHERE WHAT IT READS IS OF BULK AT MOST 1048576: true; the input reads as it did. -/
def echoNilUptoRow : OpenClaim := { program := "ytjoklfhdablniaa", sum := "b6a16643809e5f7118fabfdc81224df40ec943e68f96b40a50aacf728e618871", func := "signalbox/signalboxlaw16.EchoNil", spec := "echoNil", unfollowed := true, recurses := true, apart := false, narrowed := true }
def EchoNilUptoSaid : Prop := echoNilUptoRow.holds Try.pinned (OpenSpec.upto echoNilSpec)

end Rows
end Go.Proofs.Ytjoklfhdablniaa
