/-
  No cell of these rows narrows 'for every input' (looked for: loops, veiled, ifaces, maps, wideKeys, modest, calm, conditions, laid).
  DERIVED. THE GIVEN ROWS OF THIS SEAT. 6 by the template 'for every input the law returns true; each argument reads behind the call as it read before'; 0 by the template 'total and deterministic' (their statements: YtknbeklplmhheaaTotals.lean).
  GIVEN WITH THE SEED: the statements are not yours to turn. If you find one false, say at which input.
  Laid BY PROGRAM, IN A SANDBOX (cutbox-rows.mjs): the forced cells as the released guide's own fill.sh prints them over the translation 7a1fc3bd035824c1… (all of the seat's roots in one cut). By AI agents, Wed Nov 11 2026. No macro, syntax, notation, axiom, sorry.
-/
import Derived.Test.YtknbeklplmhheaaChecked
import GoSem.Claim
import GoSem.ClaimJoined
import GoSem.ClaimMapViews
import Derived.JoinedTies
import Derived.KernelRfl
namespace Go.Proofs.Ytknbeklplmhheaa
/- THE CELL 'sum', in the pinned program and in every row, IS THE sha256 OF THE DUMP (.gsa) THAT YtknbeklplmhheaaProg.lean LOADS. Nothing in Lean hashes anything: it is a label: what it is worth is what the hold of that sum in a sandbox is worth. -/
noncomputable def Try.pinned : Pinned := { name := "ytknbeklplmhheaa", sum := "7a1fc3bd035824c11e97b279f2d6c6ba48475c58b1f480be4c85070025daab58", checked := Try.checked }
namespace Rows
def none {H : Type} : Left H := { results := [], args := [] }

/-- 'palanquinlaw20.TcapTwice': WHATEVER THE INPUT: true; the input reads as it did. -/
def tcapTwiceSpec : ChangeSpec := { name := "tcapTwice", fn := fun _ => fun
  | [d1, d2, d3] => { results := [.lit (.bool true)], args := [d1, d2, d3] }
  | _ => none }
def tcapTwiceRow : OpenClaim := { program := "ytknbeklplmhheaa", sum := "7a1fc3bd035824c11e97b279f2d6c6ba48475c58b1f480be4c85070025daab58", func := "palanquin/palanquinlaw20.TcapTwice", spec := "tcapTwice", unfollowed := true, recurses := true, apart := false }
def TcapTwiceSaid : Prop := tcapTwiceRow.holds Try.pinned (OpenSpec.ofChange tcapTwiceSpec)

/-- ITS FALSE NEIGHBOUR: 'it returns false'. Refute it at one input. -/
def tcapTwiceWrong : ChangeSpec := { name := "tcapTwice", fn := fun _ => fun
  | [d1, d2, d3] => { results := [.lit (.bool false)], args := [d1, d2, d3] }
  | _ => none }
def TcapTwiceWrongFalsely : Prop := tcapTwiceRow.holds Try.pinned (OpenSpec.ofChange tcapTwiceWrong)

/-- 'palanquinlaw18.ThdZero': WHATEVER THE INPUT: true; the input reads as it did. -/
def thdZeroSpec : ChangeSpec := { name := "thdZero", fn := fun _ => fun
  | [d] => { results := [.lit (.bool true)], args := [d] }
  | _ => none }
def thdZeroRow : OpenClaim := { program := "ytknbeklplmhheaa", sum := "7a1fc3bd035824c11e97b279f2d6c6ba48475c58b1f480be4c85070025daab58", func := "palanquin/palanquinlaw18.ThdZero", spec := "thdZero", unfollowed := true, recurses := true, apart := false }
def ThdZeroSaid : Prop := thdZeroRow.holds Try.pinned (OpenSpec.ofChange thdZeroSpec)

/-- ITS FALSE NEIGHBOUR: 'it returns false'. Refute it at one input. -/
def thdZeroWrong : ChangeSpec := { name := "thdZero", fn := fun _ => fun
  | [d] => { results := [.lit (.bool false)], args := [d] }
  | _ => none }
def ThdZeroWrongFalsely : Prop := thdZeroRow.holds Try.pinned (OpenSpec.ofChange thdZeroWrong)

/-- 'palanquinlaw20.TcapPlays': WHATEVER THE INPUT: true; the input reads as it did. -/
def tcapPlaysSpec : ChangeSpec := { name := "tcapPlays", fn := fun _ => fun
  | [d1, d2, d3, d4, d5, d6] => { results := [.lit (.bool true)], args := [d1, d2, d3, d4, d5, d6] }
  | _ => none }
def tcapPlaysRow : OpenClaim := { program := "ytknbeklplmhheaa", sum := "7a1fc3bd035824c11e97b279f2d6c6ba48475c58b1f480be4c85070025daab58", func := "palanquin/palanquinlaw20.TcapPlays", spec := "tcapPlays", unfollowed := true, recurses := true, apart := false }
def TcapPlaysSaid : Prop := tcapPlaysRow.holds Try.pinned (OpenSpec.ofChange tcapPlaysSpec)

/-- ITS FALSE NEIGHBOUR: 'it returns false'. Refute it at one input. -/
def tcapPlaysWrong : ChangeSpec := { name := "tcapPlays", fn := fun _ => fun
  | [d1, d2, d3, d4, d5, d6] => { results := [.lit (.bool false)], args := [d1, d2, d3, d4, d5, d6] }
  | _ => none }
def TcapPlaysWrongFalsely : Prop := tcapPlaysRow.holds Try.pinned (OpenSpec.ofChange tcapPlaysWrong)

/-- 'palanquinlaw20.TcapSum': WHATEVER THE INPUT: true; the input reads as it did. -/
def tcapSumSpec : ChangeSpec := { name := "tcapSum", fn := fun _ => fun
  | [d1, d2, d3, d4, d5] => { results := [.lit (.bool true)], args := [d1, d2, d3, d4, d5] }
  | _ => none }
def tcapSumRow : OpenClaim := { program := "ytknbeklplmhheaa", sum := "7a1fc3bd035824c11e97b279f2d6c6ba48475c58b1f480be4c85070025daab58", func := "palanquin/palanquinlaw20.TcapSum", spec := "tcapSum", unfollowed := true, recurses := true, apart := false }
def TcapSumSaid : Prop := tcapSumRow.holds Try.pinned (OpenSpec.ofChange tcapSumSpec)

/-- ITS FALSE NEIGHBOUR: 'it returns false'. Refute it at one input. -/
def tcapSumWrong : ChangeSpec := { name := "tcapSum", fn := fun _ => fun
  | [d1, d2, d3, d4, d5] => { results := [.lit (.bool false)], args := [d1, d2, d3, d4, d5] }
  | _ => none }
def TcapSumWrongFalsely : Prop := tcapSumRow.holds Try.pinned (OpenSpec.ofChange tcapSumWrong)

/-- 'palanquinlaw18.ThdBack': WHATEVER THE INPUT: true; the input reads as it did. -/
def thdBackSpec : ChangeSpec := { name := "thdBack", fn := fun _ => fun
  | [d1, d2, d3] => { results := [.lit (.bool true)], args := [d1, d2, d3] }
  | _ => none }
def thdBackRow : OpenClaim := { program := "ytknbeklplmhheaa", sum := "7a1fc3bd035824c11e97b279f2d6c6ba48475c58b1f480be4c85070025daab58", func := "palanquin/palanquinlaw18.ThdBack", spec := "thdBack", unfollowed := true, recurses := true, apart := false }
def ThdBackSaid : Prop := thdBackRow.holds Try.pinned (OpenSpec.ofChange thdBackSpec)

/-- ITS FALSE NEIGHBOUR: 'it returns false'. Refute it at one input. -/
def thdBackWrong : ChangeSpec := { name := "thdBack", fn := fun _ => fun
  | [d1, d2, d3] => { results := [.lit (.bool false)], args := [d1, d2, d3] }
  | _ => none }
def ThdBackWrongFalsely : Prop := thdBackRow.holds Try.pinned (OpenSpec.ofChange thdBackWrong)

/-- 'palanquinlaw18.ThdPlays': WHATEVER THE INPUT: true; the input reads as it did. -/
def thdPlaysSpec : ChangeSpec := { name := "thdPlays", fn := fun _ => fun
  | [d1, d2, d3, d4, d5, d6] => { results := [.lit (.bool true)], args := [d1, d2, d3, d4, d5, d6] }
  | _ => none }
def thdPlaysRow : OpenClaim := { program := "ytknbeklplmhheaa", sum := "7a1fc3bd035824c11e97b279f2d6c6ba48475c58b1f480be4c85070025daab58", func := "palanquin/palanquinlaw18.ThdPlays", spec := "thdPlays", unfollowed := true, recurses := true, apart := false }
def ThdPlaysSaid : Prop := thdPlaysRow.holds Try.pinned (OpenSpec.ofChange thdPlaysSpec)

/-- ITS FALSE NEIGHBOUR: 'it returns false'. Refute it at one input. -/
def thdPlaysWrong : ChangeSpec := { name := "thdPlays", fn := fun _ => fun
  | [d1, d2, d3, d4, d5, d6] => { results := [.lit (.bool false)], args := [d1, d2, d3, d4, d5, d6] }
  | _ => none }
def ThdPlaysWrongFalsely : Prop := thdPlaysRow.holds Try.pinned (OpenSpec.ofChange thdPlaysWrong)

/- THE SECOND FORM. 'bulk': how many values and letters a reading holds, each counted each time it is reached (what is shared counts as often as it is met; a slice's spare places count too). A statement '..UptoSaid' is the law's where the arguments, and the package variables that the reading takes, are together of bulk at most 1048576: NARROWER than '..Said'. Prove '..Said' where nothing that the law and all that it calls make is longer than what came in: it says more and counts as full. Else prove '..UptoSaid'. A law counts once. -/
mutual
def uptoBulk {H : Type} : DataW H → Nat
  | .lit (.string bytes) => bytes.length + 1
  | .lit _ => 1
  | .nil => 1
  | .ptr d => uptoBulk d + 1
  | .slice elems spare => uptoBulkAll elems + uptoBulkAll spare + 1
  | .agg parts => uptoBulkAll parts + 1
  | .iface _ d => uptoBulk d + 1
  | .map entries => uptoBulkEntries entries + 1
  | .held _ => 1
def uptoBulkAll {H : Type} : List (DataW H) → Nat
  | [] => 0
  | d :: r => uptoBulk d + uptoBulkAll r
def uptoBulkEntries {H : Type} : List (Lit × DataW H) → Nat
  | [] => 0
  | x :: r => uptoBulkEntry x + uptoBulkEntries r
def uptoBulkEntry {H : Type} : Lit × DataW H → Nat
  | (.string bytes, d) => bytes.length + uptoBulk d + 1
  | (_, d) => uptoBulk d + 1
 end
def uptoSmall : (H : Type) → List (DataW H) → Bool := fun _ ds => decide (uptoBulkAll ds ≤ 1048576)
def OpenSpec.upto (s : _root_.Go.ChangeSpec) : _root_.Go.OpenSpec := { _root_.Go.OpenSpec.ofChange s with cond := some uptoSmall }

/-- 'palanquinlaw20.TcapTwice', WHERE WHAT IT READS IS OF BULK AT MOST 1048576: true; the input reads as it did. -/
def tcapTwiceUptoRow : OpenClaim := { program := "ytknbeklplmhheaa", sum := "7a1fc3bd035824c11e97b279f2d6c6ba48475c58b1f480be4c85070025daab58", func := "palanquin/palanquinlaw20.TcapTwice", spec := "tcapTwice", unfollowed := true, recurses := true, apart := false, narrowed := true }
def TcapTwiceUptoSaid : Prop := tcapTwiceUptoRow.holds Try.pinned (OpenSpec.upto tcapTwiceSpec)

/-- 'palanquinlaw18.ThdZero', WHERE WHAT IT READS IS OF BULK AT MOST 1048576: true; the input reads as it did. -/
def thdZeroUptoRow : OpenClaim := { program := "ytknbeklplmhheaa", sum := "7a1fc3bd035824c11e97b279f2d6c6ba48475c58b1f480be4c85070025daab58", func := "palanquin/palanquinlaw18.ThdZero", spec := "thdZero", unfollowed := true, recurses := true, apart := false, narrowed := true }
def ThdZeroUptoSaid : Prop := thdZeroUptoRow.holds Try.pinned (OpenSpec.upto thdZeroSpec)

/-- 'palanquinlaw20.TcapPlays', WHERE WHAT IT READS IS OF BULK AT MOST 1048576: true; the input reads as it did. -/
def tcapPlaysUptoRow : OpenClaim := { program := "ytknbeklplmhheaa", sum := "7a1fc3bd035824c11e97b279f2d6c6ba48475c58b1f480be4c85070025daab58", func := "palanquin/palanquinlaw20.TcapPlays", spec := "tcapPlays", unfollowed := true, recurses := true, apart := false, narrowed := true }
def TcapPlaysUptoSaid : Prop := tcapPlaysUptoRow.holds Try.pinned (OpenSpec.upto tcapPlaysSpec)

/-- 'palanquinlaw20.TcapSum', WHERE WHAT IT READS IS OF BULK AT MOST 1048576: true; the input reads as it did. -/
def tcapSumUptoRow : OpenClaim := { program := "ytknbeklplmhheaa", sum := "7a1fc3bd035824c11e97b279f2d6c6ba48475c58b1f480be4c85070025daab58", func := "palanquin/palanquinlaw20.TcapSum", spec := "tcapSum", unfollowed := true, recurses := true, apart := false, narrowed := true }
def TcapSumUptoSaid : Prop := tcapSumUptoRow.holds Try.pinned (OpenSpec.upto tcapSumSpec)

/-- 'palanquinlaw18.ThdBack', WHERE WHAT IT READS IS OF BULK AT MOST 1048576: true; the input reads as it did. -/
def thdBackUptoRow : OpenClaim := { program := "ytknbeklplmhheaa", sum := "7a1fc3bd035824c11e97b279f2d6c6ba48475c58b1f480be4c85070025daab58", func := "palanquin/palanquinlaw18.ThdBack", spec := "thdBack", unfollowed := true, recurses := true, apart := false, narrowed := true }
def ThdBackUptoSaid : Prop := thdBackUptoRow.holds Try.pinned (OpenSpec.upto thdBackSpec)

/-- 'palanquinlaw18.ThdPlays', WHERE WHAT IT READS IS OF BULK AT MOST 1048576: true; the input reads as it did. -/
def thdPlaysUptoRow : OpenClaim := { program := "ytknbeklplmhheaa", sum := "7a1fc3bd035824c11e97b279f2d6c6ba48475c58b1f480be4c85070025daab58", func := "palanquin/palanquinlaw18.ThdPlays", spec := "thdPlays", unfollowed := true, recurses := true, apart := false, narrowed := true }
def ThdPlaysUptoSaid : Prop := thdPlaysUptoRow.holds Try.pinned (OpenSpec.upto thdPlaysSpec)

end Rows
end Go.Proofs.Ytknbeklplmhheaa
