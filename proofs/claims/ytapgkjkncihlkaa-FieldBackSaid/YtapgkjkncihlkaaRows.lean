/-
  No cell of these rows narrows 'for every input' (looked for: loops, veiled, ifaces, maps, wideKeys, modest, calm, conditions, laid).
  DERIVED. THE GIVEN ROWS OF THIS SEAT. 9 by the template 'for every input the law returns true; each argument reads behind the call as it read before'; 0 by the template 'total and deterministic' (their statements: YtapgkjkncihlkaaTotals.lean).
  GIVEN WITH THE SEED: the statements are not yours to turn. If you find one false, say at which input.
  Laid BY PROGRAM, IN A SANDBOX (cutbox-rows.mjs): the forced cells as the released guide's own fill.sh prints them over the translation 5d3befa0070865fd… (all of the seat's roots in one cut). By AI agents, Wed Nov 11 2026. No macro, syntax, notation, axiom, sorry.
-/
import Derived.Test.YtapgkjkncihlkaaChecked
import GoSem.Claim
import GoSem.ClaimJoined
import GoSem.ClaimMapViews
import Derived.JoinedTies
import Derived.KernelRfl
namespace Go.Proofs.Ytapgkjkncihlkaa
/- THE CELL 'sum', in the pinned program and in every row, IS THE sha256 OF THE DUMP (.gsa) THAT YtapgkjkncihlkaaProg.lean LOADS. Nothing in Lean hashes anything: it is a label: what it is worth is what the hold of that sum in a sandbox is worth. -/
noncomputable def Try.pinned : Pinned := { name := "ytapgkjkncihlkaa", sum := "5d3befa0070865fdd0404dd41e4f88d3b5f242285016713a13c3254cdcc2cdc1", checked := Try.checked }
namespace Rows
def none {H : Type} : Left H := { results := [], args := [] }

/-- 'palanquinlaw01.FieldSign': WHATEVER THE INPUT: true; the input reads as it did. -/
def fieldSignSpec : ChangeSpec := { name := "fieldSign", fn := fun _ => fun
  | [d1, d2] => { results := [.lit (.bool true)], args := [d1, d2] }
  | _ => none }
def fieldSignRow : OpenClaim := { program := "ytapgkjkncihlkaa", sum := "5d3befa0070865fdd0404dd41e4f88d3b5f242285016713a13c3254cdcc2cdc1", func := "palanquin/palanquinlaw01.FieldSign", spec := "fieldSign", apart := false }
def FieldSignSaid : Prop := fieldSignRow.holds Try.pinned (OpenSpec.ofChange fieldSignSpec)

/-- ITS FALSE NEIGHBOUR: 'it returns false'. Refute it at one input. -/
def fieldSignWrong : ChangeSpec := { name := "fieldSign", fn := fun _ => fun
  | [d1, d2] => { results := [.lit (.bool false)], args := [d1, d2] }
  | _ => none }
def FieldSignWrongFalsely : Prop := fieldSignRow.holds Try.pinned (OpenSpec.ofChange fieldSignWrong)

/-- 'palanquinlaw05.RegsSwap': WHATEVER THE INPUT: true; the input reads as it did. -/
def regsSwapSpec : ChangeSpec := { name := "regsSwap", fn := fun _ => fun
  | [d1, d2] => { results := [.lit (.bool true)], args := [d1, d2] }
  | _ => none }
def regsSwapRow : OpenClaim := { program := "ytapgkjkncihlkaa", sum := "5d3befa0070865fdd0404dd41e4f88d3b5f242285016713a13c3254cdcc2cdc1", func := "palanquin/palanquinlaw05.RegsSwap", spec := "regsSwap", apart := false }
def RegsSwapSaid : Prop := regsSwapRow.holds Try.pinned (OpenSpec.ofChange regsSwapSpec)

/-- ITS FALSE NEIGHBOUR: 'it returns false'. Refute it at one input. -/
def regsSwapWrong : ChangeSpec := { name := "regsSwap", fn := fun _ => fun
  | [d1, d2] => { results := [.lit (.bool false)], args := [d1, d2] }
  | _ => none }
def RegsSwapWrongFalsely : Prop := regsSwapRow.holds Try.pinned (OpenSpec.ofChange regsSwapWrong)

/-- 'palanquinlaw01.FieldOne': WHATEVER THE INPUT: true; the input reads as it did. -/
def fieldOneSpec : ChangeSpec := { name := "fieldOne", fn := fun _ => fun
  | [d1, d2, d3, d4, d5, d6] => { results := [.lit (.bool true)], args := [d1, d2, d3, d4, d5, d6] }
  | _ => none }
def fieldOneRow : OpenClaim := { program := "ytapgkjkncihlkaa", sum := "5d3befa0070865fdd0404dd41e4f88d3b5f242285016713a13c3254cdcc2cdc1", func := "palanquin/palanquinlaw01.FieldOne", spec := "fieldOne", apart := false }
def FieldOneSaid : Prop := fieldOneRow.holds Try.pinned (OpenSpec.ofChange fieldOneSpec)

/-- ITS FALSE NEIGHBOUR: 'it returns false'. Refute it at one input. -/
def fieldOneWrong : ChangeSpec := { name := "fieldOne", fn := fun _ => fun
  | [d1, d2, d3, d4, d5, d6] => { results := [.lit (.bool false)], args := [d1, d2, d3, d4, d5, d6] }
  | _ => none }
def FieldOneWrongFalsely : Prop := fieldOneRow.holds Try.pinned (OpenSpec.ofChange fieldOneWrong)

/-- 'palanquinlaw05.RegsOne': WHATEVER THE INPUT: true; the input reads as it did. -/
def regsOneSpec : ChangeSpec := { name := "regsOne", fn := fun _ => fun
  | [d1, d2, d3] => { results := [.lit (.bool true)], args := [d1, d2, d3] }
  | _ => none }
def regsOneRow : OpenClaim := { program := "ytapgkjkncihlkaa", sum := "5d3befa0070865fdd0404dd41e4f88d3b5f242285016713a13c3254cdcc2cdc1", func := "palanquin/palanquinlaw05.RegsOne", spec := "regsOne", apart := false }
def RegsOneSaid : Prop := regsOneRow.holds Try.pinned (OpenSpec.ofChange regsOneSpec)

/-- ITS FALSE NEIGHBOUR: 'it returns false'. Refute it at one input. -/
def regsOneWrong : ChangeSpec := { name := "regsOne", fn := fun _ => fun
  | [d1, d2, d3] => { results := [.lit (.bool false)], args := [d1, d2, d3] }
  | _ => none }
def RegsOneWrongFalsely : Prop := regsOneRow.holds Try.pinned (OpenSpec.ofChange regsOneWrong)

/-- 'palanquinlaw01.FieldBits': WHATEVER THE INPUT: true; the input reads as it did. -/
def fieldBitsSpec : ChangeSpec := { name := "fieldBits", fn := fun _ => fun
  | [d1, d2, d3, d4] => { results := [.lit (.bool true)], args := [d1, d2, d3, d4] }
  | _ => none }
def fieldBitsRow : OpenClaim := { program := "ytapgkjkncihlkaa", sum := "5d3befa0070865fdd0404dd41e4f88d3b5f242285016713a13c3254cdcc2cdc1", func := "palanquin/palanquinlaw01.FieldBits", spec := "fieldBits", apart := false }
def FieldBitsSaid : Prop := fieldBitsRow.holds Try.pinned (OpenSpec.ofChange fieldBitsSpec)

/-- ITS FALSE NEIGHBOUR: 'it returns false'. Refute it at one input. -/
def fieldBitsWrong : ChangeSpec := { name := "fieldBits", fn := fun _ => fun
  | [d1, d2, d3, d4] => { results := [.lit (.bool false)], args := [d1, d2, d3, d4] }
  | _ => none }
def FieldBitsWrongFalsely : Prop := fieldBitsRow.holds Try.pinned (OpenSpec.ofChange fieldBitsWrong)

/-- 'palanquinlaw05.RegsPlays': WHATEVER THE INPUT: true; the input reads as it did. -/
def regsPlaysSpec : ChangeSpec := { name := "regsPlays", fn := fun _ => fun
  | [d1, d2, d3, d4] => { results := [.lit (.bool true)], args := [d1, d2, d3, d4] }
  | _ => none }
def regsPlaysRow : OpenClaim := { program := "ytapgkjkncihlkaa", sum := "5d3befa0070865fdd0404dd41e4f88d3b5f242285016713a13c3254cdcc2cdc1", func := "palanquin/palanquinlaw05.RegsPlays", spec := "regsPlays", apart := false }
def RegsPlaysSaid : Prop := regsPlaysRow.holds Try.pinned (OpenSpec.ofChange regsPlaysSpec)

/-- ITS FALSE NEIGHBOUR: 'it returns false'. Refute it at one input. -/
def regsPlaysWrong : ChangeSpec := { name := "regsPlays", fn := fun _ => fun
  | [d1, d2, d3, d4] => { results := [.lit (.bool false)], args := [d1, d2, d3, d4] }
  | _ => none }
def RegsPlaysWrongFalsely : Prop := regsPlaysRow.holds Try.pinned (OpenSpec.ofChange regsPlaysWrong)

/-- 'palanquinlaw05.RegsZero': WHATEVER THE INPUT: true; the input reads as it did. -/
def regsZeroSpec : ChangeSpec := { name := "regsZero", fn := fun _ => fun
  | [d1, d2] => { results := [.lit (.bool true)], args := [d1, d2] }
  | _ => none }
def regsZeroRow : OpenClaim := { program := "ytapgkjkncihlkaa", sum := "5d3befa0070865fdd0404dd41e4f88d3b5f242285016713a13c3254cdcc2cdc1", func := "palanquin/palanquinlaw05.RegsZero", spec := "regsZero", apart := false }
def RegsZeroSaid : Prop := regsZeroRow.holds Try.pinned (OpenSpec.ofChange regsZeroSpec)

/-- ITS FALSE NEIGHBOUR: 'it returns false'. Refute it at one input. -/
def regsZeroWrong : ChangeSpec := { name := "regsZero", fn := fun _ => fun
  | [d1, d2] => { results := [.lit (.bool false)], args := [d1, d2] }
  | _ => none }
def RegsZeroWrongFalsely : Prop := regsZeroRow.holds Try.pinned (OpenSpec.ofChange regsZeroWrong)

/-- 'palanquinlaw01.FieldPacks': WHATEVER THE INPUT: true; the input reads as it did. -/
def fieldPacksSpec : ChangeSpec := { name := "fieldPacks", fn := fun _ => fun
  | [d1, d2, d3] => { results := [.lit (.bool true)], args := [d1, d2, d3] }
  | _ => none }
def fieldPacksRow : OpenClaim := { program := "ytapgkjkncihlkaa", sum := "5d3befa0070865fdd0404dd41e4f88d3b5f242285016713a13c3254cdcc2cdc1", func := "palanquin/palanquinlaw01.FieldPacks", spec := "fieldPacks", unfollowed := true, recurses := true, apart := false }
def FieldPacksSaid : Prop := fieldPacksRow.holds Try.pinned (OpenSpec.ofChange fieldPacksSpec)

/-- ITS FALSE NEIGHBOUR: 'it returns false'. Refute it at one input. -/
def fieldPacksWrong : ChangeSpec := { name := "fieldPacks", fn := fun _ => fun
  | [d1, d2, d3] => { results := [.lit (.bool false)], args := [d1, d2, d3] }
  | _ => none }
def FieldPacksWrongFalsely : Prop := fieldPacksRow.holds Try.pinned (OpenSpec.ofChange fieldPacksWrong)

/-- 'palanquinlaw01.FieldBack': WHATEVER THE INPUT: true; the input reads as it did. -/
def fieldBackSpec : ChangeSpec := { name := "fieldBack", fn := fun _ => fun
  | [d1, d2, d3] => { results := [.lit (.bool true)], args := [d1, d2, d3] }
  | _ => none }
def fieldBackRow : OpenClaim := { program := "ytapgkjkncihlkaa", sum := "5d3befa0070865fdd0404dd41e4f88d3b5f242285016713a13c3254cdcc2cdc1", func := "palanquin/palanquinlaw01.FieldBack", spec := "fieldBack", unfollowed := true, recurses := true, apart := false }
def FieldBackSaid : Prop := fieldBackRow.holds Try.pinned (OpenSpec.ofChange fieldBackSpec)

/-- ITS FALSE NEIGHBOUR: 'it returns false'. Refute it at one input. -/
def fieldBackWrong : ChangeSpec := { name := "fieldBack", fn := fun _ => fun
  | [d1, d2, d3] => { results := [.lit (.bool false)], args := [d1, d2, d3] }
  | _ => none }
def FieldBackWrongFalsely : Prop := fieldBackRow.holds Try.pinned (OpenSpec.ofChange fieldBackWrong)

/- THE SECOND FORM. 'bulk': how many values and letters a reading holds, each counted each time it is reached (what is shared counts as often as it is met; a slice's spare places count too). A statement '..UptoSaid' is the law's where the arguments, and the package variables that the reading takes, are together of bulk at most 1048576: NARROWER than '..Said'. Prove '..Said' where nothing that the law and all that it calls make is longer than what came in: it says more and counts as full. Else prove '..UptoSaid'. A law counts once. -/
mutual
def uptoBulk {H : Type} : DataW H → Nat
  | .lit (.string bytes) => bytes.length + 1
  | .lit _ => 1
  | .nil => 1
  | .ptr d => uptoBulk d + 1
  | .slice elems spare => uptoBulkAll elems + uptoBulkAll spare + 1
  | .agg parts => uptoBulkAll parts + 1
  | .iface _ d => uptoBulk d + 1
  | .map entries => uptoBulkEntries entries + 1
  | .held _ => 1
def uptoBulkAll {H : Type} : List (DataW H) → Nat
  | [] => 0
  | d :: r => uptoBulk d + uptoBulkAll r
def uptoBulkEntries {H : Type} : List (Lit × DataW H) → Nat
  | [] => 0
  | x :: r => uptoBulkEntry x + uptoBulkEntries r
def uptoBulkEntry {H : Type} : Lit × DataW H → Nat
  | (.string bytes, d) => bytes.length + uptoBulk d + 1
  | (_, d) => uptoBulk d + 1
 end
def uptoSmall : (H : Type) → List (DataW H) → Bool := fun _ ds => decide (uptoBulkAll ds ≤ 1048576)
def OpenSpec.upto (s : _root_.Go.ChangeSpec) : _root_.Go.OpenSpec := { _root_.Go.OpenSpec.ofChange s with cond := some uptoSmall }

/-- 'palanquinlaw01.FieldSign', WHERE WHAT IT READS IS OF BULK AT MOST 1048576: true; the input reads as it did. -/
def fieldSignUptoRow : OpenClaim := { program := "ytapgkjkncihlkaa", sum := "5d3befa0070865fdd0404dd41e4f88d3b5f242285016713a13c3254cdcc2cdc1", func := "palanquin/palanquinlaw01.FieldSign", spec := "fieldSign", apart := false, narrowed := true }
def FieldSignUptoSaid : Prop := fieldSignUptoRow.holds Try.pinned (OpenSpec.upto fieldSignSpec)

/-- 'palanquinlaw05.RegsSwap', WHERE WHAT IT READS IS OF BULK AT MOST 1048576: true; the input reads as it did. -/
def regsSwapUptoRow : OpenClaim := { program := "ytapgkjkncihlkaa", sum := "5d3befa0070865fdd0404dd41e4f88d3b5f242285016713a13c3254cdcc2cdc1", func := "palanquin/palanquinlaw05.RegsSwap", spec := "regsSwap", apart := false, narrowed := true }
def RegsSwapUptoSaid : Prop := regsSwapUptoRow.holds Try.pinned (OpenSpec.upto regsSwapSpec)

/-- 'palanquinlaw01.FieldOne', WHERE WHAT IT READS IS OF BULK AT MOST 1048576: true; the input reads as it did. -/
def fieldOneUptoRow : OpenClaim := { program := "ytapgkjkncihlkaa", sum := "5d3befa0070865fdd0404dd41e4f88d3b5f242285016713a13c3254cdcc2cdc1", func := "palanquin/palanquinlaw01.FieldOne", spec := "fieldOne", apart := false, narrowed := true }
def FieldOneUptoSaid : Prop := fieldOneUptoRow.holds Try.pinned (OpenSpec.upto fieldOneSpec)

/-- 'palanquinlaw05.RegsOne', WHERE WHAT IT READS IS OF BULK AT MOST 1048576: true; the input reads as it did. -/
def regsOneUptoRow : OpenClaim := { program := "ytapgkjkncihlkaa", sum := "5d3befa0070865fdd0404dd41e4f88d3b5f242285016713a13c3254cdcc2cdc1", func := "palanquin/palanquinlaw05.RegsOne", spec := "regsOne", apart := false, narrowed := true }
def RegsOneUptoSaid : Prop := regsOneUptoRow.holds Try.pinned (OpenSpec.upto regsOneSpec)

/-- 'palanquinlaw01.FieldBits', WHERE WHAT IT READS IS OF BULK AT MOST 1048576: true; the input reads as it did. -/
def fieldBitsUptoRow : OpenClaim := { program := "ytapgkjkncihlkaa", sum := "5d3befa0070865fdd0404dd41e4f88d3b5f242285016713a13c3254cdcc2cdc1", func := "palanquin/palanquinlaw01.FieldBits", spec := "fieldBits", apart := false, narrowed := true }
def FieldBitsUptoSaid : Prop := fieldBitsUptoRow.holds Try.pinned (OpenSpec.upto fieldBitsSpec)

/-- 'palanquinlaw05.RegsPlays', WHERE WHAT IT READS IS OF BULK AT MOST 1048576: true; the input reads as it did. -/
def regsPlaysUptoRow : OpenClaim := { program := "ytapgkjkncihlkaa", sum := "5d3befa0070865fdd0404dd41e4f88d3b5f242285016713a13c3254cdcc2cdc1", func := "palanquin/palanquinlaw05.RegsPlays", spec := "regsPlays", apart := false, narrowed := true }
def RegsPlaysUptoSaid : Prop := regsPlaysUptoRow.holds Try.pinned (OpenSpec.upto regsPlaysSpec)

/-- 'palanquinlaw05.RegsZero', WHERE WHAT IT READS IS OF BULK AT MOST 1048576: true; the input reads as it did. -/
def regsZeroUptoRow : OpenClaim := { program := "ytapgkjkncihlkaa", sum := "5d3befa0070865fdd0404dd41e4f88d3b5f242285016713a13c3254cdcc2cdc1", func := "palanquin/palanquinlaw05.RegsZero", spec := "regsZero", apart := false, narrowed := true }
def RegsZeroUptoSaid : Prop := regsZeroUptoRow.holds Try.pinned (OpenSpec.upto regsZeroSpec)

/-- 'palanquinlaw01.FieldPacks', WHERE WHAT IT READS IS OF BULK AT MOST 1048576: true; the input reads as it did. -/
def fieldPacksUptoRow : OpenClaim := { program := "ytapgkjkncihlkaa", sum := "5d3befa0070865fdd0404dd41e4f88d3b5f242285016713a13c3254cdcc2cdc1", func := "palanquin/palanquinlaw01.FieldPacks", spec := "fieldPacks", unfollowed := true, recurses := true, apart := false, narrowed := true }
def FieldPacksUptoSaid : Prop := fieldPacksUptoRow.holds Try.pinned (OpenSpec.upto fieldPacksSpec)

/-- 'palanquinlaw01.FieldBack', WHERE WHAT IT READS IS OF BULK AT MOST 1048576: true; the input reads as it did. -/
def fieldBackUptoRow : OpenClaim := { program := "ytapgkjkncihlkaa", sum := "5d3befa0070865fdd0404dd41e4f88d3b5f242285016713a13c3254cdcc2cdc1", func := "palanquin/palanquinlaw01.FieldBack", spec := "fieldBack", unfollowed := true, recurses := true, apart := false, narrowed := true }
def FieldBackUptoSaid : Prop := fieldBackUptoRow.holds Try.pinned (OpenSpec.upto fieldBackSpec)

end Rows
end Go.Proofs.Ytapgkjkncihlkaa
