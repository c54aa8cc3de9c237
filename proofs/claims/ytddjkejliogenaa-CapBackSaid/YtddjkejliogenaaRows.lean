/-
  No cell of these rows narrows 'for every input' (looked for: loops, veiled, ifaces, maps, wideKeys, modest, calm, conditions, laid).
  DERIVED. THE GIVEN ROWS OF THIS SEAT. 9 by the template 'for every input the law returns true; each argument reads behind the call as it read before'; 0 by the template 'total and deterministic' (their statements: YtddjkejliogenaaTotals.lean).
  GIVEN WITH THE SEED: the statements are not yours to turn. If you find one false, say at which input.
  Laid BY PROGRAM, IN A SANDBOX (cutbox-rows.mjs): the forced cells as the released guide's own fill.sh prints them over the translation 31fcc838758ed8eb… (all of the seat's roots in one cut). By AI agents, Wed Nov 11 2026. No macro, syntax, notation, axiom, sorry.
-/
import Derived.Test.YtddjkejliogenaaChecked
import GoSem.Claim
import GoSem.ClaimJoined
import GoSem.ClaimMapViews
import Derived.JoinedTies
import Derived.KernelRfl
namespace Go.Proofs.Ytddjkejliogenaa
/- THE CELL 'sum', in the pinned program and in every row, IS THE sha256 OF THE DUMP (.gsa) THAT YtddjkejliogenaaProg.lean LOADS. Nothing in Lean hashes anything: it is a label: what it is worth is what the hold of that sum in a sandbox is worth. -/
noncomputable def Try.pinned : Pinned := { name := "ytddjkejliogenaa", sum := "31fcc838758ed8eb17e4b948bea2c892f631caacc2464b8872d86235a2854677", checked := Try.checked }
namespace Rows
def none {H : Type} : Left H := { results := [], args := [] }

/-- 'palanquinlaw14.PteLess': WHATEVER THE INPUT: true; the input reads as it did. -/
def pteLessSpec : ChangeSpec := { name := "pteLess", fn := fun _ => fun
  | [d1, d2, d3, d4, d5] => { results := [.lit (.bool true)], args := [d1, d2, d3, d4, d5] }
  | _ => none }
def pteLessRow : OpenClaim := { program := "ytddjkejliogenaa", sum := "31fcc838758ed8eb17e4b948bea2c892f631caacc2464b8872d86235a2854677", func := "palanquin/palanquinlaw14.PteLess", spec := "pteLess", apart := false }
def PteLessSaid : Prop := pteLessRow.holds Try.pinned (OpenSpec.ofChange pteLessSpec)

/-- ITS FALSE NEIGHBOUR: 'it returns false'. Refute it at one input. -/
def pteLessWrong : ChangeSpec := { name := "pteLess", fn := fun _ => fun
  | [d1, d2, d3, d4, d5] => { results := [.lit (.bool false)], args := [d1, d2, d3, d4, d5] }
  | _ => none }
def PteLessWrongFalsely : Prop := pteLessRow.holds Try.pinned (OpenSpec.ofChange pteLessWrong)

/-- 'palanquinlaw14.PteBack': WHATEVER THE INPUT: true; the input reads as it did. -/
def pteBackSpec : ChangeSpec := { name := "pteBack", fn := fun _ => fun
  | [d1, d2] => { results := [.lit (.bool true)], args := [d1, d2] }
  | _ => none }
def pteBackRow : OpenClaim := { program := "ytddjkejliogenaa", sum := "31fcc838758ed8eb17e4b948bea2c892f631caacc2464b8872d86235a2854677", func := "palanquin/palanquinlaw14.PteBack", spec := "pteBack", unfollowed := true, recurses := true, apart := false }
def PteBackSaid : Prop := pteBackRow.holds Try.pinned (OpenSpec.ofChange pteBackSpec)

/-- ITS FALSE NEIGHBOUR: 'it returns false'. Refute it at one input. -/
def pteBackWrong : ChangeSpec := { name := "pteBack", fn := fun _ => fun
  | [d1, d2] => { results := [.lit (.bool false)], args := [d1, d2] }
  | _ => none }
def PteBackWrongFalsely : Prop := pteBackRow.holds Try.pinned (OpenSpec.ofChange pteBackWrong)

/-- 'palanquinlaw14.PteTells': WHATEVER THE INPUT: true; the input reads as it did. -/
def pteTellsSpec : ChangeSpec := { name := "pteTells", fn := fun _ => fun
  | [d1, d2, d3, d4] => { results := [.lit (.bool true)], args := [d1, d2, d3, d4] }
  | _ => none }
def pteTellsRow : OpenClaim := { program := "ytddjkejliogenaa", sum := "31fcc838758ed8eb17e4b948bea2c892f631caacc2464b8872d86235a2854677", func := "palanquin/palanquinlaw14.PteTells", spec := "pteTells", unfollowed := true, recurses := true, apart := false }
def PteTellsSaid : Prop := pteTellsRow.holds Try.pinned (OpenSpec.ofChange pteTellsSpec)

/-- ITS FALSE NEIGHBOUR: 'it returns false'. Refute it at one input. -/
def pteTellsWrong : ChangeSpec := { name := "pteTells", fn := fun _ => fun
  | [d1, d2, d3, d4] => { results := [.lit (.bool false)], args := [d1, d2, d3, d4] }
  | _ => none }
def PteTellsWrongFalsely : Prop := pteTellsRow.holds Try.pinned (OpenSpec.ofChange pteTellsWrong)

/-- 'palanquinlaw09.CapUnder': WHATEVER THE INPUT: true; the input reads as it did. -/
def capUnderSpec : ChangeSpec := { name := "capUnder", fn := fun _ => fun
  | [d1, d2, d3, d4] => { results := [.lit (.bool true)], args := [d1, d2, d3, d4] }
  | _ => none }
def capUnderRow : OpenClaim := { program := "ytddjkejliogenaa", sum := "31fcc838758ed8eb17e4b948bea2c892f631caacc2464b8872d86235a2854677", func := "palanquin/palanquinlaw09.CapUnder", spec := "capUnder", apart := false }
def CapUnderSaid : Prop := capUnderRow.holds Try.pinned (OpenSpec.ofChange capUnderSpec)

/-- ITS FALSE NEIGHBOUR: 'it returns false'. Refute it at one input. -/
def capUnderWrong : ChangeSpec := { name := "capUnder", fn := fun _ => fun
  | [d1, d2, d3, d4] => { results := [.lit (.bool false)], args := [d1, d2, d3, d4] }
  | _ => none }
def CapUnderWrongFalsely : Prop := capUnderRow.holds Try.pinned (OpenSpec.ofChange capUnderWrong)

/-- 'palanquinlaw09.CapBack': WHATEVER THE INPUT: true; the input reads as it did. -/
def capBackSpec : ChangeSpec := { name := "capBack", fn := fun _ => fun
  | [d1, d2, d3] => { results := [.lit (.bool true)], args := [d1, d2, d3] }
  | _ => none }
def capBackRow : OpenClaim := { program := "ytddjkejliogenaa", sum := "31fcc838758ed8eb17e4b948bea2c892f631caacc2464b8872d86235a2854677", func := "palanquin/palanquinlaw09.CapBack", spec := "capBack", unfollowed := true, recurses := true, apart := false }
def CapBackSaid : Prop := capBackRow.holds Try.pinned (OpenSpec.ofChange capBackSpec)

/-- ITS FALSE NEIGHBOUR: 'it returns false'. Refute it at one input. -/
def capBackWrong : ChangeSpec := { name := "capBack", fn := fun _ => fun
  | [d1, d2, d3] => { results := [.lit (.bool false)], args := [d1, d2, d3] }
  | _ => none }
def CapBackWrongFalsely : Prop := capBackRow.holds Try.pinned (OpenSpec.ofChange capBackWrong)

/-- 'palanquinlaw09.CapTells': WHATEVER THE INPUT: true; the input reads as it did. -/
def capTellsSpec : ChangeSpec := { name := "capTells", fn := fun _ => fun
  | [d1, d2, d3, d4, d5] => { results := [.lit (.bool true)], args := [d1, d2, d3, d4, d5] }
  | _ => none }
def capTellsRow : OpenClaim := { program := "ytddjkejliogenaa", sum := "31fcc838758ed8eb17e4b948bea2c892f631caacc2464b8872d86235a2854677", func := "palanquin/palanquinlaw09.CapTells", spec := "capTells", unfollowed := true, recurses := true, apart := false }
def CapTellsSaid : Prop := capTellsRow.holds Try.pinned (OpenSpec.ofChange capTellsSpec)

/-- ITS FALSE NEIGHBOUR: 'it returns false'. Refute it at one input. -/
def capTellsWrong : ChangeSpec := { name := "capTells", fn := fun _ => fun
  | [d1, d2, d3, d4, d5] => { results := [.lit (.bool false)], args := [d1, d2, d3, d4, d5] }
  | _ => none }
def CapTellsWrongFalsely : Prop := capTellsRow.holds Try.pinned (OpenSpec.ofChange capTellsWrong)

/-- 'palanquinlaw24.CallNeeds': WHATEVER THE INPUT: true; the input reads as it did. -/
def callNeedsSpec : ChangeSpec := { name := "callNeeds", fn := fun _ => fun
  | [d1, d2, d3] => { results := [.lit (.bool true)], args := [d1, d2, d3] }
  | _ => none }
def callNeedsRow : OpenClaim := { program := "ytddjkejliogenaa", sum := "31fcc838758ed8eb17e4b948bea2c892f631caacc2464b8872d86235a2854677", func := "palanquin/palanquinlaw24.CallNeeds", spec := "callNeeds", apart := false }
def CallNeedsSaid : Prop := callNeedsRow.holds Try.pinned (OpenSpec.ofChange callNeedsSpec)

/-- ITS FALSE NEIGHBOUR: 'it returns false'. Refute it at one input. -/
def callNeedsWrong : ChangeSpec := { name := "callNeeds", fn := fun _ => fun
  | [d1, d2, d3] => { results := [.lit (.bool false)], args := [d1, d2, d3] }
  | _ => none }
def CallNeedsWrongFalsely : Prop := callNeedsRow.holds Try.pinned (OpenSpec.ofChange callNeedsWrong)

/-- 'palanquinlaw24.CallTells': WHATEVER THE INPUT: true; the input reads as it did. -/
def callTellsSpec : ChangeSpec := { name := "callTells", fn := fun _ => fun
  | [d1, d2, d3, d4] => { results := [.lit (.bool true)], args := [d1, d2, d3, d4] }
  | _ => none }
def callTellsRow : OpenClaim := { program := "ytddjkejliogenaa", sum := "31fcc838758ed8eb17e4b948bea2c892f631caacc2464b8872d86235a2854677", func := "palanquin/palanquinlaw24.CallTells", spec := "callTells", unfollowed := true, recurses := true, apart := false }
def CallTellsSaid : Prop := callTellsRow.holds Try.pinned (OpenSpec.ofChange callTellsSpec)

/-- ITS FALSE NEIGHBOUR: 'it returns false'. Refute it at one input. -/
def callTellsWrong : ChangeSpec := { name := "callTells", fn := fun _ => fun
  | [d1, d2, d3, d4] => { results := [.lit (.bool false)], args := [d1, d2, d3, d4] }
  | _ => none }
def CallTellsWrongFalsely : Prop := callTellsRow.holds Try.pinned (OpenSpec.ofChange callTellsWrong)

/-- 'palanquinlaw24.CallBack': WHATEVER THE INPUT: true; the input reads as it did. -/
def callBackSpec : ChangeSpec := { name := "callBack", fn := fun _ => fun
  | [d1, d2, d3] => { results := [.lit (.bool true)], args := [d1, d2, d3] }
  | _ => none }
def callBackRow : OpenClaim := { program := "ytddjkejliogenaa", sum := "31fcc838758ed8eb17e4b948bea2c892f631caacc2464b8872d86235a2854677", func := "palanquin/palanquinlaw24.CallBack", spec := "callBack", unfollowed := true, recurses := true, apart := false }
def CallBackSaid : Prop := callBackRow.holds Try.pinned (OpenSpec.ofChange callBackSpec)

/-- ITS FALSE NEIGHBOUR: 'it returns false'. Refute it at one input. -/
def callBackWrong : ChangeSpec := { name := "callBack", fn := fun _ => fun
  | [d1, d2, d3] => { results := [.lit (.bool false)], args := [d1, d2, d3] }
  | _ => none }
def CallBackWrongFalsely : Prop := callBackRow.holds Try.pinned (OpenSpec.ofChange callBackWrong)

/- THE SECOND FORM. 'bulk': how many values and letters a reading holds, each counted each time it is reached (what is shared counts as often as it is met; a slice's spare places count too). A statement '..UptoSaid' is the law's where the arguments, and the package variables that the reading takes, are together of bulk at most 1048576: NARROWER than '..Said'. Prove '..Said' where nothing that the law and all that it calls make is longer than what came in: it says more and counts as full. Else prove '..UptoSaid'. A law counts once. -/
mutual
def uptoBulk {H : Type} : DataW H → Nat
  | .lit (.string bytes) => bytes.length + 1
  | .lit _ => 1
  | .nil => 1
  | .ptr d => uptoBulk d + 1
  | .slice elems spare => uptoBulkAll elems + uptoBulkAll spare + 1
  | .agg parts => uptoBulkAll parts + 1
  | .iface _ d => uptoBulk d + 1
  | .map entries => uptoBulkEntries entries + 1
  | .held _ => 1
def uptoBulkAll {H : Type} : List (DataW H) → Nat
  | [] => 0
  | d :: r => uptoBulk d + uptoBulkAll r
def uptoBulkEntries {H : Type} : List (Lit × DataW H) → Nat
  | [] => 0
  | x :: r => uptoBulkEntry x + uptoBulkEntries r
def uptoBulkEntry {H : Type} : Lit × DataW H → Nat
  | (.string bytes, d) => bytes.length + uptoBulk d + 1
  | (_, d) => uptoBulk d + 1
 end
def uptoSmall : (H : Type) → List (DataW H) → Bool := fun _ ds => decide (uptoBulkAll ds ≤ 1048576)
def OpenSpec.upto (s : _root_.Go.ChangeSpec) : _root_.Go.OpenSpec := { _root_.Go.OpenSpec.ofChange s with cond := some uptoSmall }

/-- 'palanquinlaw14.PteLess', WHERE WHAT IT READS IS OF BULK AT MOST 1048576: true; the input reads as it did. -/
def pteLessUptoRow : OpenClaim := { program := "ytddjkejliogenaa", sum := "31fcc838758ed8eb17e4b948bea2c892f631caacc2464b8872d86235a2854677", func := "palanquin/palanquinlaw14.PteLess", spec := "pteLess", apart := false, narrowed := true }
def PteLessUptoSaid : Prop := pteLessUptoRow.holds Try.pinned (OpenSpec.upto pteLessSpec)

/-- 'palanquinlaw14.PteBack', WHERE WHAT IT READS IS OF BULK AT MOST 1048576: true; the input reads as it did. -/
def pteBackUptoRow : OpenClaim := { program := "ytddjkejliogenaa", sum := "31fcc838758ed8eb17e4b948bea2c892f631caacc2464b8872d86235a2854677", func := "palanquin/palanquinlaw14.PteBack", spec := "pteBack", unfollowed := true, recurses := true, apart := false, narrowed := true }
def PteBackUptoSaid : Prop := pteBackUptoRow.holds Try.pinned (OpenSpec.upto pteBackSpec)

/-- 'palanquinlaw14.PteTells', WHERE WHAT IT READS IS OF BULK AT MOST 1048576: true; the input reads as it did. -/
def pteTellsUptoRow : OpenClaim := { program := "ytddjkejliogenaa", sum := "31fcc838758ed8eb17e4b948bea2c892f631caacc2464b8872d86235a2854677", func := "palanquin/palanquinlaw14.PteTells", spec := "pteTells", unfollowed := true, recurses := true, apart := false, narrowed := true }
def PteTellsUptoSaid : Prop := pteTellsUptoRow.holds Try.pinned (OpenSpec.upto pteTellsSpec)

/-- 'palanquinlaw09.CapUnder', WHERE WHAT IT READS IS OF BULK AT MOST 1048576: true; the input reads as it did. -/
def capUnderUptoRow : OpenClaim := { program := "ytddjkejliogenaa", sum := "31fcc838758ed8eb17e4b948bea2c892f631caacc2464b8872d86235a2854677", func := "palanquin/palanquinlaw09.CapUnder", spec := "capUnder", apart := false, narrowed := true }
def CapUnderUptoSaid : Prop := capUnderUptoRow.holds Try.pinned (OpenSpec.upto capUnderSpec)

/-- 'palanquinlaw09.CapBack', WHERE WHAT IT READS IS OF BULK AT MOST 1048576: true; the input reads as it did. -/
def capBackUptoRow : OpenClaim := { program := "ytddjkejliogenaa", sum := "31fcc838758ed8eb17e4b948bea2c892f631caacc2464b8872d86235a2854677", func := "palanquin/palanquinlaw09.CapBack", spec := "capBack", unfollowed := true, recurses := true, apart := false, narrowed := true }
def CapBackUptoSaid : Prop := capBackUptoRow.holds Try.pinned (OpenSpec.upto capBackSpec)

/-- 'palanquinlaw09.CapTells', WHERE WHAT IT READS IS OF BULK AT MOST 1048576: true; the input reads as it did. -/
def capTellsUptoRow : OpenClaim := { program := "ytddjkejliogenaa", sum := "31fcc838758ed8eb17e4b948bea2c892f631caacc2464b8872d86235a2854677", func := "palanquin/palanquinlaw09.CapTells", spec := "capTells", unfollowed := true, recurses := true, apart := false, narrowed := true }
def CapTellsUptoSaid : Prop := capTellsUptoRow.holds Try.pinned (OpenSpec.upto capTellsSpec)

/-- 'palanquinlaw24.CallNeeds', WHERE WHAT IT READS IS OF BULK AT MOST 1048576: true; the input reads as it did. -/
def callNeedsUptoRow : OpenClaim := { program := "ytddjkejliogenaa", sum := "31fcc838758ed8eb17e4b948bea2c892f631caacc2464b8872d86235a2854677", func := "palanquin/palanquinlaw24.CallNeeds", spec := "callNeeds", apart := false, narrowed := true }
def CallNeedsUptoSaid : Prop := callNeedsUptoRow.holds Try.pinned (OpenSpec.upto callNeedsSpec)

/-- 'palanquinlaw24.CallTells', WHERE WHAT IT READS IS OF BULK AT MOST 1048576: true; the input reads as it did. -/
def callTellsUptoRow : OpenClaim := { program := "ytddjkejliogenaa", sum := "31fcc838758ed8eb17e4b948bea2c892f631caacc2464b8872d86235a2854677", func := "palanquin/palanquinlaw24.CallTells", spec := "callTells", unfollowed := true, recurses := true, apart := false, narrowed := true }
def CallTellsUptoSaid : Prop := callTellsUptoRow.holds Try.pinned (OpenSpec.upto callTellsSpec)

/-- 'palanquinlaw24.CallBack', WHERE WHAT IT READS IS OF BULK AT MOST 1048576: true; the input reads as it did. -/
def callBackUptoRow : OpenClaim := { program := "ytddjkejliogenaa", sum := "31fcc838758ed8eb17e4b948bea2c892f631caacc2464b8872d86235a2854677", func := "palanquin/palanquinlaw24.CallBack", spec := "callBack", unfollowed := true, recurses := true, apart := false, narrowed := true }
def CallBackUptoSaid : Prop := callBackUptoRow.holds Try.pinned (OpenSpec.upto callBackSpec)

end Rows
end Go.Proofs.Ytddjkejliogenaa
