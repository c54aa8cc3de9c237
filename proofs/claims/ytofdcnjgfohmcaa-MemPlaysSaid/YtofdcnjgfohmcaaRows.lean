/-
  No cell of these rows narrows 'for every input' (looked for: loops, veiled, ifaces, maps, wideKeys, modest, calm, conditions, laid).
  DERIVED. THE GIVEN ROWS OF THIS SEAT. 9 by the template 'for every input the law returns true; each argument reads behind the call as it read before'; 0 by the template 'total and deterministic' (their statements: YtofdcnjgfohmcaaTotals.lean).
  GIVEN WITH THE SEED: the statements are not yours to turn. If you find one false, say at which input.
  Laid BY PROGRAM, IN A SANDBOX (cutbox-rows.mjs): the forced cells as the released guide's own fill.sh prints them over the translation 15fbe9699116cf93… (all of the seat's roots in one cut). By AI agents, Wed Nov 11 2026. No macro, syntax, notation, axiom, sorry.
-/
import Derived.Test.YtofdcnjgfohmcaaChecked
import GoSem.Claim
import GoSem.ClaimJoined
import GoSem.ClaimMapViews
import Derived.JoinedTies
import Derived.KernelRfl
namespace Go.Proofs.Ytofdcnjgfohmcaa
/- THE CELL 'sum', in the pinned program and in every row, IS THE sha256 OF THE DUMP (.gsa) THAT YtofdcnjgfohmcaaProg.lean LOADS. Nothing in Lean hashes anything: it is a label: what it is worth is what the hold of that sum in a sandbox is worth. -/
noncomputable def Try.pinned : Pinned := { name := "ytofdcnjgfohmcaa", sum := "15fbe9699116cf934a9b937105037f6b48f4ff2bbef14020350065db0ba5ac01", checked := Try.checked }
namespace Rows
def none {H : Type} : Left H := { results := [], args := [] }

/-- 'palanquinlaw02.MemOne': WHATEVER THE INPUT: true; the input reads as it did. -/
def memOneSpec : ChangeSpec := { name := "memOne", fn := fun _ => fun
  | [d1, d2, d3, d4, d5, d6] => { results := [.lit (.bool true)], args := [d1, d2, d3, d4, d5, d6] }
  | _ => none }
def memOneRow : OpenClaim := { program := "ytofdcnjgfohmcaa", sum := "15fbe9699116cf934a9b937105037f6b48f4ff2bbef14020350065db0ba5ac01", func := "palanquin/palanquinlaw02.MemOne", spec := "memOne", plainKeys := false, apart := false }
def MemOneSaid : Prop := memOneRow.holds Try.pinned (OpenSpec.ofChange memOneSpec)

/-- ITS FALSE NEIGHBOUR: 'it returns false'. Refute it at one input. -/
def memOneWrong : ChangeSpec := { name := "memOne", fn := fun _ => fun
  | [d1, d2, d3, d4, d5, d6] => { results := [.lit (.bool false)], args := [d1, d2, d3, d4, d5, d6] }
  | _ => none }
def MemOneWrongFalsely : Prop := memOneRow.holds Try.pinned (OpenSpec.ofChange memOneWrong)

/-- 'palanquinlaw02.MemClears': WHATEVER THE INPUT: true; the input reads as it did. -/
def memClearsSpec : ChangeSpec := { name := "memClears", fn := fun _ => fun
  | [d1, d2] => { results := [.lit (.bool true)], args := [d1, d2] }
  | _ => none }
def memClearsRow : OpenClaim := { program := "ytofdcnjgfohmcaa", sum := "15fbe9699116cf934a9b937105037f6b48f4ff2bbef14020350065db0ba5ac01", func := "palanquin/palanquinlaw02.MemClears", spec := "memClears", plainKeys := false, apart := false }
def MemClearsSaid : Prop := memClearsRow.holds Try.pinned (OpenSpec.ofChange memClearsSpec)

/-- ITS FALSE NEIGHBOUR: 'it returns false'. Refute it at one input. -/
def memClearsWrong : ChangeSpec := { name := "memClears", fn := fun _ => fun
  | [d1, d2] => { results := [.lit (.bool false)], args := [d1, d2] }
  | _ => none }
def MemClearsWrongFalsely : Prop := memClearsRow.holds Try.pinned (OpenSpec.ofChange memClearsWrong)

/-- 'palanquinlaw02.MemCopies': WHATEVER THE INPUT: true; the input reads as it did. -/
def memCopiesSpec : ChangeSpec := { name := "memCopies", fn := fun _ => fun
  | [d1, d2, d3, d4] => { results := [.lit (.bool true)], args := [d1, d2, d3, d4] }
  | _ => none }
def memCopiesRow : OpenClaim := { program := "ytofdcnjgfohmcaa", sum := "15fbe9699116cf934a9b937105037f6b48f4ff2bbef14020350065db0ba5ac01", func := "palanquin/palanquinlaw02.MemCopies", spec := "memCopies", plainKeys := false, apart := false }
def MemCopiesSaid : Prop := memCopiesRow.holds Try.pinned (OpenSpec.ofChange memCopiesSpec)

/-- ITS FALSE NEIGHBOUR: 'it returns false'. Refute it at one input. -/
def memCopiesWrong : ChangeSpec := { name := "memCopies", fn := fun _ => fun
  | [d1, d2, d3, d4] => { results := [.lit (.bool false)], args := [d1, d2, d3, d4] }
  | _ => none }
def MemCopiesWrongFalsely : Prop := memCopiesRow.holds Try.pinned (OpenSpec.ofChange memCopiesWrong)

/-- 'palanquinlaw02.MemZero': WHATEVER THE INPUT: true; the input reads as it did. -/
def memZeroSpec : ChangeSpec := { name := "memZero", fn := fun _ => fun
  | [d] => { results := [.lit (.bool true)], args := [d] }
  | _ => none }
def memZeroRow : OpenClaim := { program := "ytofdcnjgfohmcaa", sum := "15fbe9699116cf934a9b937105037f6b48f4ff2bbef14020350065db0ba5ac01", func := "palanquin/palanquinlaw02.MemZero", spec := "memZero", plainKeys := false, apart := false }
def MemZeroSaid : Prop := memZeroRow.holds Try.pinned (OpenSpec.ofChange memZeroSpec)

/-- ITS FALSE NEIGHBOUR: 'it returns false'. Refute it at one input. -/
def memZeroWrong : ChangeSpec := { name := "memZero", fn := fun _ => fun
  | [d] => { results := [.lit (.bool false)], args := [d] }
  | _ => none }
def MemZeroWrongFalsely : Prop := memZeroRow.holds Try.pinned (OpenSpec.ofChange memZeroWrong)

/-- 'palanquinlaw02.MemPlays': WHATEVER THE INPUT: true; the input reads as it did. -/
def memPlaysSpec : ChangeSpec := { name := "memPlays", fn := fun _ => fun
  | [d1, d2, d3, d4, d5] => { results := [.lit (.bool true)], args := [d1, d2, d3, d4, d5] }
  | _ => none }
def memPlaysRow : OpenClaim := { program := "ytofdcnjgfohmcaa", sum := "15fbe9699116cf934a9b937105037f6b48f4ff2bbef14020350065db0ba5ac01", func := "palanquin/palanquinlaw02.MemPlays", spec := "memPlays", plainKeys := false, apart := false }
def MemPlaysSaid : Prop := memPlaysRow.holds Try.pinned (OpenSpec.ofChange memPlaysSpec)

/-- ITS FALSE NEIGHBOUR: 'it returns false'. Refute it at one input. -/
def memPlaysWrong : ChangeSpec := { name := "memPlays", fn := fun _ => fun
  | [d1, d2, d3, d4, d5] => { results := [.lit (.bool false)], args := [d1, d2, d3, d4, d5] }
  | _ => none }
def MemPlaysWrongFalsely : Prop := memPlaysRow.holds Try.pinned (OpenSpec.ofChange memPlaysWrong)

/-- 'palanquinlaw04.TlbOldest': WHATEVER THE INPUT: true; the input reads as it did. -/
def tlbOldestSpec : ChangeSpec := { name := "tlbOldest", fn := fun _ => fun
  | [d1, d2, d3] => { results := [.lit (.bool true)], args := [d1, d2, d3] }
  | _ => none }
def tlbOldestRow : OpenClaim := { program := "ytofdcnjgfohmcaa", sum := "15fbe9699116cf934a9b937105037f6b48f4ff2bbef14020350065db0ba5ac01", func := "palanquin/palanquinlaw04.TlbOldest", spec := "tlbOldest", plainKeys := false, apart := false }
def TlbOldestSaid : Prop := tlbOldestRow.holds Try.pinned (OpenSpec.ofChange tlbOldestSpec)

/-- ITS FALSE NEIGHBOUR: 'it returns false'. Refute it at one input. -/
def tlbOldestWrong : ChangeSpec := { name := "tlbOldest", fn := fun _ => fun
  | [d1, d2, d3] => { results := [.lit (.bool false)], args := [d1, d2, d3] }
  | _ => none }
def TlbOldestWrongFalsely : Prop := tlbOldestRow.holds Try.pinned (OpenSpec.ofChange tlbOldestWrong)

/-- 'palanquinlaw04.TlbRoom': WHATEVER THE INPUT: true; the input reads as it did. -/
def tlbRoomSpec : ChangeSpec := { name := "tlbRoom", fn := fun _ => fun
  | [d1, d2, d3] => { results := [.lit (.bool true)], args := [d1, d2, d3] }
  | _ => none }
def tlbRoomRow : OpenClaim := { program := "ytofdcnjgfohmcaa", sum := "15fbe9699116cf934a9b937105037f6b48f4ff2bbef14020350065db0ba5ac01", func := "palanquin/palanquinlaw04.TlbRoom", spec := "tlbRoom", plainKeys := false, apart := false }
def TlbRoomSaid : Prop := tlbRoomRow.holds Try.pinned (OpenSpec.ofChange tlbRoomSpec)

/-- ITS FALSE NEIGHBOUR: 'it returns false'. Refute it at one input. -/
def tlbRoomWrong : ChangeSpec := { name := "tlbRoom", fn := fun _ => fun
  | [d1, d2, d3] => { results := [.lit (.bool false)], args := [d1, d2, d3] }
  | _ => none }
def TlbRoomWrongFalsely : Prop := tlbRoomRow.holds Try.pinned (OpenSpec.ofChange tlbRoomWrong)

/-- 'palanquinlaw04.TlbZero': WHATEVER THE INPUT: true; the input reads as it did. -/
def tlbZeroSpec : ChangeSpec := { name := "tlbZero", fn := fun _ => fun
  | [d1, d2] => { results := [.lit (.bool true)], args := [d1, d2] }
  | _ => none }
def tlbZeroRow : OpenClaim := { program := "ytofdcnjgfohmcaa", sum := "15fbe9699116cf934a9b937105037f6b48f4ff2bbef14020350065db0ba5ac01", func := "palanquin/palanquinlaw04.TlbZero", spec := "tlbZero", plainKeys := false, apart := false }
def TlbZeroSaid : Prop := tlbZeroRow.holds Try.pinned (OpenSpec.ofChange tlbZeroSpec)

/-- ITS FALSE NEIGHBOUR: 'it returns false'. Refute it at one input. -/
def tlbZeroWrong : ChangeSpec := { name := "tlbZero", fn := fun _ => fun
  | [d1, d2] => { results := [.lit (.bool false)], args := [d1, d2] }
  | _ => none }
def TlbZeroWrongFalsely : Prop := tlbZeroRow.holds Try.pinned (OpenSpec.ofChange tlbZeroWrong)

/-- 'palanquinlaw04.TlbPlays': WHATEVER THE INPUT: true; the input reads as it did. -/
def tlbPlaysSpec : ChangeSpec := { name := "tlbPlays", fn := fun _ => fun
  | [d1, d2, d3, d4] => { results := [.lit (.bool true)], args := [d1, d2, d3, d4] }
  | _ => none }
def tlbPlaysRow : OpenClaim := { program := "ytofdcnjgfohmcaa", sum := "15fbe9699116cf934a9b937105037f6b48f4ff2bbef14020350065db0ba5ac01", func := "palanquin/palanquinlaw04.TlbPlays", spec := "tlbPlays", plainKeys := false, apart := false }
def TlbPlaysSaid : Prop := tlbPlaysRow.holds Try.pinned (OpenSpec.ofChange tlbPlaysSpec)

/-- ITS FALSE NEIGHBOUR: 'it returns false'. Refute it at one input. -/
def tlbPlaysWrong : ChangeSpec := { name := "tlbPlays", fn := fun _ => fun
  | [d1, d2, d3, d4] => { results := [.lit (.bool false)], args := [d1, d2, d3, d4] }
  | _ => none }
def TlbPlaysWrongFalsely : Prop := tlbPlaysRow.holds Try.pinned (OpenSpec.ofChange tlbPlaysWrong)

/- THE SECOND FORM. 'bulk': how many values and letters a reading holds, each counted each time it is reached (what is shared counts as often as it is met; a slice's spare places count too). A statement '..UptoSaid' is the law's where the arguments, and the package variables that the reading takes, are together of bulk at most 1048576: NARROWER than '..Said'. Prove '..Said' where nothing that the law and all that it calls make is longer than what came in: it says more and counts as full. Else prove '..UptoSaid'. A law counts once. -/
mutual
def uptoBulk {H : Type} : DataW H → Nat
  | .lit (.string bytes) => bytes.length + 1
  | .lit _ => 1
  | .nil => 1
  | .ptr d => uptoBulk d + 1
  | .slice elems spare => uptoBulkAll elems + uptoBulkAll spare + 1
  | .agg parts => uptoBulkAll parts + 1
  | .iface _ d => uptoBulk d + 1
  | .map entries => uptoBulkEntries entries + 1
  | .held _ => 1
def uptoBulkAll {H : Type} : List (DataW H) → Nat
  | [] => 0
  | d :: r => uptoBulk d + uptoBulkAll r
def uptoBulkEntries {H : Type} : List (Lit × DataW H) → Nat
  | [] => 0
  | x :: r => uptoBulkEntry x + uptoBulkEntries r
def uptoBulkEntry {H : Type} : Lit × DataW H → Nat
  | (.string bytes, d) => bytes.length + uptoBulk d + 1
  | (_, d) => uptoBulk d + 1
 end
def uptoSmall : (H : Type) → List (DataW H) → Bool := fun _ ds => decide (uptoBulkAll ds ≤ 1048576)
def OpenSpec.upto (s : _root_.Go.ChangeSpec) : _root_.Go.OpenSpec := { _root_.Go.OpenSpec.ofChange s with cond := some uptoSmall }

/-- 'palanquinlaw02.MemOne', WHERE WHAT IT READS IS OF BULK AT MOST 1048576: true; the input reads as it did. -/
def memOneUptoRow : OpenClaim := { program := "ytofdcnjgfohmcaa", sum := "15fbe9699116cf934a9b937105037f6b48f4ff2bbef14020350065db0ba5ac01", func := "palanquin/palanquinlaw02.MemOne", spec := "memOne", plainKeys := false, apart := false, narrowed := true }
def MemOneUptoSaid : Prop := memOneUptoRow.holds Try.pinned (OpenSpec.upto memOneSpec)

/-- 'palanquinlaw02.MemClears', WHERE WHAT IT READS IS OF BULK AT MOST 1048576: true; the input reads as it did. -/
def memClearsUptoRow : OpenClaim := { program := "ytofdcnjgfohmcaa", sum := "15fbe9699116cf934a9b937105037f6b48f4ff2bbef14020350065db0ba5ac01", func := "palanquin/palanquinlaw02.MemClears", spec := "memClears", plainKeys := false, apart := false, narrowed := true }
def MemClearsUptoSaid : Prop := memClearsUptoRow.holds Try.pinned (OpenSpec.upto memClearsSpec)

/-- 'palanquinlaw02.MemCopies', WHERE WHAT IT READS IS OF BULK AT MOST 1048576: true; the input reads as it did. -/
def memCopiesUptoRow : OpenClaim := { program := "ytofdcnjgfohmcaa", sum := "15fbe9699116cf934a9b937105037f6b48f4ff2bbef14020350065db0ba5ac01", func := "palanquin/palanquinlaw02.MemCopies", spec := "memCopies", plainKeys := false, apart := false, narrowed := true }
def MemCopiesUptoSaid : Prop := memCopiesUptoRow.holds Try.pinned (OpenSpec.upto memCopiesSpec)

/-- 'palanquinlaw02.MemZero', WHERE WHAT IT READS IS OF BULK AT MOST 1048576: true; the input reads as it did. -/
def memZeroUptoRow : OpenClaim := { program := "ytofdcnjgfohmcaa", sum := "15fbe9699116cf934a9b937105037f6b48f4ff2bbef14020350065db0ba5ac01", func := "palanquin/palanquinlaw02.MemZero", spec := "memZero", plainKeys := false, apart := false, narrowed := true }
def MemZeroUptoSaid : Prop := memZeroUptoRow.holds Try.pinned (OpenSpec.upto memZeroSpec)

/-- 'palanquinlaw02.MemPlays', WHERE WHAT IT READS IS OF BULK AT MOST 1048576: true; the input reads as it did. -/
def memPlaysUptoRow : OpenClaim := { program := "ytofdcnjgfohmcaa", sum := "15fbe9699116cf934a9b937105037f6b48f4ff2bbef14020350065db0ba5ac01", func := "palanquin/palanquinlaw02.MemPlays", spec := "memPlays", plainKeys := false, apart := false, narrowed := true }
def MemPlaysUptoSaid : Prop := memPlaysUptoRow.holds Try.pinned (OpenSpec.upto memPlaysSpec)

/-- 'palanquinlaw04.TlbOldest', WHERE WHAT IT READS IS OF BULK AT MOST 1048576: true; the input reads as it did. -/
def tlbOldestUptoRow : OpenClaim := { program := "ytofdcnjgfohmcaa", sum := "15fbe9699116cf934a9b937105037f6b48f4ff2bbef14020350065db0ba5ac01", func := "palanquin/palanquinlaw04.TlbOldest", spec := "tlbOldest", plainKeys := false, apart := false, narrowed := true }
def TlbOldestUptoSaid : Prop := tlbOldestUptoRow.holds Try.pinned (OpenSpec.upto tlbOldestSpec)

/-- 'palanquinlaw04.TlbRoom', WHERE WHAT IT READS IS OF BULK AT MOST 1048576: true; the input reads as it did. -/
def tlbRoomUptoRow : OpenClaim := { program := "ytofdcnjgfohmcaa", sum := "15fbe9699116cf934a9b937105037f6b48f4ff2bbef14020350065db0ba5ac01", func := "palanquin/palanquinlaw04.TlbRoom", spec := "tlbRoom", plainKeys := false, apart := false, narrowed := true }
def TlbRoomUptoSaid : Prop := tlbRoomUptoRow.holds Try.pinned (OpenSpec.upto tlbRoomSpec)

/-- 'palanquinlaw04.TlbZero', WHERE WHAT IT READS IS OF BULK AT MOST 1048576: true; the input reads as it did. -/
def tlbZeroUptoRow : OpenClaim := { program := "ytofdcnjgfohmcaa", sum := "15fbe9699116cf934a9b937105037f6b48f4ff2bbef14020350065db0ba5ac01", func := "palanquin/palanquinlaw04.TlbZero", spec := "tlbZero", plainKeys := false, apart := false, narrowed := true }
def TlbZeroUptoSaid : Prop := tlbZeroUptoRow.holds Try.pinned (OpenSpec.upto tlbZeroSpec)

/-- 'palanquinlaw04.TlbPlays', WHERE WHAT IT READS IS OF BULK AT MOST 1048576: true; the input reads as it did. -/
def tlbPlaysUptoRow : OpenClaim := { program := "ytofdcnjgfohmcaa", sum := "15fbe9699116cf934a9b937105037f6b48f4ff2bbef14020350065db0ba5ac01", func := "palanquin/palanquinlaw04.TlbPlays", spec := "tlbPlays", plainKeys := false, apart := false, narrowed := true }
def TlbPlaysUptoSaid : Prop := tlbPlaysUptoRow.holds Try.pinned (OpenSpec.upto tlbPlaysSpec)

end Rows
end Go.Proofs.Ytofdcnjgfohmcaa
