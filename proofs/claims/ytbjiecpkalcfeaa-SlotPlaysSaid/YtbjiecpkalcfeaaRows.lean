/-
  No cell of these rows narrows 'for every input' (looked for: loops, veiled, ifaces, maps, wideKeys, modest, calm, conditions, laid).
  DERIVED. THE GIVEN ROWS OF THIS SEAT. 6 by the template 'for every input the law returns true; each argument reads behind the call as it read before'; 0 by the template 'total and deterministic' (their statements: YtbjiecpkalcfeaaTotals.lean).
  GIVEN WITH THE SEED: the statements are not yours to turn. If you find one false, say at which input.
  Laid BY PROGRAM, IN A SANDBOX (cutbox-rows.mjs): the forced cells as the released guide's own fill.sh prints them over the translation 753efe2a7d1ae9cd… (all of the seat's roots in one cut). By AI agents, Wed Nov 11 2026. No macro, syntax, notation, axiom, sorry.
-/
import Derived.Test.YtbjiecpkalcfeaaChecked
import GoSem.Claim
import GoSem.ClaimJoined
import GoSem.ClaimMapViews
import Derived.JoinedTies
import Derived.KernelRfl
namespace Go.Proofs.Ytbjiecpkalcfeaa
/- THE CELL 'sum', in the pinned program and in every row, IS THE sha256 OF THE DUMP (.gsa) THAT YtbjiecpkalcfeaaProg.lean LOADS. Nothing in Lean hashes anything: it is a label: what it is worth is what the hold of that sum in a sandbox is worth. -/
noncomputable def Try.pinned : Pinned := { name := "ytbjiecpkalcfeaa", sum := "753efe2a7d1ae9cd5c4f8247dd12b00ce63662a7805b5a38c975ad44ef1aad30", checked := Try.checked }
namespace Rows
def none {H : Type} : Left H := { results := [], args := [] }

/-- 'palanquinlaw21.RingOrder': WHATEVER THE INPUT: true; the input reads as it did. -/
def ringOrderSpec : ChangeSpec := { name := "ringOrder", fn := fun _ => fun
  | [d1, d2] => { results := [.lit (.bool true)], args := [d1, d2] }
  | _ => none }
def ringOrderRow : OpenClaim := { program := "ytbjiecpkalcfeaa", sum := "753efe2a7d1ae9cd5c4f8247dd12b00ce63662a7805b5a38c975ad44ef1aad30", func := "palanquin/palanquinlaw21.RingOrder", spec := "ringOrder", unfollowed := true, recurses := true, apart := false }
def RingOrderSaid : Prop := ringOrderRow.holds Try.pinned (OpenSpec.ofChange ringOrderSpec)

/-- ITS FALSE NEIGHBOUR: 'it returns false'. Refute it at one input. -/
def ringOrderWrong : ChangeSpec := { name := "ringOrder", fn := fun _ => fun
  | [d1, d2] => { results := [.lit (.bool false)], args := [d1, d2] }
  | _ => none }
def RingOrderWrongFalsely : Prop := ringOrderRow.holds Try.pinned (OpenSpec.ofChange ringOrderWrong)

/-- 'palanquinlaw38.HistoryNest': WHATEVER THE INPUT: true; the input reads as it did. -/
def historyNestSpec : ChangeSpec := { name := "historyNest", fn := fun _ => fun
  | [d1, d2] => { results := [.lit (.bool true)], args := [d1, d2] }
  | _ => none }
def historyNestRow : OpenClaim := { program := "ytbjiecpkalcfeaa", sum := "753efe2a7d1ae9cd5c4f8247dd12b00ce63662a7805b5a38c975ad44ef1aad30", func := "palanquin/palanquinlaw38.HistoryNest", spec := "historyNest", apart := false }
def HistoryNestSaid : Prop := historyNestRow.holds Try.pinned (OpenSpec.ofChange historyNestSpec)

/-- ITS FALSE NEIGHBOUR: 'it returns false'. Refute it at one input. -/
def historyNestWrong : ChangeSpec := { name := "historyNest", fn := fun _ => fun
  | [d1, d2] => { results := [.lit (.bool false)], args := [d1, d2] }
  | _ => none }
def HistoryNestWrongFalsely : Prop := historyNestRow.holds Try.pinned (OpenSpec.ofChange historyNestWrong)

/-- 'palanquinlaw38.HistoryPlays': WHATEVER THE INPUT: true; the input reads as it did. -/
def historyPlaysSpec : ChangeSpec := { name := "historyPlays", fn := fun _ => fun
  | [d1, d2, d3, d4, d5] => { results := [.lit (.bool true)], args := [d1, d2, d3, d4, d5] }
  | _ => none }
def historyPlaysRow : OpenClaim := { program := "ytbjiecpkalcfeaa", sum := "753efe2a7d1ae9cd5c4f8247dd12b00ce63662a7805b5a38c975ad44ef1aad30", func := "palanquin/palanquinlaw38.HistoryPlays", spec := "historyPlays", unfollowed := true, recurses := true, apart := false }
def HistoryPlaysSaid : Prop := historyPlaysRow.holds Try.pinned (OpenSpec.ofChange historyPlaysSpec)

/-- ITS FALSE NEIGHBOUR: 'it returns false'. Refute it at one input. -/
def historyPlaysWrong : ChangeSpec := { name := "historyPlays", fn := fun _ => fun
  | [d1, d2, d3, d4, d5] => { results := [.lit (.bool false)], args := [d1, d2, d3, d4, d5] }
  | _ => none }
def HistoryPlaysWrongFalsely : Prop := historyPlaysRow.holds Try.pinned (OpenSpec.ofChange historyPlaysWrong)

/-- 'palanquinlaw11.SlotOne': WHATEVER THE INPUT: true; the input reads as it did. -/
def slotOneSpec : ChangeSpec := { name := "slotOne", fn := fun _ => fun
  | [d1, d2, d3] => { results := [.lit (.bool true)], args := [d1, d2, d3] }
  | _ => none }
def slotOneRow : OpenClaim := { program := "ytbjiecpkalcfeaa", sum := "753efe2a7d1ae9cd5c4f8247dd12b00ce63662a7805b5a38c975ad44ef1aad30", func := "palanquin/palanquinlaw11.SlotOne", spec := "slotOne", unfollowed := true, recurses := true, apart := false }
def SlotOneSaid : Prop := slotOneRow.holds Try.pinned (OpenSpec.ofChange slotOneSpec)

/-- ITS FALSE NEIGHBOUR: 'it returns false'. Refute it at one input. -/
def slotOneWrong : ChangeSpec := { name := "slotOne", fn := fun _ => fun
  | [d1, d2, d3] => { results := [.lit (.bool false)], args := [d1, d2, d3] }
  | _ => none }
def SlotOneWrongFalsely : Prop := slotOneRow.holds Try.pinned (OpenSpec.ofChange slotOneWrong)

/-- 'palanquinlaw11.SlotFirst': WHATEVER THE INPUT: true; the input reads as it did. -/
def slotFirstSpec : ChangeSpec := { name := "slotFirst", fn := fun _ => fun
  | [d] => { results := [.lit (.bool true)], args := [d] }
  | _ => none }
def slotFirstRow : OpenClaim := { program := "ytbjiecpkalcfeaa", sum := "753efe2a7d1ae9cd5c4f8247dd12b00ce63662a7805b5a38c975ad44ef1aad30", func := "palanquin/palanquinlaw11.SlotFirst", spec := "slotFirst", unfollowed := true, recurses := true, apart := false }
def SlotFirstSaid : Prop := slotFirstRow.holds Try.pinned (OpenSpec.ofChange slotFirstSpec)

/-- ITS FALSE NEIGHBOUR: 'it returns false'. Refute it at one input. -/
def slotFirstWrong : ChangeSpec := { name := "slotFirst", fn := fun _ => fun
  | [d] => { results := [.lit (.bool false)], args := [d] }
  | _ => none }
def SlotFirstWrongFalsely : Prop := slotFirstRow.holds Try.pinned (OpenSpec.ofChange slotFirstWrong)

/-- 'palanquinlaw11.SlotPlays': WHATEVER THE INPUT: true; the input reads as it did. -/
def slotPlaysSpec : ChangeSpec := { name := "slotPlays", fn := fun _ => fun
  | [d1, d2, d3, d4] => { results := [.lit (.bool true)], args := [d1, d2, d3, d4] }
  | _ => none }
def slotPlaysRow : OpenClaim := { program := "ytbjiecpkalcfeaa", sum := "753efe2a7d1ae9cd5c4f8247dd12b00ce63662a7805b5a38c975ad44ef1aad30", func := "palanquin/palanquinlaw11.SlotPlays", spec := "slotPlays", unfollowed := true, recurses := true, apart := false }
def SlotPlaysSaid : Prop := slotPlaysRow.holds Try.pinned (OpenSpec.ofChange slotPlaysSpec)

/-- ITS FALSE NEIGHBOUR: 'it returns false'. Refute it at one input. -/
def slotPlaysWrong : ChangeSpec := { name := "slotPlays", fn := fun _ => fun
  | [d1, d2, d3, d4] => { results := [.lit (.bool false)], args := [d1, d2, d3, d4] }
  | _ => none }
def SlotPlaysWrongFalsely : Prop := slotPlaysRow.holds Try.pinned (OpenSpec.ofChange slotPlaysWrong)

/- THE SECOND FORM. 'bulk': how many values and letters a reading holds, each counted each time it is reached (what is shared counts as often as it is met; a slice's spare places count too). A statement '..UptoSaid' is the law's where the arguments, and the package variables that the reading takes, are together of bulk at most 1048576: NARROWER than '..Said'. Prove '..Said' where nothing that the law and all that it calls make is longer than what came in: it says more and counts as full. Else prove '..UptoSaid'. A law counts once. -/
mutual
def uptoBulk {H : Type} : DataW H → Nat
  | .lit (.string bytes) => bytes.length + 1
  | .lit _ => 1
  | .nil => 1
  | .ptr d => uptoBulk d + 1
  | .slice elems spare => uptoBulkAll elems + uptoBulkAll spare + 1
  | .agg parts => uptoBulkAll parts + 1
  | .iface _ d => uptoBulk d + 1
  | .map entries => uptoBulkEntries entries + 1
  | .held _ => 1
def uptoBulkAll {H : Type} : List (DataW H) → Nat
  | [] => 0
  | d :: r => uptoBulk d + uptoBulkAll r
def uptoBulkEntries {H : Type} : List (Lit × DataW H) → Nat
  | [] => 0
  | x :: r => uptoBulkEntry x + uptoBulkEntries r
def uptoBulkEntry {H : Type} : Lit × DataW H → Nat
  | (.string bytes, d) => bytes.length + uptoBulk d + 1
  | (_, d) => uptoBulk d + 1
 end
def uptoSmall : (H : Type) → List (DataW H) → Bool := fun _ ds => decide (uptoBulkAll ds ≤ 1048576)
def OpenSpec.upto (s : _root_.Go.ChangeSpec) : _root_.Go.OpenSpec := { _root_.Go.OpenSpec.ofChange s with cond := some uptoSmall }

/-- 'palanquinlaw21.RingOrder', WHERE WHAT IT READS IS OF BULK AT MOST 1048576: true; the input reads as it did. -/
def ringOrderUptoRow : OpenClaim := { program := "ytbjiecpkalcfeaa", sum := "753efe2a7d1ae9cd5c4f8247dd12b00ce63662a7805b5a38c975ad44ef1aad30", func := "palanquin/palanquinlaw21.RingOrder", spec := "ringOrder", unfollowed := true, recurses := true, apart := false, narrowed := true }
def RingOrderUptoSaid : Prop := ringOrderUptoRow.holds Try.pinned (OpenSpec.upto ringOrderSpec)

/-- 'palanquinlaw38.HistoryNest', WHERE WHAT IT READS IS OF BULK AT MOST 1048576: true; the input reads as it did. -/
def historyNestUptoRow : OpenClaim := { program := "ytbjiecpkalcfeaa", sum := "753efe2a7d1ae9cd5c4f8247dd12b00ce63662a7805b5a38c975ad44ef1aad30", func := "palanquin/palanquinlaw38.HistoryNest", spec := "historyNest", apart := false, narrowed := true }
def HistoryNestUptoSaid : Prop := historyNestUptoRow.holds Try.pinned (OpenSpec.upto historyNestSpec)

/-- 'palanquinlaw38.HistoryPlays', WHERE WHAT IT READS IS OF BULK AT MOST 1048576: true; the input reads as it did. -/
def historyPlaysUptoRow : OpenClaim := { program := "ytbjiecpkalcfeaa", sum := "753efe2a7d1ae9cd5c4f8247dd12b00ce63662a7805b5a38c975ad44ef1aad30", func := "palanquin/palanquinlaw38.HistoryPlays", spec := "historyPlays", unfollowed := true, recurses := true, apart := false, narrowed := true }
def HistoryPlaysUptoSaid : Prop := historyPlaysUptoRow.holds Try.pinned (OpenSpec.upto historyPlaysSpec)

/-- 'palanquinlaw11.SlotOne', WHERE WHAT IT READS IS OF BULK AT MOST 1048576: true; the input reads as it did. -/
def slotOneUptoRow : OpenClaim := { program := "ytbjiecpkalcfeaa", sum := "753efe2a7d1ae9cd5c4f8247dd12b00ce63662a7805b5a38c975ad44ef1aad30", func := "palanquin/palanquinlaw11.SlotOne", spec := "slotOne", unfollowed := true, recurses := true, apart := false, narrowed := true }
def SlotOneUptoSaid : Prop := slotOneUptoRow.holds Try.pinned (OpenSpec.upto slotOneSpec)

/-- 'palanquinlaw11.SlotFirst', WHERE WHAT IT READS IS OF BULK AT MOST 1048576: true; the input reads as it did. -/
def slotFirstUptoRow : OpenClaim := { program := "ytbjiecpkalcfeaa", sum := "753efe2a7d1ae9cd5c4f8247dd12b00ce63662a7805b5a38c975ad44ef1aad30", func := "palanquin/palanquinlaw11.SlotFirst", spec := "slotFirst", unfollowed := true, recurses := true, apart := false, narrowed := true }
def SlotFirstUptoSaid : Prop := slotFirstUptoRow.holds Try.pinned (OpenSpec.upto slotFirstSpec)

/-- 'palanquinlaw11.SlotPlays', WHERE WHAT IT READS IS OF BULK AT MOST 1048576: true; the input reads as it did. -/
def slotPlaysUptoRow : OpenClaim := { program := "ytbjiecpkalcfeaa", sum := "753efe2a7d1ae9cd5c4f8247dd12b00ce63662a7805b5a38c975ad44ef1aad30", func := "palanquin/palanquinlaw11.SlotPlays", spec := "slotPlays", unfollowed := true, recurses := true, apart := false, narrowed := true }
def SlotPlaysUptoSaid : Prop := slotPlaysUptoRow.holds Try.pinned (OpenSpec.upto slotPlaysSpec)

end Rows
end Go.Proofs.Ytbjiecpkalcfeaa
