/-
  No cell of these rows narrows 'for every input' (looked for: loops, veiled, ifaces, maps, wideKeys, modest, calm, conditions, laid).
  DERIVED. THE GIVEN ROWS OF THIS SEAT. 10 by the template 'for every input the law returns true; each argument reads behind the call as it read before'; 0 by the template 'total and deterministic' (their statements: YtiflfafniciebaaTotals.lean).
  GIVEN WITH THE SEED: the statements are not yours to turn. If you find one false, say at which input.
  Laid BY PROGRAM, IN A SANDBOX (cutbox-rows.mjs): the forced cells as the released guide's own fill.sh prints them over the translation 8b315831b8aa84eb… (all of the seat's roots in one cut). By AI agents, Wed Nov 11 2026. No macro, syntax, notation, axiom, sorry.
-/
import Derived.Test.YtiflfafniciebaaChecked
import GoSem.Claim
import GoSem.ClaimJoined
import GoSem.ClaimMapViews
import Derived.JoinedTies
import Derived.KernelRfl
namespace Go.Proofs.Ytiflfafniciebaa
/- THE CELL 'sum', in the pinned program and in every row, IS THE sha256 OF THE DUMP (.gsa) THAT YtiflfafniciebaaProg.lean LOADS. Nothing in Lean hashes anything: it is a label: what it is worth is what the hold of that sum in a sandbox is worth. -/
noncomputable def Try.pinned : Pinned := { name := "ytiflfafniciebaa", sum := "8b315831b8aa84ebfd887e918595ffa0e31a8af3976a1ef3ff847498965c56f7", checked := Try.checked }
namespace Rows
def none {H : Type} : Left H := { results := [], args := [] }

/-- 'hindcastlaw01.FixedTimes': WHATEVER THE INPUT: true; the input reads as it did. -/
def fixedTimesSpec : ChangeSpec := { name := "fixedTimes", fn := fun _ => fun
  | [d1, d2] => { results := [.lit (.bool true)], args := [d1, d2] }
  | _ => none }
def fixedTimesRow : OpenClaim := { program := "ytiflfafniciebaa", sum := "8b315831b8aa84ebfd887e918595ffa0e31a8af3976a1ef3ff847498965c56f7", func := "hindcast/hindcastlaw01.FixedTimes", spec := "fixedTimes", apart := false }
def FixedTimesSaid : Prop := fixedTimesRow.holds Try.pinned (OpenSpec.ofChange fixedTimesSpec)

/-- ITS FALSE NEIGHBOUR: 'it returns false'. Refute it at one input. -/
def fixedTimesWrong : ChangeSpec := { name := "fixedTimes", fn := fun _ => fun
  | [d1, d2] => { results := [.lit (.bool false)], args := [d1, d2] }
  | _ => none }
def FixedTimesWrongFalsely : Prop := fixedTimesRow.holds Try.pinned (OpenSpec.ofChange fixedTimesWrong)

/-- 'hindcastlaw01.FixedParts': WHATEVER THE INPUT: true; the input reads as it did. -/
def fixedPartsSpec : ChangeSpec := { name := "fixedParts", fn := fun _ => fun
  | [d1, d2] => { results := [.lit (.bool true)], args := [d1, d2] }
  | _ => none }
def fixedPartsRow : OpenClaim := { program := "ytiflfafniciebaa", sum := "8b315831b8aa84ebfd887e918595ffa0e31a8af3976a1ef3ff847498965c56f7", func := "hindcast/hindcastlaw01.FixedParts", spec := "fixedParts", apart := false }
def FixedPartsSaid : Prop := fixedPartsRow.holds Try.pinned (OpenSpec.ofChange fixedPartsSpec)

/-- ITS FALSE NEIGHBOUR: 'it returns false'. Refute it at one input. -/
def fixedPartsWrong : ChangeSpec := { name := "fixedParts", fn := fun _ => fun
  | [d1, d2] => { results := [.lit (.bool false)], args := [d1, d2] }
  | _ => none }
def FixedPartsWrongFalsely : Prop := fixedPartsRow.holds Try.pinned (OpenSpec.ofChange fixedPartsWrong)

/-- 'hindcastlaw01.FixedRoots': WHATEVER THE INPUT: true; the input reads as it did. -/
def fixedRootsSpec : ChangeSpec := { name := "fixedRoots", fn := fun _ => fun
  | [d] => { results := [.lit (.bool true)], args := [d] }
  | _ => none }
def fixedRootsRow : OpenClaim := { program := "ytiflfafniciebaa", sum := "8b315831b8aa84ebfd887e918595ffa0e31a8af3976a1ef3ff847498965c56f7", func := "hindcast/hindcastlaw01.FixedRoots", spec := "fixedRoots", apart := false }
def FixedRootsSaid : Prop := fixedRootsRow.holds Try.pinned (OpenSpec.ofChange fixedRootsSpec)

/-- ITS FALSE NEIGHBOUR: 'it returns false'. Refute it at one input. -/
def fixedRootsWrong : ChangeSpec := { name := "fixedRoots", fn := fun _ => fun
  | [d] => { results := [.lit (.bool false)], args := [d] }
  | _ => none }
def FixedRootsWrongFalsely : Prop := fixedRootsRow.holds Try.pinned (OpenSpec.ofChange fixedRootsWrong)

/-- 'hindcastlaw01.FixedRoot': WHATEVER THE INPUT: true; the input reads as it did. -/
def fixedRootSpec : ChangeSpec := { name := "fixedRoot", fn := fun _ => fun
  | [d] => { results := [.lit (.bool true)], args := [d] }
  | _ => none }
def fixedRootRow : OpenClaim := { program := "ytiflfafniciebaa", sum := "8b315831b8aa84ebfd887e918595ffa0e31a8af3976a1ef3ff847498965c56f7", func := "hindcast/hindcastlaw01.FixedRoot", spec := "fixedRoot", apart := false }
def FixedRootSaid : Prop := fixedRootRow.holds Try.pinned (OpenSpec.ofChange fixedRootSpec)

/-- ITS FALSE NEIGHBOUR: 'it returns false'. Refute it at one input. -/
def fixedRootWrong : ChangeSpec := { name := "fixedRoot", fn := fun _ => fun
  | [d] => { results := [.lit (.bool false)], args := [d] }
  | _ => none }
def FixedRootWrongFalsely : Prop := fixedRootRow.holds Try.pinned (OpenSpec.ofChange fixedRootWrong)

/-- 'hindcastlaw01.FixedNear': WHATEVER THE INPUT: true; the input reads as it did. -/
def fixedNearSpec : ChangeSpec := { name := "fixedNear", fn := fun _ => fun
  | [d1, d2] => { results := [.lit (.bool true)], args := [d1, d2] }
  | _ => none }
def fixedNearRow : OpenClaim := { program := "ytiflfafniciebaa", sum := "8b315831b8aa84ebfd887e918595ffa0e31a8af3976a1ef3ff847498965c56f7", func := "hindcast/hindcastlaw01.FixedNear", spec := "fixedNear", apart := false }
def FixedNearSaid : Prop := fixedNearRow.holds Try.pinned (OpenSpec.ofChange fixedNearSpec)

/-- ITS FALSE NEIGHBOUR: 'it returns false'. Refute it at one input. -/
def fixedNearWrong : ChangeSpec := { name := "fixedNear", fn := fun _ => fun
  | [d1, d2] => { results := [.lit (.bool false)], args := [d1, d2] }
  | _ => none }
def FixedNearWrongFalsely : Prop := fixedNearRow.holds Try.pinned (OpenSpec.ofChange fixedNearWrong)

/-- 'hindcastlaw01.FixedWhole': WHATEVER THE INPUT: true; the input reads as it did. -/
def fixedWholeSpec : ChangeSpec := { name := "fixedWhole", fn := fun _ => fun
  | [d1, d2] => { results := [.lit (.bool true)], args := [d1, d2] }
  | _ => none }
def fixedWholeRow : OpenClaim := { program := "ytiflfafniciebaa", sum := "8b315831b8aa84ebfd887e918595ffa0e31a8af3976a1ef3ff847498965c56f7", func := "hindcast/hindcastlaw01.FixedWhole", spec := "fixedWhole", apart := false }
def FixedWholeSaid : Prop := fixedWholeRow.holds Try.pinned (OpenSpec.ofChange fixedWholeSpec)

/-- ITS FALSE NEIGHBOUR: 'it returns false'. Refute it at one input. -/
def fixedWholeWrong : ChangeSpec := { name := "fixedWhole", fn := fun _ => fun
  | [d1, d2] => { results := [.lit (.bool false)], args := [d1, d2] }
  | _ => none }
def FixedWholeWrongFalsely : Prop := fixedWholeRow.holds Try.pinned (OpenSpec.ofChange fixedWholeWrong)

/-- 'hindcastlaw01.FixedOrder': WHATEVER THE INPUT: true; the input reads as it did. -/
def fixedOrderSpec : ChangeSpec := { name := "fixedOrder", fn := fun _ => fun
  | [d1, d2, d3] => { results := [.lit (.bool true)], args := [d1, d2, d3] }
  | _ => none }
def fixedOrderRow : OpenClaim := { program := "ytiflfafniciebaa", sum := "8b315831b8aa84ebfd887e918595ffa0e31a8af3976a1ef3ff847498965c56f7", func := "hindcast/hindcastlaw01.FixedOrder", spec := "fixedOrder", apart := false }
def FixedOrderSaid : Prop := fixedOrderRow.holds Try.pinned (OpenSpec.ofChange fixedOrderSpec)

/-- ITS FALSE NEIGHBOUR: 'it returns false'. Refute it at one input. -/
def fixedOrderWrong : ChangeSpec := { name := "fixedOrder", fn := fun _ => fun
  | [d1, d2, d3] => { results := [.lit (.bool false)], args := [d1, d2, d3] }
  | _ => none }
def FixedOrderWrongFalsely : Prop := fixedOrderRow.holds Try.pinned (OpenSpec.ofChange fixedOrderWrong)

/-- 'hindcastlaw01.FixedSums': WHATEVER THE INPUT: true; the input reads as it did. -/
def fixedSumsSpec : ChangeSpec := { name := "fixedSums", fn := fun _ => fun
  | [d1, d2] => { results := [.lit (.bool true)], args := [d1, d2] }
  | _ => none }
def fixedSumsRow : OpenClaim := { program := "ytiflfafniciebaa", sum := "8b315831b8aa84ebfd887e918595ffa0e31a8af3976a1ef3ff847498965c56f7", func := "hindcast/hindcastlaw01.FixedSums", spec := "fixedSums", apart := false }
def FixedSumsSaid : Prop := fixedSumsRow.holds Try.pinned (OpenSpec.ofChange fixedSumsSpec)

/-- ITS FALSE NEIGHBOUR: 'it returns false'. Refute it at one input. -/
def fixedSumsWrong : ChangeSpec := { name := "fixedSums", fn := fun _ => fun
  | [d1, d2] => { results := [.lit (.bool false)], args := [d1, d2] }
  | _ => none }
def FixedSumsWrongFalsely : Prop := fixedSumsRow.holds Try.pinned (OpenSpec.ofChange fixedSumsWrong)

/-- 'hindcastlaw01.FixedCuts': WHATEVER THE INPUT: true; the input reads as it did. -/
def fixedCutsSpec : ChangeSpec := { name := "fixedCuts", fn := fun _ => fun
  | [d1, d2, d3] => { results := [.lit (.bool true)], args := [d1, d2, d3] }
  | _ => none }
def fixedCutsRow : OpenClaim := { program := "ytiflfafniciebaa", sum := "8b315831b8aa84ebfd887e918595ffa0e31a8af3976a1ef3ff847498965c56f7", func := "hindcast/hindcastlaw01.FixedCuts", spec := "fixedCuts", apart := false }
def FixedCutsSaid : Prop := fixedCutsRow.holds Try.pinned (OpenSpec.ofChange fixedCutsSpec)

/-- ITS FALSE NEIGHBOUR: 'it returns false'. Refute it at one input. -/
def fixedCutsWrong : ChangeSpec := { name := "fixedCuts", fn := fun _ => fun
  | [d1, d2, d3] => { results := [.lit (.bool false)], args := [d1, d2, d3] }
  | _ => none }
def FixedCutsWrongFalsely : Prop := fixedCutsRow.holds Try.pinned (OpenSpec.ofChange fixedCutsWrong)

/-- 'hindcastlaw01.FixedKnown': WHATEVER THE INPUT: true; the input reads as it did. -/
def fixedKnownSpec : ChangeSpec := { name := "fixedKnown", fn := fun _ => fun
  | [] => { results := [.lit (.bool true)], args := [] }
  | _ => none }
def fixedKnownRow : OpenClaim := { program := "ytiflfafniciebaa", sum := "8b315831b8aa84ebfd887e918595ffa0e31a8af3976a1ef3ff847498965c56f7", func := "hindcast/hindcastlaw01.FixedKnown", spec := "fixedKnown", apart := false }
def FixedKnownSaid : Prop := fixedKnownRow.holds Try.pinned (OpenSpec.ofChange fixedKnownSpec)

/-- ITS FALSE NEIGHBOUR: 'it returns false'. Refute it at one input. -/
def fixedKnownWrong : ChangeSpec := { name := "fixedKnown", fn := fun _ => fun
  | [] => { results := [.lit (.bool false)], args := [] }
  | _ => none }
def FixedKnownWrongFalsely : Prop := fixedKnownRow.holds Try.pinned (OpenSpec.ofChange fixedKnownWrong)

/- THE SECOND FORM. 'bulk': how many values and letters a reading holds, each counted each time it is reached (what is shared counts as often as it is met; a slice's spare places count too). A statement '..UptoSaid' is the law's where the arguments, and the package variables that the reading takes, are together of bulk at most 1048576: NARROWER than '..Said'. Prove '..Said' where nothing that the law and all that it calls make is longer than what came in: it says more and counts as full. Else prove '..UptoSaid'. A law counts once. -/
mutual
def uptoBulk {H : Type} : DataW H → Nat
  | .lit (.string bytes) => bytes.length + 1
  | .lit _ => 1
  | .nil => 1
  | .ptr d => uptoBulk d + 1
  | .slice elems spare => uptoBulkAll elems + uptoBulkAll spare + 1
  | .agg parts => uptoBulkAll parts + 1
  | .iface _ d => uptoBulk d + 1
  | .map entries => uptoBulkEntries entries + 1
  | .held _ => 1
def uptoBulkAll {H : Type} : List (DataW H) → Nat
  | [] => 0
  | d :: r => uptoBulk d + uptoBulkAll r
def uptoBulkEntries {H : Type} : List (Lit × DataW H) → Nat
  | [] => 0
  | x :: r => uptoBulkEntry x + uptoBulkEntries r
def uptoBulkEntry {H : Type} : Lit × DataW H → Nat
  | (.string bytes, d) => bytes.length + uptoBulk d + 1
  | (_, d) => uptoBulk d + 1
 end
def uptoSmall : (H : Type) → List (DataW H) → Bool := fun _ ds => decide (uptoBulkAll ds ≤ 1048576)
def OpenSpec.upto (s : _root_.Go.ChangeSpec) : _root_.Go.OpenSpec := { _root_.Go.OpenSpec.ofChange s with cond := some uptoSmall }

/-- 'hindcastlaw01.FixedTimes', WHERE WHAT IT READS IS OF BULK AT MOST 1048576: true; the input reads as it did. -/
def fixedTimesUptoRow : OpenClaim := { program := "ytiflfafniciebaa", sum := "8b315831b8aa84ebfd887e918595ffa0e31a8af3976a1ef3ff847498965c56f7", func := "hindcast/hindcastlaw01.FixedTimes", spec := "fixedTimes", apart := false, narrowed := true }
def FixedTimesUptoSaid : Prop := fixedTimesUptoRow.holds Try.pinned (OpenSpec.upto fixedTimesSpec)

/-- 'hindcastlaw01.FixedParts', WHERE WHAT IT READS IS OF BULK AT MOST 1048576: true; the input reads as it did. -/
def fixedPartsUptoRow : OpenClaim := { program := "ytiflfafniciebaa", sum := "8b315831b8aa84ebfd887e918595ffa0e31a8af3976a1ef3ff847498965c56f7", func := "hindcast/hindcastlaw01.FixedParts", spec := "fixedParts", apart := false, narrowed := true }
def FixedPartsUptoSaid : Prop := fixedPartsUptoRow.holds Try.pinned (OpenSpec.upto fixedPartsSpec)

/-- 'hindcastlaw01.FixedRoots', WHERE WHAT IT READS IS OF BULK AT MOST 1048576: true; the input reads as it did. -/
def fixedRootsUptoRow : OpenClaim := { program := "ytiflfafniciebaa", sum := "8b315831b8aa84ebfd887e918595ffa0e31a8af3976a1ef3ff847498965c56f7", func := "hindcast/hindcastlaw01.FixedRoots", spec := "fixedRoots", apart := false, narrowed := true }
def FixedRootsUptoSaid : Prop := fixedRootsUptoRow.holds Try.pinned (OpenSpec.upto fixedRootsSpec)

/-- 'hindcastlaw01.FixedRoot', WHERE WHAT IT READS IS OF BULK AT MOST 1048576: true; the input reads as it did. -/
def fixedRootUptoRow : OpenClaim := { program := "ytiflfafniciebaa", sum := "8b315831b8aa84ebfd887e918595ffa0e31a8af3976a1ef3ff847498965c56f7", func := "hindcast/hindcastlaw01.FixedRoot", spec := "fixedRoot", apart := false, narrowed := true }
def FixedRootUptoSaid : Prop := fixedRootUptoRow.holds Try.pinned (OpenSpec.upto fixedRootSpec)

/-- 'hindcastlaw01.FixedNear', WHERE WHAT IT READS IS OF BULK AT MOST 1048576: true; the input reads as it did. -/
def fixedNearUptoRow : OpenClaim := { program := "ytiflfafniciebaa", sum := "8b315831b8aa84ebfd887e918595ffa0e31a8af3976a1ef3ff847498965c56f7", func := "hindcast/hindcastlaw01.FixedNear", spec := "fixedNear", apart := false, narrowed := true }
def FixedNearUptoSaid : Prop := fixedNearUptoRow.holds Try.pinned (OpenSpec.upto fixedNearSpec)

/-- 'hindcastlaw01.FixedWhole', WHERE WHAT IT READS IS OF BULK AT MOST 1048576: true; the input reads as it did. -/
def fixedWholeUptoRow : OpenClaim := { program := "ytiflfafniciebaa", sum := "8b315831b8aa84ebfd887e918595ffa0e31a8af3976a1ef3ff847498965c56f7", func := "hindcast/hindcastlaw01.FixedWhole", spec := "fixedWhole", apart := false, narrowed := true }
def FixedWholeUptoSaid : Prop := fixedWholeUptoRow.holds Try.pinned (OpenSpec.upto fixedWholeSpec)

/-- 'hindcastlaw01.FixedOrder', WHERE WHAT IT READS IS OF BULK AT MOST 1048576: true; the input reads as it did. -/
def fixedOrderUptoRow : OpenClaim := { program := "ytiflfafniciebaa", sum := "8b315831b8aa84ebfd887e918595ffa0e31a8af3976a1ef3ff847498965c56f7", func := "hindcast/hindcastlaw01.FixedOrder", spec := "fixedOrder", apart := false, narrowed := true }
def FixedOrderUptoSaid : Prop := fixedOrderUptoRow.holds Try.pinned (OpenSpec.upto fixedOrderSpec)

/-- 'hindcastlaw01.FixedSums', WHERE WHAT IT READS IS OF BULK AT MOST 1048576: true; the input reads as it did. -/
def fixedSumsUptoRow : OpenClaim := { program := "ytiflfafniciebaa", sum := "8b315831b8aa84ebfd887e918595ffa0e31a8af3976a1ef3ff847498965c56f7", func := "hindcast/hindcastlaw01.FixedSums", spec := "fixedSums", apart := false, narrowed := true }
def FixedSumsUptoSaid : Prop := fixedSumsUptoRow.holds Try.pinned (OpenSpec.upto fixedSumsSpec)

/-- 'hindcastlaw01.FixedCuts', WHERE WHAT IT READS IS OF BULK AT MOST 1048576: true; the input reads as it did. -/
def fixedCutsUptoRow : OpenClaim := { program := "ytiflfafniciebaa", sum := "8b315831b8aa84ebfd887e918595ffa0e31a8af3976a1ef3ff847498965c56f7", func := "hindcast/hindcastlaw01.FixedCuts", spec := "fixedCuts", apart := false, narrowed := true }
def FixedCutsUptoSaid : Prop := fixedCutsUptoRow.holds Try.pinned (OpenSpec.upto fixedCutsSpec)

/-- 'hindcastlaw01.FixedKnown', WHERE WHAT IT READS IS OF BULK AT MOST 1048576: true; the input reads as it did. -/
def fixedKnownUptoRow : OpenClaim := { program := "ytiflfafniciebaa", sum := "8b315831b8aa84ebfd887e918595ffa0e31a8af3976a1ef3ff847498965c56f7", func := "hindcast/hindcastlaw01.FixedKnown", spec := "fixedKnown", apart := false, narrowed := true }
def FixedKnownUptoSaid : Prop := fixedKnownUptoRow.holds Try.pinned (OpenSpec.upto fixedKnownSpec)

end Rows
end Go.Proofs.Ytiflfafniciebaa
