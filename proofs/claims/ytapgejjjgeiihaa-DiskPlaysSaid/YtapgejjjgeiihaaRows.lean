/-
  No cell of these rows narrows 'for every input' (looked for: loops, veiled, ifaces, maps, wideKeys, modest, calm, conditions, laid).
  DERIVED. THE GIVEN ROWS OF THIS SEAT. 14 by the template 'for every input the law returns true; each argument reads behind the call as it read before'; 0 by the template 'total and deterministic' (their statements: YtapgejjjgeiihaaTotals.lean).
  GIVEN WITH THE SEED: the statements are not yours to turn. If you find one false, say at which input.
  Laid BY PROGRAM, IN A SANDBOX (cutbox-rows.mjs): the forced cells as the released guide's own fill.sh prints them over the translation c8593f427f432418… (all of the seat's roots in one cut). By AI agents, Wed Nov 11 2026. No macro, syntax, notation, axiom, sorry.
-/
import Derived.Test.YtapgejjjgeiihaaChecked
import GoSem.Claim
import GoSem.ClaimJoined
import GoSem.ClaimMapViews
import Derived.JoinedTies
import Derived.KernelRfl
namespace Go.Proofs.Ytapgejjjgeiihaa
/- THE CELL 'sum', in the pinned program and in every row, IS THE sha256 OF THE DUMP (.gsa) THAT YtapgejjjgeiihaaProg.lean LOADS. Nothing in Lean hashes anything: it is a label: what it is worth is what the hold of that sum in a sandbox is worth. -/
noncomputable def Try.pinned : Pinned := { name := "ytapgejjjgeiihaa", sum := "c8593f427f43241831432df4e118fd9b99ebea27891d963b01f4bf528c0df18c", checked := Try.checked }
namespace Rows
def none {H : Type} : Left H := { results := [], args := [] }

/-- 'drystonelaw11.ArrayParity': WHATEVER THE INPUT: true; the input reads as it did. -/
def arrayParitySpec : ChangeSpec := { name := "arrayParity", fn := fun _ => fun
  | [d1, d2] => { results := [.lit (.bool true)], args := [d1, d2] }
  | _ => none }
def arrayParityRow : OpenClaim := { program := "ytapgejjjgeiihaa", sum := "c8593f427f43241831432df4e118fd9b99ebea27891d963b01f4bf528c0df18c", func := "drystone/drystonelaw11.ArrayParity", spec := "arrayParity", unfollowed := true, recurses := true, apart := false }
def ArrayParitySaid : Prop := arrayParityRow.holds Try.pinned (OpenSpec.ofChange arrayParitySpec)

/-- ITS FALSE NEIGHBOUR: 'it returns false'. Refute it at one input. -/
def arrayParityWrong : ChangeSpec := { name := "arrayParity", fn := fun _ => fun
  | [d1, d2] => { results := [.lit (.bool false)], args := [d1, d2] }
  | _ => none }
def ArrayParityWrongFalsely : Prop := arrayParityRow.holds Try.pinned (OpenSpec.ofChange arrayParityWrong)

/-- 'drystonelaw11.ArrayAgain': WHATEVER THE INPUT: true; the input reads as it did. -/
def arrayAgainSpec : ChangeSpec := { name := "arrayAgain", fn := fun _ => fun
  | [d1, d2, d3] => { results := [.lit (.bool true)], args := [d1, d2, d3] }
  | _ => none }
def arrayAgainRow : OpenClaim := { program := "ytapgejjjgeiihaa", sum := "c8593f427f43241831432df4e118fd9b99ebea27891d963b01f4bf528c0df18c", func := "drystone/drystonelaw11.ArrayAgain", spec := "arrayAgain", unfollowed := true, recurses := true, apart := false }
def ArrayAgainSaid : Prop := arrayAgainRow.holds Try.pinned (OpenSpec.ofChange arrayAgainSpec)

/-- ITS FALSE NEIGHBOUR: 'it returns false'. Refute it at one input. -/
def arrayAgainWrong : ChangeSpec := { name := "arrayAgain", fn := fun _ => fun
  | [d1, d2, d3] => { results := [.lit (.bool false)], args := [d1, d2, d3] }
  | _ => none }
def ArrayAgainWrongFalsely : Prop := arrayAgainRow.holds Try.pinned (OpenSpec.ofChange arrayAgainWrong)

/-- 'drystonelaw11.ArrayOne': WHATEVER THE INPUT: true; the input reads as it did. -/
def arrayOneSpec : ChangeSpec := { name := "arrayOne", fn := fun _ => fun
  | [d1, d2, d3, d4, d5] => { results := [.lit (.bool true)], args := [d1, d2, d3, d4, d5] }
  | _ => none }
def arrayOneRow : OpenClaim := { program := "ytapgejjjgeiihaa", sum := "c8593f427f43241831432df4e118fd9b99ebea27891d963b01f4bf528c0df18c", func := "drystone/drystonelaw11.ArrayOne", spec := "arrayOne", unfollowed := true, recurses := true, apart := false }
def ArrayOneSaid : Prop := arrayOneRow.holds Try.pinned (OpenSpec.ofChange arrayOneSpec)

/-- ITS FALSE NEIGHBOUR: 'it returns false'. Refute it at one input. -/
def arrayOneWrong : ChangeSpec := { name := "arrayOne", fn := fun _ => fun
  | [d1, d2, d3, d4, d5] => { results := [.lit (.bool false)], args := [d1, d2, d3, d4, d5] }
  | _ => none }
def ArrayOneWrongFalsely : Prop := arrayOneRow.holds Try.pinned (OpenSpec.ofChange arrayOneWrong)

/-- 'drystonelaw11.ArraySame': WHATEVER THE INPUT: true; the input reads as it did. -/
def arraySameSpec : ChangeSpec := { name := "arraySame", fn := fun _ => fun
  | [d1, d2, d3, d4] => { results := [.lit (.bool true)], args := [d1, d2, d3, d4] }
  | _ => none }
def arraySameRow : OpenClaim := { program := "ytapgejjjgeiihaa", sum := "c8593f427f43241831432df4e118fd9b99ebea27891d963b01f4bf528c0df18c", func := "drystone/drystonelaw11.ArraySame", spec := "arraySame", unfollowed := true, recurses := true, apart := false }
def ArraySameSaid : Prop := arraySameRow.holds Try.pinned (OpenSpec.ofChange arraySameSpec)

/-- ITS FALSE NEIGHBOUR: 'it returns false'. Refute it at one input. -/
def arraySameWrong : ChangeSpec := { name := "arraySame", fn := fun _ => fun
  | [d1, d2, d3, d4] => { results := [.lit (.bool false)], args := [d1, d2, d3, d4] }
  | _ => none }
def ArraySameWrongFalsely : Prop := arraySameRow.holds Try.pinned (OpenSpec.ofChange arraySameWrong)

/-- 'drystonelaw11.ArrayDead': WHATEVER THE INPUT: true; the input reads as it did. -/
def arrayDeadSpec : ChangeSpec := { name := "arrayDead", fn := fun _ => fun
  | [d1, d2, d3] => { results := [.lit (.bool true)], args := [d1, d2, d3] }
  | _ => none }
def arrayDeadRow : OpenClaim := { program := "ytapgejjjgeiihaa", sum := "c8593f427f43241831432df4e118fd9b99ebea27891d963b01f4bf528c0df18c", func := "drystone/drystonelaw11.ArrayDead", spec := "arrayDead", unfollowed := true, recurses := true, apart := false }
def ArrayDeadSaid : Prop := arrayDeadRow.holds Try.pinned (OpenSpec.ofChange arrayDeadSpec)

/-- ITS FALSE NEIGHBOUR: 'it returns false'. Refute it at one input. -/
def arrayDeadWrong : ChangeSpec := { name := "arrayDead", fn := fun _ => fun
  | [d1, d2, d3] => { results := [.lit (.bool false)], args := [d1, d2, d3] }
  | _ => none }
def ArrayDeadWrongFalsely : Prop := arrayDeadRow.holds Try.pinned (OpenSpec.ofChange arrayDeadWrong)

/-- 'drystonelaw11.ArrayArgs': WHATEVER THE INPUT: true; the input reads as it did. -/
def arrayArgsSpec : ChangeSpec := { name := "arrayArgs", fn := fun _ => fun
  | [d1, d2, d3, d4, d5, d6, d7] => { results := [.lit (.bool true)], args := [d1, d2, d3, d4, d5, d6, d7] }
  | _ => none }
def arrayArgsRow : OpenClaim := { program := "ytapgejjjgeiihaa", sum := "c8593f427f43241831432df4e118fd9b99ebea27891d963b01f4bf528c0df18c", func := "drystone/drystonelaw11.ArrayArgs", spec := "arrayArgs", unfollowed := true, recurses := true, apart := false }
def ArrayArgsSaid : Prop := arrayArgsRow.holds Try.pinned (OpenSpec.ofChange arrayArgsSpec)

/-- ITS FALSE NEIGHBOUR: 'it returns false'. Refute it at one input. -/
def arrayArgsWrong : ChangeSpec := { name := "arrayArgs", fn := fun _ => fun
  | [d1, d2, d3, d4, d5, d6, d7] => { results := [.lit (.bool false)], args := [d1, d2, d3, d4, d5, d6, d7] }
  | _ => none }
def ArrayArgsWrongFalsely : Prop := arrayArgsRow.holds Try.pinned (OpenSpec.ofChange arrayArgsWrong)

/-- 'drystonelaw11.ArrayMends': WHATEVER THE INPUT: true; the input reads as it did. -/
def arrayMendsSpec : ChangeSpec := { name := "arrayMends", fn := fun _ => fun
  | [d1, d2, d3, d4, d5] => { results := [.lit (.bool true)], args := [d1, d2, d3, d4, d5] }
  | _ => none }
def arrayMendsRow : OpenClaim := { program := "ytapgejjjgeiihaa", sum := "c8593f427f43241831432df4e118fd9b99ebea27891d963b01f4bf528c0df18c", func := "drystone/drystonelaw11.ArrayMends", spec := "arrayMends", unfollowed := true, recurses := true, apart := false }
def ArrayMendsSaid : Prop := arrayMendsRow.holds Try.pinned (OpenSpec.ofChange arrayMendsSpec)

/-- ITS FALSE NEIGHBOUR: 'it returns false'. Refute it at one input. -/
def arrayMendsWrong : ChangeSpec := { name := "arrayMends", fn := fun _ => fun
  | [d1, d2, d3, d4, d5] => { results := [.lit (.bool false)], args := [d1, d2, d3, d4, d5] }
  | _ => none }
def ArrayMendsWrongFalsely : Prop := arrayMendsRow.holds Try.pinned (OpenSpec.ofChange arrayMendsWrong)

/-- 'drystonelaw11.ArrayTwo': WHATEVER THE INPUT: true; the input reads as it did. -/
def arrayTwoSpec : ChangeSpec := { name := "arrayTwo", fn := fun _ => fun
  | [d1, d2, d3, d4, d5] => { results := [.lit (.bool true)], args := [d1, d2, d3, d4, d5] }
  | _ => none }
def arrayTwoRow : OpenClaim := { program := "ytapgejjjgeiihaa", sum := "c8593f427f43241831432df4e118fd9b99ebea27891d963b01f4bf528c0df18c", func := "drystone/drystonelaw11.ArrayTwo", spec := "arrayTwo", unfollowed := true, recurses := true, apart := false }
def ArrayTwoSaid : Prop := arrayTwoRow.holds Try.pinned (OpenSpec.ofChange arrayTwoSpec)

/-- ITS FALSE NEIGHBOUR: 'it returns false'. Refute it at one input. -/
def arrayTwoWrong : ChangeSpec := { name := "arrayTwo", fn := fun _ => fun
  | [d1, d2, d3, d4, d5] => { results := [.lit (.bool false)], args := [d1, d2, d3, d4, d5] }
  | _ => none }
def ArrayTwoWrongFalsely : Prop := arrayTwoRow.holds Try.pinned (OpenSpec.ofChange arrayTwoWrong)

/-- 'drystonelaw04.DiskSizes': WHATEVER THE INPUT: true; the input reads as it did. -/
def diskSizesSpec : ChangeSpec := { name := "diskSizes", fn := fun _ => fun
  | [d1, d2, d3] => { results := [.lit (.bool true)], args := [d1, d2, d3] }
  | _ => none }
def diskSizesRow : OpenClaim := { program := "ytapgejjjgeiihaa", sum := "c8593f427f43241831432df4e118fd9b99ebea27891d963b01f4bf528c0df18c", func := "drystone/drystonelaw04.DiskSizes", spec := "diskSizes", unfollowed := true, recurses := true, apart := false }
def DiskSizesSaid : Prop := diskSizesRow.holds Try.pinned (OpenSpec.ofChange diskSizesSpec)

/-- ITS FALSE NEIGHBOUR: 'it returns false'. Refute it at one input. -/
def diskSizesWrong : ChangeSpec := { name := "diskSizes", fn := fun _ => fun
  | [d1, d2, d3] => { results := [.lit (.bool false)], args := [d1, d2, d3] }
  | _ => none }
def DiskSizesWrongFalsely : Prop := diskSizesRow.holds Try.pinned (OpenSpec.ofChange diskSizesWrong)

/-- 'drystonelaw04.DiskStays': WHATEVER THE INPUT: true; the input reads as it did. -/
def diskStaysSpec : ChangeSpec := { name := "diskStays", fn := fun _ => fun
  | [d1, d2, d3] => { results := [.lit (.bool true)], args := [d1, d2, d3] }
  | _ => none }
def diskStaysRow : OpenClaim := { program := "ytapgejjjgeiihaa", sum := "c8593f427f43241831432df4e118fd9b99ebea27891d963b01f4bf528c0df18c", func := "drystone/drystonelaw04.DiskStays", spec := "diskStays", unfollowed := true, recurses := true, apart := false }
def DiskStaysSaid : Prop := diskStaysRow.holds Try.pinned (OpenSpec.ofChange diskStaysSpec)

/-- ITS FALSE NEIGHBOUR: 'it returns false'. Refute it at one input. -/
def diskStaysWrong : ChangeSpec := { name := "diskStays", fn := fun _ => fun
  | [d1, d2, d3] => { results := [.lit (.bool false)], args := [d1, d2, d3] }
  | _ => none }
def DiskStaysWrongFalsely : Prop := diskStaysRow.holds Try.pinned (OpenSpec.ofChange diskStaysWrong)

/-- 'drystonelaw04.DiskOwn': WHATEVER THE INPUT: true; the input reads as it did. -/
def diskOwnSpec : ChangeSpec := { name := "diskOwn", fn := fun _ => fun
  | [d1, d2, d3] => { results := [.lit (.bool true)], args := [d1, d2, d3] }
  | _ => none }
def diskOwnRow : OpenClaim := { program := "ytapgejjjgeiihaa", sum := "c8593f427f43241831432df4e118fd9b99ebea27891d963b01f4bf528c0df18c", func := "drystone/drystonelaw04.DiskOwn", spec := "diskOwn", unfollowed := true, recurses := true, apart := false }
def DiskOwnSaid : Prop := diskOwnRow.holds Try.pinned (OpenSpec.ofChange diskOwnSpec)

/-- ITS FALSE NEIGHBOUR: 'it returns false'. Refute it at one input. -/
def diskOwnWrong : ChangeSpec := { name := "diskOwn", fn := fun _ => fun
  | [d1, d2, d3] => { results := [.lit (.bool false)], args := [d1, d2, d3] }
  | _ => none }
def DiskOwnWrongFalsely : Prop := diskOwnRow.holds Try.pinned (OpenSpec.ofChange diskOwnWrong)

/-- 'drystonelaw04.DiskGoes': WHATEVER THE INPUT: true; the input reads as it did. -/
def diskGoesSpec : ChangeSpec := { name := "diskGoes", fn := fun _ => fun
  | [d1, d2] => { results := [.lit (.bool true)], args := [d1, d2] }
  | _ => none }
def diskGoesRow : OpenClaim := { program := "ytapgejjjgeiihaa", sum := "c8593f427f43241831432df4e118fd9b99ebea27891d963b01f4bf528c0df18c", func := "drystone/drystonelaw04.DiskGoes", spec := "diskGoes", unfollowed := true, recurses := true, apart := false }
def DiskGoesSaid : Prop := diskGoesRow.holds Try.pinned (OpenSpec.ofChange diskGoesSpec)

/-- ITS FALSE NEIGHBOUR: 'it returns false'. Refute it at one input. -/
def diskGoesWrong : ChangeSpec := { name := "diskGoes", fn := fun _ => fun
  | [d1, d2] => { results := [.lit (.bool false)], args := [d1, d2] }
  | _ => none }
def DiskGoesWrongFalsely : Prop := diskGoesRow.holds Try.pinned (OpenSpec.ofChange diskGoesWrong)

/-- 'drystonelaw04.DiskPlays': WHATEVER THE INPUT: true; the input reads as it did. -/
def diskPlaysSpec : ChangeSpec := { name := "diskPlays", fn := fun _ => fun
  | [d] => { results := [.lit (.bool true)], args := [d] }
  | _ => none }
def diskPlaysRow : OpenClaim := { program := "ytapgejjjgeiihaa", sum := "c8593f427f43241831432df4e118fd9b99ebea27891d963b01f4bf528c0df18c", func := "drystone/drystonelaw04.DiskPlays", spec := "diskPlays", unfollowed := true, recurses := true, apart := false }
def DiskPlaysSaid : Prop := diskPlaysRow.holds Try.pinned (OpenSpec.ofChange diskPlaysSpec)

/-- ITS FALSE NEIGHBOUR: 'it returns false'. Refute it at one input. -/
def diskPlaysWrong : ChangeSpec := { name := "diskPlays", fn := fun _ => fun
  | [d] => { results := [.lit (.bool false)], args := [d] }
  | _ => none }
def DiskPlaysWrongFalsely : Prop := diskPlaysRow.holds Try.pinned (OpenSpec.ofChange diskPlaysWrong)

/-- 'drystonelaw11.ArrayCut': WHATEVER THE INPUT: true; the input reads as it did. -/
def arrayCutSpec : ChangeSpec := { name := "arrayCut", fn := fun _ => fun
  | [d1, d2, d3, d4, d5] => { results := [.lit (.bool true)], args := [d1, d2, d3, d4, d5] }
  | _ => none }
def arrayCutRow : OpenClaim := { program := "ytapgejjjgeiihaa", sum := "c8593f427f43241831432df4e118fd9b99ebea27891d963b01f4bf528c0df18c", func := "drystone/drystonelaw11.ArrayCut", spec := "arrayCut", unfollowed := true, recurses := true, apart := false }
def ArrayCutSaid : Prop := arrayCutRow.holds Try.pinned (OpenSpec.ofChange arrayCutSpec)

/-- ITS FALSE NEIGHBOUR: 'it returns false'. Refute it at one input. -/
def arrayCutWrong : ChangeSpec := { name := "arrayCut", fn := fun _ => fun
  | [d1, d2, d3, d4, d5] => { results := [.lit (.bool false)], args := [d1, d2, d3, d4, d5] }
  | _ => none }
def ArrayCutWrongFalsely : Prop := arrayCutRow.holds Try.pinned (OpenSpec.ofChange arrayCutWrong)

/- THE SECOND FORM. 'bulk': how many values and letters a reading holds, each counted each time it is reached (what is shared counts as often as it is met; a slice's spare places count too). A statement '..UptoSaid' is the law's where the arguments, and the package variables that the reading takes, are together of bulk at most 1048576: NARROWER than '..Said'. Prove '..Said' where nothing that the law and all that it calls make is longer than what came in: it says more and counts as full. Else prove '..UptoSaid'. A law counts once. -/
mutual
def uptoBulk {H : Type} : DataW H → Nat
  | .lit (.string bytes) => bytes.length + 1
  | .lit _ => 1
  | .nil => 1
  | .ptr d => uptoBulk d + 1
  | .slice elems spare => uptoBulkAll elems + uptoBulkAll spare + 1
  | .agg parts => uptoBulkAll parts + 1
  | .iface _ d => uptoBulk d + 1
  | .map entries => uptoBulkEntries entries + 1
  | .held _ => 1
def uptoBulkAll {H : Type} : List (DataW H) → Nat
  | [] => 0
  | d :: r => uptoBulk d + uptoBulkAll r
def uptoBulkEntries {H : Type} : List (Lit × DataW H) → Nat
  | [] => 0
  | x :: r => uptoBulkEntry x + uptoBulkEntries r
def uptoBulkEntry {H : Type} : Lit × DataW H → Nat
  | (.string bytes, d) => bytes.length + uptoBulk d + 1
  | (_, d) => uptoBulk d + 1
 end
def uptoSmall : (H : Type) → List (DataW H) → Bool := fun _ ds => decide (uptoBulkAll ds ≤ 1048576)
def OpenSpec.upto (s : _root_.Go.ChangeSpec) : _root_.Go.OpenSpec := { _root_.Go.OpenSpec.ofChange s with cond := some uptoSmall }

/-- 'drystonelaw11.ArrayParity', WHERE WHAT IT READS IS OF BULK AT MOST 1048576: true; the input reads as it did. -/
def arrayParityUptoRow : OpenClaim := { program := "ytapgejjjgeiihaa", sum := "c8593f427f43241831432df4e118fd9b99ebea27891d963b01f4bf528c0df18c", func := "drystone/drystonelaw11.ArrayParity", spec := "arrayParity", unfollowed := true, recurses := true, apart := false, narrowed := true }
def ArrayParityUptoSaid : Prop := arrayParityUptoRow.holds Try.pinned (OpenSpec.upto arrayParitySpec)

/-- 'drystonelaw11.ArrayAgain', WHERE WHAT IT READS IS OF BULK AT MOST 1048576: true; the input reads as it did. -/
def arrayAgainUptoRow : OpenClaim := { program := "ytapgejjjgeiihaa", sum := "c8593f427f43241831432df4e118fd9b99ebea27891d963b01f4bf528c0df18c", func := "drystone/drystonelaw11.ArrayAgain", spec := "arrayAgain", unfollowed := true, recurses := true, apart := false, narrowed := true }
def ArrayAgainUptoSaid : Prop := arrayAgainUptoRow.holds Try.pinned (OpenSpec.upto arrayAgainSpec)

/-- 'drystonelaw11.ArrayOne', WHERE WHAT IT READS IS OF BULK AT MOST 1048576: true; the input reads as it did. -/
def arrayOneUptoRow : OpenClaim := { program := "ytapgejjjgeiihaa", sum := "c8593f427f43241831432df4e118fd9b99ebea27891d963b01f4bf528c0df18c", func := "drystone/drystonelaw11.ArrayOne", spec := "arrayOne", unfollowed := true, recurses := true, apart := false, narrowed := true }
def ArrayOneUptoSaid : Prop := arrayOneUptoRow.holds Try.pinned (OpenSpec.upto arrayOneSpec)

/-- 'drystonelaw11.ArraySame', WHERE WHAT IT READS IS OF BULK AT MOST 1048576: true; the input reads as it did. -/
def arraySameUptoRow : OpenClaim := { program := "ytapgejjjgeiihaa", sum := "c8593f427f43241831432df4e118fd9b99ebea27891d963b01f4bf528c0df18c", func := "drystone/drystonelaw11.ArraySame", spec := "arraySame", unfollowed := true, recurses := true, apart := false, narrowed := true }
def ArraySameUptoSaid : Prop := arraySameUptoRow.holds Try.pinned (OpenSpec.upto arraySameSpec)

/-- 'drystonelaw11.ArrayDead', WHERE WHAT IT READS IS OF BULK AT MOST 1048576: true; the input reads as it did. -/
def arrayDeadUptoRow : OpenClaim := { program := "ytapgejjjgeiihaa", sum := "c8593f427f43241831432df4e118fd9b99ebea27891d963b01f4bf528c0df18c", func := "drystone/drystonelaw11.ArrayDead", spec := "arrayDead", unfollowed := true, recurses := true, apart := false, narrowed := true }
def ArrayDeadUptoSaid : Prop := arrayDeadUptoRow.holds Try.pinned (OpenSpec.upto arrayDeadSpec)

/-- 'drystonelaw11.ArrayArgs', WHERE WHAT IT READS IS OF BULK AT MOST 1048576: true; the input reads as it did. -/
def arrayArgsUptoRow : OpenClaim := { program := "ytapgejjjgeiihaa", sum := "c8593f427f43241831432df4e118fd9b99ebea27891d963b01f4bf528c0df18c", func := "drystone/drystonelaw11.ArrayArgs", spec := "arrayArgs", unfollowed := true, recurses := true, apart := false, narrowed := true }
def ArrayArgsUptoSaid : Prop := arrayArgsUptoRow.holds Try.pinned (OpenSpec.upto arrayArgsSpec)

/-- 'drystonelaw11.ArrayMends', WHERE WHAT IT READS IS OF BULK AT MOST 1048576: true; the input reads as it did. -/
def arrayMendsUptoRow : OpenClaim := { program := "ytapgejjjgeiihaa", sum := "c8593f427f43241831432df4e118fd9b99ebea27891d963b01f4bf528c0df18c", func := "drystone/drystonelaw11.ArrayMends", spec := "arrayMends", unfollowed := true, recurses := true, apart := false, narrowed := true }
def ArrayMendsUptoSaid : Prop := arrayMendsUptoRow.holds Try.pinned (OpenSpec.upto arrayMendsSpec)

/-- 'drystonelaw11.ArrayTwo', WHERE WHAT IT READS IS OF BULK AT MOST 1048576: true; the input reads as it did. -/
def arrayTwoUptoRow : OpenClaim := { program := "ytapgejjjgeiihaa", sum := "c8593f427f43241831432df4e118fd9b99ebea27891d963b01f4bf528c0df18c", func := "drystone/drystonelaw11.ArrayTwo", spec := "arrayTwo", unfollowed := true, recurses := true, apart := false, narrowed := true }
def ArrayTwoUptoSaid : Prop := arrayTwoUptoRow.holds Try.pinned (OpenSpec.upto arrayTwoSpec)

/-- 'drystonelaw04.DiskSizes', WHERE WHAT IT READS IS OF BULK AT MOST 1048576: true; the input reads as it did. -/
def diskSizesUptoRow : OpenClaim := { program := "ytapgejjjgeiihaa", sum := "c8593f427f43241831432df4e118fd9b99ebea27891d963b01f4bf528c0df18c", func := "drystone/drystonelaw04.DiskSizes", spec := "diskSizes", unfollowed := true, recurses := true, apart := false, narrowed := true }
def DiskSizesUptoSaid : Prop := diskSizesUptoRow.holds Try.pinned (OpenSpec.upto diskSizesSpec)

/-- 'drystonelaw04.DiskStays', WHERE WHAT IT READS IS OF BULK AT MOST 1048576: true; the input reads as it did. -/
def diskStaysUptoRow : OpenClaim := { program := "ytapgejjjgeiihaa", sum := "c8593f427f43241831432df4e118fd9b99ebea27891d963b01f4bf528c0df18c", func := "drystone/drystonelaw04.DiskStays", spec := "diskStays", unfollowed := true, recurses := true, apart := false, narrowed := true }
def DiskStaysUptoSaid : Prop := diskStaysUptoRow.holds Try.pinned (OpenSpec.upto diskStaysSpec)

/-- 'drystonelaw04.DiskOwn', WHERE WHAT IT READS IS OF BULK AT MOST 1048576: true; the input reads as it did. -/
def diskOwnUptoRow : OpenClaim := { program := "ytapgejjjgeiihaa", sum := "c8593f427f43241831432df4e118fd9b99ebea27891d963b01f4bf528c0df18c", func := "drystone/drystonelaw04.DiskOwn", spec := "diskOwn", unfollowed := true, recurses := true, apart := false, narrowed := true }
def DiskOwnUptoSaid : Prop := diskOwnUptoRow.holds Try.pinned (OpenSpec.upto diskOwnSpec)

/-- 'drystonelaw04.DiskGoes', WHERE WHAT IT READS IS OF BULK AT MOST 1048576: true; the input reads as it did. -/
def diskGoesUptoRow : OpenClaim := { program := "ytapgejjjgeiihaa", sum := "c8593f427f43241831432df4e118fd9b99ebea27891d963b01f4bf528c0df18c", func := "drystone/drystonelaw04.DiskGoes", spec := "diskGoes", unfollowed := true, recurses := true, apart := false, narrowed := true }
def DiskGoesUptoSaid : Prop := diskGoesUptoRow.holds Try.pinned (OpenSpec.upto diskGoesSpec)

/-- 'drystonelaw04.DiskPlays', WHERE WHAT IT READS IS OF BULK AT MOST 1048576: true; the input reads as it did. -/
def diskPlaysUptoRow : OpenClaim := { program := "ytapgejjjgeiihaa", sum := "c8593f427f43241831432df4e118fd9b99ebea27891d963b01f4bf528c0df18c", func := "drystone/drystonelaw04.DiskPlays", spec := "diskPlays", unfollowed := true, recurses := true, apart := false, narrowed := true }
def DiskPlaysUptoSaid : Prop := diskPlaysUptoRow.holds Try.pinned (OpenSpec.upto diskPlaysSpec)

/-- 'drystonelaw11.ArrayCut', WHERE WHAT IT READS IS OF BULK AT MOST 1048576: true; the input reads as it did. -/
def arrayCutUptoRow : OpenClaim := { program := "ytapgejjjgeiihaa", sum := "c8593f427f43241831432df4e118fd9b99ebea27891d963b01f4bf528c0df18c", func := "drystone/drystonelaw11.ArrayCut", spec := "arrayCut", unfollowed := true, recurses := true, apart := false, narrowed := true }
def ArrayCutUptoSaid : Prop := arrayCutUptoRow.holds Try.pinned (OpenSpec.upto arrayCutSpec)

end Rows
end Go.Proofs.Ytapgejjjgeiihaa
