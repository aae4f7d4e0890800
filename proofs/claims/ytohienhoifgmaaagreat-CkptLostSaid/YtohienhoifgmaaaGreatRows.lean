/-
  No cell of these rows narrows 'for every input' (looked for: loops, veiled, ifaces, maps, wideKeys, modest, calm, conditions, laid).
  DERIVED. THE GIVEN ROWS OF THIS SEAT. 7 by the template 'for every input the law returns true; each argument reads behind the call as it read before'; 0 by the template 'total and deterministic' (their statements: YtohienhoifgmaaaGreatTotals.lean).
  GIVEN WITH THE SEED: the statements are not yours to turn. If you find one false, say at which input.
  Laid BY PROGRAM, IN A SANDBOX (cutbox-rows.mjs): the forced cells as the released guide's own fill.sh prints them over the translation 681f1ff025b0c033… (all of the seat's roots in one cut). By AI agents, Wed Nov 11 2026. No macro, syntax, notation, axiom, sorry.
-/
import Derived.Test.YtohienhoifgmaaaGreatChecked
import GoSem.Claim
import GoSem.ClaimJoined
import GoSem.ClaimMapViews
import Derived.JoinedTies
import Derived.KernelRfl
namespace Go.Proofs.YtohienhoifgmaaaGreat
/- THE CELL 'sum', in the pinned program and in every row, IS THE sha256 OF THE DUMP (.gsa) THAT YtohienhoifgmaaaGreatProg.lean LOADS. Nothing in Lean hashes anything: it is a label: what it is worth is what the hold of that sum in a sandbox is worth. -/
noncomputable def Tryz.pinned : Pinned := { name := "ytohienhoifgmaaagreat", sum := "681f1ff025b0c0331684ddc9dc04dfbbffbfda5c719e5cbce41c82ff87ae58eb", checked := Tryz.checked }
namespace Rows
def none {H : Type} : Left H := { results := [], args := [] }

/-- 'drystonelaw16.CkptPlays': WHATEVER THE INPUT: true; the input reads as it did. -/
def ckptPlaysSpec : ChangeSpec := { name := "ckptPlays", fn := fun _ => fun
  | [d1, d2] => { results := [.lit (.bool true)], args := [d1, d2] }
  | _ => none }
def ckptPlaysRow : OpenClaim := { program := "ytohienhoifgmaaagreat", sum := "681f1ff025b0c0331684ddc9dc04dfbbffbfda5c719e5cbce41c82ff87ae58eb", func := "drystone/drystonelaw16.CkptPlays", spec := "ckptPlays", unfollowed := true, recurses := true, apart := false }
def CkptPlaysSaid : Prop := ckptPlaysRow.holds Tryz.pinned (OpenSpec.ofChange ckptPlaysSpec)

/-- ITS FALSE NEIGHBOUR: 'it returns false'. Refute it at one input. -/
def ckptPlaysWrong : ChangeSpec := { name := "ckptPlays", fn := fun _ => fun
  | [d1, d2] => { results := [.lit (.bool false)], args := [d1, d2] }
  | _ => none }
def CkptPlaysWrongFalsely : Prop := ckptPlaysRow.holds Tryz.pinned (OpenSpec.ofChange ckptPlaysWrong)

/-- 'drystonelaw16.CkptImages': WHATEVER THE INPUT: true; the input reads as it did. -/
def ckptImagesSpec : ChangeSpec := { name := "ckptImages", fn := fun _ => fun
  | [d1, d2] => { results := [.lit (.bool true)], args := [d1, d2] }
  | _ => none }
def ckptImagesRow : OpenClaim := { program := "ytohienhoifgmaaagreat", sum := "681f1ff025b0c0331684ddc9dc04dfbbffbfda5c719e5cbce41c82ff87ae58eb", func := "drystone/drystonelaw16.CkptImages", spec := "ckptImages", unfollowed := true, recurses := true, apart := false }
def CkptImagesSaid : Prop := ckptImagesRow.holds Tryz.pinned (OpenSpec.ofChange ckptImagesSpec)

/-- ITS FALSE NEIGHBOUR: 'it returns false'. Refute it at one input. -/
def ckptImagesWrong : ChangeSpec := { name := "ckptImages", fn := fun _ => fun
  | [d1, d2] => { results := [.lit (.bool false)], args := [d1, d2] }
  | _ => none }
def CkptImagesWrongFalsely : Prop := ckptImagesRow.holds Tryz.pinned (OpenSpec.ofChange ckptImagesWrong)

/-- 'drystonelaw16.CkptErrors': WHATEVER THE INPUT: true; the input reads as it did. -/
def ckptErrorsSpec : ChangeSpec := { name := "ckptErrors", fn := fun _ => fun
  | [d1, d2, d3, d4, d5] => { results := [.lit (.bool true)], args := [d1, d2, d3, d4, d5] }
  | _ => none }
def ckptErrorsRow : OpenClaim := { program := "ytohienhoifgmaaagreat", sum := "681f1ff025b0c0331684ddc9dc04dfbbffbfda5c719e5cbce41c82ff87ae58eb", func := "drystone/drystonelaw16.CkptErrors", spec := "ckptErrors", unfollowed := true, recurses := true, apart := false }
def CkptErrorsSaid : Prop := ckptErrorsRow.holds Tryz.pinned (OpenSpec.ofChange ckptErrorsSpec)

/-- ITS FALSE NEIGHBOUR: 'it returns false'. Refute it at one input. -/
def ckptErrorsWrong : ChangeSpec := { name := "ckptErrors", fn := fun _ => fun
  | [d1, d2, d3, d4, d5] => { results := [.lit (.bool false)], args := [d1, d2, d3, d4, d5] }
  | _ => none }
def CkptErrorsWrongFalsely : Prop := ckptErrorsRow.holds Tryz.pinned (OpenSpec.ofChange ckptErrorsWrong)

/-- 'drystonelaw16.CkptAgain': WHATEVER THE INPUT: true; the input reads as it did. -/
def ckptAgainSpec : ChangeSpec := { name := "ckptAgain", fn := fun _ => fun
  | [d1, d2] => { results := [.lit (.bool true)], args := [d1, d2] }
  | _ => none }
def ckptAgainRow : OpenClaim := { program := "ytohienhoifgmaaagreat", sum := "681f1ff025b0c0331684ddc9dc04dfbbffbfda5c719e5cbce41c82ff87ae58eb", func := "drystone/drystonelaw16.CkptAgain", spec := "ckptAgain", unfollowed := true, recurses := true, apart := false }
def CkptAgainSaid : Prop := ckptAgainRow.holds Tryz.pinned (OpenSpec.ofChange ckptAgainSpec)

/-- ITS FALSE NEIGHBOUR: 'it returns false'. Refute it at one input. -/
def ckptAgainWrong : ChangeSpec := { name := "ckptAgain", fn := fun _ => fun
  | [d1, d2] => { results := [.lit (.bool false)], args := [d1, d2] }
  | _ => none }
def CkptAgainWrongFalsely : Prop := ckptAgainRow.holds Tryz.pinned (OpenSpec.ofChange ckptAgainWrong)

/-- 'drystonelaw16.CkptLoads': WHATEVER THE INPUT: true; the input reads as it did. -/
def ckptLoadsSpec : ChangeSpec := { name := "ckptLoads", fn := fun _ => fun
  | [d1, d2, d3, d4, d5] => { results := [.lit (.bool true)], args := [d1, d2, d3, d4, d5] }
  | _ => none }
def ckptLoadsRow : OpenClaim := { program := "ytohienhoifgmaaagreat", sum := "681f1ff025b0c0331684ddc9dc04dfbbffbfda5c719e5cbce41c82ff87ae58eb", func := "drystone/drystonelaw16.CkptLoads", spec := "ckptLoads", unfollowed := true, recurses := true, apart := false }
def CkptLoadsSaid : Prop := ckptLoadsRow.holds Tryz.pinned (OpenSpec.ofChange ckptLoadsSpec)

/-- ITS FALSE NEIGHBOUR: 'it returns false'. Refute it at one input. -/
def ckptLoadsWrong : ChangeSpec := { name := "ckptLoads", fn := fun _ => fun
  | [d1, d2, d3, d4, d5] => { results := [.lit (.bool false)], args := [d1, d2, d3, d4, d5] }
  | _ => none }
def CkptLoadsWrongFalsely : Prop := ckptLoadsRow.holds Tryz.pinned (OpenSpec.ofChange ckptLoadsWrong)

/-- 'drystonelaw16.CkptLost': WHATEVER THE INPUT: true; the input reads as it did. -/
def ckptLostSpec : ChangeSpec := { name := "ckptLost", fn := fun _ => fun
  | [d1, d2, d3, d4] => { results := [.lit (.bool true)], args := [d1, d2, d3, d4] }
  | _ => none }
def ckptLostRow : OpenClaim := { program := "ytohienhoifgmaaagreat", sum := "681f1ff025b0c0331684ddc9dc04dfbbffbfda5c719e5cbce41c82ff87ae58eb", func := "drystone/drystonelaw16.CkptLost", spec := "ckptLost", unfollowed := true, recurses := true, apart := false }
def CkptLostSaid : Prop := ckptLostRow.holds Tryz.pinned (OpenSpec.ofChange ckptLostSpec)

/-- ITS FALSE NEIGHBOUR: 'it returns false'. Refute it at one input. -/
def ckptLostWrong : ChangeSpec := { name := "ckptLost", fn := fun _ => fun
  | [d1, d2, d3, d4] => { results := [.lit (.bool false)], args := [d1, d2, d3, d4] }
  | _ => none }
def CkptLostWrongFalsely : Prop := ckptLostRow.holds Tryz.pinned (OpenSpec.ofChange ckptLostWrong)

/-- 'drystonelaw16.CkptCut': WHATEVER THE INPUT: true; the input reads as it did. -/
def ckptCutSpec : ChangeSpec := { name := "ckptCut", fn := fun _ => fun
  | [d1, d2, d3, d4, d5] => { results := [.lit (.bool true)], args := [d1, d2, d3, d4, d5] }
  | _ => none }
def ckptCutRow : OpenClaim := { program := "ytohienhoifgmaaagreat", sum := "681f1ff025b0c0331684ddc9dc04dfbbffbfda5c719e5cbce41c82ff87ae58eb", func := "drystone/drystonelaw16.CkptCut", spec := "ckptCut", unfollowed := true, recurses := true, apart := false }
def CkptCutSaid : Prop := ckptCutRow.holds Tryz.pinned (OpenSpec.ofChange ckptCutSpec)

/-- ITS FALSE NEIGHBOUR: 'it returns false'. Refute it at one input. -/
def ckptCutWrong : ChangeSpec := { name := "ckptCut", fn := fun _ => fun
  | [d1, d2, d3, d4, d5] => { results := [.lit (.bool false)], args := [d1, d2, d3, d4, d5] }
  | _ => none }
def CkptCutWrongFalsely : Prop := ckptCutRow.holds Tryz.pinned (OpenSpec.ofChange ckptCutWrong)

/- THE SECOND FORM. 'bulk': how many values and letters a reading holds, each counted each time it is reached (what is shared counts as often as it is met; a slice's spare places count too). A statement '..UptoSaid' is the law's where the arguments, and the package variables that the reading takes, are together of bulk at most 1048576: NARROWER than '..Said'. Prove '..Said' where nothing that the law and all that it calls make is longer than what came in: it says more and counts as full. Else prove '..UptoSaid'. A law counts once. -/
mutual
def uptoBulk {H : Type} : DataW H → Nat
  | .lit (.string bytes) => bytes.length + 1
  | .lit _ => 1
  | .nil => 1
  | .ptr d => uptoBulk d + 1
  | .slice elems spare => uptoBulkAll elems + uptoBulkAll spare + 1
  | .agg parts => uptoBulkAll parts + 1
  | .iface _ d => uptoBulk d + 1
  | .map entries => uptoBulkEntries entries + 1
  | .held _ => 1
def uptoBulkAll {H : Type} : List (DataW H) → Nat
  | [] => 0
  | d :: r => uptoBulk d + uptoBulkAll r
def uptoBulkEntries {H : Type} : List (Lit × DataW H) → Nat
  | [] => 0
  | x :: r => uptoBulkEntry x + uptoBulkEntries r
def uptoBulkEntry {H : Type} : Lit × DataW H → Nat
  | (.string bytes, d) => bytes.length + uptoBulk d + 1
  | (_, d) => uptoBulk d + 1
 end
def uptoSmall : (H : Type) → List (DataW H) → Bool := fun _ ds => decide (uptoBulkAll ds ≤ 1048576)
def OpenSpec.upto (s : _root_.Go.ChangeSpec) : _root_.Go.OpenSpec := { _root_.Go.OpenSpec.ofChange s with cond := some uptoSmall }

/-- 'drystonelaw16.CkptPlays', WHERE WHAT IT READS IS OF BULK AT MOST 1048576: true; the input reads as it did. -/
def ckptPlaysUptoRow : OpenClaim := { program := "ytohienhoifgmaaagreat", sum := "681f1ff025b0c0331684ddc9dc04dfbbffbfda5c719e5cbce41c82ff87ae58eb", func := "drystone/drystonelaw16.CkptPlays", spec := "ckptPlays", unfollowed := true, recurses := true, apart := false, narrowed := true }
def CkptPlaysUptoSaid : Prop := ckptPlaysUptoRow.holds Tryz.pinned (OpenSpec.upto ckptPlaysSpec)

/-- 'drystonelaw16.CkptImages', WHERE WHAT IT READS IS OF BULK AT MOST 1048576: true; the input reads as it did. -/
def ckptImagesUptoRow : OpenClaim := { program := "ytohienhoifgmaaagreat", sum := "681f1ff025b0c0331684ddc9dc04dfbbffbfda5c719e5cbce41c82ff87ae58eb", func := "drystone/drystonelaw16.CkptImages", spec := "ckptImages", unfollowed := true, recurses := true, apart := false, narrowed := true }
def CkptImagesUptoSaid : Prop := ckptImagesUptoRow.holds Tryz.pinned (OpenSpec.upto ckptImagesSpec)

/-- 'drystonelaw16.CkptErrors', WHERE WHAT IT READS IS OF BULK AT MOST 1048576: true; the input reads as it did. -/
def ckptErrorsUptoRow : OpenClaim := { program := "ytohienhoifgmaaagreat", sum := "681f1ff025b0c0331684ddc9dc04dfbbffbfda5c719e5cbce41c82ff87ae58eb", func := "drystone/drystonelaw16.CkptErrors", spec := "ckptErrors", unfollowed := true, recurses := true, apart := false, narrowed := true }
def CkptErrorsUptoSaid : Prop := ckptErrorsUptoRow.holds Tryz.pinned (OpenSpec.upto ckptErrorsSpec)

/-- 'drystonelaw16.CkptAgain', WHERE WHAT IT READS IS OF BULK AT MOST 1048576: true; the input reads as it did. -/
def ckptAgainUptoRow : OpenClaim := { program := "ytohienhoifgmaaagreat", sum := "681f1ff025b0c0331684ddc9dc04dfbbffbfda5c719e5cbce41c82ff87ae58eb", func := "drystone/drystonelaw16.CkptAgain", spec := "ckptAgain", unfollowed := true, recurses := true, apart := false, narrowed := true }
def CkptAgainUptoSaid : Prop := ckptAgainUptoRow.holds Tryz.pinned (OpenSpec.upto ckptAgainSpec)

/-- 'drystonelaw16.CkptLoads', WHERE WHAT IT READS IS OF BULK AT MOST 1048576: true; the input reads as it did. -/
def ckptLoadsUptoRow : OpenClaim := { program := "ytohienhoifgmaaagreat", sum := "681f1ff025b0c0331684ddc9dc04dfbbffbfda5c719e5cbce41c82ff87ae58eb", func := "drystone/drystonelaw16.CkptLoads", spec := "ckptLoads", unfollowed := true, recurses := true, apart := false, narrowed := true }
def CkptLoadsUptoSaid : Prop := ckptLoadsUptoRow.holds Tryz.pinned (OpenSpec.upto ckptLoadsSpec)

/-- 'drystonelaw16.CkptLost', WHERE WHAT IT READS IS OF BULK AT MOST 1048576: true; the input reads as it did. -/
def ckptLostUptoRow : OpenClaim := { program := "ytohienhoifgmaaagreat", sum := "681f1ff025b0c0331684ddc9dc04dfbbffbfda5c719e5cbce41c82ff87ae58eb", func := "drystone/drystonelaw16.CkptLost", spec := "ckptLost", unfollowed := true, recurses := true, apart := false, narrowed := true }
def CkptLostUptoSaid : Prop := ckptLostUptoRow.holds Tryz.pinned (OpenSpec.upto ckptLostSpec)

/-- 'drystonelaw16.CkptCut', WHERE WHAT IT READS IS OF BULK AT MOST 1048576: true; the input reads as it did. -/
def ckptCutUptoRow : OpenClaim := { program := "ytohienhoifgmaaagreat", sum := "681f1ff025b0c0331684ddc9dc04dfbbffbfda5c719e5cbce41c82ff87ae58eb", func := "drystone/drystonelaw16.CkptCut", spec := "ckptCut", unfollowed := true, recurses := true, apart := false, narrowed := true }
def CkptCutUptoSaid : Prop := ckptCutUptoRow.holds Tryz.pinned (OpenSpec.upto ckptCutSpec)

end Rows
end Go.Proofs.YtohienhoifgmaaaGreat
