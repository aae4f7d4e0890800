/- The tables of this seat's program, as the walks look them up. Printed by wip/tools/Dump.lean. -/
import Derived.Test.YtapgejjjgeiihaaEng9
import Derived.Test.YtapgejjjgeiihaaProg
import Derived.KernelRfl
namespace Go.Proofs.Ytapgejjjgeiihaa
open Go Go.Sl
instance : Und Try.prog 0 (Go.TypeDesc.tuple #[]) := ⟨Try.runUnderlying0, Try.underlying0⟩
instance : AggT Try.prog 0 false 1 := ⟨Try.isAgg0, Try.sizeOf0⟩
instance : BytesT Try.prog 0 0 := ⟨fun w => ⟨_, Try.typeInfo0 w, rfl⟩⟩
instance : Und Try.prog 1 (Go.TypeDesc.func #[] #[] false) := ⟨Try.runUnderlying1, Try.underlying1⟩
instance : MkI Try.prog 1 := ⟨fun v w => by simp [Instr.makeInterface, Try.runUnderlying1]⟩
instance : AggT Try.prog 1 false 1 := ⟨Try.isAgg1, Try.sizeOf1⟩
instance : BytesT Try.prog 1 8 := ⟨fun w => ⟨_, Try.typeInfo1 w, rfl⟩⟩
instance : ZeroT Try.prog 1 (.nilFunc) := ⟨Try.zeroValue1⟩
instance : ElemT Try.prog 1 1 8 (.nilFunc) := ⟨⟨_, info_of_run (Try.typeInfo1 default), rfl, rfl, rfl⟩⟩
instance : Und Try.prog 2 (Go.TypeDesc.int (Go.IntKind.i64)) := ⟨Try.runUnderlying2, Try.underlying2⟩
instance : MkI Try.prog 2 := ⟨fun v w => by simp [Instr.makeInterface, Try.runUnderlying2]⟩
instance : AggT Try.prog 2 false 1 := ⟨Try.isAgg2, Try.sizeOf2⟩
instance : BytesT Try.prog 2 8 := ⟨fun w => ⟨_, Try.typeInfo2 w, rfl⟩⟩
instance : ZeroT Try.prog 2 (.int .i64 0) := ⟨Try.zeroValue2⟩
instance : ElemT Try.prog 2 1 8 (.int .i64 0) := ⟨⟨_, info_of_run (Try.typeInfo2 default), rfl, rfl, rfl⟩⟩
instance : Und Try.prog 3 (Go.TypeDesc.int (Go.IntKind.i64)) := ⟨Try.runUnderlying3, Try.underlying3⟩
instance : MkI Try.prog 3 := ⟨fun v w => by simp [Instr.makeInterface, Try.runUnderlying3]⟩
instance : AggT Try.prog 3 false 1 := ⟨Try.isAgg3, Try.sizeOf3⟩
instance : BytesT Try.prog 3 8 := ⟨fun w => ⟨_, Try.typeInfo3 w, rfl⟩⟩
instance : ZeroT Try.prog 3 (.int .i64 0) := ⟨Try.zeroValue3⟩
instance : ElemT Try.prog 3 1 8 (.int .i64 0) := ⟨⟨_, info_of_run (Try.typeInfo3 default), rfl, rfl, rfl⟩⟩
instance : Und Try.prog 4 (Go.TypeDesc.bool) := ⟨Try.runUnderlying4, Try.underlying4⟩
instance : MkI Try.prog 4 := ⟨fun v w => by simp [Instr.makeInterface, Try.runUnderlying4]⟩
instance : AggT Try.prog 4 false 1 := ⟨Try.isAgg4, Try.sizeOf4⟩
instance : BytesT Try.prog 4 1 := ⟨fun w => ⟨_, Try.typeInfo4 w, rfl⟩⟩
instance : ZeroT Try.prog 4 (.bool false) := ⟨Try.zeroValue4⟩
instance : ElemT Try.prog 4 1 1 (.bool false) := ⟨⟨_, info_of_run (Try.typeInfo4 default), rfl, rfl, rfl⟩⟩
instance : Und Try.prog 5 (Go.TypeDesc.int (Go.IntKind.u8)) := ⟨Try.runUnderlying5, Try.underlying5⟩
instance : MkI Try.prog 5 := ⟨fun v w => by simp [Instr.makeInterface, Try.runUnderlying5]⟩
instance : AggT Try.prog 5 false 1 := ⟨Try.isAgg5, Try.sizeOf5⟩
instance : BytesT Try.prog 5 1 := ⟨fun w => ⟨_, Try.typeInfo5 w, rfl⟩⟩
instance : ZeroT Try.prog 5 (.int .u8 0) := ⟨Try.zeroValue5⟩
instance : ElemT Try.prog 5 1 1 (.int .u8 0) := ⟨⟨_, info_of_run (Try.typeInfo5 default), rfl, rfl, rfl⟩⟩
instance : MkI Try.prog 7 := ⟨fun v w => by simp [Instr.makeInterface, Try.runUnderlying7]⟩
instance : AggT Try.prog 7 true 4 := ⟨Try.isAgg7, Try.sizeOf7⟩
instance : BytesT Try.prog 7 24 := ⟨fun w => ⟨_, Try.typeInfo7 w, rfl⟩⟩
instance : ZeroT Try.prog 7 (.agg #[.int .i64 0, .int .i64 0, .bool false, .int .u8 0]) := ⟨Try.zeroValue7⟩
instance : ElemT Try.prog 7 4 24 (.agg #[.int .i64 0, .int .i64 0, .bool false, .int .u8 0]) := ⟨⟨_, info_of_run (Try.typeInfo7 default), rfl, rfl, rfl⟩⟩
instance : FOff Try.prog 7 0 0 := ⟨fun w a => by simp [Instr.fieldAt, Instr.sureAddr, fieldPlace]⟩
instance : FOff Try.prog 7 1 1 := ⟨fun w a => by simp [Instr.fieldAt, Instr.sureAddr, fieldPlace]⟩
instance : FOff Try.prog 7 2 2 := ⟨fun w a => by simp [Instr.fieldAt, Instr.sureAddr, fieldPlace]⟩
instance : FOff Try.prog 7 3 3 := ⟨fun w a => by simp [Instr.fieldAt, Instr.sureAddr, fieldPlace]⟩
instance : BuildT Try.prog 7 [(0, 1), (1, 1), (2, 1), (3, 1)] [.int .i64 0, .int .i64 0, .bool false, .int .u8 0] := buildT_of Try.zeroValue7 Try.runUnderlying7 (fun w => by simp)
instance : Und Try.prog 9 (Go.TypeDesc.string) := ⟨Try.runUnderlying9, Try.underlying9⟩
instance : MkI Try.prog 9 := ⟨fun v w => by simp [Instr.makeInterface, Try.runUnderlying9]⟩
instance : AggT Try.prog 9 false 1 := ⟨Try.isAgg9, Try.sizeOf9⟩
instance : BytesT Try.prog 9 16 := ⟨fun w => ⟨_, Try.typeInfo9 w, rfl⟩⟩
instance : ZeroT Try.prog 9 (.string ⟨#[]⟩) := ⟨Try.zeroValue9⟩
instance : ElemT Try.prog 9 1 16 (.string ⟨#[]⟩) := ⟨⟨_, info_of_run (Try.typeInfo9 default), rfl, rfl, rfl⟩⟩
instance : Und Try.prog 12 (Go.TypeDesc.int (Go.IntKind.u64)) := ⟨Try.runUnderlying12, Try.underlying12⟩
instance : MkI Try.prog 12 := ⟨fun v w => by simp [Instr.makeInterface, Try.runUnderlying12]⟩
instance : AggT Try.prog 12 false 1 := ⟨Try.isAgg12, Try.sizeOf12⟩
instance : BytesT Try.prog 12 8 := ⟨fun w => ⟨_, Try.typeInfo12 w, rfl⟩⟩
instance : ZeroT Try.prog 12 (.int .u64 0) := ⟨Try.zeroValue12⟩
instance : ElemT Try.prog 12 1 8 (.int .u64 0) := ⟨⟨_, info_of_run (Try.typeInfo12 default), rfl, rfl, rfl⟩⟩
instance : MkI Try.prog 13 := ⟨fun v w => by simp [Instr.makeInterface, Try.runUnderlying13]⟩
instance : AggT Try.prog 13 true 2 := ⟨Try.isAgg13, Try.sizeOf13⟩
instance : BytesT Try.prog 13 24 := ⟨fun w => ⟨_, Try.typeInfo13 w, rfl⟩⟩
instance : ZeroT Try.prog 13 (.agg #[.string ⟨#[]⟩, .int .u64 0]) := ⟨Try.zeroValue13⟩
instance : ElemT Try.prog 13 2 24 (.agg #[.string ⟨#[]⟩, .int .u64 0]) := ⟨⟨_, info_of_run (Try.typeInfo13 default), rfl, rfl, rfl⟩⟩
instance : FOff Try.prog 13 0 0 := ⟨fun w a => by simp [Instr.fieldAt, Instr.sureAddr, fieldPlace]⟩
instance : FOff Try.prog 13 1 1 := ⟨fun w a => by simp [Instr.fieldAt, Instr.sureAddr, fieldPlace]⟩
instance : BuildT Try.prog 13 [(0, 1), (1, 1)] [.string ⟨#[]⟩, .int .u64 0] := buildT_of Try.zeroValue13 Try.runUnderlying13 (fun w => by simp)
instance : MkI Try.prog 18 := ⟨fun v w => by simp [Instr.makeInterface, Try.runUnderlying18]⟩
instance : AggT Try.prog 18 true 1 := ⟨Try.isAgg18, Try.sizeOf18⟩
instance : BytesT Try.prog 18 8 := ⟨fun w => ⟨_, Try.typeInfo18 w, rfl⟩⟩
instance : ZeroT Try.prog 18 (.agg #[.pointer none]) := ⟨Try.zeroValue18⟩
instance : ElemT Try.prog 18 1 8 (.agg #[.pointer none]) := ⟨⟨_, info_of_run (Try.typeInfo18 default), rfl, rfl, rfl⟩⟩
instance : FOff Try.prog 18 0 0 := ⟨fun w a => by simp [Instr.fieldAt, Instr.sureAddr, fieldPlace]⟩
instance : BuildT Try.prog 18 [(0, 1)] [.pointer none] := buildT_of Try.zeroValue18 Try.runUnderlying18 (fun w => by simp)
instance : Und Try.prog 20 (Go.TypeDesc.interface #[]) := ⟨Try.runUnderlying20, Try.underlying20⟩
instance : AggT Try.prog 20 false 1 := ⟨Try.isAgg20, Try.sizeOf20⟩
instance : BytesT Try.prog 20 16 := ⟨fun w => ⟨_, Try.typeInfo20 w, rfl⟩⟩
instance : ZeroT Try.prog 20 (.nilIface) := ⟨Try.zeroValue20⟩
instance : ElemT Try.prog 20 1 16 (.nilIface) := ⟨⟨_, info_of_run (Try.typeInfo20 default), rfl, rfl, rfl⟩⟩
instance : Und Try.prog 21 (Go.TypeDesc.int (Go.IntKind.i32)) := ⟨Try.runUnderlying21, Try.underlying21⟩
instance : MkI Try.prog 21 := ⟨fun v w => by simp [Instr.makeInterface, Try.runUnderlying21]⟩
instance : AggT Try.prog 21 false 1 := ⟨Try.isAgg21, Try.sizeOf21⟩
instance : BytesT Try.prog 21 4 := ⟨fun w => ⟨_, Try.typeInfo21 w, rfl⟩⟩
instance : ZeroT Try.prog 21 (.int .i32 0) := ⟨Try.zeroValue21⟩
instance : ElemT Try.prog 21 1 4 (.int .i32 0) := ⟨⟨_, info_of_run (Try.typeInfo21 default), rfl, rfl, rfl⟩⟩
instance : MkI Try.prog 22 := ⟨fun v w => by simp [Instr.makeInterface, Try.runUnderlying22]⟩
instance : AggT Try.prog 22 true 6 := ⟨Try.isAgg22, Try.sizeOf22⟩
instance : BytesT Try.prog 22 6 := ⟨fun w => ⟨_, Try.typeInfo22 w, rfl⟩⟩
instance : ZeroT Try.prog 22 (.agg #[.int .u8 0, .int .u8 0, .int .u8 0, .int .u8 0, .int .u8 0, .int .u8 0]) := ⟨Try.zeroValue22⟩
instance : ElemT Try.prog 22 6 6 (.agg #[.int .u8 0, .int .u8 0, .int .u8 0, .int .u8 0, .int .u8 0, .int .u8 0]) := ⟨⟨_, info_of_run (Try.typeInfo22 default), rfl, rfl, rfl⟩⟩
instance : FOff Try.prog 22 0 0 := ⟨fun w a => by simp [Instr.fieldAt, Instr.sureAddr, fieldPlace]⟩
instance : FOff Try.prog 22 1 1 := ⟨fun w a => by simp [Instr.fieldAt, Instr.sureAddr, fieldPlace]⟩
instance : FOff Try.prog 22 2 2 := ⟨fun w a => by simp [Instr.fieldAt, Instr.sureAddr, fieldPlace]⟩
instance : FOff Try.prog 22 3 3 := ⟨fun w a => by simp [Instr.fieldAt, Instr.sureAddr, fieldPlace]⟩
instance : FOff Try.prog 22 4 4 := ⟨fun w a => by simp [Instr.fieldAt, Instr.sureAddr, fieldPlace]⟩
instance : FOff Try.prog 22 5 5 := ⟨fun w a => by simp [Instr.fieldAt, Instr.sureAddr, fieldPlace]⟩
instance : BuildT Try.prog 22 [(0, 1), (1, 1), (2, 1), (3, 1), (4, 1), (5, 1)] [.int .u8 0, .int .u8 0, .int .u8 0, .int .u8 0, .int .u8 0, .int .u8 0] := buildT_of Try.zeroValue22 Try.runUnderlying22 (fun w => by simp)
instance : MkI Try.prog 23 := ⟨fun v w => by simp [Instr.makeInterface, Try.runUnderlying23]⟩
instance : AggT Try.prog 23 true 6 := ⟨Try.isAgg23, Try.sizeOf23⟩
instance : BytesT Try.prog 23 6 := ⟨fun w => ⟨_, Try.typeInfo23 w, rfl⟩⟩
instance : ZeroT Try.prog 23 (.agg #[.int .u8 0, .int .u8 0, .int .u8 0, .int .u8 0, .int .u8 0, .int .u8 0]) := ⟨Try.zeroValue23⟩
instance : ElemT Try.prog 23 6 6 (.agg #[.int .u8 0, .int .u8 0, .int .u8 0, .int .u8 0, .int .u8 0, .int .u8 0]) := ⟨⟨_, info_of_run (Try.typeInfo23 default), rfl, rfl, rfl⟩⟩
instance : FOff Try.prog 23 0 0 := ⟨fun w a => by simp [Instr.fieldAt, Instr.sureAddr, fieldPlace]⟩
instance : FOff Try.prog 23 1 1 := ⟨fun w a => by simp [Instr.fieldAt, Instr.sureAddr, fieldPlace]⟩
instance : FOff Try.prog 23 2 2 := ⟨fun w a => by simp [Instr.fieldAt, Instr.sureAddr, fieldPlace]⟩
instance : FOff Try.prog 23 3 3 := ⟨fun w a => by simp [Instr.fieldAt, Instr.sureAddr, fieldPlace]⟩
instance : FOff Try.prog 23 4 4 := ⟨fun w a => by simp [Instr.fieldAt, Instr.sureAddr, fieldPlace]⟩
instance : FOff Try.prog 23 5 5 := ⟨fun w a => by simp [Instr.fieldAt, Instr.sureAddr, fieldPlace]⟩
instance : BuildT Try.prog 23 [(0, 1), (1, 1), (2, 1), (3, 1), (4, 1), (5, 1)] [.int .u8 0, .int .u8 0, .int .u8 0, .int .u8 0, .int .u8 0, .int .u8 0] := buildT_of Try.zeroValue23 Try.runUnderlying23 (fun w => by simp)
instance : Und Try.prog 24 (Go.TypeDesc.slice 102) := ⟨Try.runUnderlying24, Try.underlying24⟩
instance : MkI Try.prog 24 := ⟨fun v w => by simp [Instr.makeInterface, Try.runUnderlying24]⟩
instance : AggT Try.prog 24 false 1 := ⟨Try.isAgg24, Try.sizeOf24⟩
instance : BytesT Try.prog 24 24 := ⟨fun w => ⟨_, Try.typeInfo24 w, rfl⟩⟩
instance : ZeroT Try.prog 24 (.slice none 0 0) := ⟨Try.zeroValue24⟩
instance : ElemT Try.prog 24 1 24 (.slice none 0 0) := ⟨⟨_, info_of_run (Try.typeInfo24 default), rfl, rfl, rfl⟩⟩
instance : Und Try.prog 25 (Go.TypeDesc.func #[] #[4] false) := ⟨Try.runUnderlying25, Try.underlying25⟩
instance : MkI Try.prog 25 := ⟨fun v w => by simp [Instr.makeInterface, Try.runUnderlying25]⟩
instance : AggT Try.prog 25 false 1 := ⟨Try.isAgg25, Try.sizeOf25⟩
instance : BytesT Try.prog 25 8 := ⟨fun w => ⟨_, Try.typeInfo25 w, rfl⟩⟩
instance : ZeroT Try.prog 25 (.nilFunc) := ⟨Try.zeroValue25⟩
instance : ElemT Try.prog 25 1 8 (.nilFunc) := ⟨⟨_, info_of_run (Try.typeInfo25 default), rfl, rfl, rfl⟩⟩
instance : Und Try.prog 26 (Go.TypeDesc.pointer 39) := ⟨Try.runUnderlying26, Try.underlying26⟩
instance : MkI Try.prog 26 := ⟨fun v w => by simp [Instr.makeInterface, Try.runUnderlying26]⟩
instance : AggT Try.prog 26 false 1 := ⟨Try.isAgg26, Try.sizeOf26⟩
instance : BytesT Try.prog 26 8 := ⟨fun w => ⟨_, Try.typeInfo26 w, rfl⟩⟩
instance : ZeroT Try.prog 26 (.pointer none) := ⟨Try.zeroValue26⟩
instance : ElemT Try.prog 26 1 8 (.pointer none) := ⟨⟨_, info_of_run (Try.typeInfo26 default), rfl, rfl, rfl⟩⟩
instance : Und Try.prog 27 (Go.TypeDesc.tuple #[26, 4]) := ⟨Try.runUnderlying27, Try.underlying27⟩
instance : AggT Try.prog 27 false 1 := ⟨Try.isAgg27, Try.sizeOf27⟩
instance : BytesT Try.prog 27 0 := ⟨fun w => ⟨_, Try.typeInfo27 w, rfl⟩⟩
instance : Und Try.prog 28 (Go.TypeDesc.func #[30] #[26, 4] false) := ⟨Try.runUnderlying28, Try.underlying28⟩
instance : MkI Try.prog 28 := ⟨fun v w => by simp [Instr.makeInterface, Try.runUnderlying28]⟩
instance : AggT Try.prog 28 false 1 := ⟨Try.isAgg28, Try.sizeOf28⟩
instance : BytesT Try.prog 28 8 := ⟨fun w => ⟨_, Try.typeInfo28 w, rfl⟩⟩
instance : ZeroT Try.prog 28 (.nilFunc) := ⟨Try.zeroValue28⟩
instance : ElemT Try.prog 28 1 8 (.nilFunc) := ⟨⟨_, info_of_run (Try.typeInfo28 default), rfl, rfl, rfl⟩⟩
instance : MkI Try.prog 29 := ⟨fun v w => by simp [Instr.makeInterface, Try.runUnderlying29]⟩
instance : AggT Try.prog 29 true 6 := ⟨Try.isAgg29, Try.sizeOf29⟩
instance : BytesT Try.prog 29 48 := ⟨fun w => ⟨_, Try.typeInfo29 w, rfl⟩⟩
instance : ZeroT Try.prog 29 (.agg #[.int .i64 0, .int .i64 0, .int .i64 0, .int .i64 0, .int .i64 0, .int .i64 0]) := ⟨Try.zeroValue29⟩
instance : ElemT Try.prog 29 6 48 (.agg #[.int .i64 0, .int .i64 0, .int .i64 0, .int .i64 0, .int .i64 0, .int .i64 0]) := ⟨⟨_, info_of_run (Try.typeInfo29 default), rfl, rfl, rfl⟩⟩
instance : FOff Try.prog 29 0 0 := ⟨fun w a => by simp [Instr.fieldAt, Instr.sureAddr, fieldPlace]⟩
instance : FOff Try.prog 29 1 1 := ⟨fun w a => by simp [Instr.fieldAt, Instr.sureAddr, fieldPlace]⟩
instance : FOff Try.prog 29 2 2 := ⟨fun w a => by simp [Instr.fieldAt, Instr.sureAddr, fieldPlace]⟩
instance : FOff Try.prog 29 3 3 := ⟨fun w a => by simp [Instr.fieldAt, Instr.sureAddr, fieldPlace]⟩
instance : FOff Try.prog 29 4 4 := ⟨fun w a => by simp [Instr.fieldAt, Instr.sureAddr, fieldPlace]⟩
instance : FOff Try.prog 29 5 5 := ⟨fun w a => by simp [Instr.fieldAt, Instr.sureAddr, fieldPlace]⟩
instance : BuildT Try.prog 29 [(0, 1), (1, 1), (2, 1), (3, 1), (4, 1), (5, 1)] [.int .i64 0, .int .i64 0, .int .i64 0, .int .i64 0, .int .i64 0, .int .i64 0] := buildT_of Try.zeroValue29 Try.runUnderlying29 (fun w => by simp)
instance : MkI Try.prog 30 := ⟨fun v w => by simp [Instr.makeInterface, Try.runUnderlying30]⟩
instance : AggT Try.prog 30 true 6 := ⟨Try.isAgg30, Try.sizeOf30⟩
instance : BytesT Try.prog 30 48 := ⟨fun w => ⟨_, Try.typeInfo30 w, rfl⟩⟩
instance : ZeroT Try.prog 30 (.agg #[.int .i64 0, .int .i64 0, .int .i64 0, .int .i64 0, .int .i64 0, .int .i64 0]) := ⟨Try.zeroValue30⟩
instance : ElemT Try.prog 30 6 48 (.agg #[.int .i64 0, .int .i64 0, .int .i64 0, .int .i64 0, .int .i64 0, .int .i64 0]) := ⟨⟨_, info_of_run (Try.typeInfo30 default), rfl, rfl, rfl⟩⟩
instance : FOff Try.prog 30 0 0 := ⟨fun w a => by simp [Instr.fieldAt, Instr.sureAddr, fieldPlace]⟩
instance : FOff Try.prog 30 1 1 := ⟨fun w a => by simp [Instr.fieldAt, Instr.sureAddr, fieldPlace]⟩
instance : FOff Try.prog 30 2 2 := ⟨fun w a => by simp [Instr.fieldAt, Instr.sureAddr, fieldPlace]⟩
instance : FOff Try.prog 30 3 3 := ⟨fun w a => by simp [Instr.fieldAt, Instr.sureAddr, fieldPlace]⟩
instance : FOff Try.prog 30 4 4 := ⟨fun w a => by simp [Instr.fieldAt, Instr.sureAddr, fieldPlace]⟩
instance : FOff Try.prog 30 5 5 := ⟨fun w a => by simp [Instr.fieldAt, Instr.sureAddr, fieldPlace]⟩
instance : BuildT Try.prog 30 [(0, 1), (1, 1), (2, 1), (3, 1), (4, 1), (5, 1)] [.int .i64 0, .int .i64 0, .int .i64 0, .int .i64 0, .int .i64 0, .int .i64 0] := buildT_of Try.zeroValue30 Try.runUnderlying30 (fun w => by simp)
instance : Und Try.prog 31 (Go.TypeDesc.func #[23] #[30] false) := ⟨Try.runUnderlying31, Try.underlying31⟩
instance : MkI Try.prog 31 := ⟨fun v w => by simp [Instr.makeInterface, Try.runUnderlying31]⟩
instance : AggT Try.prog 31 false 1 := ⟨Try.isAgg31, Try.sizeOf31⟩
instance : BytesT Try.prog 31 8 := ⟨fun w => ⟨_, Try.typeInfo31 w, rfl⟩⟩
instance : ZeroT Try.prog 31 (.nilFunc) := ⟨Try.zeroValue31⟩
instance : ElemT Try.prog 31 1 8 (.nilFunc) := ⟨⟨_, info_of_run (Try.typeInfo31 default), rfl, rfl, rfl⟩⟩
instance : Und Try.prog 32 (Go.TypeDesc.map 3 5) := ⟨Try.runUnderlying32, Try.underlying32⟩
instance : MapT Try.prog 32 3 5 := ⟨Try.runUnderlying32, Try.runUnderlying3⟩
instance : MkI Try.prog 32 := ⟨fun v w => by simp [Instr.makeInterface, Try.runUnderlying32]⟩
instance : AggT Try.prog 32 false 1 := ⟨Try.isAgg32, Try.sizeOf32⟩
instance : BytesT Try.prog 32 8 := ⟨fun w => ⟨_, Try.typeInfo32 w, rfl⟩⟩
instance : ZeroT Try.prog 32 (.map none) := ⟨Try.zeroValue32⟩
instance : ElemT Try.prog 32 1 8 (.map none) := ⟨⟨_, info_of_run (Try.typeInfo32 default), rfl, rfl, rfl⟩⟩
instance : Und Try.prog 33 (Go.TypeDesc.func #[24, 32, 4] #[4] false) := ⟨Try.runUnderlying33, Try.underlying33⟩
instance : MkI Try.prog 33 := ⟨fun v w => by simp [Instr.makeInterface, Try.runUnderlying33]⟩
instance : AggT Try.prog 33 false 1 := ⟨Try.isAgg33, Try.sizeOf33⟩
instance : BytesT Try.prog 33 8 := ⟨fun w => ⟨_, Try.typeInfo33 w, rfl⟩⟩
instance : ZeroT Try.prog 33 (.nilFunc) := ⟨Try.zeroValue33⟩
instance : ElemT Try.prog 33 1 8 (.nilFunc) := ⟨⟨_, info_of_run (Try.typeInfo33 default), rfl, rfl, rfl⟩⟩
instance : Und Try.prog 34 (Go.TypeDesc.pointer 116) := ⟨Try.runUnderlying34, Try.underlying34⟩
instance : MkI Try.prog 34 := ⟨fun v w => by simp [Instr.makeInterface, Try.runUnderlying34]⟩
instance : AggT Try.prog 34 false 1 := ⟨Try.isAgg34, Try.sizeOf34⟩
instance : BytesT Try.prog 34 8 := ⟨fun w => ⟨_, Try.typeInfo34 w, rfl⟩⟩
instance : ZeroT Try.prog 34 (.pointer none) := ⟨Try.zeroValue34⟩
instance : ElemT Try.prog 34 1 8 (.pointer none) := ⟨⟨_, info_of_run (Try.typeInfo34 default), rfl, rfl, rfl⟩⟩
instance : Und Try.prog 35 (Go.TypeDesc.slice 42) := ⟨Try.runUnderlying35, Try.underlying35⟩
instance : MkI Try.prog 35 := ⟨fun v w => by simp [Instr.makeInterface, Try.runUnderlying35]⟩
instance : AggT Try.prog 35 false 1 := ⟨Try.isAgg35, Try.sizeOf35⟩
instance : BytesT Try.prog 35 24 := ⟨fun w => ⟨_, Try.typeInfo35 w, rfl⟩⟩
instance : ZeroT Try.prog 35 (.slice none 0 0) := ⟨Try.zeroValue35⟩
instance : ElemT Try.prog 35 1 24 (.slice none 0 0) := ⟨⟨_, info_of_run (Try.typeInfo35 default), rfl, rfl, rfl⟩⟩
instance : Und Try.prog 36 (Go.TypeDesc.pointer 127) := ⟨Try.runUnderlying36, Try.underlying36⟩
instance : MkI Try.prog 36 := ⟨fun v w => by simp [Instr.makeInterface, Try.runUnderlying36]⟩
instance : AggT Try.prog 36 false 1 := ⟨Try.isAgg36, Try.sizeOf36⟩
instance : BytesT Try.prog 36 8 := ⟨fun w => ⟨_, Try.typeInfo36 w, rfl⟩⟩
instance : ZeroT Try.prog 36 (.pointer none) := ⟨Try.zeroValue36⟩
instance : ElemT Try.prog 36 1 8 (.pointer none) := ⟨⟨_, info_of_run (Try.typeInfo36 default), rfl, rfl, rfl⟩⟩
instance : Und Try.prog 37 (Go.TypeDesc.pointer 112) := ⟨Try.runUnderlying37, Try.underlying37⟩
instance : MkI Try.prog 37 := ⟨fun v w => by simp [Instr.makeInterface, Try.runUnderlying37]⟩
instance : AggT Try.prog 37 false 1 := ⟨Try.isAgg37, Try.sizeOf37⟩
instance : BytesT Try.prog 37 8 := ⟨fun w => ⟨_, Try.typeInfo37 w, rfl⟩⟩
instance : ZeroT Try.prog 37 (.pointer none) := ⟨Try.zeroValue37⟩
instance : ElemT Try.prog 37 1 8 (.pointer none) := ⟨⟨_, info_of_run (Try.typeInfo37 default), rfl, rfl, rfl⟩⟩
instance : MkI Try.prog 38 := ⟨fun v w => by simp [Instr.makeInterface, Try.runUnderlying38]⟩
instance : AggT Try.prog 38 true 10 := ⟨Try.isAgg38, Try.sizeOf38⟩
instance : BytesT Try.prog 38 96 := ⟨fun w => ⟨_, Try.typeInfo38 w, rfl⟩⟩
instance : ZeroT Try.prog 38 (.agg #[.int .i64 0, .int .i64 0, .int .i64 0, .int .i64 0, .int .i64 0, .int .i64 0, .pointer none, .slice none 0 0, .pointer none, .pointer none]) := ⟨Try.zeroValue38⟩
instance : ElemT Try.prog 38 10 96 (.agg #[.int .i64 0, .int .i64 0, .int .i64 0, .int .i64 0, .int .i64 0, .int .i64 0, .pointer none, .slice none 0 0, .pointer none, .pointer none]) := ⟨⟨_, info_of_run (Try.typeInfo38 default), rfl, rfl, rfl⟩⟩
instance : FOff Try.prog 38 0 0 := ⟨fun w a => by simp [Instr.fieldAt, Instr.sureAddr, fieldPlace]⟩
instance : FOff Try.prog 38 1 6 := ⟨fun w a => by simp [Instr.fieldAt, Instr.sureAddr, fieldPlace]⟩
instance : FOff Try.prog 38 2 7 := ⟨fun w a => by simp [Instr.fieldAt, Instr.sureAddr, fieldPlace]⟩
instance : FOff Try.prog 38 3 8 := ⟨fun w a => by simp [Instr.fieldAt, Instr.sureAddr, fieldPlace]⟩
instance : FOff Try.prog 38 4 9 := ⟨fun w a => by simp [Instr.fieldAt, Instr.sureAddr, fieldPlace]⟩
instance : BuildT Try.prog 38 [(0, 6), (6, 1), (7, 1), (8, 1), (9, 1)] [.int .i64 0, .int .i64 0, .int .i64 0, .int .i64 0, .int .i64 0, .int .i64 0, .pointer none, .slice none 0 0, .pointer none, .pointer none] := buildT_of Try.zeroValue38 Try.runUnderlying38 (fun w => by simp)
instance : MkI Try.prog 39 := ⟨fun v w => by simp [Instr.makeInterface, Try.runUnderlying39]⟩
instance : AggT Try.prog 39 true 10 := ⟨Try.isAgg39, Try.sizeOf39⟩
instance : BytesT Try.prog 39 96 := ⟨fun w => ⟨_, Try.typeInfo39 w, rfl⟩⟩
instance : ZeroT Try.prog 39 (.agg #[.int .i64 0, .int .i64 0, .int .i64 0, .int .i64 0, .int .i64 0, .int .i64 0, .pointer none, .slice none 0 0, .pointer none, .pointer none]) := ⟨Try.zeroValue39⟩
instance : ElemT Try.prog 39 10 96 (.agg #[.int .i64 0, .int .i64 0, .int .i64 0, .int .i64 0, .int .i64 0, .int .i64 0, .pointer none, .slice none 0 0, .pointer none, .pointer none]) := ⟨⟨_, info_of_run (Try.typeInfo39 default), rfl, rfl, rfl⟩⟩
instance : FOff Try.prog 39 0 0 := ⟨fun w a => by simp [Instr.fieldAt, Instr.sureAddr, fieldPlace]⟩
instance : FOff Try.prog 39 1 6 := ⟨fun w a => by simp [Instr.fieldAt, Instr.sureAddr, fieldPlace]⟩
instance : FOff Try.prog 39 2 7 := ⟨fun w a => by simp [Instr.fieldAt, Instr.sureAddr, fieldPlace]⟩
instance : FOff Try.prog 39 3 8 := ⟨fun w a => by simp [Instr.fieldAt, Instr.sureAddr, fieldPlace]⟩
instance : FOff Try.prog 39 4 9 := ⟨fun w a => by simp [Instr.fieldAt, Instr.sureAddr, fieldPlace]⟩
instance : BuildT Try.prog 39 [(0, 6), (6, 1), (7, 1), (8, 1), (9, 1)] [.int .i64 0, .int .i64 0, .int .i64 0, .int .i64 0, .int .i64 0, .int .i64 0, .pointer none, .slice none 0 0, .pointer none, .pointer none] := buildT_of Try.zeroValue39 Try.runUnderlying39 (fun w => by simp)
instance : Und Try.prog 40 (Go.TypeDesc.func #[] #[3] false) := ⟨Try.runUnderlying40, Try.underlying40⟩
instance : MkI Try.prog 40 := ⟨fun v w => by simp [Instr.makeInterface, Try.runUnderlying40]⟩
instance : AggT Try.prog 40 false 1 := ⟨Try.isAgg40, Try.sizeOf40⟩
instance : BytesT Try.prog 40 8 := ⟨fun w => ⟨_, Try.typeInfo40 w, rfl⟩⟩
instance : ZeroT Try.prog 40 (.nilFunc) := ⟨Try.zeroValue40⟩
instance : ElemT Try.prog 40 1 8 (.nilFunc) := ⟨⟨_, info_of_run (Try.typeInfo40 default), rfl, rfl, rfl⟩⟩
instance : Und Try.prog 41 (Go.TypeDesc.slice 5) := ⟨Try.runUnderlying41, Try.underlying41⟩
instance : MkI Try.prog 41 := ⟨fun v w => by simp [Instr.makeInterface, Try.runUnderlying41]⟩
instance : AggT Try.prog 41 false 1 := ⟨Try.isAgg41, Try.sizeOf41⟩
instance : BytesT Try.prog 41 24 := ⟨fun w => ⟨_, Try.typeInfo41 w, rfl⟩⟩
instance : ZeroT Try.prog 41 (.slice none 0 0) := ⟨Try.zeroValue41⟩
instance : ElemT Try.prog 41 1 24 (.slice none 0 0) := ⟨⟨_, info_of_run (Try.typeInfo41 default), rfl, rfl, rfl⟩⟩
instance : Und Try.prog 42 (Go.TypeDesc.pointer 110) := ⟨Try.runUnderlying42, Try.underlying42⟩
instance : MkI Try.prog 42 := ⟨fun v w => by simp [Instr.makeInterface, Try.runUnderlying42]⟩
instance : AggT Try.prog 42 false 1 := ⟨Try.isAgg42, Try.sizeOf42⟩
instance : BytesT Try.prog 42 8 := ⟨fun w => ⟨_, Try.typeInfo42 w, rfl⟩⟩
instance : ZeroT Try.prog 42 (.pointer none) := ⟨Try.zeroValue42⟩
instance : ElemT Try.prog 42 1 8 (.pointer none) := ⟨⟨_, info_of_run (Try.typeInfo42 default), rfl, rfl, rfl⟩⟩
instance : Und Try.prog 43 (Go.TypeDesc.int (Go.IntKind.i64)) := ⟨Try.runUnderlying43, Try.underlying43⟩
instance : MkI Try.prog 43 := ⟨fun v w => by simp [Instr.makeInterface, Try.runUnderlying43]⟩
instance : AggT Try.prog 43 false 1 := ⟨Try.isAgg43, Try.sizeOf43⟩
instance : BytesT Try.prog 43 8 := ⟨fun w => ⟨_, Try.typeInfo43 w, rfl⟩⟩
instance : ZeroT Try.prog 43 (.int .i64 0) := ⟨Try.zeroValue43⟩
instance : ElemT Try.prog 43 1 8 (.int .i64 0) := ⟨⟨_, info_of_run (Try.typeInfo43 default), rfl, rfl, rfl⟩⟩
instance : Und Try.prog 44 (Go.TypeDesc.tuple #[41, 43]) := ⟨Try.runUnderlying44, Try.underlying44⟩
instance : AggT Try.prog 44 false 1 := ⟨Try.isAgg44, Try.sizeOf44⟩
instance : BytesT Try.prog 44 0 := ⟨fun w => ⟨_, Try.typeInfo44 w, rfl⟩⟩
instance : Und Try.prog 45 (Go.TypeDesc.func #[3] #[41, 43] false) := ⟨Try.runUnderlying45, Try.underlying45⟩
instance : MkI Try.prog 45 := ⟨fun v w => by simp [Instr.makeInterface, Try.runUnderlying45]⟩
instance : AggT Try.prog 45 false 1 := ⟨Try.isAgg45, Try.sizeOf45⟩
instance : BytesT Try.prog 45 8 := ⟨fun w => ⟨_, Try.typeInfo45 w, rfl⟩⟩
instance : ZeroT Try.prog 45 (.nilFunc) := ⟨Try.zeroValue45⟩
instance : ElemT Try.prog 45 1 8 (.nilFunc) := ⟨⟨_, info_of_run (Try.typeInfo45 default), rfl, rfl, rfl⟩⟩
instance : Und Try.prog 46 (Go.TypeDesc.func #[3] #[3] false) := ⟨Try.runUnderlying46, Try.underlying46⟩
instance : MkI Try.prog 46 := ⟨fun v w => by simp [Instr.makeInterface, Try.runUnderlying46]⟩
instance : AggT Try.prog 46 false 1 := ⟨Try.isAgg46, Try.sizeOf46⟩
instance : BytesT Try.prog 46 8 := ⟨fun w => ⟨_, Try.typeInfo46 w, rfl⟩⟩
instance : ZeroT Try.prog 46 (.nilFunc) := ⟨Try.zeroValue46⟩
instance : ElemT Try.prog 46 1 8 (.nilFunc) := ⟨⟨_, info_of_run (Try.typeInfo46 default), rfl, rfl, rfl⟩⟩
instance : Und Try.prog 47 (Go.TypeDesc.func #[41, 41] #[4] false) := ⟨Try.runUnderlying47, Try.underlying47⟩
instance : MkI Try.prog 47 := ⟨fun v w => by simp [Instr.makeInterface, Try.runUnderlying47]⟩
instance : AggT Try.prog 47 false 1 := ⟨Try.isAgg47, Try.sizeOf47⟩
instance : BytesT Try.prog 47 8 := ⟨fun w => ⟨_, Try.typeInfo47 w, rfl⟩⟩
instance : ZeroT Try.prog 47 (.nilFunc) := ⟨Try.zeroValue47⟩
instance : ElemT Try.prog 47 1 8 (.nilFunc) := ⟨⟨_, info_of_run (Try.typeInfo47 default), rfl, rfl, rfl⟩⟩
instance : Und Try.prog 48 (Go.TypeDesc.slice 41) := ⟨Try.runUnderlying48, Try.underlying48⟩
instance : MkI Try.prog 48 := ⟨fun v w => by simp [Instr.makeInterface, Try.runUnderlying48]⟩
instance : AggT Try.prog 48 false 1 := ⟨Try.isAgg48, Try.sizeOf48⟩
instance : BytesT Try.prog 48 24 := ⟨fun w => ⟨_, Try.typeInfo48 w, rfl⟩⟩
instance : ZeroT Try.prog 48 (.slice none 0 0) := ⟨Try.zeroValue48⟩
instance : ElemT Try.prog 48 1 24 (.slice none 0 0) := ⟨⟨_, info_of_run (Try.typeInfo48 default), rfl, rfl, rfl⟩⟩
instance : Und Try.prog 49 (Go.TypeDesc.func #[30, 5] #[48] false) := ⟨Try.runUnderlying49, Try.underlying49⟩
instance : MkI Try.prog 49 := ⟨fun v w => by simp [Instr.makeInterface, Try.runUnderlying49]⟩
instance : AggT Try.prog 49 false 1 := ⟨Try.isAgg49, Try.sizeOf49⟩
instance : BytesT Try.prog 49 8 := ⟨fun w => ⟨_, Try.typeInfo49 w, rfl⟩⟩
instance : ZeroT Try.prog 49 (.nilFunc) := ⟨Try.zeroValue49⟩
instance : ElemT Try.prog 49 1 8 (.nilFunc) := ⟨⟨_, info_of_run (Try.typeInfo49 default), rfl, rfl, rfl⟩⟩
instance : Und Try.prog 50 (Go.TypeDesc.func #[3, 3] #[3] false) := ⟨Try.runUnderlying50, Try.underlying50⟩
instance : MkI Try.prog 50 := ⟨fun v w => by simp [Instr.makeInterface, Try.runUnderlying50]⟩
instance : AggT Try.prog 50 false 1 := ⟨Try.isAgg50, Try.sizeOf50⟩
instance : BytesT Try.prog 50 8 := ⟨fun w => ⟨_, Try.typeInfo50 w, rfl⟩⟩
instance : ZeroT Try.prog 50 (.nilFunc) := ⟨Try.zeroValue50⟩
instance : ElemT Try.prog 50 1 8 (.nilFunc) := ⟨⟨_, info_of_run (Try.typeInfo50 default), rfl, rfl, rfl⟩⟩
instance : Und Try.prog 51 (Go.TypeDesc.tuple #[5, 4]) := ⟨Try.runUnderlying51, Try.underlying51⟩
instance : AggT Try.prog 51 false 1 := ⟨Try.isAgg51, Try.sizeOf51⟩
instance : BytesT Try.prog 51 0 := ⟨fun w => ⟨_, Try.typeInfo51 w, rfl⟩⟩
instance : Und Try.prog 52 (Go.TypeDesc.func #[23, 24] #[4] false) := ⟨Try.runUnderlying52, Try.underlying52⟩
instance : MkI Try.prog 52 := ⟨fun v w => by simp [Instr.makeInterface, Try.runUnderlying52]⟩
instance : AggT Try.prog 52 false 1 := ⟨Try.isAgg52, Try.sizeOf52⟩
instance : BytesT Try.prog 52 8 := ⟨fun w => ⟨_, Try.typeInfo52 w, rfl⟩⟩
instance : ZeroT Try.prog 52 (.nilFunc) := ⟨Try.zeroValue52⟩
instance : ElemT Try.prog 52 1 8 (.nilFunc) := ⟨⟨_, info_of_run (Try.typeInfo52 default), rfl, rfl, rfl⟩⟩
instance : Und Try.prog 53 (Go.TypeDesc.func #[3, 48] #[43] false) := ⟨Try.runUnderlying53, Try.underlying53⟩
instance : MkI Try.prog 53 := ⟨fun v w => by simp [Instr.makeInterface, Try.runUnderlying53]⟩
instance : AggT Try.prog 53 false 1 := ⟨Try.isAgg53, Try.sizeOf53⟩
instance : BytesT Try.prog 53 8 := ⟨fun w => ⟨_, Try.typeInfo53 w, rfl⟩⟩
instance : ZeroT Try.prog 53 (.nilFunc) := ⟨Try.zeroValue53⟩
instance : ElemT Try.prog 53 1 8 (.nilFunc) := ⟨⟨_, info_of_run (Try.typeInfo53 default), rfl, rfl, rfl⟩⟩
instance : Und Try.prog 54 (Go.TypeDesc.func #[32, 4] #[4] false) := ⟨Try.runUnderlying54, Try.underlying54⟩
instance : MkI Try.prog 54 := ⟨fun v w => by simp [Instr.makeInterface, Try.runUnderlying54]⟩
instance : AggT Try.prog 54 false 1 := ⟨Try.isAgg54, Try.sizeOf54⟩
instance : BytesT Try.prog 54 8 := ⟨fun w => ⟨_, Try.typeInfo54 w, rfl⟩⟩
instance : ZeroT Try.prog 54 (.nilFunc) := ⟨Try.zeroValue54⟩
instance : ElemT Try.prog 54 1 8 (.nilFunc) := ⟨⟨_, info_of_run (Try.typeInfo54 default), rfl, rfl, rfl⟩⟩
instance : Und Try.prog 55 (Go.TypeDesc.func #[23, 24, 5] #[4] false) := ⟨Try.runUnderlying55, Try.underlying55⟩
instance : MkI Try.prog 55 := ⟨fun v w => by simp [Instr.makeInterface, Try.runUnderlying55]⟩
instance : AggT Try.prog 55 false 1 := ⟨Try.isAgg55, Try.sizeOf55⟩
instance : BytesT Try.prog 55 8 := ⟨fun w => ⟨_, Try.typeInfo55 w, rfl⟩⟩
instance : ZeroT Try.prog 55 (.nilFunc) := ⟨Try.zeroValue55⟩
instance : ElemT Try.prog 55 1 8 (.nilFunc) := ⟨⟨_, info_of_run (Try.typeInfo55 default), rfl, rfl, rfl⟩⟩
instance : Und Try.prog 56 (Go.TypeDesc.func #[3] #[] false) := ⟨Try.runUnderlying56, Try.underlying56⟩
instance : MkI Try.prog 56 := ⟨fun v w => by simp [Instr.makeInterface, Try.runUnderlying56]⟩
instance : AggT Try.prog 56 false 1 := ⟨Try.isAgg56, Try.sizeOf56⟩
instance : BytesT Try.prog 56 8 := ⟨fun w => ⟨_, Try.typeInfo56 w, rfl⟩⟩
instance : ZeroT Try.prog 56 (.nilFunc) := ⟨Try.zeroValue56⟩
instance : ElemT Try.prog 56 1 8 (.nilFunc) := ⟨⟨_, info_of_run (Try.typeInfo56 default), rfl, rfl, rfl⟩⟩
instance : Und Try.prog 57 (Go.TypeDesc.func #[23, 24, 24, 5, 5] #[4] false) := ⟨Try.runUnderlying57, Try.underlying57⟩
instance : MkI Try.prog 57 := ⟨fun v w => by simp [Instr.makeInterface, Try.runUnderlying57]⟩
instance : AggT Try.prog 57 false 1 := ⟨Try.isAgg57, Try.sizeOf57⟩
instance : BytesT Try.prog 57 8 := ⟨fun w => ⟨_, Try.typeInfo57 w, rfl⟩⟩
instance : ZeroT Try.prog 57 (.nilFunc) := ⟨Try.zeroValue57⟩
instance : ElemT Try.prog 57 1 8 (.nilFunc) := ⟨⟨_, info_of_run (Try.typeInfo57 default), rfl, rfl, rfl⟩⟩
instance : Und Try.prog 58 (Go.TypeDesc.func #[3, 41] #[43] false) := ⟨Try.runUnderlying58, Try.underlying58⟩
instance : MkI Try.prog 58 := ⟨fun v w => by simp [Instr.makeInterface, Try.runUnderlying58]⟩
instance : AggT Try.prog 58 false 1 := ⟨Try.isAgg58, Try.sizeOf58⟩
instance : BytesT Try.prog 58 8 := ⟨fun w => ⟨_, Try.typeInfo58 w, rfl⟩⟩
instance : ZeroT Try.prog 58 (.nilFunc) := ⟨Try.zeroValue58⟩
instance : ElemT Try.prog 58 1 8 (.nilFunc) := ⟨⟨_, info_of_run (Try.typeInfo58 default), rfl, rfl, rfl⟩⟩
instance : Und Try.prog 59 (Go.TypeDesc.func #[30, 5] #[41] false) := ⟨Try.runUnderlying59, Try.underlying59⟩
instance : MkI Try.prog 59 := ⟨fun v w => by simp [Instr.makeInterface, Try.runUnderlying59]⟩
instance : AggT Try.prog 59 false 1 := ⟨Try.isAgg59, Try.sizeOf59⟩
instance : BytesT Try.prog 59 8 := ⟨fun w => ⟨_, Try.typeInfo59 w, rfl⟩⟩
instance : ZeroT Try.prog 59 (.nilFunc) := ⟨Try.zeroValue59⟩
instance : ElemT Try.prog 59 1 8 (.nilFunc) := ⟨⟨_, info_of_run (Try.typeInfo59 default), rfl, rfl, rfl⟩⟩
instance : Und Try.prog 60 (Go.TypeDesc.func #[23, 5, 5, 5] #[4] false) := ⟨Try.runUnderlying60, Try.underlying60⟩
instance : MkI Try.prog 60 := ⟨fun v w => by simp [Instr.makeInterface, Try.runUnderlying60]⟩
instance : AggT Try.prog 60 false 1 := ⟨Try.isAgg60, Try.sizeOf60⟩
instance : BytesT Try.prog 60 8 := ⟨fun w => ⟨_, Try.typeInfo60 w, rfl⟩⟩
instance : ZeroT Try.prog 60 (.nilFunc) := ⟨Try.zeroValue60⟩
instance : ElemT Try.prog 60 1 8 (.nilFunc) := ⟨⟨_, info_of_run (Try.typeInfo60 default), rfl, rfl, rfl⟩⟩
instance : Und Try.prog 61 (Go.TypeDesc.func #[3] #[43] false) := ⟨Try.runUnderlying61, Try.underlying61⟩
instance : MkI Try.prog 61 := ⟨fun v w => by simp [Instr.makeInterface, Try.runUnderlying61]⟩
instance : AggT Try.prog 61 false 1 := ⟨Try.isAgg61, Try.sizeOf61⟩
instance : BytesT Try.prog 61 8 := ⟨fun w => ⟨_, Try.typeInfo61 w, rfl⟩⟩
instance : ZeroT Try.prog 61 (.nilFunc) := ⟨Try.zeroValue61⟩
instance : ElemT Try.prog 61 1 8 (.nilFunc) := ⟨⟨_, info_of_run (Try.typeInfo61 default), rfl, rfl, rfl⟩⟩
instance : Und Try.prog 62 (Go.TypeDesc.func #[41] #[43] false) := ⟨Try.runUnderlying62, Try.underlying62⟩
instance : MkI Try.prog 62 := ⟨fun v w => by simp [Instr.makeInterface, Try.runUnderlying62]⟩
instance : AggT Try.prog 62 false 1 := ⟨Try.isAgg62, Try.sizeOf62⟩
instance : BytesT Try.prog 62 8 := ⟨fun w => ⟨_, Try.typeInfo62 w, rfl⟩⟩
instance : ZeroT Try.prog 62 (.nilFunc) := ⟨Try.zeroValue62⟩
instance : ElemT Try.prog 62 1 8 (.nilFunc) := ⟨⟨_, info_of_run (Try.typeInfo62 default), rfl, rfl, rfl⟩⟩
instance : Und Try.prog 63 (Go.TypeDesc.int (Go.IntKind.i8)) := ⟨Try.runUnderlying63, Try.underlying63⟩
instance : MkI Try.prog 63 := ⟨fun v w => by simp [Instr.makeInterface, Try.runUnderlying63]⟩
instance : AggT Try.prog 63 false 1 := ⟨Try.isAgg63, Try.sizeOf63⟩
instance : BytesT Try.prog 63 1 := ⟨fun w => ⟨_, Try.typeInfo63 w, rfl⟩⟩
instance : ZeroT Try.prog 63 (.int .i8 0) := ⟨Try.zeroValue63⟩
instance : ElemT Try.prog 63 1 1 (.int .i8 0) := ⟨⟨_, info_of_run (Try.typeInfo63 default), rfl, rfl, rfl⟩⟩
instance : Und Try.prog 64 (Go.TypeDesc.func #[3, 3] #[41, 43] false) := ⟨Try.runUnderlying64, Try.underlying64⟩
instance : MkI Try.prog 64 := ⟨fun v w => by simp [Instr.makeInterface, Try.runUnderlying64]⟩
instance : AggT Try.prog 64 false 1 := ⟨Try.isAgg64, Try.sizeOf64⟩
instance : BytesT Try.prog 64 8 := ⟨fun w => ⟨_, Try.typeInfo64 w, rfl⟩⟩
instance : ZeroT Try.prog 64 (.nilFunc) := ⟨Try.zeroValue64⟩
instance : ElemT Try.prog 64 1 8 (.nilFunc) := ⟨⟨_, info_of_run (Try.typeInfo64 default), rfl, rfl, rfl⟩⟩
instance : Und Try.prog 65 (Go.TypeDesc.slice 120) := ⟨Try.runUnderlying65, Try.underlying65⟩
instance : MkI Try.prog 65 := ⟨fun v w => by simp [Instr.makeInterface, Try.runUnderlying65]⟩
instance : AggT Try.prog 65 false 1 := ⟨Try.isAgg65, Try.sizeOf65⟩
instance : BytesT Try.prog 65 24 := ⟨fun w => ⟨_, Try.typeInfo65 w, rfl⟩⟩
instance : ZeroT Try.prog 65 (.slice none 0 0) := ⟨Try.zeroValue65⟩
instance : ElemT Try.prog 65 1 24 (.slice none 0 0) := ⟨⟨_, info_of_run (Try.typeInfo65 default), rfl, rfl, rfl⟩⟩
instance : MkI Try.prog 66 := ⟨fun v w => by simp [Instr.makeInterface, Try.runUnderlying66]⟩
instance : AggT Try.prog 66 true 1 := ⟨Try.isAgg66, Try.sizeOf66⟩
instance : BytesT Try.prog 66 8 := ⟨fun w => ⟨_, Try.typeInfo66 w, rfl⟩⟩
instance : ZeroT Try.prog 66 (.agg #[.pointer none]) := ⟨Try.zeroValue66⟩
instance : ElemT Try.prog 66 1 8 (.agg #[.pointer none]) := ⟨⟨_, info_of_run (Try.typeInfo66 default), rfl, rfl, rfl⟩⟩
instance : FOff Try.prog 66 0 0 := ⟨fun w a => by simp [Instr.fieldAt, Instr.sureAddr, fieldPlace]⟩
instance : BuildT Try.prog 66 [(0, 1)] [.pointer none] := buildT_of Try.zeroValue66 Try.runUnderlying66 (fun w => by simp)
instance : MkI Try.prog 67 := ⟨fun v w => by simp [Instr.makeInterface, Try.runUnderlying67]⟩
instance : AggT Try.prog 67 true 1 := ⟨Try.isAgg67, Try.sizeOf67⟩
instance : BytesT Try.prog 67 8 := ⟨fun w => ⟨_, Try.typeInfo67 w, rfl⟩⟩
instance : ZeroT Try.prog 67 (.agg #[.pointer none]) := ⟨Try.zeroValue67⟩
instance : ElemT Try.prog 67 1 8 (.agg #[.pointer none]) := ⟨⟨_, info_of_run (Try.typeInfo67 default), rfl, rfl, rfl⟩⟩
instance : FOff Try.prog 67 0 0 := ⟨fun w a => by simp [Instr.fieldAt, Instr.sureAddr, fieldPlace]⟩
instance : BuildT Try.prog 67 [(0, 1)] [.pointer none] := buildT_of Try.zeroValue67 Try.runUnderlying67 (fun w => by simp)
instance : Und Try.prog 68 (Go.TypeDesc.func #[71] #[] false) := ⟨Try.runUnderlying68, Try.underlying68⟩
instance : MkI Try.prog 68 := ⟨fun v w => by simp [Instr.makeInterface, Try.runUnderlying68]⟩
instance : AggT Try.prog 68 false 1 := ⟨Try.isAgg68, Try.sizeOf68⟩
instance : BytesT Try.prog 68 8 := ⟨fun w => ⟨_, Try.typeInfo68 w, rfl⟩⟩
instance : ZeroT Try.prog 68 (.nilFunc) := ⟨Try.zeroValue68⟩
instance : ElemT Try.prog 68 1 8 (.nilFunc) := ⟨⟨_, info_of_run (Try.typeInfo68 default), rfl, rfl, rfl⟩⟩
instance : Und Try.prog 69 (Go.TypeDesc.int (Go.IntKind.u64)) := ⟨Try.runUnderlying69, Try.underlying69⟩
instance : MkI Try.prog 69 := ⟨fun v w => by simp [Instr.makeInterface, Try.runUnderlying69]⟩
instance : AggT Try.prog 69 false 1 := ⟨Try.isAgg69, Try.sizeOf69⟩
instance : BytesT Try.prog 69 8 := ⟨fun w => ⟨_, Try.typeInfo69 w, rfl⟩⟩
instance : ZeroT Try.prog 69 (.int .u64 0) := ⟨Try.zeroValue69⟩
instance : ElemT Try.prog 69 1 8 (.int .u64 0) := ⟨⟨_, info_of_run (Try.typeInfo69 default), rfl, rfl, rfl⟩⟩
instance : MkI Try.prog 70 := ⟨fun v w => by simp [Instr.makeInterface, Try.runUnderlying70]⟩
instance : AggT Try.prog 70 true 9 := ⟨Try.isAgg70, Try.sizeOf70⟩
instance : BytesT Try.prog 70 72 := ⟨fun w => ⟨_, Try.typeInfo70 w, rfl⟩⟩
instance : ZeroT Try.prog 70 (.agg #[.int .i64 0, .int .i64 0, .int .i64 0, .int .i64 0, .int .i64 0, .int .i64 0, .int .u64 0, .int .u64 0, .int .i64 0]) := ⟨Try.zeroValue70⟩
instance : ElemT Try.prog 70 9 72 (.agg #[.int .i64 0, .int .i64 0, .int .i64 0, .int .i64 0, .int .i64 0, .int .i64 0, .int .u64 0, .int .u64 0, .int .i64 0]) := ⟨⟨_, info_of_run (Try.typeInfo70 default), rfl, rfl, rfl⟩⟩
instance : FOff Try.prog 70 0 0 := ⟨fun w a => by simp [Instr.fieldAt, Instr.sureAddr, fieldPlace]⟩
instance : FOff Try.prog 70 1 6 := ⟨fun w a => by simp [Instr.fieldAt, Instr.sureAddr, fieldPlace]⟩
instance : FOff Try.prog 70 2 7 := ⟨fun w a => by simp [Instr.fieldAt, Instr.sureAddr, fieldPlace]⟩
instance : FOff Try.prog 70 3 8 := ⟨fun w a => by simp [Instr.fieldAt, Instr.sureAddr, fieldPlace]⟩
instance : BuildT Try.prog 70 [(0, 6), (6, 1), (7, 1), (8, 1)] [.int .i64 0, .int .i64 0, .int .i64 0, .int .i64 0, .int .i64 0, .int .i64 0, .int .u64 0, .int .u64 0, .int .i64 0] := buildT_of Try.zeroValue70 Try.runUnderlying70 (fun w => by simp)
instance : MkI Try.prog 71 := ⟨fun v w => by simp [Instr.makeInterface, Try.runUnderlying71]⟩
instance : AggT Try.prog 71 true 9 := ⟨Try.isAgg71, Try.sizeOf71⟩
instance : BytesT Try.prog 71 72 := ⟨fun w => ⟨_, Try.typeInfo71 w, rfl⟩⟩
instance : ZeroT Try.prog 71 (.agg #[.int .i64 0, .int .i64 0, .int .i64 0, .int .i64 0, .int .i64 0, .int .i64 0, .int .u64 0, .int .u64 0, .int .i64 0]) := ⟨Try.zeroValue71⟩
instance : ElemT Try.prog 71 9 72 (.agg #[.int .i64 0, .int .i64 0, .int .i64 0, .int .i64 0, .int .i64 0, .int .i64 0, .int .u64 0, .int .u64 0, .int .i64 0]) := ⟨⟨_, info_of_run (Try.typeInfo71 default), rfl, rfl, rfl⟩⟩
instance : FOff Try.prog 71 0 0 := ⟨fun w a => by simp [Instr.fieldAt, Instr.sureAddr, fieldPlace]⟩
instance : FOff Try.prog 71 1 6 := ⟨fun w a => by simp [Instr.fieldAt, Instr.sureAddr, fieldPlace]⟩
instance : FOff Try.prog 71 2 7 := ⟨fun w a => by simp [Instr.fieldAt, Instr.sureAddr, fieldPlace]⟩
instance : FOff Try.prog 71 3 8 := ⟨fun w a => by simp [Instr.fieldAt, Instr.sureAddr, fieldPlace]⟩
instance : BuildT Try.prog 71 [(0, 6), (6, 1), (7, 1), (8, 1)] [.int .i64 0, .int .i64 0, .int .i64 0, .int .i64 0, .int .i64 0, .int .i64 0, .int .u64 0, .int .u64 0, .int .i64 0] := buildT_of Try.zeroValue71 Try.runUnderlying71 (fun w => by simp)
instance : Und Try.prog 72 (Go.TypeDesc.tuple #[37, 43]) := ⟨Try.runUnderlying72, Try.underlying72⟩
instance : AggT Try.prog 72 false 1 := ⟨Try.isAgg72, Try.sizeOf72⟩
instance : BytesT Try.prog 72 0 := ⟨fun w => ⟨_, Try.typeInfo72 w, rfl⟩⟩
instance : Und Try.prog 73 (Go.TypeDesc.func #[65, 36] #[37, 43] false) := ⟨Try.runUnderlying73, Try.underlying73⟩
instance : MkI Try.prog 73 := ⟨fun v w => by simp [Instr.makeInterface, Try.runUnderlying73]⟩
instance : AggT Try.prog 73 false 1 := ⟨Try.isAgg73, Try.sizeOf73⟩
instance : BytesT Try.prog 73 8 := ⟨fun w => ⟨_, Try.typeInfo73 w, rfl⟩⟩
instance : ZeroT Try.prog 73 (.nilFunc) := ⟨Try.zeroValue73⟩
instance : ElemT Try.prog 73 1 8 (.nilFunc) := ⟨⟨_, info_of_run (Try.typeInfo73 default), rfl, rfl, rfl⟩⟩
instance : Und Try.prog 74 (Go.TypeDesc.func #[23, 3, 3, 3, 3, 63, 5] #[4] false) := ⟨Try.runUnderlying74, Try.underlying74⟩
instance : MkI Try.prog 74 := ⟨fun v w => by simp [Instr.makeInterface, Try.runUnderlying74]⟩
instance : AggT Try.prog 74 false 1 := ⟨Try.isAgg74, Try.sizeOf74⟩
instance : BytesT Try.prog 74 8 := ⟨fun w => ⟨_, Try.typeInfo74 w, rfl⟩⟩
instance : ZeroT Try.prog 74 (.nilFunc) := ⟨Try.zeroValue74⟩
instance : ElemT Try.prog 74 1 8 (.nilFunc) := ⟨⟨_, info_of_run (Try.typeInfo74 default), rfl, rfl, rfl⟩⟩
instance : Und Try.prog 75 (Go.TypeDesc.array 2 5) := ⟨Try.runUnderlying75, Try.underlying75⟩
instance : MkI Try.prog 75 := ⟨fun v w => by simp [Instr.makeInterface, Try.runUnderlying75]⟩
instance : AggT Try.prog 75 true 2 := ⟨Try.isAgg75, Try.sizeOf75⟩
instance : BytesT Try.prog 75 2 := ⟨fun w => ⟨_, Try.typeInfo75 w, rfl⟩⟩
instance : ZeroT Try.prog 75 (.agg #[.int .u8 0, .int .u8 0]) := ⟨Try.zeroValue75⟩
instance : ElemT Try.prog 75 2 2 (.agg #[.int .u8 0, .int .u8 0]) := ⟨⟨_, info_of_run (Try.typeInfo75 default), rfl, rfl, rfl⟩⟩
instance : Und Try.prog 76 (Go.TypeDesc.func #[] #[43] false) := ⟨Try.runUnderlying76, Try.underlying76⟩
instance : MkI Try.prog 76 := ⟨fun v w => by simp [Instr.makeInterface, Try.runUnderlying76]⟩
instance : AggT Try.prog 76 false 1 := ⟨Try.isAgg76, Try.sizeOf76⟩
instance : BytesT Try.prog 76 8 := ⟨fun w => ⟨_, Try.typeInfo76 w, rfl⟩⟩
instance : ZeroT Try.prog 76 (.nilFunc) := ⟨Try.zeroValue76⟩
instance : ElemT Try.prog 76 1 8 (.nilFunc) := ⟨⟨_, info_of_run (Try.typeInfo76 default), rfl, rfl, rfl⟩⟩
instance : Und Try.prog 77 (Go.TypeDesc.func #[23, 24, 24, 75, 75] #[4] false) := ⟨Try.runUnderlying77, Try.underlying77⟩
instance : MkI Try.prog 77 := ⟨fun v w => by simp [Instr.makeInterface, Try.runUnderlying77]⟩
instance : AggT Try.prog 77 false 1 := ⟨Try.isAgg77, Try.sizeOf77⟩
instance : BytesT Try.prog 77 8 := ⟨fun w => ⟨_, Try.typeInfo77 w, rfl⟩⟩
instance : ZeroT Try.prog 77 (.nilFunc) := ⟨Try.zeroValue77⟩
instance : ElemT Try.prog 77 1 8 (.nilFunc) := ⟨⟨_, info_of_run (Try.typeInfo77 default), rfl, rfl, rfl⟩⟩
instance : Und Try.prog 78 (Go.TypeDesc.func #[34, 3, 3] #[42] false) := ⟨Try.runUnderlying78, Try.underlying78⟩
instance : MkI Try.prog 78 := ⟨fun v w => by simp [Instr.makeInterface, Try.runUnderlying78]⟩
instance : AggT Try.prog 78 false 1 := ⟨Try.isAgg78, Try.sizeOf78⟩
instance : BytesT Try.prog 78 8 := ⟨fun w => ⟨_, Try.typeInfo78 w, rfl⟩⟩
instance : ZeroT Try.prog 78 (.nilFunc) := ⟨Try.zeroValue78⟩
instance : ElemT Try.prog 78 1 8 (.nilFunc) := ⟨⟨_, info_of_run (Try.typeInfo78 default), rfl, rfl, rfl⟩⟩
instance : Und Try.prog 79 (Go.TypeDesc.func #[3] #[34] false) := ⟨Try.runUnderlying79, Try.underlying79⟩
instance : MkI Try.prog 79 := ⟨fun v w => by simp [Instr.makeInterface, Try.runUnderlying79]⟩
instance : AggT Try.prog 79 false 1 := ⟨Try.isAgg79, Try.sizeOf79⟩
instance : BytesT Try.prog 79 8 := ⟨fun w => ⟨_, Try.typeInfo79 w, rfl⟩⟩
instance : ZeroT Try.prog 79 (.nilFunc) := ⟨Try.zeroValue79⟩
instance : ElemT Try.prog 79 1 8 (.nilFunc) := ⟨⟨_, info_of_run (Try.typeInfo79 default), rfl, rfl, rfl⟩⟩
instance : Und Try.prog 80 (Go.TypeDesc.func #[63, 63, 3] #[4] false) := ⟨Try.runUnderlying80, Try.underlying80⟩
instance : MkI Try.prog 80 := ⟨fun v w => by simp [Instr.makeInterface, Try.runUnderlying80]⟩
instance : AggT Try.prog 80 false 1 := ⟨Try.isAgg80, Try.sizeOf80⟩
instance : BytesT Try.prog 80 8 := ⟨fun w => ⟨_, Try.typeInfo80 w, rfl⟩⟩
instance : ZeroT Try.prog 80 (.nilFunc) := ⟨Try.zeroValue80⟩
instance : ElemT Try.prog 80 1 8 (.nilFunc) := ⟨⟨_, info_of_run (Try.typeInfo80 default), rfl, rfl, rfl⟩⟩
instance : Und Try.prog 81 (Go.TypeDesc.func #[69] #[] false) := ⟨Try.runUnderlying81, Try.underlying81⟩
instance : MkI Try.prog 81 := ⟨fun v w => by simp [Instr.makeInterface, Try.runUnderlying81]⟩
instance : AggT Try.prog 81 false 1 := ⟨Try.isAgg81, Try.sizeOf81⟩
instance : BytesT Try.prog 81 8 := ⟨fun w => ⟨_, Try.typeInfo81 w, rfl⟩⟩
instance : ZeroT Try.prog 81 (.nilFunc) := ⟨Try.zeroValue81⟩
instance : ElemT Try.prog 81 1 8 (.nilFunc) := ⟨⟨_, info_of_run (Try.typeInfo81 default), rfl, rfl, rfl⟩⟩
instance : Und Try.prog 82 (Go.TypeDesc.slice 3) := ⟨Try.runUnderlying82, Try.underlying82⟩
instance : MkI Try.prog 82 := ⟨fun v w => by simp [Instr.makeInterface, Try.runUnderlying82]⟩
instance : AggT Try.prog 82 false 1 := ⟨Try.isAgg82, Try.sizeOf82⟩
instance : BytesT Try.prog 82 24 := ⟨fun w => ⟨_, Try.typeInfo82 w, rfl⟩⟩
instance : ZeroT Try.prog 82 (.slice none 0 0) := ⟨Try.zeroValue82⟩
instance : ElemT Try.prog 82 1 24 (.slice none 0 0) := ⟨⟨_, info_of_run (Try.typeInfo82 default), rfl, rfl, rfl⟩⟩
instance : Und Try.prog 83 (Go.TypeDesc.func #[] #[82] false) := ⟨Try.runUnderlying83, Try.underlying83⟩
instance : MkI Try.prog 83 := ⟨fun v w => by simp [Instr.makeInterface, Try.runUnderlying83]⟩
instance : AggT Try.prog 83 false 1 := ⟨Try.isAgg83, Try.sizeOf83⟩
instance : BytesT Try.prog 83 8 := ⟨fun w => ⟨_, Try.typeInfo83 w, rfl⟩⟩
instance : ZeroT Try.prog 83 (.nilFunc) := ⟨Try.zeroValue83⟩
instance : ElemT Try.prog 83 1 8 (.nilFunc) := ⟨⟨_, info_of_run (Try.typeInfo83 default), rfl, rfl, rfl⟩⟩
instance : Und Try.prog 84 (Go.TypeDesc.func #[41, 41, 69] #[4] false) := ⟨Try.runUnderlying84, Try.underlying84⟩
instance : MkI Try.prog 84 := ⟨fun v w => by simp [Instr.makeInterface, Try.runUnderlying84]⟩
instance : AggT Try.prog 84 false 1 := ⟨Try.isAgg84, Try.sizeOf84⟩
instance : BytesT Try.prog 84 8 := ⟨fun w => ⟨_, Try.typeInfo84 w, rfl⟩⟩
instance : ZeroT Try.prog 84 (.nilFunc) := ⟨Try.zeroValue84⟩
instance : ElemT Try.prog 84 1 8 (.nilFunc) := ⟨⟨_, info_of_run (Try.typeInfo84 default), rfl, rfl, rfl⟩⟩
instance : Und Try.prog 85 (Go.TypeDesc.func #[41] #[41] false) := ⟨Try.runUnderlying85, Try.underlying85⟩
instance : MkI Try.prog 85 := ⟨fun v w => by simp [Instr.makeInterface, Try.runUnderlying85]⟩
instance : AggT Try.prog 85 false 1 := ⟨Try.isAgg85, Try.sizeOf85⟩
instance : BytesT Try.prog 85 8 := ⟨fun w => ⟨_, Try.typeInfo85 w, rfl⟩⟩
instance : ZeroT Try.prog 85 (.nilFunc) := ⟨Try.zeroValue85⟩
instance : ElemT Try.prog 85 1 8 (.nilFunc) := ⟨⟨_, info_of_run (Try.typeInfo85 default), rfl, rfl, rfl⟩⟩
instance : Und Try.prog 86 (Go.TypeDesc.func #[41, 5, 4] #[4] false) := ⟨Try.runUnderlying86, Try.underlying86⟩
instance : MkI Try.prog 86 := ⟨fun v w => by simp [Instr.makeInterface, Try.runUnderlying86]⟩
instance : AggT Try.prog 86 false 1 := ⟨Try.isAgg86, Try.sizeOf86⟩
instance : BytesT Try.prog 86 8 := ⟨fun w => ⟨_, Try.typeInfo86 w, rfl⟩⟩
instance : ZeroT Try.prog 86 (.nilFunc) := ⟨Try.zeroValue86⟩
instance : ElemT Try.prog 86 1 8 (.nilFunc) := ⟨⟨_, info_of_run (Try.typeInfo86 default), rfl, rfl, rfl⟩⟩
instance : Und Try.prog 87 (Go.TypeDesc.func #[1] #[4] false) := ⟨Try.runUnderlying87, Try.underlying87⟩
instance : MkI Try.prog 87 := ⟨fun v w => by simp [Instr.makeInterface, Try.runUnderlying87]⟩
instance : AggT Try.prog 87 false 1 := ⟨Try.isAgg87, Try.sizeOf87⟩
instance : BytesT Try.prog 87 8 := ⟨fun w => ⟨_, Try.typeInfo87 w, rfl⟩⟩
instance : ZeroT Try.prog 87 (.nilFunc) := ⟨Try.zeroValue87⟩
instance : ElemT Try.prog 87 1 8 (.nilFunc) := ⟨⟨_, info_of_run (Try.typeInfo87 default), rfl, rfl, rfl⟩⟩
instance : Und Try.prog 88 (Go.TypeDesc.func #[5, 41] #[4] false) := ⟨Try.runUnderlying88, Try.underlying88⟩
instance : MkI Try.prog 88 := ⟨fun v w => by simp [Instr.makeInterface, Try.runUnderlying88]⟩
instance : AggT Try.prog 88 false 1 := ⟨Try.isAgg88, Try.sizeOf88⟩
instance : BytesT Try.prog 88 8 := ⟨fun w => ⟨_, Try.typeInfo88 w, rfl⟩⟩
instance : ZeroT Try.prog 88 (.nilFunc) := ⟨Try.zeroValue88⟩
instance : ElemT Try.prog 88 1 8 (.nilFunc) := ⟨⟨_, info_of_run (Try.typeInfo88 default), rfl, rfl, rfl⟩⟩
instance : Und Try.prog 89 (Go.TypeDesc.slice 96) := ⟨Try.runUnderlying89, Try.underlying89⟩
instance : MkI Try.prog 89 := ⟨fun v w => by simp [Instr.makeInterface, Try.runUnderlying89]⟩
instance : AggT Try.prog 89 false 1 := ⟨Try.isAgg89, Try.sizeOf89⟩
instance : BytesT Try.prog 89 24 := ⟨fun w => ⟨_, Try.typeInfo89 w, rfl⟩⟩
instance : ZeroT Try.prog 89 (.slice none 0 0) := ⟨Try.zeroValue89⟩
instance : ElemT Try.prog 89 1 24 (.slice none 0 0) := ⟨⟨_, info_of_run (Try.typeInfo89 default), rfl, rfl, rfl⟩⟩
instance : Und Try.prog 90 (Go.TypeDesc.array 6 41) := ⟨Try.runUnderlying90, Try.underlying90⟩
instance : MkI Try.prog 90 := ⟨fun v w => by simp [Instr.makeInterface, Try.runUnderlying90]⟩
instance : AggT Try.prog 90 true 6 := ⟨Try.isAgg90, Try.sizeOf90⟩
instance : BytesT Try.prog 90 144 := ⟨fun w => ⟨_, Try.typeInfo90 w, rfl⟩⟩
instance : ZeroT Try.prog 90 (.agg #[.slice none 0 0, .slice none 0 0, .slice none 0 0, .slice none 0 0, .slice none 0 0, .slice none 0 0]) := ⟨Try.zeroValue90⟩
instance : ElemT Try.prog 90 6 144 (.agg #[.slice none 0 0, .slice none 0 0, .slice none 0 0, .slice none 0 0, .slice none 0 0, .slice none 0 0]) := ⟨⟨_, info_of_run (Try.typeInfo90 default), rfl, rfl, rfl⟩⟩
instance : Und Try.prog 91 (Go.TypeDesc.array 6 3) := ⟨Try.runUnderlying91, Try.underlying91⟩
instance : MkI Try.prog 91 := ⟨fun v w => by simp [Instr.makeInterface, Try.runUnderlying91]⟩
instance : AggT Try.prog 91 true 6 := ⟨Try.isAgg91, Try.sizeOf91⟩
instance : BytesT Try.prog 91 48 := ⟨fun w => ⟨_, Try.typeInfo91 w, rfl⟩⟩
instance : ZeroT Try.prog 91 (.agg #[.int .i64 0, .int .i64 0, .int .i64 0, .int .i64 0, .int .i64 0, .int .i64 0]) := ⟨Try.zeroValue91⟩
instance : ElemT Try.prog 91 6 48 (.agg #[.int .i64 0, .int .i64 0, .int .i64 0, .int .i64 0, .int .i64 0, .int .i64 0]) := ⟨⟨_, info_of_run (Try.typeInfo91 default), rfl, rfl, rfl⟩⟩
instance : MkI Try.prog 92 := ⟨fun v w => by simp [Instr.makeInterface, Try.runUnderlying92]⟩
instance : AggT Try.prog 92 true 21 := ⟨Try.isAgg92, Try.sizeOf92⟩
instance : BytesT Try.prog 92 360 := ⟨fun w => ⟨_, Try.typeInfo92 w, rfl⟩⟩
instance : ZeroT Try.prog 92 (.agg #[.slice none 0 0, .slice none 0 0, .slice none 0 0, .slice none 0 0, .slice none 0 0, .slice none 0 0, .slice none 0 0, .slice none 0 0, .slice none 0 0, .slice none 0 0, .slice none 0 0, .slice none 0 0, .int .i64 0, .int .i64 0, .int .i64 0, .int .i64 0, .int .i64 0, .int .i64 0, .bool false, .int .i64 0, .int .i64 0]) := ⟨Try.zeroValue92⟩
instance : ElemT Try.prog 92 21 360 (.agg #[.slice none 0 0, .slice none 0 0, .slice none 0 0, .slice none 0 0, .slice none 0 0, .slice none 0 0, .slice none 0 0, .slice none 0 0, .slice none 0 0, .slice none 0 0, .slice none 0 0, .slice none 0 0, .int .i64 0, .int .i64 0, .int .i64 0, .int .i64 0, .int .i64 0, .int .i64 0, .bool false, .int .i64 0, .int .i64 0]) := ⟨⟨_, info_of_run (Try.typeInfo92 default), rfl, rfl, rfl⟩⟩
instance : FOff Try.prog 92 0 0 := ⟨fun w a => by simp [Instr.fieldAt, Instr.sureAddr, fieldPlace]⟩
instance : FOff Try.prog 92 1 6 := ⟨fun w a => by simp [Instr.fieldAt, Instr.sureAddr, fieldPlace]⟩
instance : FOff Try.prog 92 2 12 := ⟨fun w a => by simp [Instr.fieldAt, Instr.sureAddr, fieldPlace]⟩
instance : FOff Try.prog 92 3 18 := ⟨fun w a => by simp [Instr.fieldAt, Instr.sureAddr, fieldPlace]⟩
instance : FOff Try.prog 92 4 19 := ⟨fun w a => by simp [Instr.fieldAt, Instr.sureAddr, fieldPlace]⟩
instance : FOff Try.prog 92 5 20 := ⟨fun w a => by simp [Instr.fieldAt, Instr.sureAddr, fieldPlace]⟩
instance : BuildT Try.prog 92 [(0, 6), (6, 6), (12, 6), (18, 1), (19, 1), (20, 1)] [.slice none 0 0, .slice none 0 0, .slice none 0 0, .slice none 0 0, .slice none 0 0, .slice none 0 0, .slice none 0 0, .slice none 0 0, .slice none 0 0, .slice none 0 0, .slice none 0 0, .slice none 0 0, .int .i64 0, .int .i64 0, .int .i64 0, .int .i64 0, .int .i64 0, .int .i64 0, .bool false, .int .i64 0, .int .i64 0] := buildT_of Try.zeroValue92 Try.runUnderlying92 (fun w => by simp)
instance : MkI Try.prog 93 := ⟨fun v w => by simp [Instr.makeInterface, Try.runUnderlying93]⟩
instance : AggT Try.prog 93 true 21 := ⟨Try.isAgg93, Try.sizeOf93⟩
instance : BytesT Try.prog 93 360 := ⟨fun w => ⟨_, Try.typeInfo93 w, rfl⟩⟩
instance : ZeroT Try.prog 93 (.agg #[.slice none 0 0, .slice none 0 0, .slice none 0 0, .slice none 0 0, .slice none 0 0, .slice none 0 0, .slice none 0 0, .slice none 0 0, .slice none 0 0, .slice none 0 0, .slice none 0 0, .slice none 0 0, .int .i64 0, .int .i64 0, .int .i64 0, .int .i64 0, .int .i64 0, .int .i64 0, .bool false, .int .i64 0, .int .i64 0]) := ⟨Try.zeroValue93⟩
instance : ElemT Try.prog 93 21 360 (.agg #[.slice none 0 0, .slice none 0 0, .slice none 0 0, .slice none 0 0, .slice none 0 0, .slice none 0 0, .slice none 0 0, .slice none 0 0, .slice none 0 0, .slice none 0 0, .slice none 0 0, .slice none 0 0, .int .i64 0, .int .i64 0, .int .i64 0, .int .i64 0, .int .i64 0, .int .i64 0, .bool false, .int .i64 0, .int .i64 0]) := ⟨⟨_, info_of_run (Try.typeInfo93 default), rfl, rfl, rfl⟩⟩
instance : FOff Try.prog 93 0 0 := ⟨fun w a => by simp [Instr.fieldAt, Instr.sureAddr, fieldPlace]⟩
instance : FOff Try.prog 93 1 6 := ⟨fun w a => by simp [Instr.fieldAt, Instr.sureAddr, fieldPlace]⟩
instance : FOff Try.prog 93 2 12 := ⟨fun w a => by simp [Instr.fieldAt, Instr.sureAddr, fieldPlace]⟩
instance : FOff Try.prog 93 3 18 := ⟨fun w a => by simp [Instr.fieldAt, Instr.sureAddr, fieldPlace]⟩
instance : FOff Try.prog 93 4 19 := ⟨fun w a => by simp [Instr.fieldAt, Instr.sureAddr, fieldPlace]⟩
instance : FOff Try.prog 93 5 20 := ⟨fun w a => by simp [Instr.fieldAt, Instr.sureAddr, fieldPlace]⟩
instance : BuildT Try.prog 93 [(0, 6), (6, 6), (12, 6), (18, 1), (19, 1), (20, 1)] [.slice none 0 0, .slice none 0 0, .slice none 0 0, .slice none 0 0, .slice none 0 0, .slice none 0 0, .slice none 0 0, .slice none 0 0, .slice none 0 0, .slice none 0 0, .slice none 0 0, .slice none 0 0, .int .i64 0, .int .i64 0, .int .i64 0, .int .i64 0, .int .i64 0, .int .i64 0, .bool false, .int .i64 0, .int .i64 0] := buildT_of Try.zeroValue93 Try.runUnderlying93 (fun w => by simp)
instance : Und Try.prog 94 (Go.TypeDesc.func #[] #[93] false) := ⟨Try.runUnderlying94, Try.underlying94⟩
instance : MkI Try.prog 94 := ⟨fun v w => by simp [Instr.makeInterface, Try.runUnderlying94]⟩
instance : AggT Try.prog 94 false 1 := ⟨Try.isAgg94, Try.sizeOf94⟩
instance : BytesT Try.prog 94 8 := ⟨fun w => ⟨_, Try.typeInfo94 w, rfl⟩⟩
instance : ZeroT Try.prog 94 (.nilFunc) := ⟨Try.zeroValue94⟩
instance : ElemT Try.prog 94 1 8 (.nilFunc) := ⟨⟨_, info_of_run (Try.typeInfo94 default), rfl, rfl, rfl⟩⟩
instance : MkI Try.prog 95 := ⟨fun v w => by simp [Instr.makeInterface, Try.runUnderlying95]⟩
instance : AggT Try.prog 95 true 5 := ⟨Try.isAgg95, Try.sizeOf95⟩
instance : BytesT Try.prog 95 16 := ⟨fun w => ⟨_, Try.typeInfo95 w, rfl⟩⟩
instance : ZeroT Try.prog 95 (.agg #[.int .u8 0, .int .i8 0, .int .u8 0, .bool false, .int .u64 0]) := ⟨Try.zeroValue95⟩
instance : ElemT Try.prog 95 5 16 (.agg #[.int .u8 0, .int .i8 0, .int .u8 0, .bool false, .int .u64 0]) := ⟨⟨_, info_of_run (Try.typeInfo95 default), rfl, rfl, rfl⟩⟩
instance : FOff Try.prog 95 0 0 := ⟨fun w a => by simp [Instr.fieldAt, Instr.sureAddr, fieldPlace]⟩
instance : FOff Try.prog 95 1 1 := ⟨fun w a => by simp [Instr.fieldAt, Instr.sureAddr, fieldPlace]⟩
instance : FOff Try.prog 95 2 2 := ⟨fun w a => by simp [Instr.fieldAt, Instr.sureAddr, fieldPlace]⟩
instance : FOff Try.prog 95 3 3 := ⟨fun w a => by simp [Instr.fieldAt, Instr.sureAddr, fieldPlace]⟩
instance : FOff Try.prog 95 4 4 := ⟨fun w a => by simp [Instr.fieldAt, Instr.sureAddr, fieldPlace]⟩
instance : BuildT Try.prog 95 [(0, 1), (1, 1), (2, 1), (3, 1), (4, 1)] [.int .u8 0, .int .i8 0, .int .u8 0, .bool false, .int .u64 0] := buildT_of Try.zeroValue95 Try.runUnderlying95 (fun w => by simp)
instance : MkI Try.prog 96 := ⟨fun v w => by simp [Instr.makeInterface, Try.runUnderlying96]⟩
instance : AggT Try.prog 96 true 5 := ⟨Try.isAgg96, Try.sizeOf96⟩
instance : BytesT Try.prog 96 16 := ⟨fun w => ⟨_, Try.typeInfo96 w, rfl⟩⟩
instance : ZeroT Try.prog 96 (.agg #[.int .u8 0, .int .i8 0, .int .u8 0, .bool false, .int .u64 0]) := ⟨Try.zeroValue96⟩
instance : ElemT Try.prog 96 5 16 (.agg #[.int .u8 0, .int .i8 0, .int .u8 0, .bool false, .int .u64 0]) := ⟨⟨_, info_of_run (Try.typeInfo96 default), rfl, rfl, rfl⟩⟩
instance : FOff Try.prog 96 0 0 := ⟨fun w a => by simp [Instr.fieldAt, Instr.sureAddr, fieldPlace]⟩
instance : FOff Try.prog 96 1 1 := ⟨fun w a => by simp [Instr.fieldAt, Instr.sureAddr, fieldPlace]⟩
instance : FOff Try.prog 96 2 2 := ⟨fun w a => by simp [Instr.fieldAt, Instr.sureAddr, fieldPlace]⟩
instance : FOff Try.prog 96 3 3 := ⟨fun w a => by simp [Instr.fieldAt, Instr.sureAddr, fieldPlace]⟩
instance : FOff Try.prog 96 4 4 := ⟨fun w a => by simp [Instr.fieldAt, Instr.sureAddr, fieldPlace]⟩
instance : BuildT Try.prog 96 [(0, 1), (1, 1), (2, 1), (3, 1), (4, 1)] [.int .u8 0, .int .i8 0, .int .u8 0, .bool false, .int .u64 0] := buildT_of Try.zeroValue96 Try.runUnderlying96 (fun w => by simp)
instance : Und Try.prog 97 (Go.TypeDesc.func #[34, 42, 96] #[41, 43] false) := ⟨Try.runUnderlying97, Try.underlying97⟩
instance : MkI Try.prog 97 := ⟨fun v w => by simp [Instr.makeInterface, Try.runUnderlying97]⟩
instance : AggT Try.prog 97 false 1 := ⟨Try.isAgg97, Try.sizeOf97⟩
instance : BytesT Try.prog 97 8 := ⟨fun w => ⟨_, Try.typeInfo97 w, rfl⟩⟩
instance : ZeroT Try.prog 97 (.nilFunc) := ⟨Try.zeroValue97⟩
instance : ElemT Try.prog 97 1 8 (.nilFunc) := ⟨⟨_, info_of_run (Try.typeInfo97 default), rfl, rfl, rfl⟩⟩
instance : Und Try.prog 98 (Go.TypeDesc.func #[96] #[41, 43] false) := ⟨Try.runUnderlying98, Try.underlying98⟩
instance : MkI Try.prog 98 := ⟨fun v w => by simp [Instr.makeInterface, Try.runUnderlying98]⟩
instance : AggT Try.prog 98 false 1 := ⟨Try.isAgg98, Try.sizeOf98⟩
instance : BytesT Try.prog 98 8 := ⟨fun w => ⟨_, Try.typeInfo98 w, rfl⟩⟩
instance : ZeroT Try.prog 98 (.nilFunc) := ⟨Try.zeroValue98⟩
instance : ElemT Try.prog 98 1 8 (.nilFunc) := ⟨⟨_, info_of_run (Try.typeInfo98 default), rfl, rfl, rfl⟩⟩
instance : Und Try.prog 99 (Go.TypeDesc.func #[82, 82] #[4] false) := ⟨Try.runUnderlying99, Try.underlying99⟩
instance : MkI Try.prog 99 := ⟨fun v w => by simp [Instr.makeInterface, Try.runUnderlying99]⟩
instance : AggT Try.prog 99 false 1 := ⟨Try.isAgg99, Try.sizeOf99⟩
instance : BytesT Try.prog 99 8 := ⟨fun w => ⟨_, Try.typeInfo99 w, rfl⟩⟩
instance : ZeroT Try.prog 99 (.nilFunc) := ⟨Try.zeroValue99⟩
instance : ElemT Try.prog 99 1 8 (.nilFunc) := ⟨⟨_, info_of_run (Try.typeInfo99 default), rfl, rfl, rfl⟩⟩
instance : Und Try.prog 100 (Go.TypeDesc.func #[89] #[4] false) := ⟨Try.runUnderlying100, Try.underlying100⟩
instance : MkI Try.prog 100 := ⟨fun v w => by simp [Instr.makeInterface, Try.runUnderlying100]⟩
instance : AggT Try.prog 100 false 1 := ⟨Try.isAgg100, Try.sizeOf100⟩
instance : BytesT Try.prog 100 8 := ⟨fun w => ⟨_, Try.typeInfo100 w, rfl⟩⟩
instance : ZeroT Try.prog 100 (.nilFunc) := ⟨Try.zeroValue100⟩
instance : ElemT Try.prog 100 1 8 (.nilFunc) := ⟨⟨_, info_of_run (Try.typeInfo100 default), rfl, rfl, rfl⟩⟩
instance : MkI Try.prog 101 := ⟨fun v w => by simp [Instr.makeInterface, Try.runUnderlying101]⟩
instance : AggT Try.prog 101 true 2 := ⟨Try.isAgg101, Try.sizeOf101⟩
instance : BytesT Try.prog 101 2 := ⟨fun w => ⟨_, Try.typeInfo101 w, rfl⟩⟩
instance : ZeroT Try.prog 101 (.agg #[.int .u8 0, .int .u8 0]) := ⟨Try.zeroValue101⟩
instance : ElemT Try.prog 101 2 2 (.agg #[.int .u8 0, .int .u8 0]) := ⟨⟨_, info_of_run (Try.typeInfo101 default), rfl, rfl, rfl⟩⟩
instance : FOff Try.prog 101 0 0 := ⟨fun w a => by simp [Instr.fieldAt, Instr.sureAddr, fieldPlace]⟩
instance : FOff Try.prog 101 1 1 := ⟨fun w a => by simp [Instr.fieldAt, Instr.sureAddr, fieldPlace]⟩
instance : BuildT Try.prog 101 [(0, 1), (1, 1)] [.int .u8 0, .int .u8 0] := buildT_of Try.zeroValue101 Try.runUnderlying101 (fun w => by simp)
instance : MkI Try.prog 102 := ⟨fun v w => by simp [Instr.makeInterface, Try.runUnderlying102]⟩
instance : AggT Try.prog 102 true 2 := ⟨Try.isAgg102, Try.sizeOf102⟩
instance : BytesT Try.prog 102 2 := ⟨fun w => ⟨_, Try.typeInfo102 w, rfl⟩⟩
instance : ZeroT Try.prog 102 (.agg #[.int .u8 0, .int .u8 0]) := ⟨Try.zeroValue102⟩
instance : ElemT Try.prog 102 2 2 (.agg #[.int .u8 0, .int .u8 0]) := ⟨⟨_, info_of_run (Try.typeInfo102 default), rfl, rfl, rfl⟩⟩
instance : FOff Try.prog 102 0 0 := ⟨fun w a => by simp [Instr.fieldAt, Instr.sureAddr, fieldPlace]⟩
instance : FOff Try.prog 102 1 1 := ⟨fun w a => by simp [Instr.fieldAt, Instr.sureAddr, fieldPlace]⟩
instance : BuildT Try.prog 102 [(0, 1), (1, 1)] [.int .u8 0, .int .u8 0] := buildT_of Try.zeroValue102 Try.runUnderlying102 (fun w => by simp)
instance : Und Try.prog 103 (Go.TypeDesc.func #[23, 24, 102, 5, 69] #[4] false) := ⟨Try.runUnderlying103, Try.underlying103⟩
instance : MkI Try.prog 103 := ⟨fun v w => by simp [Instr.makeInterface, Try.runUnderlying103]⟩
instance : AggT Try.prog 103 false 1 := ⟨Try.isAgg103, Try.sizeOf103⟩
instance : BytesT Try.prog 103 8 := ⟨fun w => ⟨_, Try.typeInfo103 w, rfl⟩⟩
instance : ZeroT Try.prog 103 (.nilFunc) := ⟨Try.zeroValue103⟩
instance : ElemT Try.prog 103 1 8 (.nilFunc) := ⟨⟨_, info_of_run (Try.typeInfo103 default), rfl, rfl, rfl⟩⟩
instance : Und Try.prog 104 (Go.TypeDesc.func #[34] #[36] false) := ⟨Try.runUnderlying104, Try.underlying104⟩
instance : MkI Try.prog 104 := ⟨fun v w => by simp [Instr.makeInterface, Try.runUnderlying104]⟩
instance : AggT Try.prog 104 false 1 := ⟨Try.isAgg104, Try.sizeOf104⟩
instance : BytesT Try.prog 104 8 := ⟨fun w => ⟨_, Try.typeInfo104 w, rfl⟩⟩
instance : ZeroT Try.prog 104 (.nilFunc) := ⟨Try.zeroValue104⟩
instance : ElemT Try.prog 104 1 8 (.nilFunc) := ⟨⟨_, info_of_run (Try.typeInfo104 default), rfl, rfl, rfl⟩⟩
instance : Und Try.prog 105 (Go.TypeDesc.func #[] #[65] false) := ⟨Try.runUnderlying105, Try.underlying105⟩
instance : MkI Try.prog 105 := ⟨fun v w => by simp [Instr.makeInterface, Try.runUnderlying105]⟩
instance : AggT Try.prog 105 false 1 := ⟨Try.isAgg105, Try.sizeOf105⟩
instance : BytesT Try.prog 105 8 := ⟨fun w => ⟨_, Try.typeInfo105 w, rfl⟩⟩
instance : ZeroT Try.prog 105 (.nilFunc) := ⟨Try.zeroValue105⟩
instance : ElemT Try.prog 105 1 8 (.nilFunc) := ⟨⟨_, info_of_run (Try.typeInfo105 default), rfl, rfl, rfl⟩⟩
instance : Und Try.prog 106 (Go.TypeDesc.func #[3] #[4] false) := ⟨Try.runUnderlying106, Try.underlying106⟩
instance : MkI Try.prog 106 := ⟨fun v w => by simp [Instr.makeInterface, Try.runUnderlying106]⟩
instance : AggT Try.prog 106 false 1 := ⟨Try.isAgg106, Try.sizeOf106⟩
instance : BytesT Try.prog 106 8 := ⟨fun w => ⟨_, Try.typeInfo106 w, rfl⟩⟩
instance : ZeroT Try.prog 106 (.nilFunc) := ⟨Try.zeroValue106⟩
instance : ElemT Try.prog 106 1 8 (.nilFunc) := ⟨⟨_, info_of_run (Try.typeInfo106 default), rfl, rfl, rfl⟩⟩
instance : Und Try.prog 107 (Go.TypeDesc.tuple #[41, 4]) := ⟨Try.runUnderlying107, Try.underlying107⟩
instance : AggT Try.prog 107 false 1 := ⟨Try.isAgg107, Try.sizeOf107⟩
instance : BytesT Try.prog 107 0 := ⟨fun w => ⟨_, Try.typeInfo107 w, rfl⟩⟩
instance : Und Try.prog 108 (Go.TypeDesc.map 3 41) := ⟨Try.runUnderlying108, Try.underlying108⟩
instance : MapT Try.prog 108 3 41 := ⟨Try.runUnderlying108, Try.runUnderlying3⟩
instance : MkI Try.prog 108 := ⟨fun v w => by simp [Instr.makeInterface, Try.runUnderlying108]⟩
instance : AggT Try.prog 108 false 1 := ⟨Try.isAgg108, Try.sizeOf108⟩
instance : BytesT Try.prog 108 8 := ⟨fun w => ⟨_, Try.typeInfo108 w, rfl⟩⟩
instance : ZeroT Try.prog 108 (.map none) := ⟨Try.zeroValue108⟩
instance : ElemT Try.prog 108 1 8 (.map none) := ⟨⟨_, info_of_run (Try.typeInfo108 default), rfl, rfl, rfl⟩⟩
instance : MkI Try.prog 109 := ⟨fun v w => by simp [Instr.makeInterface, Try.runUnderlying109]⟩
instance : AggT Try.prog 109 true 7 := ⟨Try.isAgg109, Try.sizeOf109⟩
instance : BytesT Try.prog 109 88 := ⟨fun w => ⟨_, Try.typeInfo109 w, rfl⟩⟩
instance : ZeroT Try.prog 109 (.agg #[.pointer none, .int .i64 0, .slice none 0 0, .map none, .slice none 0 0, .bool false, .int .i64 0]) := ⟨Try.zeroValue109⟩
instance : ElemT Try.prog 109 7 88 (.agg #[.pointer none, .int .i64 0, .slice none 0 0, .map none, .slice none 0 0, .bool false, .int .i64 0]) := ⟨⟨_, info_of_run (Try.typeInfo109 default), rfl, rfl, rfl⟩⟩
instance : FOff Try.prog 109 0 0 := ⟨fun w a => by simp [Instr.fieldAt, Instr.sureAddr, fieldPlace]⟩
instance : FOff Try.prog 109 1 1 := ⟨fun w a => by simp [Instr.fieldAt, Instr.sureAddr, fieldPlace]⟩
instance : FOff Try.prog 109 2 2 := ⟨fun w a => by simp [Instr.fieldAt, Instr.sureAddr, fieldPlace]⟩
instance : FOff Try.prog 109 3 3 := ⟨fun w a => by simp [Instr.fieldAt, Instr.sureAddr, fieldPlace]⟩
instance : FOff Try.prog 109 4 4 := ⟨fun w a => by simp [Instr.fieldAt, Instr.sureAddr, fieldPlace]⟩
instance : FOff Try.prog 109 5 5 := ⟨fun w a => by simp [Instr.fieldAt, Instr.sureAddr, fieldPlace]⟩
instance : FOff Try.prog 109 6 6 := ⟨fun w a => by simp [Instr.fieldAt, Instr.sureAddr, fieldPlace]⟩
instance : BuildT Try.prog 109 [(0, 1), (1, 1), (2, 1), (3, 1), (4, 1), (5, 1), (6, 1)] [.pointer none, .int .i64 0, .slice none 0 0, .map none, .slice none 0 0, .bool false, .int .i64 0] := buildT_of Try.zeroValue109 Try.runUnderlying109 (fun w => by simp)
instance : MkI Try.prog 110 := ⟨fun v w => by simp [Instr.makeInterface, Try.runUnderlying110]⟩
instance : AggT Try.prog 110 true 7 := ⟨Try.isAgg110, Try.sizeOf110⟩
instance : BytesT Try.prog 110 88 := ⟨fun w => ⟨_, Try.typeInfo110 w, rfl⟩⟩
instance : ZeroT Try.prog 110 (.agg #[.pointer none, .int .i64 0, .slice none 0 0, .map none, .slice none 0 0, .bool false, .int .i64 0]) := ⟨Try.zeroValue110⟩
instance : ElemT Try.prog 110 7 88 (.agg #[.pointer none, .int .i64 0, .slice none 0 0, .map none, .slice none 0 0, .bool false, .int .i64 0]) := ⟨⟨_, info_of_run (Try.typeInfo110 default), rfl, rfl, rfl⟩⟩
instance : FOff Try.prog 110 0 0 := ⟨fun w a => by simp [Instr.fieldAt, Instr.sureAddr, fieldPlace]⟩
instance : FOff Try.prog 110 1 1 := ⟨fun w a => by simp [Instr.fieldAt, Instr.sureAddr, fieldPlace]⟩
instance : FOff Try.prog 110 2 2 := ⟨fun w a => by simp [Instr.fieldAt, Instr.sureAddr, fieldPlace]⟩
instance : FOff Try.prog 110 3 3 := ⟨fun w a => by simp [Instr.fieldAt, Instr.sureAddr, fieldPlace]⟩
instance : FOff Try.prog 110 4 4 := ⟨fun w a => by simp [Instr.fieldAt, Instr.sureAddr, fieldPlace]⟩
instance : FOff Try.prog 110 5 5 := ⟨fun w a => by simp [Instr.fieldAt, Instr.sureAddr, fieldPlace]⟩
instance : FOff Try.prog 110 6 6 := ⟨fun w a => by simp [Instr.fieldAt, Instr.sureAddr, fieldPlace]⟩
instance : BuildT Try.prog 110 [(0, 1), (1, 1), (2, 1), (3, 1), (4, 1), (5, 1), (6, 1)] [.pointer none, .int .i64 0, .slice none 0 0, .map none, .slice none 0 0, .bool false, .int .i64 0] := buildT_of Try.zeroValue110 Try.runUnderlying110 (fun w => by simp)
instance : MkI Try.prog 111 := ⟨fun v w => by simp [Instr.makeInterface, Try.runUnderlying111]⟩
instance : AggT Try.prog 111 true 9 := ⟨Try.isAgg111, Try.sizeOf111⟩
instance : BytesT Try.prog 111 88 := ⟨fun w => ⟨_, Try.typeInfo111 w, rfl⟩⟩
instance : ZeroT Try.prog 111 (.agg #[.int .i64 0, .int .i64 0, .int .i64 0, .int .i64 0, .int .i64 0, .int .i64 0, .slice none 0 0, .pointer none, .bool false]) := ⟨Try.zeroValue111⟩
instance : ElemT Try.prog 111 9 88 (.agg #[.int .i64 0, .int .i64 0, .int .i64 0, .int .i64 0, .int .i64 0, .int .i64 0, .slice none 0 0, .pointer none, .bool false]) := ⟨⟨_, info_of_run (Try.typeInfo111 default), rfl, rfl, rfl⟩⟩
instance : FOff Try.prog 111 0 0 := ⟨fun w a => by simp [Instr.fieldAt, Instr.sureAddr, fieldPlace]⟩
instance : FOff Try.prog 111 1 6 := ⟨fun w a => by simp [Instr.fieldAt, Instr.sureAddr, fieldPlace]⟩
instance : FOff Try.prog 111 2 7 := ⟨fun w a => by simp [Instr.fieldAt, Instr.sureAddr, fieldPlace]⟩
instance : FOff Try.prog 111 3 8 := ⟨fun w a => by simp [Instr.fieldAt, Instr.sureAddr, fieldPlace]⟩
instance : BuildT Try.prog 111 [(0, 6), (6, 1), (7, 1), (8, 1)] [.int .i64 0, .int .i64 0, .int .i64 0, .int .i64 0, .int .i64 0, .int .i64 0, .slice none 0 0, .pointer none, .bool false] := buildT_of Try.zeroValue111 Try.runUnderlying111 (fun w => by simp)
instance : MkI Try.prog 112 := ⟨fun v w => by simp [Instr.makeInterface, Try.runUnderlying112]⟩
instance : AggT Try.prog 112 true 9 := ⟨Try.isAgg112, Try.sizeOf112⟩
instance : BytesT Try.prog 112 88 := ⟨fun w => ⟨_, Try.typeInfo112 w, rfl⟩⟩
instance : ZeroT Try.prog 112 (.agg #[.int .i64 0, .int .i64 0, .int .i64 0, .int .i64 0, .int .i64 0, .int .i64 0, .slice none 0 0, .pointer none, .bool false]) := ⟨Try.zeroValue112⟩
instance : ElemT Try.prog 112 9 88 (.agg #[.int .i64 0, .int .i64 0, .int .i64 0, .int .i64 0, .int .i64 0, .int .i64 0, .slice none 0 0, .pointer none, .bool false]) := ⟨⟨_, info_of_run (Try.typeInfo112 default), rfl, rfl, rfl⟩⟩
instance : FOff Try.prog 112 0 0 := ⟨fun w a => by simp [Instr.fieldAt, Instr.sureAddr, fieldPlace]⟩
instance : FOff Try.prog 112 1 6 := ⟨fun w a => by simp [Instr.fieldAt, Instr.sureAddr, fieldPlace]⟩
instance : FOff Try.prog 112 2 7 := ⟨fun w a => by simp [Instr.fieldAt, Instr.sureAddr, fieldPlace]⟩
instance : FOff Try.prog 112 3 8 := ⟨fun w a => by simp [Instr.fieldAt, Instr.sureAddr, fieldPlace]⟩
instance : BuildT Try.prog 112 [(0, 6), (6, 1), (7, 1), (8, 1)] [.int .i64 0, .int .i64 0, .int .i64 0, .int .i64 0, .int .i64 0, .int .i64 0, .slice none 0 0, .pointer none, .bool false] := buildT_of Try.zeroValue112 Try.runUnderlying112 (fun w => by simp)
instance : Und Try.prog 113 (Go.TypeDesc.func #[3, 3, 41] #[43] false) := ⟨Try.runUnderlying113, Try.underlying113⟩
instance : MkI Try.prog 113 := ⟨fun v w => by simp [Instr.makeInterface, Try.runUnderlying113]⟩
instance : AggT Try.prog 113 false 1 := ⟨Try.isAgg113, Try.sizeOf113⟩
instance : BytesT Try.prog 113 8 := ⟨fun w => ⟨_, Try.typeInfo113 w, rfl⟩⟩
instance : ZeroT Try.prog 113 (.nilFunc) := ⟨Try.zeroValue113⟩
instance : ElemT Try.prog 113 1 8 (.nilFunc) := ⟨⟨_, info_of_run (Try.typeInfo113 default), rfl, rfl, rfl⟩⟩
instance : Und Try.prog 114 (Go.TypeDesc.func #[48] #[41] true) := ⟨Try.runUnderlying114, Try.underlying114⟩
instance : MkI Try.prog 114 := ⟨fun v w => by simp [Instr.makeInterface, Try.runUnderlying114]⟩
instance : AggT Try.prog 114 false 1 := ⟨Try.isAgg114, Try.sizeOf114⟩
instance : BytesT Try.prog 114 8 := ⟨fun w => ⟨_, Try.typeInfo114 w, rfl⟩⟩
instance : ZeroT Try.prog 114 (.nilFunc) := ⟨Try.zeroValue114⟩
instance : ElemT Try.prog 114 1 8 (.nilFunc) := ⟨⟨_, info_of_run (Try.typeInfo114 default), rfl, rfl, rfl⟩⟩
instance : MkI Try.prog 115 := ⟨fun v w => by simp [Instr.makeInterface, Try.runUnderlying115]⟩
instance : AggT Try.prog 115 true 2 := ⟨Try.isAgg115, Try.sizeOf115⟩
instance : BytesT Try.prog 115 16 := ⟨fun w => ⟨_, Try.typeInfo115 w, rfl⟩⟩
instance : ZeroT Try.prog 115 (.agg #[.int .i64 0, .int .i64 0]) := ⟨Try.zeroValue115⟩
instance : ElemT Try.prog 115 2 16 (.agg #[.int .i64 0, .int .i64 0]) := ⟨⟨_, info_of_run (Try.typeInfo115 default), rfl, rfl, rfl⟩⟩
instance : FOff Try.prog 115 0 0 := ⟨fun w a => by simp [Instr.fieldAt, Instr.sureAddr, fieldPlace]⟩
instance : FOff Try.prog 115 1 1 := ⟨fun w a => by simp [Instr.fieldAt, Instr.sureAddr, fieldPlace]⟩
instance : BuildT Try.prog 115 [(0, 1), (1, 1)] [.int .i64 0, .int .i64 0] := buildT_of Try.zeroValue115 Try.runUnderlying115 (fun w => by simp)
instance : MkI Try.prog 116 := ⟨fun v w => by simp [Instr.makeInterface, Try.runUnderlying116]⟩
instance : AggT Try.prog 116 true 2 := ⟨Try.isAgg116, Try.sizeOf116⟩
instance : BytesT Try.prog 116 16 := ⟨fun w => ⟨_, Try.typeInfo116 w, rfl⟩⟩
instance : ZeroT Try.prog 116 (.agg #[.int .i64 0, .int .i64 0]) := ⟨Try.zeroValue116⟩
instance : ElemT Try.prog 116 2 16 (.agg #[.int .i64 0, .int .i64 0]) := ⟨⟨_, info_of_run (Try.typeInfo116 default), rfl, rfl, rfl⟩⟩
instance : FOff Try.prog 116 0 0 := ⟨fun w a => by simp [Instr.fieldAt, Instr.sureAddr, fieldPlace]⟩
instance : FOff Try.prog 116 1 1 := ⟨fun w a => by simp [Instr.fieldAt, Instr.sureAddr, fieldPlace]⟩
instance : BuildT Try.prog 116 [(0, 1), (1, 1)] [.int .i64 0, .int .i64 0] := buildT_of Try.zeroValue116 Try.runUnderlying116 (fun w => by simp)
instance : Und Try.prog 117 (Go.TypeDesc.func #[] #[71] false) := ⟨Try.runUnderlying117, Try.underlying117⟩
instance : MkI Try.prog 117 := ⟨fun v w => by simp [Instr.makeInterface, Try.runUnderlying117]⟩
instance : AggT Try.prog 117 false 1 := ⟨Try.isAgg117, Try.sizeOf117⟩
instance : BytesT Try.prog 117 8 := ⟨fun w => ⟨_, Try.typeInfo117 w, rfl⟩⟩
instance : ZeroT Try.prog 117 (.nilFunc) := ⟨Try.zeroValue117⟩
instance : ElemT Try.prog 117 1 8 (.nilFunc) := ⟨⟨_, info_of_run (Try.typeInfo117 default), rfl, rfl, rfl⟩⟩
instance : Und Try.prog 118 (Go.TypeDesc.func #[41, 3] #[41] false) := ⟨Try.runUnderlying118, Try.underlying118⟩
instance : MkI Try.prog 118 := ⟨fun v w => by simp [Instr.makeInterface, Try.runUnderlying118]⟩
instance : AggT Try.prog 118 false 1 := ⟨Try.isAgg118, Try.sizeOf118⟩
instance : BytesT Try.prog 118 8 := ⟨fun w => ⟨_, Try.typeInfo118 w, rfl⟩⟩
instance : ZeroT Try.prog 118 (.nilFunc) := ⟨Try.zeroValue118⟩
instance : ElemT Try.prog 118 1 8 (.nilFunc) := ⟨⟨_, info_of_run (Try.typeInfo118 default), rfl, rfl, rfl⟩⟩
instance : Und Try.prog 119 (Go.TypeDesc.interface #[("Flush", 76), ("Read", 45), ("Write", 58)]) := ⟨Try.runUnderlying119, Try.underlying119⟩
instance : AggT Try.prog 119 false 1 := ⟨Try.isAgg119, Try.sizeOf119⟩
instance : BytesT Try.prog 119 16 := ⟨fun w => ⟨_, Try.typeInfo119 w, rfl⟩⟩
instance : ZeroT Try.prog 119 (.nilIface) := ⟨Try.zeroValue119⟩
instance : ElemT Try.prog 119 1 16 (.nilIface) := ⟨⟨_, info_of_run (Try.typeInfo119 default), rfl, rfl, rfl⟩⟩
instance : Und Try.prog 120 (Go.TypeDesc.interface #[("Flush", 76), ("Read", 45), ("Write", 58)]) := ⟨Try.runUnderlying120, Try.underlying120⟩
instance : AggT Try.prog 120 false 1 := ⟨Try.isAgg120, Try.sizeOf120⟩
instance : BytesT Try.prog 120 16 := ⟨fun w => ⟨_, Try.typeInfo120 w, rfl⟩⟩
instance : ZeroT Try.prog 120 (.nilIface) := ⟨Try.zeroValue120⟩
instance : ElemT Try.prog 120 1 16 (.nilIface) := ⟨⟨_, info_of_run (Try.typeInfo120 default), rfl, rfl, rfl⟩⟩
instance : Und Try.prog 121 (Go.TypeDesc.func #[3, 3, 45] #[43] false) := ⟨Try.runUnderlying121, Try.underlying121⟩
instance : MkI Try.prog 121 := ⟨fun v w => by simp [Instr.makeInterface, Try.runUnderlying121]⟩
instance : AggT Try.prog 121 false 1 := ⟨Try.isAgg121, Try.sizeOf121⟩
instance : BytesT Try.prog 121 8 := ⟨fun w => ⟨_, Try.typeInfo121 w, rfl⟩⟩
instance : ZeroT Try.prog 121 (.nilFunc) := ⟨Try.zeroValue121⟩
instance : ElemT Try.prog 121 1 8 (.nilFunc) := ⟨⟨_, info_of_run (Try.typeInfo121 default), rfl, rfl, rfl⟩⟩
instance : Und Try.prog 122 (Go.TypeDesc.interface #[("Blank", 1)]) := ⟨Try.runUnderlying122, Try.underlying122⟩
instance : AggT Try.prog 122 false 1 := ⟨Try.isAgg122, Try.sizeOf122⟩
instance : BytesT Try.prog 122 16 := ⟨fun w => ⟨_, Try.typeInfo122 w, rfl⟩⟩
instance : ZeroT Try.prog 122 (.nilIface) := ⟨Try.zeroValue122⟩
instance : ElemT Try.prog 122 1 16 (.nilIface) := ⟨⟨_, info_of_run (Try.typeInfo122 default), rfl, rfl, rfl⟩⟩
instance : Und Try.prog 123 (Go.TypeDesc.interface #[("Blank", 1)]) := ⟨Try.runUnderlying123, Try.underlying123⟩
instance : AggT Try.prog 123 false 1 := ⟨Try.isAgg123, Try.sizeOf123⟩
instance : BytesT Try.prog 123 16 := ⟨fun w => ⟨_, Try.typeInfo123 w, rfl⟩⟩
instance : ZeroT Try.prog 123 (.nilIface) := ⟨Try.zeroValue123⟩
instance : ElemT Try.prog 123 1 16 (.nilIface) := ⟨⟨_, info_of_run (Try.typeInfo123 default), rfl, rfl, rfl⟩⟩
instance : Und Try.prog 124 (Go.TypeDesc.tuple #[123, 4]) := ⟨Try.runUnderlying124, Try.underlying124⟩
instance : AggT Try.prog 124 false 1 := ⟨Try.isAgg124, Try.sizeOf124⟩
instance : BytesT Try.prog 124 0 := ⟨fun w => ⟨_, Try.typeInfo124 w, rfl⟩⟩
instance : Und Try.prog 125 (Go.TypeDesc.slice 185) := ⟨Try.runUnderlying125, Try.underlying125⟩
instance : MkI Try.prog 125 := ⟨fun v w => by simp [Instr.makeInterface, Try.runUnderlying125]⟩
instance : AggT Try.prog 125 false 1 := ⟨Try.isAgg125, Try.sizeOf125⟩
instance : BytesT Try.prog 125 24 := ⟨fun w => ⟨_, Try.typeInfo125 w, rfl⟩⟩
instance : ZeroT Try.prog 125 (.slice none 0 0) := ⟨Try.zeroValue125⟩
instance : ElemT Try.prog 125 1 24 (.slice none 0 0) := ⟨⟨_, info_of_run (Try.typeInfo125 default), rfl, rfl, rfl⟩⟩
instance : MkI Try.prog 126 := ⟨fun v w => by simp [Instr.makeInterface, Try.runUnderlying126]⟩
instance : AggT Try.prog 126 true 12 := ⟨Try.isAgg126, Try.sizeOf126⟩
instance : BytesT Try.prog 126 112 := ⟨fun w => ⟨_, Try.typeInfo126 w, rfl⟩⟩
instance : ZeroT Try.prog 126 (.agg #[.pointer none, .slice none 0 0, .int .u64 0, .int .i64 0, .int .i64 0, .int .i64 0, .int .i64 0, .int .i64 0, .int .i64 0, .int .u64 0, .int .u64 0, .int .i64 0]) := ⟨Try.zeroValue126⟩
instance : ElemT Try.prog 126 12 112 (.agg #[.pointer none, .slice none 0 0, .int .u64 0, .int .i64 0, .int .i64 0, .int .i64 0, .int .i64 0, .int .i64 0, .int .i64 0, .int .u64 0, .int .u64 0, .int .i64 0]) := ⟨⟨_, info_of_run (Try.typeInfo126 default), rfl, rfl, rfl⟩⟩
instance : FOff Try.prog 126 0 0 := ⟨fun w a => by simp [Instr.fieldAt, Instr.sureAddr, fieldPlace]⟩
instance : FOff Try.prog 126 1 1 := ⟨fun w a => by simp [Instr.fieldAt, Instr.sureAddr, fieldPlace]⟩
instance : FOff Try.prog 126 2 2 := ⟨fun w a => by simp [Instr.fieldAt, Instr.sureAddr, fieldPlace]⟩
instance : FOff Try.prog 126 3 3 := ⟨fun w a => by simp [Instr.fieldAt, Instr.sureAddr, fieldPlace]⟩
instance : BuildT Try.prog 126 [(0, 1), (1, 1), (2, 1), (3, 9)] [.pointer none, .slice none 0 0, .int .u64 0, .int .i64 0, .int .i64 0, .int .i64 0, .int .i64 0, .int .i64 0, .int .i64 0, .int .u64 0, .int .u64 0, .int .i64 0] := buildT_of Try.zeroValue126 Try.runUnderlying126 (fun w => by simp)
instance : MkI Try.prog 127 := ⟨fun v w => by simp [Instr.makeInterface, Try.runUnderlying127]⟩
instance : AggT Try.prog 127 true 12 := ⟨Try.isAgg127, Try.sizeOf127⟩
instance : BytesT Try.prog 127 112 := ⟨fun w => ⟨_, Try.typeInfo127 w, rfl⟩⟩
instance : ZeroT Try.prog 127 (.agg #[.pointer none, .slice none 0 0, .int .u64 0, .int .i64 0, .int .i64 0, .int .i64 0, .int .i64 0, .int .i64 0, .int .i64 0, .int .u64 0, .int .u64 0, .int .i64 0]) := ⟨Try.zeroValue127⟩
instance : ElemT Try.prog 127 12 112 (.agg #[.pointer none, .slice none 0 0, .int .u64 0, .int .i64 0, .int .i64 0, .int .i64 0, .int .i64 0, .int .i64 0, .int .i64 0, .int .u64 0, .int .u64 0, .int .i64 0]) := ⟨⟨_, info_of_run (Try.typeInfo127 default), rfl, rfl, rfl⟩⟩
instance : FOff Try.prog 127 0 0 := ⟨fun w a => by simp [Instr.fieldAt, Instr.sureAddr, fieldPlace]⟩
instance : FOff Try.prog 127 1 1 := ⟨fun w a => by simp [Instr.fieldAt, Instr.sureAddr, fieldPlace]⟩
instance : FOff Try.prog 127 2 2 := ⟨fun w a => by simp [Instr.fieldAt, Instr.sureAddr, fieldPlace]⟩
instance : FOff Try.prog 127 3 3 := ⟨fun w a => by simp [Instr.fieldAt, Instr.sureAddr, fieldPlace]⟩
instance : BuildT Try.prog 127 [(0, 1), (1, 1), (2, 1), (3, 9)] [.pointer none, .slice none 0 0, .int .u64 0, .int .i64 0, .int .i64 0, .int .i64 0, .int .i64 0, .int .i64 0, .int .i64 0, .int .u64 0, .int .u64 0, .int .i64 0] := buildT_of Try.zeroValue127 Try.runUnderlying127 (fun w => by simp)
instance : Und Try.prog 128 (Go.TypeDesc.func #[130] #[82] false) := ⟨Try.runUnderlying128, Try.underlying128⟩
instance : MkI Try.prog 128 := ⟨fun v w => by simp [Instr.makeInterface, Try.runUnderlying128]⟩
instance : AggT Try.prog 128 false 1 := ⟨Try.isAgg128, Try.sizeOf128⟩
instance : BytesT Try.prog 128 8 := ⟨fun w => ⟨_, Try.typeInfo128 w, rfl⟩⟩
instance : ZeroT Try.prog 128 (.nilFunc) := ⟨Try.zeroValue128⟩
instance : ElemT Try.prog 128 1 8 (.nilFunc) := ⟨⟨_, info_of_run (Try.typeInfo128 default), rfl, rfl, rfl⟩⟩
instance : Und Try.prog 129 (Go.TypeDesc.func #[106] #[] false) := ⟨Try.runUnderlying129, Try.underlying129⟩
instance : MkI Try.prog 129 := ⟨fun v w => by simp [Instr.makeInterface, Try.runUnderlying129]⟩
instance : AggT Try.prog 129 false 1 := ⟨Try.isAgg129, Try.sizeOf129⟩
instance : BytesT Try.prog 129 8 := ⟨fun w => ⟨_, Try.typeInfo129 w, rfl⟩⟩
instance : ZeroT Try.prog 129 (.nilFunc) := ⟨Try.zeroValue129⟩
instance : ElemT Try.prog 129 1 8 (.nilFunc) := ⟨⟨_, info_of_run (Try.typeInfo129 default), rfl, rfl, rfl⟩⟩
instance : Und Try.prog 130 (Go.TypeDesc.func #[106] #[] false) := ⟨Try.runUnderlying130, Try.underlying130⟩
instance : MkI Try.prog 130 := ⟨fun v w => by simp [Instr.makeInterface, Try.runUnderlying130]⟩
instance : AggT Try.prog 130 false 1 := ⟨Try.isAgg130, Try.sizeOf130⟩
instance : BytesT Try.prog 130 8 := ⟨fun w => ⟨_, Try.typeInfo130 w, rfl⟩⟩
instance : ZeroT Try.prog 130 (.nilFunc) := ⟨Try.zeroValue130⟩
instance : ElemT Try.prog 130 1 8 (.nilFunc) := ⟨⟨_, info_of_run (Try.typeInfo130 default), rfl, rfl, rfl⟩⟩
instance : Und Try.prog 131 (Go.TypeDesc.func #[108] #[130] false) := ⟨Try.runUnderlying131, Try.underlying131⟩
instance : MkI Try.prog 131 := ⟨fun v w => by simp [Instr.makeInterface, Try.runUnderlying131]⟩
instance : AggT Try.prog 131 false 1 := ⟨Try.isAgg131, Try.sizeOf131⟩
instance : BytesT Try.prog 131 8 := ⟨fun w => ⟨_, Try.typeInfo131 w, rfl⟩⟩
instance : ZeroT Try.prog 131 (.nilFunc) := ⟨Try.zeroValue131⟩
instance : ElemT Try.prog 131 1 8 (.nilFunc) := ⟨⟨_, info_of_run (Try.typeInfo131 default), rfl, rfl, rfl⟩⟩
instance : MkI Try.prog 132 := ⟨fun v w => by simp [Instr.makeInterface, Try.runUnderlying132]⟩
instance : AggT Try.prog 132 true 0 := ⟨Try.isAgg132, Try.sizeOf132⟩
instance : BytesT Try.prog 132 0 := ⟨fun w => ⟨_, Try.typeInfo132 w, rfl⟩⟩
instance : ZeroT Try.prog 132 (.agg #[]) := ⟨Try.zeroValue132⟩
instance : ElemT Try.prog 132 0 0 (.agg #[]) := ⟨⟨_, info_of_run (Try.typeInfo132 default), rfl, rfl, rfl⟩⟩
instance : BuildT Try.prog 132 [] [] := buildT_of Try.zeroValue132 Try.runUnderlying132 (fun w => by simp)
instance : MkI Try.prog 133 := ⟨fun v w => by simp [Instr.makeInterface, Try.runUnderlying133]⟩
instance : AggT Try.prog 133 true 0 := ⟨Try.isAgg133, Try.sizeOf133⟩
instance : BytesT Try.prog 133 0 := ⟨fun w => ⟨_, Try.typeInfo133 w, rfl⟩⟩
instance : ZeroT Try.prog 133 (.agg #[]) := ⟨Try.zeroValue133⟩
instance : ElemT Try.prog 133 0 0 (.agg #[]) := ⟨⟨_, info_of_run (Try.typeInfo133 default), rfl, rfl, rfl⟩⟩
instance : BuildT Try.prog 133 [] [] := buildT_of Try.zeroValue133 Try.runUnderlying133 (fun w => by simp)
instance : Und Try.prog 134 (Go.TypeDesc.tuple #[133, 4]) := ⟨Try.runUnderlying134, Try.underlying134⟩
instance : AggT Try.prog 134 false 1 := ⟨Try.isAgg134, Try.sizeOf134⟩
instance : BytesT Try.prog 134 0 := ⟨fun w => ⟨_, Try.typeInfo134 w, rfl⟩⟩
instance : Und Try.prog 135 (Go.TypeDesc.pointer 93) := ⟨Try.runUnderlying135, Try.underlying135⟩
instance : MkI Try.prog 135 := ⟨fun v w => by simp [Instr.makeInterface, Try.runUnderlying135]⟩
instance : AggT Try.prog 135 false 1 := ⟨Try.isAgg135, Try.sizeOf135⟩
instance : BytesT Try.prog 135 8 := ⟨fun w => ⟨_, Try.typeInfo135 w, rfl⟩⟩
instance : ZeroT Try.prog 135 (.pointer none) := ⟨Try.zeroValue135⟩
instance : ElemT Try.prog 135 1 8 (.pointer none) := ⟨⟨_, info_of_run (Try.typeInfo135 default), rfl, rfl, rfl⟩⟩
instance : Und Try.prog 136 (Go.TypeDesc.int (Go.IntKind.u64)) := ⟨Try.runUnderlying136, Try.underlying136⟩
instance : MkI Try.prog 136 := ⟨fun v w => by simp [Instr.makeInterface, Try.runUnderlying136]⟩
instance : AggT Try.prog 136 false 1 := ⟨Try.isAgg136, Try.sizeOf136⟩
instance : BytesT Try.prog 136 8 := ⟨fun w => ⟨_, Try.typeInfo136 w, rfl⟩⟩
instance : ZeroT Try.prog 136 (.int .u64 0) := ⟨Try.zeroValue136⟩
instance : ElemT Try.prog 136 1 8 (.int .u64 0) := ⟨⟨_, info_of_run (Try.typeInfo136 default), rfl, rfl, rfl⟩⟩
instance : Und Try.prog 137 (Go.TypeDesc.tuple #[136, 136]) := ⟨Try.runUnderlying137, Try.underlying137⟩
instance : AggT Try.prog 137 false 1 := ⟨Try.isAgg137, Try.sizeOf137⟩
instance : BytesT Try.prog 137 0 := ⟨fun w => ⟨_, Try.typeInfo137 w, rfl⟩⟩
instance : Und Try.prog 138 (Go.TypeDesc.func #[136, 136] #[136, 136] false) := ⟨Try.runUnderlying138, Try.underlying138⟩
instance : MkI Try.prog 138 := ⟨fun v w => by simp [Instr.makeInterface, Try.runUnderlying138]⟩
instance : AggT Try.prog 138 false 1 := ⟨Try.isAgg138, Try.sizeOf138⟩
instance : BytesT Try.prog 138 8 := ⟨fun w => ⟨_, Try.typeInfo138 w, rfl⟩⟩
instance : ZeroT Try.prog 138 (.nilFunc) := ⟨Try.zeroValue138⟩
instance : ElemT Try.prog 138 1 8 (.nilFunc) := ⟨⟨_, info_of_run (Try.typeInfo138 default), rfl, rfl, rfl⟩⟩
instance : Und Try.prog 139 (Go.TypeDesc.func #[3, 3, 3] #[4] false) := ⟨Try.runUnderlying139, Try.underlying139⟩
instance : MkI Try.prog 139 := ⟨fun v w => by simp [Instr.makeInterface, Try.runUnderlying139]⟩
instance : AggT Try.prog 139 false 1 := ⟨Try.isAgg139, Try.sizeOf139⟩
instance : BytesT Try.prog 139 8 := ⟨fun w => ⟨_, Try.typeInfo139 w, rfl⟩⟩
instance : ZeroT Try.prog 139 (.nilFunc) := ⟨Try.zeroValue139⟩
instance : ElemT Try.prog 139 1 8 (.nilFunc) := ⟨⟨_, info_of_run (Try.typeInfo139 default), rfl, rfl, rfl⟩⟩
instance : Und Try.prog 140 (Go.TypeDesc.func #[82] #[] false) := ⟨Try.runUnderlying140, Try.underlying140⟩
instance : MkI Try.prog 140 := ⟨fun v w => by simp [Instr.makeInterface, Try.runUnderlying140]⟩
instance : AggT Try.prog 140 false 1 := ⟨Try.isAgg140, Try.sizeOf140⟩
instance : BytesT Try.prog 140 8 := ⟨fun w => ⟨_, Try.typeInfo140 w, rfl⟩⟩
instance : ZeroT Try.prog 140 (.nilFunc) := ⟨Try.zeroValue140⟩
instance : ElemT Try.prog 140 1 8 (.nilFunc) := ⟨⟨_, info_of_run (Try.typeInfo140 default), rfl, rfl, rfl⟩⟩
instance : Und Try.prog 141 (Go.TypeDesc.int (Go.IntKind.u32)) := ⟨Try.runUnderlying141, Try.underlying141⟩
instance : MkI Try.prog 141 := ⟨fun v w => by simp [Instr.makeInterface, Try.runUnderlying141]⟩
instance : AggT Try.prog 141 false 1 := ⟨Try.isAgg141, Try.sizeOf141⟩
instance : BytesT Try.prog 141 4 := ⟨fun w => ⟨_, Try.typeInfo141 w, rfl⟩⟩
instance : ZeroT Try.prog 141 (.int .u32 0) := ⟨Try.zeroValue141⟩
instance : ElemT Try.prog 141 1 4 (.int .u32 0) := ⟨⟨_, info_of_run (Try.typeInfo141 default), rfl, rfl, rfl⟩⟩
instance : Und Try.prog 142 (Go.TypeDesc.tuple #[141, 141]) := ⟨Try.runUnderlying142, Try.underlying142⟩
instance : AggT Try.prog 142 false 1 := ⟨Try.isAgg142, Try.sizeOf142⟩
instance : BytesT Try.prog 142 0 := ⟨fun w => ⟨_, Try.typeInfo142 w, rfl⟩⟩
instance : Und Try.prog 143 (Go.TypeDesc.func #[141, 141] #[141, 141] false) := ⟨Try.runUnderlying143, Try.underlying143⟩
instance : MkI Try.prog 143 := ⟨fun v w => by simp [Instr.makeInterface, Try.runUnderlying143]⟩
instance : AggT Try.prog 143 false 1 := ⟨Try.isAgg143, Try.sizeOf143⟩
instance : BytesT Try.prog 143 8 := ⟨fun w => ⟨_, Try.typeInfo143 w, rfl⟩⟩
instance : ZeroT Try.prog 143 (.nilFunc) := ⟨Try.zeroValue143⟩
instance : ElemT Try.prog 143 1 8 (.nilFunc) := ⟨⟨_, info_of_run (Try.typeInfo143 default), rfl, rfl, rfl⟩⟩
instance : Und Try.prog 144 (Go.TypeDesc.tuple #[69, 69]) := ⟨Try.runUnderlying144, Try.underlying144⟩
instance : AggT Try.prog 144 false 1 := ⟨Try.isAgg144, Try.sizeOf144⟩
instance : BytesT Try.prog 144 0 := ⟨fun w => ⟨_, Try.typeInfo144 w, rfl⟩⟩
instance : Und Try.prog 145 (Go.TypeDesc.func #[69, 69] #[69, 69] false) := ⟨Try.runUnderlying145, Try.underlying145⟩
instance : MkI Try.prog 145 := ⟨fun v w => by simp [Instr.makeInterface, Try.runUnderlying145]⟩
instance : AggT Try.prog 145 false 1 := ⟨Try.isAgg145, Try.sizeOf145⟩
instance : BytesT Try.prog 145 8 := ⟨fun w => ⟨_, Try.typeInfo145 w, rfl⟩⟩
instance : ZeroT Try.prog 145 (.nilFunc) := ⟨Try.zeroValue145⟩
instance : ElemT Try.prog 145 1 8 (.nilFunc) := ⟨⟨_, info_of_run (Try.typeInfo145 default), rfl, rfl, rfl⟩⟩
instance : Und Try.prog 146 (Go.TypeDesc.func #[82, 130] #[82] false) := ⟨Try.runUnderlying146, Try.underlying146⟩
instance : MkI Try.prog 146 := ⟨fun v w => by simp [Instr.makeInterface, Try.runUnderlying146]⟩
instance : AggT Try.prog 146 false 1 := ⟨Try.isAgg146, Try.sizeOf146⟩
instance : BytesT Try.prog 146 8 := ⟨fun w => ⟨_, Try.typeInfo146 w, rfl⟩⟩
instance : ZeroT Try.prog 146 (.nilFunc) := ⟨Try.zeroValue146⟩
instance : ElemT Try.prog 146 1 8 (.nilFunc) := ⟨⟨_, info_of_run (Try.typeInfo146 default), rfl, rfl, rfl⟩⟩
instance : Und Try.prog 147 (Go.TypeDesc.func #[82, 3, 3, 3] #[] false) := ⟨Try.runUnderlying147, Try.underlying147⟩
instance : MkI Try.prog 147 := ⟨fun v w => by simp [Instr.makeInterface, Try.runUnderlying147]⟩
instance : AggT Try.prog 147 false 1 := ⟨Try.isAgg147, Try.sizeOf147⟩
instance : BytesT Try.prog 147 8 := ⟨fun w => ⟨_, Try.typeInfo147 w, rfl⟩⟩
instance : ZeroT Try.prog 147 (.nilFunc) := ⟨Try.zeroValue147⟩
instance : ElemT Try.prog 147 1 8 (.nilFunc) := ⟨⟨_, info_of_run (Try.typeInfo147 default), rfl, rfl, rfl⟩⟩
instance : Und Try.prog 148 (Go.TypeDesc.func #[136] #[3] false) := ⟨Try.runUnderlying148, Try.underlying148⟩
instance : MkI Try.prog 148 := ⟨fun v w => by simp [Instr.makeInterface, Try.runUnderlying148]⟩
instance : AggT Try.prog 148 false 1 := ⟨Try.isAgg148, Try.sizeOf148⟩
instance : BytesT Try.prog 148 8 := ⟨fun w => ⟨_, Try.typeInfo148 w, rfl⟩⟩
instance : ZeroT Try.prog 148 (.nilFunc) := ⟨Try.zeroValue148⟩
instance : ElemT Try.prog 148 1 8 (.nilFunc) := ⟨⟨_, info_of_run (Try.typeInfo148 default), rfl, rfl, rfl⟩⟩
instance : Und Try.prog 149 (Go.TypeDesc.func #[82, 3, 3] #[] false) := ⟨Try.runUnderlying149, Try.underlying149⟩
instance : MkI Try.prog 149 := ⟨fun v w => by simp [Instr.makeInterface, Try.runUnderlying149]⟩
instance : AggT Try.prog 149 false 1 := ⟨Try.isAgg149, Try.sizeOf149⟩
instance : BytesT Try.prog 149 8 := ⟨fun w => ⟨_, Try.typeInfo149 w, rfl⟩⟩
instance : ZeroT Try.prog 149 (.nilFunc) := ⟨Try.zeroValue149⟩
instance : ElemT Try.prog 149 1 8 (.nilFunc) := ⟨⟨_, info_of_run (Try.typeInfo149 default), rfl, rfl, rfl⟩⟩
instance : Und Try.prog 150 (Go.TypeDesc.int (Go.IntKind.i64)) := ⟨Try.runUnderlying150, Try.underlying150⟩
instance : MkI Try.prog 150 := ⟨fun v w => by simp [Instr.makeInterface, Try.runUnderlying150]⟩
instance : AggT Try.prog 150 false 1 := ⟨Try.isAgg150, Try.sizeOf150⟩
instance : BytesT Try.prog 150 8 := ⟨fun w => ⟨_, Try.typeInfo150 w, rfl⟩⟩
instance : ZeroT Try.prog 150 (.int .i64 0) := ⟨Try.zeroValue150⟩
instance : ElemT Try.prog 150 1 8 (.int .i64 0) := ⟨⟨_, info_of_run (Try.typeInfo150 default), rfl, rfl, rfl⟩⟩
instance : Und Try.prog 151 (Go.TypeDesc.tuple #[3, 150]) := ⟨Try.runUnderlying151, Try.underlying151⟩
instance : AggT Try.prog 151 false 1 := ⟨Try.isAgg151, Try.sizeOf151⟩
instance : BytesT Try.prog 151 0 := ⟨fun w => ⟨_, Try.typeInfo151 w, rfl⟩⟩
instance : Und Try.prog 152 (Go.TypeDesc.func #[82, 3, 3] #[3, 150] false) := ⟨Try.runUnderlying152, Try.underlying152⟩
instance : MkI Try.prog 152 := ⟨fun v w => by simp [Instr.makeInterface, Try.runUnderlying152]⟩
instance : AggT Try.prog 152 false 1 := ⟨Try.isAgg152, Try.sizeOf152⟩
instance : BytesT Try.prog 152 8 := ⟨fun w => ⟨_, Try.typeInfo152 w, rfl⟩⟩
instance : ZeroT Try.prog 152 (.nilFunc) := ⟨Try.zeroValue152⟩
instance : ElemT Try.prog 152 1 8 (.nilFunc) := ⟨⟨_, info_of_run (Try.typeInfo152 default), rfl, rfl, rfl⟩⟩
instance : Und Try.prog 153 (Go.TypeDesc.func #[82, 3, 3] #[4] false) := ⟨Try.runUnderlying153, Try.underlying153⟩
instance : MkI Try.prog 153 := ⟨fun v w => by simp [Instr.makeInterface, Try.runUnderlying153]⟩
instance : AggT Try.prog 153 false 1 := ⟨Try.isAgg153, Try.sizeOf153⟩
instance : BytesT Try.prog 153 8 := ⟨fun w => ⟨_, Try.typeInfo153 w, rfl⟩⟩
instance : ZeroT Try.prog 153 (.nilFunc) := ⟨Try.zeroValue153⟩
instance : ElemT Try.prog 153 1 8 (.nilFunc) := ⟨⟨_, info_of_run (Try.typeInfo153 default), rfl, rfl, rfl⟩⟩
instance : Und Try.prog 154 (Go.TypeDesc.func #[3, 3] #[4] false) := ⟨Try.runUnderlying154, Try.underlying154⟩
instance : MkI Try.prog 154 := ⟨fun v w => by simp [Instr.makeInterface, Try.runUnderlying154]⟩
instance : AggT Try.prog 154 false 1 := ⟨Try.isAgg154, Try.sizeOf154⟩
instance : BytesT Try.prog 154 8 := ⟨fun w => ⟨_, Try.typeInfo154 w, rfl⟩⟩
instance : ZeroT Try.prog 154 (.nilFunc) := ⟨Try.zeroValue154⟩
instance : ElemT Try.prog 154 1 8 (.nilFunc) := ⟨⟨_, info_of_run (Try.typeInfo154 default), rfl, rfl, rfl⟩⟩
instance : Und Try.prog 155 (Go.TypeDesc.func #[82, 3, 3, 3] #[3] false) := ⟨Try.runUnderlying155, Try.underlying155⟩
instance : MkI Try.prog 155 := ⟨fun v w => by simp [Instr.makeInterface, Try.runUnderlying155]⟩
instance : AggT Try.prog 155 false 1 := ⟨Try.isAgg155, Try.sizeOf155⟩
instance : BytesT Try.prog 155 8 := ⟨fun w => ⟨_, Try.typeInfo155 w, rfl⟩⟩
instance : ZeroT Try.prog 155 (.nilFunc) := ⟨Try.zeroValue155⟩
instance : ElemT Try.prog 155 1 8 (.nilFunc) := ⟨⟨_, info_of_run (Try.typeInfo155 default), rfl, rfl, rfl⟩⟩
instance : Und Try.prog 156 (Go.TypeDesc.tuple #[3, 4]) := ⟨Try.runUnderlying156, Try.underlying156⟩
instance : AggT Try.prog 156 false 1 := ⟨Try.isAgg156, Try.sizeOf156⟩
instance : BytesT Try.prog 156 0 := ⟨fun w => ⟨_, Try.typeInfo156 w, rfl⟩⟩
instance : Und Try.prog 157 (Go.TypeDesc.func #[82, 3, 3, 3] #[3, 4] false) := ⟨Try.runUnderlying157, Try.underlying157⟩
instance : MkI Try.prog 157 := ⟨fun v w => by simp [Instr.makeInterface, Try.runUnderlying157]⟩
instance : AggT Try.prog 157 false 1 := ⟨Try.isAgg157, Try.sizeOf157⟩
instance : BytesT Try.prog 157 8 := ⟨fun w => ⟨_, Try.typeInfo157 w, rfl⟩⟩
instance : ZeroT Try.prog 157 (.nilFunc) := ⟨Try.zeroValue157⟩
instance : ElemT Try.prog 157 1 8 (.nilFunc) := ⟨⟨_, info_of_run (Try.typeInfo157 default), rfl, rfl, rfl⟩⟩
instance : Und Try.prog 158 (Go.TypeDesc.func #[141] #[3] false) := ⟨Try.runUnderlying158, Try.underlying158⟩
instance : MkI Try.prog 158 := ⟨fun v w => by simp [Instr.makeInterface, Try.runUnderlying158]⟩
instance : AggT Try.prog 158 false 1 := ⟨Try.isAgg158, Try.sizeOf158⟩
instance : BytesT Try.prog 158 8 := ⟨fun w => ⟨_, Try.typeInfo158 w, rfl⟩⟩
instance : ZeroT Try.prog 158 (.nilFunc) := ⟨Try.zeroValue158⟩
instance : ElemT Try.prog 158 1 8 (.nilFunc) := ⟨⟨_, info_of_run (Try.typeInfo158 default), rfl, rfl, rfl⟩⟩
instance : Und Try.prog 159 (Go.TypeDesc.func #[69] #[3] false) := ⟨Try.runUnderlying159, Try.underlying159⟩
instance : MkI Try.prog 159 := ⟨fun v w => by simp [Instr.makeInterface, Try.runUnderlying159]⟩
instance : AggT Try.prog 159 false 1 := ⟨Try.isAgg159, Try.sizeOf159⟩
instance : BytesT Try.prog 159 8 := ⟨fun w => ⟨_, Try.typeInfo159 w, rfl⟩⟩
instance : ZeroT Try.prog 159 (.nilFunc) := ⟨Try.zeroValue159⟩
instance : ElemT Try.prog 159 1 8 (.nilFunc) := ⟨⟨_, info_of_run (Try.typeInfo159 default), rfl, rfl, rfl⟩⟩
instance : Und Try.prog 160 (Go.TypeDesc.int (Go.IntKind.u64)) := ⟨Try.runUnderlying160, Try.underlying160⟩
instance : MkI Try.prog 160 := ⟨fun v w => by simp [Instr.makeInterface, Try.runUnderlying160]⟩
instance : AggT Try.prog 160 false 1 := ⟨Try.isAgg160, Try.sizeOf160⟩
instance : BytesT Try.prog 160 8 := ⟨fun w => ⟨_, Try.typeInfo160 w, rfl⟩⟩
instance : ZeroT Try.prog 160 (.int .u64 0) := ⟨Try.zeroValue160⟩
instance : ElemT Try.prog 160 1 8 (.int .u64 0) := ⟨⟨_, info_of_run (Try.typeInfo160 default), rfl, rfl, rfl⟩⟩
instance : Und Try.prog 161 (Go.TypeDesc.func #[3] #[136] false) := ⟨Try.runUnderlying161, Try.underlying161⟩
instance : MkI Try.prog 161 := ⟨fun v w => by simp [Instr.makeInterface, Try.runUnderlying161]⟩
instance : AggT Try.prog 161 false 1 := ⟨Try.isAgg161, Try.sizeOf161⟩
instance : BytesT Try.prog 161 8 := ⟨fun w => ⟨_, Try.typeInfo161 w, rfl⟩⟩
instance : ZeroT Try.prog 161 (.nilFunc) := ⟨Try.zeroValue161⟩
instance : ElemT Try.prog 161 1 8 (.nilFunc) := ⟨⟨_, info_of_run (Try.typeInfo161 default), rfl, rfl, rfl⟩⟩
instance : Und Try.prog 162 (Go.TypeDesc.func #[] #[69] false) := ⟨Try.runUnderlying162, Try.underlying162⟩
instance : MkI Try.prog 162 := ⟨fun v w => by simp [Instr.makeInterface, Try.runUnderlying162]⟩
instance : AggT Try.prog 162 false 1 := ⟨Try.isAgg162, Try.sizeOf162⟩
instance : BytesT Try.prog 162 8 := ⟨fun w => ⟨_, Try.typeInfo162 w, rfl⟩⟩
instance : ZeroT Try.prog 162 (.nilFunc) := ⟨Try.zeroValue162⟩
instance : ElemT Try.prog 162 1 8 (.nilFunc) := ⟨⟨_, info_of_run (Try.typeInfo162 default), rfl, rfl, rfl⟩⟩
instance : Und Try.prog 163 (Go.TypeDesc.func #[82, 3, 164] #[3] false) := ⟨Try.runUnderlying163, Try.underlying163⟩
instance : MkI Try.prog 163 := ⟨fun v w => by simp [Instr.makeInterface, Try.runUnderlying163]⟩
instance : AggT Try.prog 163 false 1 := ⟨Try.isAgg163, Try.sizeOf163⟩
instance : BytesT Try.prog 163 8 := ⟨fun w => ⟨_, Try.typeInfo163 w, rfl⟩⟩
instance : ZeroT Try.prog 163 (.nilFunc) := ⟨Try.zeroValue163⟩
instance : ElemT Try.prog 163 1 8 (.nilFunc) := ⟨⟨_, info_of_run (Try.typeInfo163 default), rfl, rfl, rfl⟩⟩
instance : Und Try.prog 164 (Go.TypeDesc.pointer 3) := ⟨Try.runUnderlying164, Try.underlying164⟩
instance : MkI Try.prog 164 := ⟨fun v w => by simp [Instr.makeInterface, Try.runUnderlying164]⟩
instance : AggT Try.prog 164 false 1 := ⟨Try.isAgg164, Try.sizeOf164⟩
instance : BytesT Try.prog 164 8 := ⟨fun w => ⟨_, Try.typeInfo164 w, rfl⟩⟩
instance : ZeroT Try.prog 164 (.pointer none) := ⟨Try.zeroValue164⟩
instance : ElemT Try.prog 164 1 8 (.pointer none) := ⟨⟨_, info_of_run (Try.typeInfo164 default), rfl, rfl, rfl⟩⟩
instance : Und Try.prog 165 (Go.TypeDesc.func #[82, 3, 3, 3, 164] #[3] false) := ⟨Try.runUnderlying165, Try.underlying165⟩
instance : MkI Try.prog 165 := ⟨fun v w => by simp [Instr.makeInterface, Try.runUnderlying165]⟩
instance : AggT Try.prog 165 false 1 := ⟨Try.isAgg165, Try.sizeOf165⟩
instance : BytesT Try.prog 165 8 := ⟨fun w => ⟨_, Try.typeInfo165 w, rfl⟩⟩
instance : ZeroT Try.prog 165 (.nilFunc) := ⟨Try.zeroValue165⟩
instance : ElemT Try.prog 165 1 8 (.nilFunc) := ⟨⟨_, info_of_run (Try.typeInfo165 default), rfl, rfl, rfl⟩⟩
instance : Und Try.prog 166 (Go.TypeDesc.pointer 160) := ⟨Try.runUnderlying166, Try.underlying166⟩
instance : MkI Try.prog 166 := ⟨fun v w => by simp [Instr.makeInterface, Try.runUnderlying166]⟩
instance : AggT Try.prog 166 false 1 := ⟨Try.isAgg166, Try.sizeOf166⟩
instance : BytesT Try.prog 166 8 := ⟨fun w => ⟨_, Try.typeInfo166 w, rfl⟩⟩
instance : ZeroT Try.prog 166 (.pointer none) := ⟨Try.zeroValue166⟩
instance : ElemT Try.prog 166 1 8 (.pointer none) := ⟨⟨_, info_of_run (Try.typeInfo166 default), rfl, rfl, rfl⟩⟩
instance : Und Try.prog 167 (Go.TypeDesc.tuple #[3, 3]) := ⟨Try.runUnderlying167, Try.underlying167⟩
instance : AggT Try.prog 167 false 1 := ⟨Try.isAgg167, Try.sizeOf167⟩
instance : BytesT Try.prog 167 0 := ⟨fun w => ⟨_, Try.typeInfo167 w, rfl⟩⟩
instance : Und Try.prog 168 (Go.TypeDesc.func #[82, 3, 3, 164] #[3, 3] false) := ⟨Try.runUnderlying168, Try.underlying168⟩
instance : MkI Try.prog 168 := ⟨fun v w => by simp [Instr.makeInterface, Try.runUnderlying168]⟩
instance : AggT Try.prog 168 false 1 := ⟨Try.isAgg168, Try.sizeOf168⟩
instance : BytesT Try.prog 168 8 := ⟨fun w => ⟨_, Try.typeInfo168 w, rfl⟩⟩
instance : ZeroT Try.prog 168 (.nilFunc) := ⟨Try.zeroValue168⟩
instance : ElemT Try.prog 168 1 8 (.nilFunc) := ⟨⟨_, info_of_run (Try.typeInfo168 default), rfl, rfl, rfl⟩⟩
instance : Und Try.prog 169 (Go.TypeDesc.func #[] #[9] false) := ⟨Try.runUnderlying169, Try.underlying169⟩
instance : MkI Try.prog 169 := ⟨fun v w => by simp [Instr.makeInterface, Try.runUnderlying169]⟩
instance : AggT Try.prog 169 false 1 := ⟨Try.isAgg169, Try.sizeOf169⟩
instance : BytesT Try.prog 169 8 := ⟨fun w => ⟨_, Try.typeInfo169 w, rfl⟩⟩
instance : ZeroT Try.prog 169 (.nilFunc) := ⟨Try.zeroValue169⟩
instance : ElemT Try.prog 169 1 8 (.nilFunc) := ⟨⟨_, info_of_run (Try.typeInfo169 default), rfl, rfl, rfl⟩⟩
instance : MkI Try.prog 170 := ⟨fun v w => by simp [Instr.makeInterface, Try.runUnderlying170]⟩
instance : AggT Try.prog 170 true 4 := ⟨Try.isAgg170, Try.sizeOf170⟩
instance : BytesT Try.prog 170 40 := ⟨fun w => ⟨_, Try.typeInfo170 w, rfl⟩⟩
instance : ZeroT Try.prog 170 (.agg #[.pointer none, .pointer none, .pointer none, .string ⟨#[]⟩]) := ⟨Try.zeroValue170⟩
instance : ElemT Try.prog 170 4 40 (.agg #[.pointer none, .pointer none, .pointer none, .string ⟨#[]⟩]) := ⟨⟨_, info_of_run (Try.typeInfo170 default), rfl, rfl, rfl⟩⟩
instance : FOff Try.prog 170 0 0 := ⟨fun w a => by simp [Instr.fieldAt, Instr.sureAddr, fieldPlace]⟩
instance : FOff Try.prog 170 1 1 := ⟨fun w a => by simp [Instr.fieldAt, Instr.sureAddr, fieldPlace]⟩
instance : FOff Try.prog 170 2 2 := ⟨fun w a => by simp [Instr.fieldAt, Instr.sureAddr, fieldPlace]⟩
instance : FOff Try.prog 170 3 3 := ⟨fun w a => by simp [Instr.fieldAt, Instr.sureAddr, fieldPlace]⟩
instance : BuildT Try.prog 170 [(0, 1), (1, 1), (2, 1), (3, 1)] [.pointer none, .pointer none, .pointer none, .string ⟨#[]⟩] := buildT_of Try.zeroValue170 Try.runUnderlying170 (fun w => by simp)
instance : Und Try.prog 172 (Go.TypeDesc.array 0 16) := ⟨Try.runUnderlying172, Try.underlying172⟩
instance : MkI Try.prog 172 := ⟨fun v w => by simp [Instr.makeInterface, Try.runUnderlying172]⟩
instance : AggT Try.prog 172 true 0 := ⟨Try.isAgg172, Try.sizeOf172⟩
instance : BytesT Try.prog 172 0 := ⟨fun w => ⟨_, Try.typeInfo172 w, rfl⟩⟩
instance : ZeroT Try.prog 172 (.agg #[]) := ⟨Try.zeroValue172⟩
instance : ElemT Try.prog 172 0 0 (.agg #[]) := ⟨⟨_, info_of_run (Try.typeInfo172 default), rfl, rfl, rfl⟩⟩
instance : MkI Try.prog 173 := ⟨fun v w => by simp [Instr.makeInterface, Try.runUnderlying173]⟩
instance : AggT Try.prog 173 true 0 := ⟨Try.isAgg173, Try.sizeOf173⟩
instance : BytesT Try.prog 173 0 := ⟨fun w => ⟨_, Try.typeInfo173 w, rfl⟩⟩
instance : ZeroT Try.prog 173 (.agg #[]) := ⟨Try.zeroValue173⟩
instance : ElemT Try.prog 173 0 0 (.agg #[]) := ⟨⟨_, info_of_run (Try.typeInfo173 default), rfl, rfl, rfl⟩⟩
instance : Und Try.prog 177 (Go.TypeDesc.func #[186, 186] #[4] false) := ⟨Try.runUnderlying177, Try.underlying177⟩
instance : MkI Try.prog 177 := ⟨fun v w => by simp [Instr.makeInterface, Try.runUnderlying177]⟩
instance : AggT Try.prog 177 false 1 := ⟨Try.isAgg177, Try.sizeOf177⟩
instance : BytesT Try.prog 177 8 := ⟨fun w => ⟨_, Try.typeInfo177 w, rfl⟩⟩
instance : ZeroT Try.prog 177 (.nilFunc) := ⟨Try.zeroValue177⟩
instance : ElemT Try.prog 177 1 8 (.nilFunc) := ⟨⟨_, info_of_run (Try.typeInfo177 default), rfl, rfl, rfl⟩⟩
instance : Und Try.prog 178 (Go.TypeDesc.pointer 5) := ⟨Try.runUnderlying178, Try.underlying178⟩
instance : MkI Try.prog 178 := ⟨fun v w => by simp [Instr.makeInterface, Try.runUnderlying178]⟩
instance : AggT Try.prog 178 false 1 := ⟨Try.isAgg178, Try.sizeOf178⟩
instance : BytesT Try.prog 178 8 := ⟨fun w => ⟨_, Try.typeInfo178 w, rfl⟩⟩
instance : ZeroT Try.prog 178 (.pointer none) := ⟨Try.zeroValue178⟩
instance : ElemT Try.prog 178 1 8 (.pointer none) := ⟨⟨_, info_of_run (Try.typeInfo178 default), rfl, rfl, rfl⟩⟩
instance : MkI Try.prog 181 := ⟨fun v w => by simp [Instr.makeInterface, Try.runUnderlying181]⟩
instance : AggT Try.prog 181 true 11 := ⟨Try.isAgg181, Try.sizeOf181⟩
instance : BytesT Try.prog 181 48 := ⟨fun w => ⟨_, Try.typeInfo181 w, rfl⟩⟩
instance : ZeroT Try.prog 181 (.agg #[.int .u64 0, .int .u64 0, .int .u32 0, .int .u8 0, .int .u8 0, .int .u8 0, .int .u8 0, .nilFunc, .pointer none, .int .i32 0, .int .i32 0]) := ⟨Try.zeroValue181⟩
instance : ElemT Try.prog 181 11 48 (.agg #[.int .u64 0, .int .u64 0, .int .u32 0, .int .u8 0, .int .u8 0, .int .u8 0, .int .u8 0, .nilFunc, .pointer none, .int .i32 0, .int .i32 0]) := ⟨⟨_, info_of_run (Try.typeInfo181 default), rfl, rfl, rfl⟩⟩
instance : FOff Try.prog 181 0 0 := ⟨fun w a => by simp [Instr.fieldAt, Instr.sureAddr, fieldPlace]⟩
instance : FOff Try.prog 181 1 1 := ⟨fun w a => by simp [Instr.fieldAt, Instr.sureAddr, fieldPlace]⟩
instance : FOff Try.prog 181 2 2 := ⟨fun w a => by simp [Instr.fieldAt, Instr.sureAddr, fieldPlace]⟩
instance : FOff Try.prog 181 3 3 := ⟨fun w a => by simp [Instr.fieldAt, Instr.sureAddr, fieldPlace]⟩
instance : FOff Try.prog 181 4 4 := ⟨fun w a => by simp [Instr.fieldAt, Instr.sureAddr, fieldPlace]⟩
instance : FOff Try.prog 181 5 5 := ⟨fun w a => by simp [Instr.fieldAt, Instr.sureAddr, fieldPlace]⟩
instance : FOff Try.prog 181 6 6 := ⟨fun w a => by simp [Instr.fieldAt, Instr.sureAddr, fieldPlace]⟩
instance : FOff Try.prog 181 7 7 := ⟨fun w a => by simp [Instr.fieldAt, Instr.sureAddr, fieldPlace]⟩
instance : FOff Try.prog 181 8 8 := ⟨fun w a => by simp [Instr.fieldAt, Instr.sureAddr, fieldPlace]⟩
instance : FOff Try.prog 181 9 9 := ⟨fun w a => by simp [Instr.fieldAt, Instr.sureAddr, fieldPlace]⟩
instance : FOff Try.prog 181 10 10 := ⟨fun w a => by simp [Instr.fieldAt, Instr.sureAddr, fieldPlace]⟩
instance : BuildT Try.prog 181 [(0, 1), (1, 1), (2, 1), (3, 1), (4, 1), (5, 1), (6, 1), (7, 1), (8, 1), (9, 1), (10, 1)] [.int .u64 0, .int .u64 0, .int .u32 0, .int .u8 0, .int .u8 0, .int .u8 0, .int .u8 0, .nilFunc, .pointer none, .int .i32 0, .int .i32 0] := buildT_of Try.zeroValue181 Try.runUnderlying181 (fun w => by simp)
instance : Und Try.prog 183 (Go.TypeDesc.int (Go.IntKind.i64)) := ⟨Try.runUnderlying183, Try.underlying183⟩
instance : MkI Try.prog 183 := ⟨fun v w => by simp [Instr.makeInterface, Try.runUnderlying183]⟩
instance : AggT Try.prog 183 false 1 := ⟨Try.isAgg183, Try.sizeOf183⟩
instance : BytesT Try.prog 183 8 := ⟨fun w => ⟨_, Try.typeInfo183 w, rfl⟩⟩
instance : ZeroT Try.prog 183 (.int .i64 0) := ⟨Try.zeroValue183⟩
instance : ElemT Try.prog 183 1 8 (.int .i64 0) := ⟨⟨_, info_of_run (Try.typeInfo183 default), rfl, rfl, rfl⟩⟩
instance : MkI Try.prog 184 := ⟨fun v w => by simp [Instr.makeInterface, Try.runUnderlying184]⟩
instance : AggT Try.prog 184 true 4 := ⟨Try.isAgg184, Try.sizeOf184⟩
instance : BytesT Try.prog 184 48 := ⟨fun w => ⟨_, Try.typeInfo184 w, rfl⟩⟩
instance : ZeroT Try.prog 184 (.agg #[.int .u64 0, .int .i64 0, .int .i64 0, .slice none 0 0]) := ⟨Try.zeroValue184⟩
instance : ElemT Try.prog 184 4 48 (.agg #[.int .u64 0, .int .i64 0, .int .i64 0, .slice none 0 0]) := ⟨⟨_, info_of_run (Try.typeInfo184 default), rfl, rfl, rfl⟩⟩
instance : FOff Try.prog 184 0 0 := ⟨fun w a => by simp [Instr.fieldAt, Instr.sureAddr, fieldPlace]⟩
instance : FOff Try.prog 184 1 1 := ⟨fun w a => by simp [Instr.fieldAt, Instr.sureAddr, fieldPlace]⟩
instance : FOff Try.prog 184 2 2 := ⟨fun w a => by simp [Instr.fieldAt, Instr.sureAddr, fieldPlace]⟩
instance : FOff Try.prog 184 3 3 := ⟨fun w a => by simp [Instr.fieldAt, Instr.sureAddr, fieldPlace]⟩
instance : BuildT Try.prog 184 [(0, 1), (1, 1), (2, 1), (3, 1)] [.int .u64 0, .int .i64 0, .int .i64 0, .slice none 0 0] := buildT_of Try.zeroValue184 Try.runUnderlying184 (fun w => by simp)
instance : MkI Try.prog 185 := ⟨fun v w => by simp [Instr.makeInterface, Try.runUnderlying185]⟩
instance : AggT Try.prog 185 true 4 := ⟨Try.isAgg185, Try.sizeOf185⟩
instance : BytesT Try.prog 185 48 := ⟨fun w => ⟨_, Try.typeInfo185 w, rfl⟩⟩
instance : ZeroT Try.prog 185 (.agg #[.int .u64 0, .int .i64 0, .int .i64 0, .slice none 0 0]) := ⟨Try.zeroValue185⟩
instance : ElemT Try.prog 185 4 48 (.agg #[.int .u64 0, .int .i64 0, .int .i64 0, .slice none 0 0]) := ⟨⟨_, info_of_run (Try.typeInfo185 default), rfl, rfl, rfl⟩⟩
instance : FOff Try.prog 185 0 0 := ⟨fun w a => by simp [Instr.fieldAt, Instr.sureAddr, fieldPlace]⟩
instance : FOff Try.prog 185 1 1 := ⟨fun w a => by simp [Instr.fieldAt, Instr.sureAddr, fieldPlace]⟩
instance : FOff Try.prog 185 2 2 := ⟨fun w a => by simp [Instr.fieldAt, Instr.sureAddr, fieldPlace]⟩
instance : FOff Try.prog 185 3 3 := ⟨fun w a => by simp [Instr.fieldAt, Instr.sureAddr, fieldPlace]⟩
instance : BuildT Try.prog 185 [(0, 1), (1, 1), (2, 1), (3, 1)] [.int .u64 0, .int .i64 0, .int .i64 0, .slice none 0 0] := buildT_of Try.zeroValue185 Try.runUnderlying185 (fun w => by simp)
instance : CallT Try.prog 2 := ⟨Try.call2⟩
instance : CallT Try.prog 3 := ⟨Try.call3⟩
instance : CallT Try.prog 4 := ⟨Try.call4⟩
instance : CallT Try.prog 5 := ⟨Try.call5⟩
instance : CallT Try.prog 6 := ⟨Try.call6⟩
instance : CallT Try.prog 7 := ⟨Try.call7⟩
instance : CallT Try.prog 8 := ⟨Try.call8⟩
instance : CallT Try.prog 9 := ⟨Try.call9⟩
instance : CallT Try.prog 10 := ⟨Try.call10⟩
instance : CallT Try.prog 11 := ⟨Try.call11⟩
instance : CallT Try.prog 12 := ⟨Try.call12⟩
instance : CallT Try.prog 13 := ⟨Try.call13⟩
instance : CallT Try.prog 14 := ⟨Try.call14⟩
instance : CallT Try.prog 15 := ⟨Try.call15⟩
instance : CallT Try.prog 16 := ⟨Try.call16⟩
instance : CallT Try.prog 17 := ⟨Try.call17⟩
instance : CallT Try.prog 18 := ⟨Try.call18⟩
instance : CallT Try.prog 19 := ⟨Try.call19⟩
instance : CallT Try.prog 20 := ⟨Try.call20⟩
instance : CallT Try.prog 21 := ⟨Try.call21⟩
instance : CallT Try.prog 22 := ⟨Try.call22⟩
instance : CallT Try.prog 23 := ⟨Try.call23⟩
instance : CallT Try.prog 24 := ⟨Try.call24⟩
instance : CallT Try.prog 25 := ⟨Try.call25⟩
instance : CallT Try.prog 26 := ⟨Try.call26⟩
instance : CallT Try.prog 27 := ⟨Try.call27⟩
instance : CallT Try.prog 28 := ⟨Try.call28⟩
instance : CallT Try.prog 29 := ⟨Try.call29⟩
instance : CallT Try.prog 30 := ⟨Try.call30⟩
instance : CallT Try.prog 31 := ⟨Try.call31⟩
instance : CallT Try.prog 32 := ⟨Try.call32⟩
instance : CallT Try.prog 33 := ⟨Try.call33⟩
instance : CallT Try.prog 34 := ⟨Try.call34⟩
instance : CallT Try.prog 35 := ⟨Try.call35⟩
instance : CallT Try.prog 36 := ⟨Try.call36⟩
instance : CallT Try.prog 37 := ⟨Try.call37⟩
instance : CallT Try.prog 38 := ⟨Try.call38⟩
instance : CallT Try.prog 39 := ⟨Try.call39⟩
instance : CallT Try.prog 40 := ⟨Try.call40⟩
instance : CallT Try.prog 41 := ⟨Try.call41⟩
instance : CallT Try.prog 42 := ⟨Try.call42⟩
instance : CallT Try.prog 43 := ⟨Try.call43⟩
instance : CallT Try.prog 44 := ⟨Try.call44⟩
instance : CallT Try.prog 45 := ⟨Try.call45⟩
instance : CallT Try.prog 46 := ⟨Try.call46⟩
instance : CallT Try.prog 47 := ⟨Try.call47⟩
instance : CallT Try.prog 48 := ⟨Try.call48⟩
instance : CallT Try.prog 49 := ⟨Try.call49⟩
instance : CallT Try.prog 50 := ⟨Try.call50⟩
instance : CallT Try.prog 51 := ⟨Try.call51⟩
instance : CallT Try.prog 52 := ⟨Try.call52⟩
instance : CallT Try.prog 53 := ⟨Try.call53⟩
instance : CallT Try.prog 54 := ⟨Try.call54⟩
instance : CallT Try.prog 55 := ⟨Try.call55⟩
instance : CallT Try.prog 56 := ⟨Try.call56⟩
instance : CallT Try.prog 57 := ⟨Try.call57⟩
instance : CallT Try.prog 58 := ⟨Try.call58⟩
instance : CallT Try.prog 59 := ⟨Try.call59⟩
instance : CallT Try.prog 60 := ⟨Try.call60⟩
instance : CallT Try.prog 61 := ⟨Try.call61⟩
instance : CallT Try.prog 62 := ⟨Try.call62⟩
instance : CallT Try.prog 63 := ⟨Try.call63⟩
instance : CallT Try.prog 64 := ⟨Try.call64⟩
instance : CallT Try.prog 65 := ⟨Try.call65⟩
instance : CallT Try.prog 66 := ⟨Try.call66⟩
instance : CallT Try.prog 67 := ⟨Try.call67⟩
instance : CallT Try.prog 68 := ⟨Try.call68⟩
instance : CallT Try.prog 69 := ⟨Try.call69⟩
instance : CallT Try.prog 70 := ⟨Try.call70⟩
instance : CallT Try.prog 71 := ⟨Try.call71⟩
instance : CallT Try.prog 72 := ⟨Try.call72⟩
instance : CallT Try.prog 73 := ⟨Try.call73⟩
instance : CallT Try.prog 74 := ⟨Try.call74⟩
instance : CallT Try.prog 75 := ⟨Try.call75⟩
instance : CallT Try.prog 76 := ⟨Try.call76⟩
instance : CallT Try.prog 77 := ⟨Try.call77⟩
instance : CallT Try.prog 78 := ⟨Try.call78⟩
instance : CallT Try.prog 79 := ⟨Try.call79⟩
instance : CallT Try.prog 80 := ⟨Try.call80⟩
instance : CallT Try.prog 81 := ⟨Try.call81⟩
instance : CallT Try.prog 82 := ⟨Try.call82⟩
instance : CallT Try.prog 83 := ⟨Try.call83⟩
instance : CallT Try.prog 84 := ⟨Try.call84⟩
instance : CallT Try.prog 85 := ⟨Try.call85⟩
instance : CallT Try.prog 86 := ⟨Try.call86⟩
instance : CallT Try.prog 87 := ⟨Try.call87⟩
instance : CallT Try.prog 88 := ⟨Try.call88⟩
instance : CallT Try.prog 89 := ⟨Try.call89⟩
instance : CallT Try.prog 90 := ⟨Try.call90⟩
instance : CallT Try.prog 91 := ⟨Try.call91⟩
instance : CallT Try.prog 92 := ⟨Try.call92⟩
instance : CallT Try.prog 93 := ⟨Try.call93⟩
instance : CallT Try.prog 94 := ⟨Try.call94⟩
instance : CallT Try.prog 95 := ⟨Try.call95⟩
instance : CallT Try.prog 96 := ⟨Try.call96⟩
instance : CallT Try.prog 97 := ⟨Try.call97⟩
instance : CallT Try.prog 98 := ⟨Try.call98⟩
instance : CallT Try.prog 99 := ⟨Try.call99⟩
instance : CallT Try.prog 100 := ⟨Try.call100⟩
instance : CallT Try.prog 101 := ⟨Try.call101⟩
instance : CallT Try.prog 102 := ⟨Try.call102⟩
instance : CallT Try.prog 103 := ⟨Try.call103⟩
instance : CallT Try.prog 104 := ⟨Try.call104⟩
instance : CallT Try.prog 105 := ⟨Try.call105⟩
instance : CallT Try.prog 106 := ⟨Try.call106⟩
instance : CallT Try.prog 107 := ⟨Try.call107⟩
instance : CallT Try.prog 108 := ⟨Try.call108⟩
instance : CallT Try.prog 109 := ⟨Try.call109⟩
instance : CallT Try.prog 110 := ⟨Try.call110⟩
instance : CallT Try.prog 111 := ⟨Try.call111⟩
instance : CallT Try.prog 112 := ⟨Try.call112⟩
instance : CallT Try.prog 113 := ⟨Try.call113⟩
instance : CallT Try.prog 114 := ⟨Try.call114⟩
instance : CallT Try.prog 115 := ⟨Try.call115⟩
instance : CallT Try.prog 116 := ⟨Try.call116⟩
instance : CallT Try.prog 117 := ⟨Try.call117⟩
instance : CallT Try.prog 118 := ⟨Try.call118⟩
instance : CallT Try.prog 119 := ⟨Try.call119⟩
instance : CallT Try.prog 120 := ⟨Try.call120⟩
instance : CallT Try.prog 121 := ⟨Try.call121⟩
instance : CallT Try.prog 122 := ⟨Try.call122⟩
instance : CallT Try.prog 140 := ⟨Try.call140⟩
instance : CallT Try.prog 141 := ⟨Try.call141⟩
instance : CallT Try.prog 142 := ⟨Try.call142⟩
end Go.Proofs.Ytapgejjjgeiihaa
