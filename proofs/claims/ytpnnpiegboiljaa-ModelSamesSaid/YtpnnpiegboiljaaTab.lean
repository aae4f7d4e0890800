/- The tables of this seat's program, as the walks look them up. Printed by wip/tools/Dump.lean. -/
import Derived.Test.YtpnnpiegboiljaaEng9
import Derived.Test.YtpnnpiegboiljaaProg
import Derived.KernelRfl
namespace Go.Proofs.Ytpnnpiegboiljaa
open Go Go.Sl
instance : Und Try.prog 0 (Go.TypeDesc.tuple #[]) := ⟨Try.runUnderlying0, Try.underlying0⟩
instance : AggT Try.prog 0 false 1 := ⟨Try.isAgg0, Try.sizeOf0⟩
instance : BytesT Try.prog 0 0 := ⟨fun w => ⟨_, Try.typeInfo0 w, rfl⟩⟩
instance : Und Try.prog 1 (Go.TypeDesc.func #[] #[] false) := ⟨Try.runUnderlying1, Try.underlying1⟩
instance : AggT Try.prog 1 false 1 := ⟨Try.isAgg1, Try.sizeOf1⟩
instance : BytesT Try.prog 1 8 := ⟨fun w => ⟨_, Try.typeInfo1 w, rfl⟩⟩
instance : ZeroT Try.prog 1 (.nilFunc) := ⟨Try.zeroValue1⟩
instance : ElemT Try.prog 1 1 8 (.nilFunc) := ⟨⟨_, info_of_run (Try.typeInfo1 default), rfl, rfl, rfl⟩⟩
instance : Und Try.prog 2 (Go.TypeDesc.int (Go.IntKind.i64)) := ⟨Try.runUnderlying2, Try.underlying2⟩
instance : AggT Try.prog 2 false 1 := ⟨Try.isAgg2, Try.sizeOf2⟩
instance : BytesT Try.prog 2 8 := ⟨fun w => ⟨_, Try.typeInfo2 w, rfl⟩⟩
instance : ZeroT Try.prog 2 (.int .i64 0) := ⟨Try.zeroValue2⟩
instance : ElemT Try.prog 2 1 8 (.int .i64 0) := ⟨⟨_, info_of_run (Try.typeInfo2 default), rfl, rfl, rfl⟩⟩
instance : Und Try.prog 3 (Go.TypeDesc.int (Go.IntKind.i64)) := ⟨Try.runUnderlying3, Try.underlying3⟩
instance : AggT Try.prog 3 false 1 := ⟨Try.isAgg3, Try.sizeOf3⟩
instance : BytesT Try.prog 3 8 := ⟨fun w => ⟨_, Try.typeInfo3 w, rfl⟩⟩
instance : ZeroT Try.prog 3 (.int .i64 0) := ⟨Try.zeroValue3⟩
instance : ElemT Try.prog 3 1 8 (.int .i64 0) := ⟨⟨_, info_of_run (Try.typeInfo3 default), rfl, rfl, rfl⟩⟩
instance : Und Try.prog 4 (Go.TypeDesc.bool) := ⟨Try.runUnderlying4, Try.underlying4⟩
instance : AggT Try.prog 4 false 1 := ⟨Try.isAgg4, Try.sizeOf4⟩
instance : BytesT Try.prog 4 1 := ⟨fun w => ⟨_, Try.typeInfo4 w, rfl⟩⟩
instance : ZeroT Try.prog 4 (.bool false) := ⟨Try.zeroValue4⟩
instance : ElemT Try.prog 4 1 1 (.bool false) := ⟨⟨_, info_of_run (Try.typeInfo4 default), rfl, rfl, rfl⟩⟩
instance : Und Try.prog 5 (Go.TypeDesc.int (Go.IntKind.u8)) := ⟨Try.runUnderlying5, Try.underlying5⟩
instance : AggT Try.prog 5 false 1 := ⟨Try.isAgg5, Try.sizeOf5⟩
instance : BytesT Try.prog 5 1 := ⟨fun w => ⟨_, Try.typeInfo5 w, rfl⟩⟩
instance : ZeroT Try.prog 5 (.int .u8 0) := ⟨Try.zeroValue5⟩
instance : ElemT Try.prog 5 1 1 (.int .u8 0) := ⟨⟨_, info_of_run (Try.typeInfo5 default), rfl, rfl, rfl⟩⟩
instance : AggT Try.prog 7 true 4 := ⟨Try.isAgg7, Try.sizeOf7⟩
instance : BytesT Try.prog 7 24 := ⟨fun w => ⟨_, Try.typeInfo7 w, rfl⟩⟩
instance : ZeroT Try.prog 7 (.agg #[.int .i64 0, .int .i64 0, .bool false, .int .u8 0]) := ⟨Try.zeroValue7⟩
instance : ElemT Try.prog 7 4 24 (.agg #[.int .i64 0, .int .i64 0, .bool false, .int .u8 0]) := ⟨⟨_, info_of_run (Try.typeInfo7 default), rfl, rfl, rfl⟩⟩
instance : FOff Try.prog 7 0 0 := ⟨fun w a => by simp [Instr.fieldAt, Instr.sureAddr, fieldPlace]⟩
instance : FOff Try.prog 7 1 1 := ⟨fun w a => by simp [Instr.fieldAt, Instr.sureAddr, fieldPlace]⟩
instance : FOff Try.prog 7 2 2 := ⟨fun w a => by simp [Instr.fieldAt, Instr.sureAddr, fieldPlace]⟩
instance : FOff Try.prog 7 3 3 := ⟨fun w a => by simp [Instr.fieldAt, Instr.sureAddr, fieldPlace]⟩
instance : BuildT Try.prog 7 [(0, 1), (1, 1), (2, 1), (3, 1)] [.int .i64 0, .int .i64 0, .bool false, .int .u8 0] := buildT_of Try.zeroValue7 Try.runUnderlying7 (fun w => by simp)
instance : Und Try.prog 9 (Go.TypeDesc.string) := ⟨Try.runUnderlying9, Try.underlying9⟩
instance : AggT Try.prog 9 false 1 := ⟨Try.isAgg9, Try.sizeOf9⟩
instance : BytesT Try.prog 9 16 := ⟨fun w => ⟨_, Try.typeInfo9 w, rfl⟩⟩
instance : ZeroT Try.prog 9 (.string ⟨#[]⟩) := ⟨Try.zeroValue9⟩
instance : ElemT Try.prog 9 1 16 (.string ⟨#[]⟩) := ⟨⟨_, info_of_run (Try.typeInfo9 default), rfl, rfl, rfl⟩⟩
instance : Und Try.prog 12 (Go.TypeDesc.int (Go.IntKind.u64)) := ⟨Try.runUnderlying12, Try.underlying12⟩
instance : AggT Try.prog 12 false 1 := ⟨Try.isAgg12, Try.sizeOf12⟩
instance : BytesT Try.prog 12 8 := ⟨fun w => ⟨_, Try.typeInfo12 w, rfl⟩⟩
instance : ZeroT Try.prog 12 (.int .u64 0) := ⟨Try.zeroValue12⟩
instance : ElemT Try.prog 12 1 8 (.int .u64 0) := ⟨⟨_, info_of_run (Try.typeInfo12 default), rfl, rfl, rfl⟩⟩
instance : AggT Try.prog 13 true 2 := ⟨Try.isAgg13, Try.sizeOf13⟩
instance : BytesT Try.prog 13 24 := ⟨fun w => ⟨_, Try.typeInfo13 w, rfl⟩⟩
instance : ZeroT Try.prog 13 (.agg #[.string ⟨#[]⟩, .int .u64 0]) := ⟨Try.zeroValue13⟩
instance : ElemT Try.prog 13 2 24 (.agg #[.string ⟨#[]⟩, .int .u64 0]) := ⟨⟨_, info_of_run (Try.typeInfo13 default), rfl, rfl, rfl⟩⟩
instance : FOff Try.prog 13 0 0 := ⟨fun w a => by simp [Instr.fieldAt, Instr.sureAddr, fieldPlace]⟩
instance : FOff Try.prog 13 1 1 := ⟨fun w a => by simp [Instr.fieldAt, Instr.sureAddr, fieldPlace]⟩
instance : BuildT Try.prog 13 [(0, 1), (1, 1)] [.string ⟨#[]⟩, .int .u64 0] := buildT_of Try.zeroValue13 Try.runUnderlying13 (fun w => by simp)
instance : AggT Try.prog 18 true 1 := ⟨Try.isAgg18, Try.sizeOf18⟩
instance : BytesT Try.prog 18 8 := ⟨fun w => ⟨_, Try.typeInfo18 w, rfl⟩⟩
instance : ZeroT Try.prog 18 (.agg #[.pointer none]) := ⟨Try.zeroValue18⟩
instance : ElemT Try.prog 18 1 8 (.agg #[.pointer none]) := ⟨⟨_, info_of_run (Try.typeInfo18 default), rfl, rfl, rfl⟩⟩
instance : FOff Try.prog 18 0 0 := ⟨fun w a => by simp [Instr.fieldAt, Instr.sureAddr, fieldPlace]⟩
instance : BuildT Try.prog 18 [(0, 1)] [.pointer none] := buildT_of Try.zeroValue18 Try.runUnderlying18 (fun w => by simp)
instance : Und Try.prog 20 (Go.TypeDesc.interface #[]) := ⟨Try.runUnderlying20, Try.underlying20⟩
instance : AggT Try.prog 20 false 1 := ⟨Try.isAgg20, Try.sizeOf20⟩
instance : BytesT Try.prog 20 16 := ⟨fun w => ⟨_, Try.typeInfo20 w, rfl⟩⟩
instance : ZeroT Try.prog 20 (.nilIface) := ⟨Try.zeroValue20⟩
instance : ElemT Try.prog 20 1 16 (.nilIface) := ⟨⟨_, info_of_run (Try.typeInfo20 default), rfl, rfl, rfl⟩⟩
instance : Und Try.prog 21 (Go.TypeDesc.int (Go.IntKind.i32)) := ⟨Try.runUnderlying21, Try.underlying21⟩
instance : AggT Try.prog 21 false 1 := ⟨Try.isAgg21, Try.sizeOf21⟩
instance : BytesT Try.prog 21 4 := ⟨fun w => ⟨_, Try.typeInfo21 w, rfl⟩⟩
instance : ZeroT Try.prog 21 (.int .i32 0) := ⟨Try.zeroValue21⟩
instance : ElemT Try.prog 21 1 4 (.int .i32 0) := ⟨⟨_, info_of_run (Try.typeInfo21 default), rfl, rfl, rfl⟩⟩
instance : Und Try.prog 22 (Go.TypeDesc.slice 30) := ⟨Try.runUnderlying22, Try.underlying22⟩
instance : AggT Try.prog 22 false 1 := ⟨Try.isAgg22, Try.sizeOf22⟩
instance : BytesT Try.prog 22 24 := ⟨fun w => ⟨_, Try.typeInfo22 w, rfl⟩⟩
instance : ZeroT Try.prog 22 (.slice none 0 0) := ⟨Try.zeroValue22⟩
instance : ElemT Try.prog 22 1 24 (.slice none 0 0) := ⟨⟨_, info_of_run (Try.typeInfo22 default), rfl, rfl, rfl⟩⟩
instance : Und Try.prog 23 (Go.TypeDesc.func #[] #[4] false) := ⟨Try.runUnderlying23, Try.underlying23⟩
instance : AggT Try.prog 23 false 1 := ⟨Try.isAgg23, Try.sizeOf23⟩
instance : BytesT Try.prog 23 8 := ⟨fun w => ⟨_, Try.typeInfo23 w, rfl⟩⟩
instance : ZeroT Try.prog 23 (.nilFunc) := ⟨Try.zeroValue23⟩
instance : ElemT Try.prog 23 1 8 (.nilFunc) := ⟨⟨_, info_of_run (Try.typeInfo23 default), rfl, rfl, rfl⟩⟩
instance : Und Try.prog 24 (Go.TypeDesc.pointer 44) := ⟨Try.runUnderlying24, Try.underlying24⟩
instance : AggT Try.prog 24 false 1 := ⟨Try.isAgg24, Try.sizeOf24⟩
instance : BytesT Try.prog 24 8 := ⟨fun w => ⟨_, Try.typeInfo24 w, rfl⟩⟩
instance : ZeroT Try.prog 24 (.pointer none) := ⟨Try.zeroValue24⟩
instance : ElemT Try.prog 24 1 8 (.pointer none) := ⟨⟨_, info_of_run (Try.typeInfo24 default), rfl, rfl, rfl⟩⟩
instance : Und Try.prog 25 (Go.TypeDesc.func #[3, 3] #[24] false) := ⟨Try.runUnderlying25, Try.underlying25⟩
instance : AggT Try.prog 25 false 1 := ⟨Try.isAgg25, Try.sizeOf25⟩
instance : BytesT Try.prog 25 8 := ⟨fun w => ⟨_, Try.typeInfo25 w, rfl⟩⟩
instance : ZeroT Try.prog 25 (.nilFunc) := ⟨Try.zeroValue25⟩
instance : ElemT Try.prog 25 1 8 (.nilFunc) := ⟨⟨_, info_of_run (Try.typeInfo25 default), rfl, rfl, rfl⟩⟩
instance : Und Try.prog 26 (Go.TypeDesc.map 3 28) := ⟨Try.runUnderlying26, Try.underlying26⟩
instance : MapT Try.prog 26 3 28 := ⟨Try.runUnderlying26, Try.runUnderlying3⟩
instance : AggT Try.prog 26 false 1 := ⟨Try.isAgg26, Try.sizeOf26⟩
instance : BytesT Try.prog 26 8 := ⟨fun w => ⟨_, Try.typeInfo26 w, rfl⟩⟩
instance : ZeroT Try.prog 26 (.map none) := ⟨Try.zeroValue26⟩
instance : ElemT Try.prog 26 1 8 (.map none) := ⟨⟨_, info_of_run (Try.typeInfo26 default), rfl, rfl, rfl⟩⟩
instance : Und Try.prog 27 (Go.TypeDesc.int (Go.IntKind.i8)) := ⟨Try.runUnderlying27, Try.underlying27⟩
instance : AggT Try.prog 27 false 1 := ⟨Try.isAgg27, Try.sizeOf27⟩
instance : BytesT Try.prog 27 1 := ⟨fun w => ⟨_, Try.typeInfo27 w, rfl⟩⟩
instance : ZeroT Try.prog 27 (.int .i8 0) := ⟨Try.zeroValue27⟩
instance : ElemT Try.prog 27 1 1 (.int .i8 0) := ⟨⟨_, info_of_run (Try.typeInfo27 default), rfl, rfl, rfl⟩⟩
instance : Und Try.prog 28 (Go.TypeDesc.slice 5) := ⟨Try.runUnderlying28, Try.underlying28⟩
instance : AggT Try.prog 28 false 1 := ⟨Try.isAgg28, Try.sizeOf28⟩
instance : BytesT Try.prog 28 24 := ⟨fun w => ⟨_, Try.typeInfo28 w, rfl⟩⟩
instance : ZeroT Try.prog 28 (.slice none 0 0) := ⟨Try.zeroValue28⟩
instance : ElemT Try.prog 28 1 24 (.slice none 0 0) := ⟨⟨_, info_of_run (Try.typeInfo28 default), rfl, rfl, rfl⟩⟩
instance : AggT Try.prog 29 true 3 := ⟨Try.isAgg29, Try.sizeOf29⟩
instance : BytesT Try.prog 29 32 := ⟨fun w => ⟨_, Try.typeInfo29 w, rfl⟩⟩
instance : ZeroT Try.prog 29 (.agg #[.bool false, .int .i8 0, .slice none 0 0]) := ⟨Try.zeroValue29⟩
instance : ElemT Try.prog 29 3 32 (.agg #[.bool false, .int .i8 0, .slice none 0 0]) := ⟨⟨_, info_of_run (Try.typeInfo29 default), rfl, rfl, rfl⟩⟩
instance : FOff Try.prog 29 0 0 := ⟨fun w a => by simp [Instr.fieldAt, Instr.sureAddr, fieldPlace]⟩
instance : FOff Try.prog 29 1 1 := ⟨fun w a => by simp [Instr.fieldAt, Instr.sureAddr, fieldPlace]⟩
instance : FOff Try.prog 29 2 2 := ⟨fun w a => by simp [Instr.fieldAt, Instr.sureAddr, fieldPlace]⟩
instance : BuildT Try.prog 29 [(0, 1), (1, 1), (2, 1)] [.bool false, .int .i8 0, .slice none 0 0] := buildT_of Try.zeroValue29 Try.runUnderlying29 (fun w => by simp)
instance : AggT Try.prog 30 true 3 := ⟨Try.isAgg30, Try.sizeOf30⟩
instance : BytesT Try.prog 30 32 := ⟨fun w => ⟨_, Try.typeInfo30 w, rfl⟩⟩
instance : ZeroT Try.prog 30 (.agg #[.bool false, .int .i8 0, .slice none 0 0]) := ⟨Try.zeroValue30⟩
instance : ElemT Try.prog 30 3 32 (.agg #[.bool false, .int .i8 0, .slice none 0 0]) := ⟨⟨_, info_of_run (Try.typeInfo30 default), rfl, rfl, rfl⟩⟩
instance : FOff Try.prog 30 0 0 := ⟨fun w a => by simp [Instr.fieldAt, Instr.sureAddr, fieldPlace]⟩
instance : FOff Try.prog 30 1 1 := ⟨fun w a => by simp [Instr.fieldAt, Instr.sureAddr, fieldPlace]⟩
instance : FOff Try.prog 30 2 2 := ⟨fun w a => by simp [Instr.fieldAt, Instr.sureAddr, fieldPlace]⟩
instance : BuildT Try.prog 30 [(0, 1), (1, 1), (2, 1)] [.bool false, .int .i8 0, .slice none 0 0] := buildT_of Try.zeroValue30 Try.runUnderlying30 (fun w => by simp)
instance : Und Try.prog 31 (Go.TypeDesc.func #[3] #[4] false) := ⟨Try.runUnderlying31, Try.underlying31⟩
instance : AggT Try.prog 31 false 1 := ⟨Try.isAgg31, Try.sizeOf31⟩
instance : BytesT Try.prog 31 8 := ⟨fun w => ⟨_, Try.typeInfo31 w, rfl⟩⟩
instance : ZeroT Try.prog 31 (.nilFunc) := ⟨Try.zeroValue31⟩
instance : ElemT Try.prog 31 1 8 (.nilFunc) := ⟨⟨_, info_of_run (Try.typeInfo31 default), rfl, rfl, rfl⟩⟩
instance : Und Try.prog 32 (Go.TypeDesc.func #[3, 28] #[4] false) := ⟨Try.runUnderlying32, Try.underlying32⟩
instance : AggT Try.prog 32 false 1 := ⟨Try.isAgg32, Try.sizeOf32⟩
instance : BytesT Try.prog 32 8 := ⟨fun w => ⟨_, Try.typeInfo32 w, rfl⟩⟩
instance : ZeroT Try.prog 32 (.nilFunc) := ⟨Try.zeroValue32⟩
instance : ElemT Try.prog 32 1 8 (.nilFunc) := ⟨⟨_, info_of_run (Try.typeInfo32 default), rfl, rfl, rfl⟩⟩
instance : Und Try.prog 33 (Go.TypeDesc.func #[28, 28] #[4] false) := ⟨Try.runUnderlying33, Try.underlying33⟩
instance : AggT Try.prog 33 false 1 := ⟨Try.isAgg33, Try.sizeOf33⟩
instance : BytesT Try.prog 33 8 := ⟨fun w => ⟨_, Try.typeInfo33 w, rfl⟩⟩
instance : ZeroT Try.prog 33 (.nilFunc) := ⟨Try.zeroValue33⟩
instance : ElemT Try.prog 33 1 8 (.nilFunc) := ⟨⟨_, info_of_run (Try.typeInfo33 default), rfl, rfl, rfl⟩⟩
instance : Und Try.prog 34 (Go.TypeDesc.func #[3] #[28] false) := ⟨Try.runUnderlying34, Try.underlying34⟩
instance : AggT Try.prog 34 false 1 := ⟨Try.isAgg34, Try.sizeOf34⟩
instance : BytesT Try.prog 34 8 := ⟨fun w => ⟨_, Try.typeInfo34 w, rfl⟩⟩
instance : ZeroT Try.prog 34 (.nilFunc) := ⟨Try.zeroValue34⟩
instance : ElemT Try.prog 34 1 8 (.nilFunc) := ⟨⟨_, info_of_run (Try.typeInfo34 default), rfl, rfl, rfl⟩⟩
instance : Und Try.prog 35 (Go.TypeDesc.func #[] #[3] false) := ⟨Try.runUnderlying35, Try.underlying35⟩
instance : AggT Try.prog 35 false 1 := ⟨Try.isAgg35, Try.sizeOf35⟩
instance : BytesT Try.prog 35 8 := ⟨fun w => ⟨_, Try.typeInfo35 w, rfl⟩⟩
instance : ZeroT Try.prog 35 (.nilFunc) := ⟨Try.zeroValue35⟩
instance : ElemT Try.prog 35 1 8 (.nilFunc) := ⟨⟨_, info_of_run (Try.typeInfo35 default), rfl, rfl, rfl⟩⟩
instance : Und Try.prog 36 (Go.TypeDesc.func #[5, 5, 22] #[4] false) := ⟨Try.runUnderlying36, Try.underlying36⟩
instance : AggT Try.prog 36 false 1 := ⟨Try.isAgg36, Try.sizeOf36⟩
instance : BytesT Try.prog 36 8 := ⟨fun w => ⟨_, Try.typeInfo36 w, rfl⟩⟩
instance : ZeroT Try.prog 36 (.nilFunc) := ⟨Try.zeroValue36⟩
instance : ElemT Try.prog 36 1 8 (.nilFunc) := ⟨⟨_, info_of_run (Try.typeInfo36 default), rfl, rfl, rfl⟩⟩
instance : Und Try.prog 37 (Go.TypeDesc.func #[28] #[28] false) := ⟨Try.runUnderlying37, Try.underlying37⟩
instance : AggT Try.prog 37 false 1 := ⟨Try.isAgg37, Try.sizeOf37⟩
instance : BytesT Try.prog 37 8 := ⟨fun w => ⟨_, Try.typeInfo37 w, rfl⟩⟩
instance : ZeroT Try.prog 37 (.nilFunc) := ⟨Try.zeroValue37⟩
instance : ElemT Try.prog 37 1 8 (.nilFunc) := ⟨⟨_, info_of_run (Try.typeInfo37 default), rfl, rfl, rfl⟩⟩
instance : Und Try.prog 38 (Go.TypeDesc.func #[28, 5] #[4] false) := ⟨Try.runUnderlying38, Try.underlying38⟩
instance : AggT Try.prog 38 false 1 := ⟨Try.isAgg38, Try.sizeOf38⟩
instance : BytesT Try.prog 38 8 := ⟨fun w => ⟨_, Try.typeInfo38 w, rfl⟩⟩
instance : ZeroT Try.prog 38 (.nilFunc) := ⟨Try.zeroValue38⟩
instance : ElemT Try.prog 38 1 8 (.nilFunc) := ⟨⟨_, info_of_run (Try.typeInfo38 default), rfl, rfl, rfl⟩⟩
instance : Und Try.prog 39 (Go.TypeDesc.func #[24, 22] #[] false) := ⟨Try.runUnderlying39, Try.underlying39⟩
instance : AggT Try.prog 39 false 1 := ⟨Try.isAgg39, Try.sizeOf39⟩
instance : BytesT Try.prog 39 8 := ⟨fun w => ⟨_, Try.typeInfo39 w, rfl⟩⟩
instance : ZeroT Try.prog 39 (.nilFunc) := ⟨Try.zeroValue39⟩
instance : ElemT Try.prog 39 1 8 (.nilFunc) := ⟨⟨_, info_of_run (Try.typeInfo39 default), rfl, rfl, rfl⟩⟩
instance : Und Try.prog 40 (Go.TypeDesc.func #[] #[24] false) := ⟨Try.runUnderlying40, Try.underlying40⟩
instance : AggT Try.prog 40 false 1 := ⟨Try.isAgg40, Try.sizeOf40⟩
instance : BytesT Try.prog 40 8 := ⟨fun w => ⟨_, Try.typeInfo40 w, rfl⟩⟩
instance : ZeroT Try.prog 40 (.nilFunc) := ⟨Try.zeroValue40⟩
instance : ElemT Try.prog 40 1 8 (.nilFunc) := ⟨⟨_, info_of_run (Try.typeInfo40 default), rfl, rfl, rfl⟩⟩
instance : Und Try.prog 41 (Go.TypeDesc.func #[24, 24] #[4] false) := ⟨Try.runUnderlying41, Try.underlying41⟩
instance : AggT Try.prog 41 false 1 := ⟨Try.isAgg41, Try.sizeOf41⟩
instance : BytesT Try.prog 41 8 := ⟨fun w => ⟨_, Try.typeInfo41 w, rfl⟩⟩
instance : ZeroT Try.prog 41 (.nilFunc) := ⟨Try.zeroValue41⟩
instance : ElemT Try.prog 41 1 8 (.nilFunc) := ⟨⟨_, info_of_run (Try.typeInfo41 default), rfl, rfl, rfl⟩⟩
instance : Und Try.prog 42 (Go.TypeDesc.func #[5, 5, 22, 22] #[4] false) := ⟨Try.runUnderlying42, Try.underlying42⟩
instance : AggT Try.prog 42 false 1 := ⟨Try.isAgg42, Try.sizeOf42⟩
instance : BytesT Try.prog 42 8 := ⟨fun w => ⟨_, Try.typeInfo42 w, rfl⟩⟩
instance : ZeroT Try.prog 42 (.nilFunc) := ⟨Try.zeroValue42⟩
instance : ElemT Try.prog 42 1 8 (.nilFunc) := ⟨⟨_, info_of_run (Try.typeInfo42 default), rfl, rfl, rfl⟩⟩
instance : AggT Try.prog 43 true 3 := ⟨Try.isAgg43, Try.sizeOf43⟩
instance : BytesT Try.prog 43 24 := ⟨fun w => ⟨_, Try.typeInfo43 w, rfl⟩⟩
instance : ZeroT Try.prog 43 (.agg #[.int .i64 0, .int .i64 0, .map none]) := ⟨Try.zeroValue43⟩
instance : ElemT Try.prog 43 3 24 (.agg #[.int .i64 0, .int .i64 0, .map none]) := ⟨⟨_, info_of_run (Try.typeInfo43 default), rfl, rfl, rfl⟩⟩
instance : FOff Try.prog 43 0 0 := ⟨fun w a => by simp [Instr.fieldAt, Instr.sureAddr, fieldPlace]⟩
instance : FOff Try.prog 43 1 1 := ⟨fun w a => by simp [Instr.fieldAt, Instr.sureAddr, fieldPlace]⟩
instance : FOff Try.prog 43 2 2 := ⟨fun w a => by simp [Instr.fieldAt, Instr.sureAddr, fieldPlace]⟩
instance : BuildT Try.prog 43 [(0, 1), (1, 1), (2, 1)] [.int .i64 0, .int .i64 0, .map none] := buildT_of Try.zeroValue43 Try.runUnderlying43 (fun w => by simp)
instance : AggT Try.prog 44 true 3 := ⟨Try.isAgg44, Try.sizeOf44⟩
instance : BytesT Try.prog 44 24 := ⟨fun w => ⟨_, Try.typeInfo44 w, rfl⟩⟩
instance : ZeroT Try.prog 44 (.agg #[.int .i64 0, .int .i64 0, .map none]) := ⟨Try.zeroValue44⟩
instance : ElemT Try.prog 44 3 24 (.agg #[.int .i64 0, .int .i64 0, .map none]) := ⟨⟨_, info_of_run (Try.typeInfo44 default), rfl, rfl, rfl⟩⟩
instance : FOff Try.prog 44 0 0 := ⟨fun w a => by simp [Instr.fieldAt, Instr.sureAddr, fieldPlace]⟩
instance : FOff Try.prog 44 1 1 := ⟨fun w a => by simp [Instr.fieldAt, Instr.sureAddr, fieldPlace]⟩
instance : FOff Try.prog 44 2 2 := ⟨fun w a => by simp [Instr.fieldAt, Instr.sureAddr, fieldPlace]⟩
instance : BuildT Try.prog 44 [(0, 1), (1, 1), (2, 1)] [.int .i64 0, .int .i64 0, .map none] := buildT_of Try.zeroValue44 Try.runUnderlying44 (fun w => by simp)
instance : Und Try.prog 45 (Go.TypeDesc.tuple #[28, 4]) := ⟨Try.runUnderlying45, Try.underlying45⟩
instance : AggT Try.prog 45 false 1 := ⟨Try.isAgg45, Try.sizeOf45⟩
instance : BytesT Try.prog 45 0 := ⟨fun w => ⟨_, Try.typeInfo45 w, rfl⟩⟩
instance : Und Try.prog 46 (Go.TypeDesc.func #[] #[9] false) := ⟨Try.runUnderlying46, Try.underlying46⟩
instance : AggT Try.prog 46 false 1 := ⟨Try.isAgg46, Try.sizeOf46⟩
instance : BytesT Try.prog 46 8 := ⟨fun w => ⟨_, Try.typeInfo46 w, rfl⟩⟩
instance : ZeroT Try.prog 46 (.nilFunc) := ⟨Try.zeroValue46⟩
instance : ElemT Try.prog 46 1 8 (.nilFunc) := ⟨⟨_, info_of_run (Try.typeInfo46 default), rfl, rfl, rfl⟩⟩
instance : AggT Try.prog 47 true 4 := ⟨Try.isAgg47, Try.sizeOf47⟩
instance : BytesT Try.prog 47 40 := ⟨fun w => ⟨_, Try.typeInfo47 w, rfl⟩⟩
instance : ZeroT Try.prog 47 (.agg #[.pointer none, .pointer none, .pointer none, .string ⟨#[]⟩]) := ⟨Try.zeroValue47⟩
instance : ElemT Try.prog 47 4 40 (.agg #[.pointer none, .pointer none, .pointer none, .string ⟨#[]⟩]) := ⟨⟨_, info_of_run (Try.typeInfo47 default), rfl, rfl, rfl⟩⟩
instance : FOff Try.prog 47 0 0 := ⟨fun w a => by simp [Instr.fieldAt, Instr.sureAddr, fieldPlace]⟩
instance : FOff Try.prog 47 1 1 := ⟨fun w a => by simp [Instr.fieldAt, Instr.sureAddr, fieldPlace]⟩
instance : FOff Try.prog 47 2 2 := ⟨fun w a => by simp [Instr.fieldAt, Instr.sureAddr, fieldPlace]⟩
instance : FOff Try.prog 47 3 3 := ⟨fun w a => by simp [Instr.fieldAt, Instr.sureAddr, fieldPlace]⟩
instance : BuildT Try.prog 47 [(0, 1), (1, 1), (2, 1), (3, 1)] [.pointer none, .pointer none, .pointer none, .string ⟨#[]⟩] := buildT_of Try.zeroValue47 Try.runUnderlying47 (fun w => by simp)
instance : Und Try.prog 49 (Go.TypeDesc.array 0 16) := ⟨Try.runUnderlying49, Try.underlying49⟩
instance : AggT Try.prog 49 true 0 := ⟨Try.isAgg49, Try.sizeOf49⟩
instance : BytesT Try.prog 49 0 := ⟨fun w => ⟨_, Try.typeInfo49 w, rfl⟩⟩
instance : ZeroT Try.prog 49 (.agg #[]) := ⟨Try.zeroValue49⟩
instance : ElemT Try.prog 49 0 0 (.agg #[]) := ⟨⟨_, info_of_run (Try.typeInfo49 default), rfl, rfl, rfl⟩⟩
instance : AggT Try.prog 50 true 0 := ⟨Try.isAgg50, Try.sizeOf50⟩
instance : BytesT Try.prog 50 0 := ⟨fun w => ⟨_, Try.typeInfo50 w, rfl⟩⟩
instance : ZeroT Try.prog 50 (.agg #[]) := ⟨Try.zeroValue50⟩
instance : ElemT Try.prog 50 0 0 (.agg #[]) := ⟨⟨_, info_of_run (Try.typeInfo50 default), rfl, rfl, rfl⟩⟩
instance : Und Try.prog 52 (Go.TypeDesc.int (Go.IntKind.u32)) := ⟨Try.runUnderlying52, Try.underlying52⟩
instance : AggT Try.prog 52 false 1 := ⟨Try.isAgg52, Try.sizeOf52⟩
instance : BytesT Try.prog 52 4 := ⟨fun w => ⟨_, Try.typeInfo52 w, rfl⟩⟩
instance : ZeroT Try.prog 52 (.int .u32 0) := ⟨Try.zeroValue52⟩
instance : ElemT Try.prog 52 1 4 (.int .u32 0) := ⟨⟨_, info_of_run (Try.typeInfo52 default), rfl, rfl, rfl⟩⟩
instance : Und Try.prog 55 (Go.TypeDesc.func #[61, 61] #[4] false) := ⟨Try.runUnderlying55, Try.underlying55⟩
instance : AggT Try.prog 55 false 1 := ⟨Try.isAgg55, Try.sizeOf55⟩
instance : BytesT Try.prog 55 8 := ⟨fun w => ⟨_, Try.typeInfo55 w, rfl⟩⟩
instance : ZeroT Try.prog 55 (.nilFunc) := ⟨Try.zeroValue55⟩
instance : ElemT Try.prog 55 1 8 (.nilFunc) := ⟨⟨_, info_of_run (Try.typeInfo55 default), rfl, rfl, rfl⟩⟩
instance : Und Try.prog 56 (Go.TypeDesc.pointer 5) := ⟨Try.runUnderlying56, Try.underlying56⟩
instance : AggT Try.prog 56 false 1 := ⟨Try.isAgg56, Try.sizeOf56⟩
instance : BytesT Try.prog 56 8 := ⟨fun w => ⟨_, Try.typeInfo56 w, rfl⟩⟩
instance : ZeroT Try.prog 56 (.pointer none) := ⟨Try.zeroValue56⟩
instance : ElemT Try.prog 56 1 8 (.pointer none) := ⟨⟨_, info_of_run (Try.typeInfo56 default), rfl, rfl, rfl⟩⟩
instance : AggT Try.prog 59 true 11 := ⟨Try.isAgg59, Try.sizeOf59⟩
instance : BytesT Try.prog 59 48 := ⟨fun w => ⟨_, Try.typeInfo59 w, rfl⟩⟩
instance : ZeroT Try.prog 59 (.agg #[.int .u64 0, .int .u64 0, .int .u32 0, .int .u8 0, .int .u8 0, .int .u8 0, .int .u8 0, .nilFunc, .pointer none, .int .i32 0, .int .i32 0]) := ⟨Try.zeroValue59⟩
instance : ElemT Try.prog 59 11 48 (.agg #[.int .u64 0, .int .u64 0, .int .u32 0, .int .u8 0, .int .u8 0, .int .u8 0, .int .u8 0, .nilFunc, .pointer none, .int .i32 0, .int .i32 0]) := ⟨⟨_, info_of_run (Try.typeInfo59 default), rfl, rfl, rfl⟩⟩
instance : FOff Try.prog 59 0 0 := ⟨fun w a => by simp [Instr.fieldAt, Instr.sureAddr, fieldPlace]⟩
instance : FOff Try.prog 59 1 1 := ⟨fun w a => by simp [Instr.fieldAt, Instr.sureAddr, fieldPlace]⟩
instance : FOff Try.prog 59 2 2 := ⟨fun w a => by simp [Instr.fieldAt, Instr.sureAddr, fieldPlace]⟩
instance : FOff Try.prog 59 3 3 := ⟨fun w a => by simp [Instr.fieldAt, Instr.sureAddr, fieldPlace]⟩
instance : FOff Try.prog 59 4 4 := ⟨fun w a => by simp [Instr.fieldAt, Instr.sureAddr, fieldPlace]⟩
instance : FOff Try.prog 59 5 5 := ⟨fun w a => by simp [Instr.fieldAt, Instr.sureAddr, fieldPlace]⟩
instance : FOff Try.prog 59 6 6 := ⟨fun w a => by simp [Instr.fieldAt, Instr.sureAddr, fieldPlace]⟩
instance : FOff Try.prog 59 7 7 := ⟨fun w a => by simp [Instr.fieldAt, Instr.sureAddr, fieldPlace]⟩
instance : FOff Try.prog 59 8 8 := ⟨fun w a => by simp [Instr.fieldAt, Instr.sureAddr, fieldPlace]⟩
instance : FOff Try.prog 59 9 9 := ⟨fun w a => by simp [Instr.fieldAt, Instr.sureAddr, fieldPlace]⟩
instance : FOff Try.prog 59 10 10 := ⟨fun w a => by simp [Instr.fieldAt, Instr.sureAddr, fieldPlace]⟩
instance : BuildT Try.prog 59 [(0, 1), (1, 1), (2, 1), (3, 1), (4, 1), (5, 1), (6, 1), (7, 1), (8, 1), (9, 1), (10, 1)] [.int .u64 0, .int .u64 0, .int .u32 0, .int .u8 0, .int .u8 0, .int .u8 0, .int .u8 0, .nilFunc, .pointer none, .int .i32 0, .int .i32 0] := buildT_of Try.zeroValue59 Try.runUnderlying59 (fun w => by simp)
instance : CallT Try.prog 2 := ⟨Try.call2⟩
instance : CallT Try.prog 3 := ⟨Try.call3⟩
instance : CallT Try.prog 4 := ⟨Try.call4⟩
instance : CallT Try.prog 5 := ⟨Try.call5⟩
instance : CallT Try.prog 6 := ⟨Try.call6⟩
instance : CallT Try.prog 7 := ⟨Try.call7⟩
instance : CallT Try.prog 8 := ⟨Try.call8⟩
instance : CallT Try.prog 9 := ⟨Try.call9⟩
instance : CallT Try.prog 10 := ⟨Try.call10⟩
instance : CallT Try.prog 11 := ⟨Try.call11⟩
instance : CallT Try.prog 12 := ⟨Try.call12⟩
instance : CallT Try.prog 13 := ⟨Try.call13⟩
instance : CallT Try.prog 14 := ⟨Try.call14⟩
instance : CallT Try.prog 15 := ⟨Try.call15⟩
instance : CallT Try.prog 16 := ⟨Try.call16⟩
instance : CallT Try.prog 17 := ⟨Try.call17⟩
end Go.Proofs.Ytpnnpiegboiljaa
