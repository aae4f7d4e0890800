/- The tables of this seat's program, as the walks look them up. Printed by wip/tools/Dump.lean. -/
import Derived.Test.YtihkfklpoliilaaDoorEng9
import Derived.Test.YtihkfklpoliilaaDoorProg
import Derived.KernelRfl
namespace Go.Proofs.YtihkfklpoliilaaDoor
open Go Go.Sl
instance : Und Tryd.prog 0 (Go.TypeDesc.tuple #[]) := ⟨Tryd.runUnderlying0, Tryd.underlying0⟩
instance : AggT Tryd.prog 0 false 1 := ⟨Tryd.isAgg0, Tryd.sizeOf0⟩
instance : BytesT Tryd.prog 0 0 := ⟨fun w => ⟨_, Tryd.typeInfo0 w, rfl⟩⟩
instance : Und Tryd.prog 1 (Go.TypeDesc.func #[] #[] false) := ⟨Tryd.runUnderlying1, Tryd.underlying1⟩
instance : MkI Tryd.prog 1 := ⟨fun v w => by simp [Instr.makeInterface, Tryd.runUnderlying1]⟩
instance : AggT Tryd.prog 1 false 1 := ⟨Tryd.isAgg1, Tryd.sizeOf1⟩
instance : BytesT Tryd.prog 1 8 := ⟨fun w => ⟨_, Tryd.typeInfo1 w, rfl⟩⟩
instance : ZeroT Tryd.prog 1 (.nilFunc) := ⟨Tryd.zeroValue1⟩
instance : ElemT Tryd.prog 1 1 8 (.nilFunc) := ⟨⟨_, info_of_run (Tryd.typeInfo1 default), rfl, rfl, rfl⟩⟩
instance : Und Tryd.prog 2 (Go.TypeDesc.int (Go.IntKind.i64)) := ⟨Tryd.runUnderlying2, Tryd.underlying2⟩
instance : MkI Tryd.prog 2 := ⟨fun v w => by simp [Instr.makeInterface, Tryd.runUnderlying2]⟩
instance : AggT Tryd.prog 2 false 1 := ⟨Tryd.isAgg2, Tryd.sizeOf2⟩
instance : BytesT Tryd.prog 2 8 := ⟨fun w => ⟨_, Tryd.typeInfo2 w, rfl⟩⟩
instance : ZeroT Tryd.prog 2 (.int .i64 0) := ⟨Tryd.zeroValue2⟩
instance : ElemT Tryd.prog 2 1 8 (.int .i64 0) := ⟨⟨_, info_of_run (Tryd.typeInfo2 default), rfl, rfl, rfl⟩⟩
instance : Und Tryd.prog 3 (Go.TypeDesc.int (Go.IntKind.i64)) := ⟨Tryd.runUnderlying3, Tryd.underlying3⟩
instance : MkI Tryd.prog 3 := ⟨fun v w => by simp [Instr.makeInterface, Tryd.runUnderlying3]⟩
instance : AggT Tryd.prog 3 false 1 := ⟨Tryd.isAgg3, Tryd.sizeOf3⟩
instance : BytesT Tryd.prog 3 8 := ⟨fun w => ⟨_, Tryd.typeInfo3 w, rfl⟩⟩
instance : ZeroT Tryd.prog 3 (.int .i64 0) := ⟨Tryd.zeroValue3⟩
instance : ElemT Tryd.prog 3 1 8 (.int .i64 0) := ⟨⟨_, info_of_run (Tryd.typeInfo3 default), rfl, rfl, rfl⟩⟩
instance : Und Tryd.prog 4 (Go.TypeDesc.bool) := ⟨Tryd.runUnderlying4, Tryd.underlying4⟩
instance : MkI Tryd.prog 4 := ⟨fun v w => by simp [Instr.makeInterface, Tryd.runUnderlying4]⟩
instance : AggT Tryd.prog 4 false 1 := ⟨Tryd.isAgg4, Tryd.sizeOf4⟩
instance : BytesT Tryd.prog 4 1 := ⟨fun w => ⟨_, Tryd.typeInfo4 w, rfl⟩⟩
instance : ZeroT Tryd.prog 4 (.bool false) := ⟨Tryd.zeroValue4⟩
instance : ElemT Tryd.prog 4 1 1 (.bool false) := ⟨⟨_, info_of_run (Tryd.typeInfo4 default), rfl, rfl, rfl⟩⟩
instance : Und Tryd.prog 5 (Go.TypeDesc.int (Go.IntKind.u8)) := ⟨Tryd.runUnderlying5, Tryd.underlying5⟩
instance : MkI Tryd.prog 5 := ⟨fun v w => by simp [Instr.makeInterface, Tryd.runUnderlying5]⟩
instance : AggT Tryd.prog 5 false 1 := ⟨Tryd.isAgg5, Tryd.sizeOf5⟩
instance : BytesT Tryd.prog 5 1 := ⟨fun w => ⟨_, Tryd.typeInfo5 w, rfl⟩⟩
instance : ZeroT Tryd.prog 5 (.int .u8 0) := ⟨Tryd.zeroValue5⟩
instance : ElemT Tryd.prog 5 1 1 (.int .u8 0) := ⟨⟨_, info_of_run (Tryd.typeInfo5 default), rfl, rfl, rfl⟩⟩
instance : MkI Tryd.prog 7 := ⟨fun v w => by simp [Instr.makeInterface, Tryd.runUnderlying7]⟩
instance : AggT Tryd.prog 7 true 4 := ⟨Tryd.isAgg7, Tryd.sizeOf7⟩
instance : BytesT Tryd.prog 7 24 := ⟨fun w => ⟨_, Tryd.typeInfo7 w, rfl⟩⟩
instance : ZeroT Tryd.prog 7 (.agg #[.int .i64 0, .int .i64 0, .bool false, .int .u8 0]) := ⟨Tryd.zeroValue7⟩
instance : ElemT Tryd.prog 7 4 24 (.agg #[.int .i64 0, .int .i64 0, .bool false, .int .u8 0]) := ⟨⟨_, info_of_run (Tryd.typeInfo7 default), rfl, rfl, rfl⟩⟩
instance : FOff Tryd.prog 7 0 0 := ⟨fun w a => by simp [Instr.fieldAt, Instr.sureAddr, fieldPlace]⟩
instance : FOff Tryd.prog 7 1 1 := ⟨fun w a => by simp [Instr.fieldAt, Instr.sureAddr, fieldPlace]⟩
instance : FOff Tryd.prog 7 2 2 := ⟨fun w a => by simp [Instr.fieldAt, Instr.sureAddr, fieldPlace]⟩
instance : FOff Tryd.prog 7 3 3 := ⟨fun w a => by simp [Instr.fieldAt, Instr.sureAddr, fieldPlace]⟩
instance : BuildT Tryd.prog 7 [(0, 1), (1, 1), (2, 1), (3, 1)] [.int .i64 0, .int .i64 0, .bool false, .int .u8 0] := buildT_of Tryd.zeroValue7 Tryd.runUnderlying7 (fun w => by simp)
instance : Und Tryd.prog 9 (Go.TypeDesc.string) := ⟨Tryd.runUnderlying9, Tryd.underlying9⟩
instance : MkI Tryd.prog 9 := ⟨fun v w => by simp [Instr.makeInterface, Tryd.runUnderlying9]⟩
instance : AggT Tryd.prog 9 false 1 := ⟨Tryd.isAgg9, Tryd.sizeOf9⟩
instance : BytesT Tryd.prog 9 16 := ⟨fun w => ⟨_, Tryd.typeInfo9 w, rfl⟩⟩
instance : ZeroT Tryd.prog 9 (.string ⟨#[]⟩) := ⟨Tryd.zeroValue9⟩
instance : ElemT Tryd.prog 9 1 16 (.string ⟨#[]⟩) := ⟨⟨_, info_of_run (Tryd.typeInfo9 default), rfl, rfl, rfl⟩⟩
instance : Und Tryd.prog 12 (Go.TypeDesc.int (Go.IntKind.u64)) := ⟨Tryd.runUnderlying12, Tryd.underlying12⟩
instance : MkI Tryd.prog 12 := ⟨fun v w => by simp [Instr.makeInterface, Tryd.runUnderlying12]⟩
instance : AggT Tryd.prog 12 false 1 := ⟨Tryd.isAgg12, Tryd.sizeOf12⟩
instance : BytesT Tryd.prog 12 8 := ⟨fun w => ⟨_, Tryd.typeInfo12 w, rfl⟩⟩
instance : ZeroT Tryd.prog 12 (.int .u64 0) := ⟨Tryd.zeroValue12⟩
instance : ElemT Tryd.prog 12 1 8 (.int .u64 0) := ⟨⟨_, info_of_run (Tryd.typeInfo12 default), rfl, rfl, rfl⟩⟩
instance : MkI Tryd.prog 13 := ⟨fun v w => by simp [Instr.makeInterface, Tryd.runUnderlying13]⟩
instance : AggT Tryd.prog 13 true 2 := ⟨Tryd.isAgg13, Tryd.sizeOf13⟩
instance : BytesT Tryd.prog 13 24 := ⟨fun w => ⟨_, Tryd.typeInfo13 w, rfl⟩⟩
instance : ZeroT Tryd.prog 13 (.agg #[.string ⟨#[]⟩, .int .u64 0]) := ⟨Tryd.zeroValue13⟩
instance : ElemT Tryd.prog 13 2 24 (.agg #[.string ⟨#[]⟩, .int .u64 0]) := ⟨⟨_, info_of_run (Tryd.typeInfo13 default), rfl, rfl, rfl⟩⟩
instance : FOff Tryd.prog 13 0 0 := ⟨fun w a => by simp [Instr.fieldAt, Instr.sureAddr, fieldPlace]⟩
instance : FOff Tryd.prog 13 1 1 := ⟨fun w a => by simp [Instr.fieldAt, Instr.sureAddr, fieldPlace]⟩
instance : BuildT Tryd.prog 13 [(0, 1), (1, 1)] [.string ⟨#[]⟩, .int .u64 0] := buildT_of Tryd.zeroValue13 Tryd.runUnderlying13 (fun w => by simp)
instance : MkI Tryd.prog 18 := ⟨fun v w => by simp [Instr.makeInterface, Tryd.runUnderlying18]⟩
instance : AggT Tryd.prog 18 true 1 := ⟨Tryd.isAgg18, Tryd.sizeOf18⟩
instance : BytesT Tryd.prog 18 8 := ⟨fun w => ⟨_, Tryd.typeInfo18 w, rfl⟩⟩
instance : ZeroT Tryd.prog 18 (.agg #[.pointer none]) := ⟨Tryd.zeroValue18⟩
instance : ElemT Tryd.prog 18 1 8 (.agg #[.pointer none]) := ⟨⟨_, info_of_run (Tryd.typeInfo18 default), rfl, rfl, rfl⟩⟩
instance : FOff Tryd.prog 18 0 0 := ⟨fun w a => by simp [Instr.fieldAt, Instr.sureAddr, fieldPlace]⟩
instance : BuildT Tryd.prog 18 [(0, 1)] [.pointer none] := buildT_of Tryd.zeroValue18 Tryd.runUnderlying18 (fun w => by simp)
instance : Und Tryd.prog 20 (Go.TypeDesc.interface #[]) := ⟨Tryd.runUnderlying20, Tryd.underlying20⟩
instance : AggT Tryd.prog 20 false 1 := ⟨Tryd.isAgg20, Tryd.sizeOf20⟩
instance : BytesT Tryd.prog 20 16 := ⟨fun w => ⟨_, Tryd.typeInfo20 w, rfl⟩⟩
instance : ZeroT Tryd.prog 20 (.nilIface) := ⟨Tryd.zeroValue20⟩
instance : ElemT Tryd.prog 20 1 16 (.nilIface) := ⟨⟨_, info_of_run (Tryd.typeInfo20 default), rfl, rfl, rfl⟩⟩
instance : Und Tryd.prog 21 (Go.TypeDesc.int (Go.IntKind.i32)) := ⟨Tryd.runUnderlying21, Tryd.underlying21⟩
instance : MkI Tryd.prog 21 := ⟨fun v w => by simp [Instr.makeInterface, Tryd.runUnderlying21]⟩
instance : AggT Tryd.prog 21 false 1 := ⟨Tryd.isAgg21, Tryd.sizeOf21⟩
instance : BytesT Tryd.prog 21 4 := ⟨fun w => ⟨_, Tryd.typeInfo21 w, rfl⟩⟩
instance : ZeroT Tryd.prog 21 (.int .i32 0) := ⟨Tryd.zeroValue21⟩
instance : ElemT Tryd.prog 21 1 4 (.int .i32 0) := ⟨⟨_, info_of_run (Tryd.typeInfo21 default), rfl, rfl, rfl⟩⟩
instance : Und Tryd.prog 22 (Go.TypeDesc.func #[] #[4] false) := ⟨Tryd.runUnderlying22, Tryd.underlying22⟩
instance : MkI Tryd.prog 22 := ⟨fun v w => by simp [Instr.makeInterface, Tryd.runUnderlying22]⟩
instance : AggT Tryd.prog 22 false 1 := ⟨Tryd.isAgg22, Tryd.sizeOf22⟩
instance : BytesT Tryd.prog 22 8 := ⟨fun w => ⟨_, Tryd.typeInfo22 w, rfl⟩⟩
instance : ZeroT Tryd.prog 22 (.nilFunc) := ⟨Tryd.zeroValue22⟩
instance : ElemT Tryd.prog 22 1 8 (.nilFunc) := ⟨⟨_, info_of_run (Tryd.typeInfo22 default), rfl, rfl, rfl⟩⟩
instance : Und Tryd.prog 23 (Go.TypeDesc.slice 5) := ⟨Tryd.runUnderlying23, Tryd.underlying23⟩
instance : MkI Tryd.prog 23 := ⟨fun v w => by simp [Instr.makeInterface, Tryd.runUnderlying23]⟩
instance : AggT Tryd.prog 23 false 1 := ⟨Tryd.isAgg23, Tryd.sizeOf23⟩
instance : BytesT Tryd.prog 23 24 := ⟨fun w => ⟨_, Tryd.typeInfo23 w, rfl⟩⟩
instance : ZeroT Tryd.prog 23 (.slice none 0 0) := ⟨Tryd.zeroValue23⟩
instance : ElemT Tryd.prog 23 1 24 (.slice none 0 0) := ⟨⟨_, info_of_run (Tryd.typeInfo23 default), rfl, rfl, rfl⟩⟩
instance : Und Tryd.prog 24 (Go.TypeDesc.slice 35) := ⟨Tryd.runUnderlying24, Tryd.underlying24⟩
instance : MkI Tryd.prog 24 := ⟨fun v w => by simp [Instr.makeInterface, Tryd.runUnderlying24]⟩
instance : AggT Tryd.prog 24 false 1 := ⟨Tryd.isAgg24, Tryd.sizeOf24⟩
instance : BytesT Tryd.prog 24 24 := ⟨fun w => ⟨_, Tryd.typeInfo24 w, rfl⟩⟩
instance : ZeroT Tryd.prog 24 (.slice none 0 0) := ⟨Tryd.zeroValue24⟩
instance : ElemT Tryd.prog 24 1 24 (.slice none 0 0) := ⟨⟨_, info_of_run (Tryd.typeInfo24 default), rfl, rfl, rfl⟩⟩
instance : Und Tryd.prog 25 (Go.TypeDesc.int (Go.IntKind.i64)) := ⟨Tryd.runUnderlying25, Tryd.underlying25⟩
instance : MkI Tryd.prog 25 := ⟨fun v w => by simp [Instr.makeInterface, Tryd.runUnderlying25]⟩
instance : AggT Tryd.prog 25 false 1 := ⟨Tryd.isAgg25, Tryd.sizeOf25⟩
instance : BytesT Tryd.prog 25 8 := ⟨fun w => ⟨_, Tryd.typeInfo25 w, rfl⟩⟩
instance : ZeroT Tryd.prog 25 (.int .i64 0) := ⟨Tryd.zeroValue25⟩
instance : ElemT Tryd.prog 25 1 8 (.int .i64 0) := ⟨⟨_, info_of_run (Tryd.typeInfo25 default), rfl, rfl, rfl⟩⟩
instance : Und Tryd.prog 26 (Go.TypeDesc.tuple #[24, 3, 25]) := ⟨Tryd.runUnderlying26, Tryd.underlying26⟩
instance : AggT Tryd.prog 26 false 1 := ⟨Tryd.isAgg26, Tryd.sizeOf26⟩
instance : BytesT Tryd.prog 26 0 := ⟨fun w => ⟨_, Tryd.typeInfo26 w, rfl⟩⟩
instance : Und Tryd.prog 27 (Go.TypeDesc.func #[9] #[24, 3, 25] false) := ⟨Tryd.runUnderlying27, Tryd.underlying27⟩
instance : MkI Tryd.prog 27 := ⟨fun v w => by simp [Instr.makeInterface, Tryd.runUnderlying27]⟩
instance : AggT Tryd.prog 27 false 1 := ⟨Tryd.isAgg27, Tryd.sizeOf27⟩
instance : BytesT Tryd.prog 27 8 := ⟨fun w => ⟨_, Tryd.typeInfo27 w, rfl⟩⟩
instance : ZeroT Tryd.prog 27 (.nilFunc) := ⟨Tryd.zeroValue27⟩
instance : ElemT Tryd.prog 27 1 8 (.nilFunc) := ⟨⟨_, info_of_run (Tryd.typeInfo27 default), rfl, rfl, rfl⟩⟩
instance : Und Tryd.prog 28 (Go.TypeDesc.func #[5, 4] #[4] false) := ⟨Tryd.runUnderlying28, Tryd.underlying28⟩
instance : MkI Tryd.prog 28 := ⟨fun v w => by simp [Instr.makeInterface, Tryd.runUnderlying28]⟩
instance : AggT Tryd.prog 28 false 1 := ⟨Tryd.isAgg28, Tryd.sizeOf28⟩
instance : BytesT Tryd.prog 28 8 := ⟨fun w => ⟨_, Tryd.typeInfo28 w, rfl⟩⟩
instance : ZeroT Tryd.prog 28 (.nilFunc) := ⟨Tryd.zeroValue28⟩
instance : ElemT Tryd.prog 28 1 8 (.nilFunc) := ⟨⟨_, info_of_run (Tryd.typeInfo28 default), rfl, rfl, rfl⟩⟩
instance : Und Tryd.prog 29 (Go.TypeDesc.func #[24, 24] #[4] false) := ⟨Tryd.runUnderlying29, Tryd.underlying29⟩
instance : MkI Tryd.prog 29 := ⟨fun v w => by simp [Instr.makeInterface, Tryd.runUnderlying29]⟩
instance : AggT Tryd.prog 29 false 1 := ⟨Tryd.isAgg29, Tryd.sizeOf29⟩
instance : BytesT Tryd.prog 29 8 := ⟨fun w => ⟨_, Tryd.typeInfo29 w, rfl⟩⟩
instance : ZeroT Tryd.prog 29 (.nilFunc) := ⟨Tryd.zeroValue29⟩
instance : ElemT Tryd.prog 29 1 8 (.nilFunc) := ⟨⟨_, info_of_run (Tryd.typeInfo29 default), rfl, rfl, rfl⟩⟩
instance : Und Tryd.prog 30 (Go.TypeDesc.func #[9] #[4] false) := ⟨Tryd.runUnderlying30, Tryd.underlying30⟩
instance : MkI Tryd.prog 30 := ⟨fun v w => by simp [Instr.makeInterface, Tryd.runUnderlying30]⟩
instance : AggT Tryd.prog 30 false 1 := ⟨Tryd.isAgg30, Tryd.sizeOf30⟩
instance : BytesT Tryd.prog 30 8 := ⟨fun w => ⟨_, Tryd.typeInfo30 w, rfl⟩⟩
instance : ZeroT Tryd.prog 30 (.nilFunc) := ⟨Tryd.zeroValue30⟩
instance : ElemT Tryd.prog 30 1 8 (.nilFunc) := ⟨⟨_, info_of_run (Tryd.typeInfo30 default), rfl, rfl, rfl⟩⟩
instance : Und Tryd.prog 31 (Go.TypeDesc.slice 40) := ⟨Tryd.runUnderlying31, Tryd.underlying31⟩
instance : MkI Tryd.prog 31 := ⟨fun v w => by simp [Instr.makeInterface, Tryd.runUnderlying31]⟩
instance : AggT Tryd.prog 31 false 1 := ⟨Tryd.isAgg31, Tryd.sizeOf31⟩
instance : BytesT Tryd.prog 31 24 := ⟨fun w => ⟨_, Tryd.typeInfo31 w, rfl⟩⟩
instance : ZeroT Tryd.prog 31 (.slice none 0 0) := ⟨Tryd.zeroValue31⟩
instance : ElemT Tryd.prog 31 1 24 (.slice none 0 0) := ⟨⟨_, info_of_run (Tryd.typeInfo31 default), rfl, rfl, rfl⟩⟩
instance : Und Tryd.prog 32 (Go.TypeDesc.int (Go.IntKind.u16)) := ⟨Tryd.runUnderlying32, Tryd.underlying32⟩
instance : MkI Tryd.prog 32 := ⟨fun v w => by simp [Instr.makeInterface, Tryd.runUnderlying32]⟩
instance : AggT Tryd.prog 32 false 1 := ⟨Tryd.isAgg32, Tryd.sizeOf32⟩
instance : BytesT Tryd.prog 32 2 := ⟨fun w => ⟨_, Tryd.typeInfo32 w, rfl⟩⟩
instance : ZeroT Tryd.prog 32 (.int .u16 0) := ⟨Tryd.zeroValue32⟩
instance : ElemT Tryd.prog 32 1 2 (.int .u16 0) := ⟨⟨_, info_of_run (Tryd.typeInfo32 default), rfl, rfl, rfl⟩⟩
instance : Und Tryd.prog 33 (Go.TypeDesc.func #[31] #[24] false) := ⟨Tryd.runUnderlying33, Tryd.underlying33⟩
instance : MkI Tryd.prog 33 := ⟨fun v w => by simp [Instr.makeInterface, Tryd.runUnderlying33]⟩
instance : AggT Tryd.prog 33 false 1 := ⟨Tryd.isAgg33, Tryd.sizeOf33⟩
instance : BytesT Tryd.prog 33 8 := ⟨fun w => ⟨_, Tryd.typeInfo33 w, rfl⟩⟩
instance : ZeroT Tryd.prog 33 (.nilFunc) := ⟨Tryd.zeroValue33⟩
instance : ElemT Tryd.prog 33 1 8 (.nilFunc) := ⟨⟨_, info_of_run (Tryd.typeInfo33 default), rfl, rfl, rfl⟩⟩
instance : Und Tryd.prog 34 (Go.TypeDesc.interface #[("Word", 66)]) := ⟨Tryd.runUnderlying34, Tryd.underlying34⟩
instance : AggT Tryd.prog 34 false 1 := ⟨Tryd.isAgg34, Tryd.sizeOf34⟩
instance : BytesT Tryd.prog 34 16 := ⟨fun w => ⟨_, Tryd.typeInfo34 w, rfl⟩⟩
instance : ZeroT Tryd.prog 34 (.nilIface) := ⟨Tryd.zeroValue34⟩
instance : ElemT Tryd.prog 34 1 16 (.nilIface) := ⟨⟨_, info_of_run (Tryd.typeInfo34 default), rfl, rfl, rfl⟩⟩
instance : Und Tryd.prog 35 (Go.TypeDesc.interface #[("Word", 66)]) := ⟨Tryd.runUnderlying35, Tryd.underlying35⟩
instance : AggT Tryd.prog 35 false 1 := ⟨Tryd.isAgg35, Tryd.sizeOf35⟩
instance : BytesT Tryd.prog 35 16 := ⟨fun w => ⟨_, Tryd.typeInfo35 w, rfl⟩⟩
instance : ZeroT Tryd.prog 35 (.nilIface) := ⟨Tryd.zeroValue35⟩
instance : ElemT Tryd.prog 35 1 16 (.nilIface) := ⟨⟨_, info_of_run (Tryd.typeInfo35 default), rfl, rfl, rfl⟩⟩
instance : Und Tryd.prog 36 (Go.TypeDesc.func #[35] #[9] false) := ⟨Tryd.runUnderlying36, Tryd.underlying36⟩
instance : MkI Tryd.prog 36 := ⟨fun v w => by simp [Instr.makeInterface, Tryd.runUnderlying36]⟩
instance : AggT Tryd.prog 36 false 1 := ⟨Tryd.isAgg36, Tryd.sizeOf36⟩
instance : BytesT Tryd.prog 36 8 := ⟨fun w => ⟨_, Tryd.typeInfo36 w, rfl⟩⟩
instance : ZeroT Tryd.prog 36 (.nilFunc) := ⟨Tryd.zeroValue36⟩
instance : ElemT Tryd.prog 36 1 8 (.nilFunc) := ⟨⟨_, info_of_run (Tryd.typeInfo36 default), rfl, rfl, rfl⟩⟩
instance : Und Tryd.prog 37 (Go.TypeDesc.func #[31, 32, 5, 9] #[4] false) := ⟨Tryd.runUnderlying37, Tryd.underlying37⟩
instance : MkI Tryd.prog 37 := ⟨fun v w => by simp [Instr.makeInterface, Tryd.runUnderlying37]⟩
instance : AggT Tryd.prog 37 false 1 := ⟨Tryd.isAgg37, Tryd.sizeOf37⟩
instance : BytesT Tryd.prog 37 8 := ⟨fun w => ⟨_, Tryd.typeInfo37 w, rfl⟩⟩
instance : ZeroT Tryd.prog 37 (.nilFunc) := ⟨Tryd.zeroValue37⟩
instance : ElemT Tryd.prog 37 1 8 (.nilFunc) := ⟨⟨_, info_of_run (Tryd.typeInfo37 default), rfl, rfl, rfl⟩⟩
instance : Und Tryd.prog 38 (Go.TypeDesc.int (Go.IntKind.u64)) := ⟨Tryd.runUnderlying38, Tryd.underlying38⟩
instance : MkI Tryd.prog 38 := ⟨fun v w => by simp [Instr.makeInterface, Tryd.runUnderlying38]⟩
instance : AggT Tryd.prog 38 false 1 := ⟨Tryd.isAgg38, Tryd.sizeOf38⟩
instance : BytesT Tryd.prog 38 8 := ⟨fun w => ⟨_, Tryd.typeInfo38 w, rfl⟩⟩
instance : ZeroT Tryd.prog 38 (.int .u64 0) := ⟨Tryd.zeroValue38⟩
instance : ElemT Tryd.prog 38 1 8 (.int .u64 0) := ⟨⟨_, info_of_run (Tryd.typeInfo38 default), rfl, rfl, rfl⟩⟩
instance : MkI Tryd.prog 39 := ⟨fun v w => by simp [Instr.makeInterface, Tryd.runUnderlying39]⟩
instance : AggT Tryd.prog 39 true 5 := ⟨Tryd.isAgg39, Tryd.sizeOf39⟩
instance : BytesT Tryd.prog 39 32 := ⟨fun w => ⟨_, Tryd.typeInfo39 w, rfl⟩⟩
instance : ZeroT Tryd.prog 39 (.agg #[.int .u8 0, .int .u16 0, .int .u16 0, .int .u64 0, .string ⟨#[]⟩]) := ⟨Tryd.zeroValue39⟩
instance : ElemT Tryd.prog 39 5 32 (.agg #[.int .u8 0, .int .u16 0, .int .u16 0, .int .u64 0, .string ⟨#[]⟩]) := ⟨⟨_, info_of_run (Tryd.typeInfo39 default), rfl, rfl, rfl⟩⟩
instance : FOff Tryd.prog 39 0 0 := ⟨fun w a => by simp [Instr.fieldAt, Instr.sureAddr, fieldPlace]⟩
instance : FOff Tryd.prog 39 1 1 := ⟨fun w a => by simp [Instr.fieldAt, Instr.sureAddr, fieldPlace]⟩
instance : FOff Tryd.prog 39 2 2 := ⟨fun w a => by simp [Instr.fieldAt, Instr.sureAddr, fieldPlace]⟩
instance : FOff Tryd.prog 39 3 3 := ⟨fun w a => by simp [Instr.fieldAt, Instr.sureAddr, fieldPlace]⟩
instance : FOff Tryd.prog 39 4 4 := ⟨fun w a => by simp [Instr.fieldAt, Instr.sureAddr, fieldPlace]⟩
instance : BuildT Tryd.prog 39 [(0, 1), (1, 1), (2, 1), (3, 1), (4, 1)] [.int .u8 0, .int .u16 0, .int .u16 0, .int .u64 0, .string ⟨#[]⟩] := buildT_of Tryd.zeroValue39 Tryd.runUnderlying39 (fun w => by simp)
instance : MkI Tryd.prog 40 := ⟨fun v w => by simp [Instr.makeInterface, Tryd.runUnderlying40]⟩
instance : AggT Tryd.prog 40 true 5 := ⟨Tryd.isAgg40, Tryd.sizeOf40⟩
instance : BytesT Tryd.prog 40 32 := ⟨fun w => ⟨_, Tryd.typeInfo40 w, rfl⟩⟩
instance : ZeroT Tryd.prog 40 (.agg #[.int .u8 0, .int .u16 0, .int .u16 0, .int .u64 0, .string ⟨#[]⟩]) := ⟨Tryd.zeroValue40⟩
instance : ElemT Tryd.prog 40 5 32 (.agg #[.int .u8 0, .int .u16 0, .int .u16 0, .int .u64 0, .string ⟨#[]⟩]) := ⟨⟨_, info_of_run (Tryd.typeInfo40 default), rfl, rfl, rfl⟩⟩
instance : FOff Tryd.prog 40 0 0 := ⟨fun w a => by simp [Instr.fieldAt, Instr.sureAddr, fieldPlace]⟩
instance : FOff Tryd.prog 40 1 1 := ⟨fun w a => by simp [Instr.fieldAt, Instr.sureAddr, fieldPlace]⟩
instance : FOff Tryd.prog 40 2 2 := ⟨fun w a => by simp [Instr.fieldAt, Instr.sureAddr, fieldPlace]⟩
instance : FOff Tryd.prog 40 3 3 := ⟨fun w a => by simp [Instr.fieldAt, Instr.sureAddr, fieldPlace]⟩
instance : FOff Tryd.prog 40 4 4 := ⟨fun w a => by simp [Instr.fieldAt, Instr.sureAddr, fieldPlace]⟩
instance : BuildT Tryd.prog 40 [(0, 1), (1, 1), (2, 1), (3, 1), (4, 1)] [.int .u8 0, .int .u16 0, .int .u16 0, .int .u64 0, .string ⟨#[]⟩] := buildT_of Tryd.zeroValue40 Tryd.runUnderlying40 (fun w => by simp)
instance : Und Tryd.prog 41 (Go.TypeDesc.func #[] #[35] false) := ⟨Tryd.runUnderlying41, Tryd.underlying41⟩
instance : MkI Tryd.prog 41 := ⟨fun v w => by simp [Instr.makeInterface, Tryd.runUnderlying41]⟩
instance : AggT Tryd.prog 41 false 1 := ⟨Tryd.isAgg41, Tryd.sizeOf41⟩
instance : BytesT Tryd.prog 41 8 := ⟨fun w => ⟨_, Tryd.typeInfo41 w, rfl⟩⟩
instance : ZeroT Tryd.prog 41 (.nilFunc) := ⟨Tryd.zeroValue41⟩
instance : ElemT Tryd.prog 41 1 8 (.nilFunc) := ⟨⟨_, info_of_run (Tryd.typeInfo41 default), rfl, rfl, rfl⟩⟩
instance : Und Tryd.prog 42 (Go.TypeDesc.func #[35] #[4] false) := ⟨Tryd.runUnderlying42, Tryd.underlying42⟩
instance : MkI Tryd.prog 42 := ⟨fun v w => by simp [Instr.makeInterface, Tryd.runUnderlying42]⟩
instance : AggT Tryd.prog 42 false 1 := ⟨Tryd.isAgg42, Tryd.sizeOf42⟩
instance : BytesT Tryd.prog 42 8 := ⟨fun w => ⟨_, Tryd.typeInfo42 w, rfl⟩⟩
instance : ZeroT Tryd.prog 42 (.nilFunc) := ⟨Tryd.zeroValue42⟩
instance : ElemT Tryd.prog 42 1 8 (.nilFunc) := ⟨⟨_, info_of_run (Tryd.typeInfo42 default), rfl, rfl, rfl⟩⟩
instance : Und Tryd.prog 43 (Go.TypeDesc.func #[35] #[3] false) := ⟨Tryd.runUnderlying43, Tryd.underlying43⟩
instance : MkI Tryd.prog 43 := ⟨fun v w => by simp [Instr.makeInterface, Tryd.runUnderlying43]⟩
instance : AggT Tryd.prog 43 false 1 := ⟨Tryd.isAgg43, Tryd.sizeOf43⟩
instance : BytesT Tryd.prog 43 8 := ⟨fun w => ⟨_, Tryd.typeInfo43 w, rfl⟩⟩
instance : ZeroT Tryd.prog 43 (.nilFunc) := ⟨Tryd.zeroValue43⟩
instance : ElemT Tryd.prog 43 1 8 (.nilFunc) := ⟨⟨_, info_of_run (Tryd.typeInfo43 default), rfl, rfl, rfl⟩⟩
instance : Und Tryd.prog 44 (Go.TypeDesc.func #[1] #[4] false) := ⟨Tryd.runUnderlying44, Tryd.underlying44⟩
instance : MkI Tryd.prog 44 := ⟨fun v w => by simp [Instr.makeInterface, Tryd.runUnderlying44]⟩
instance : AggT Tryd.prog 44 false 1 := ⟨Tryd.isAgg44, Tryd.sizeOf44⟩
instance : BytesT Tryd.prog 44 8 := ⟨fun w => ⟨_, Tryd.typeInfo44 w, rfl⟩⟩
instance : ZeroT Tryd.prog 44 (.nilFunc) := ⟨Tryd.zeroValue44⟩
instance : ElemT Tryd.prog 44 1 8 (.nilFunc) := ⟨⟨_, info_of_run (Tryd.typeInfo44 default), rfl, rfl, rfl⟩⟩
instance : Und Tryd.prog 45 (Go.TypeDesc.func #[40] #[4] false) := ⟨Tryd.runUnderlying45, Tryd.underlying45⟩
instance : MkI Tryd.prog 45 := ⟨fun v w => by simp [Instr.makeInterface, Tryd.runUnderlying45]⟩
instance : AggT Tryd.prog 45 false 1 := ⟨Tryd.isAgg45, Tryd.sizeOf45⟩
instance : BytesT Tryd.prog 45 8 := ⟨fun w => ⟨_, Tryd.typeInfo45 w, rfl⟩⟩
instance : ZeroT Tryd.prog 45 (.nilFunc) := ⟨Tryd.zeroValue45⟩
instance : ElemT Tryd.prog 45 1 8 (.nilFunc) := ⟨⟨_, info_of_run (Tryd.typeInfo45 default), rfl, rfl, rfl⟩⟩
instance : Und Tryd.prog 46 (Go.TypeDesc.slice 9) := ⟨Tryd.runUnderlying46, Tryd.underlying46⟩
instance : MkI Tryd.prog 46 := ⟨fun v w => by simp [Instr.makeInterface, Tryd.runUnderlying46]⟩
instance : AggT Tryd.prog 46 false 1 := ⟨Tryd.isAgg46, Tryd.sizeOf46⟩
instance : BytesT Tryd.prog 46 24 := ⟨fun w => ⟨_, Tryd.typeInfo46 w, rfl⟩⟩
instance : ZeroT Tryd.prog 46 (.slice none 0 0) := ⟨Tryd.zeroValue46⟩
instance : ElemT Tryd.prog 46 1 24 (.slice none 0 0) := ⟨⟨_, info_of_run (Tryd.typeInfo46 default), rfl, rfl, rfl⟩⟩
instance : Und Tryd.prog 47 (Go.TypeDesc.func #[31, 23] #[4] false) := ⟨Tryd.runUnderlying47, Tryd.underlying47⟩
instance : MkI Tryd.prog 47 := ⟨fun v w => by simp [Instr.makeInterface, Tryd.runUnderlying47]⟩
instance : AggT Tryd.prog 47 false 1 := ⟨Tryd.isAgg47, Tryd.sizeOf47⟩
instance : BytesT Tryd.prog 47 8 := ⟨fun w => ⟨_, Tryd.typeInfo47 w, rfl⟩⟩
instance : ZeroT Tryd.prog 47 (.nilFunc) := ⟨Tryd.zeroValue47⟩
instance : ElemT Tryd.prog 47 1 8 (.nilFunc) := ⟨⟨_, info_of_run (Tryd.typeInfo47 default), rfl, rfl, rfl⟩⟩
instance : Und Tryd.prog 48 (Go.TypeDesc.func #[24] #[24] false) := ⟨Tryd.runUnderlying48, Tryd.underlying48⟩
instance : MkI Tryd.prog 48 := ⟨fun v w => by simp [Instr.makeInterface, Tryd.runUnderlying48]⟩
instance : AggT Tryd.prog 48 false 1 := ⟨Tryd.isAgg48, Tryd.sizeOf48⟩
instance : BytesT Tryd.prog 48 8 := ⟨fun w => ⟨_, Tryd.typeInfo48 w, rfl⟩⟩
instance : ZeroT Tryd.prog 48 (.nilFunc) := ⟨Tryd.zeroValue48⟩
instance : ElemT Tryd.prog 48 1 8 (.nilFunc) := ⟨⟨_, info_of_run (Tryd.typeInfo48 default), rfl, rfl, rfl⟩⟩
instance : Und Tryd.prog 49 (Go.TypeDesc.func #[9, 9] #[4] false) := ⟨Tryd.runUnderlying49, Tryd.underlying49⟩
instance : MkI Tryd.prog 49 := ⟨fun v w => by simp [Instr.makeInterface, Tryd.runUnderlying49]⟩
instance : AggT Tryd.prog 49 false 1 := ⟨Tryd.isAgg49, Tryd.sizeOf49⟩
instance : BytesT Tryd.prog 49 8 := ⟨fun w => ⟨_, Tryd.typeInfo49 w, rfl⟩⟩
instance : ZeroT Tryd.prog 49 (.nilFunc) := ⟨Tryd.zeroValue49⟩
instance : ElemT Tryd.prog 49 1 8 (.nilFunc) := ⟨⟨_, info_of_run (Tryd.typeInfo49 default), rfl, rfl, rfl⟩⟩
instance : Und Tryd.prog 50 (Go.TypeDesc.func #[24] #[9] false) := ⟨Tryd.runUnderlying50, Tryd.underlying50⟩
instance : MkI Tryd.prog 50 := ⟨fun v w => by simp [Instr.makeInterface, Tryd.runUnderlying50]⟩
instance : AggT Tryd.prog 50 false 1 := ⟨Tryd.isAgg50, Tryd.sizeOf50⟩
instance : BytesT Tryd.prog 50 8 := ⟨fun w => ⟨_, Tryd.typeInfo50 w, rfl⟩⟩
instance : ZeroT Tryd.prog 50 (.nilFunc) := ⟨Tryd.zeroValue50⟩
instance : ElemT Tryd.prog 50 1 8 (.nilFunc) := ⟨⟨_, info_of_run (Tryd.typeInfo50 default), rfl, rfl, rfl⟩⟩
instance : Und Tryd.prog 51 (Go.TypeDesc.func #[31] #[4] false) := ⟨Tryd.runUnderlying51, Tryd.underlying51⟩
instance : MkI Tryd.prog 51 := ⟨fun v w => by simp [Instr.makeInterface, Tryd.runUnderlying51]⟩
instance : AggT Tryd.prog 51 false 1 := ⟨Tryd.isAgg51, Tryd.sizeOf51⟩
instance : BytesT Tryd.prog 51 8 := ⟨fun w => ⟨_, Tryd.typeInfo51 w, rfl⟩⟩
instance : ZeroT Tryd.prog 51 (.nilFunc) := ⟨Tryd.zeroValue51⟩
instance : ElemT Tryd.prog 51 1 8 (.nilFunc) := ⟨⟨_, info_of_run (Tryd.typeInfo51 default), rfl, rfl, rfl⟩⟩
instance : Und Tryd.prog 52 (Go.TypeDesc.slice 21) := ⟨Tryd.runUnderlying52, Tryd.underlying52⟩
instance : MkI Tryd.prog 52 := ⟨fun v w => by simp [Instr.makeInterface, Tryd.runUnderlying52]⟩
instance : AggT Tryd.prog 52 false 1 := ⟨Tryd.isAgg52, Tryd.sizeOf52⟩
instance : BytesT Tryd.prog 52 24 := ⟨fun w => ⟨_, Tryd.typeInfo52 w, rfl⟩⟩
instance : ZeroT Tryd.prog 52 (.slice none 0 0) := ⟨Tryd.zeroValue52⟩
instance : ElemT Tryd.prog 52 1 24 (.slice none 0 0) := ⟨⟨_, info_of_run (Tryd.typeInfo52 default), rfl, rfl, rfl⟩⟩
instance : Und Tryd.prog 53 (Go.TypeDesc.tuple #[52, 4]) := ⟨Tryd.runUnderlying53, Tryd.underlying53⟩
instance : AggT Tryd.prog 53 false 1 := ⟨Tryd.isAgg53, Tryd.sizeOf53⟩
instance : BytesT Tryd.prog 53 0 := ⟨fun w => ⟨_, Tryd.typeInfo53 w, rfl⟩⟩
instance : Und Tryd.prog 54 (Go.TypeDesc.func #[9] #[52, 4] false) := ⟨Tryd.runUnderlying54, Tryd.underlying54⟩
instance : MkI Tryd.prog 54 := ⟨fun v w => by simp [Instr.makeInterface, Tryd.runUnderlying54]⟩
instance : AggT Tryd.prog 54 false 1 := ⟨Tryd.isAgg54, Tryd.sizeOf54⟩
instance : BytesT Tryd.prog 54 8 := ⟨fun w => ⟨_, Tryd.typeInfo54 w, rfl⟩⟩
instance : ZeroT Tryd.prog 54 (.nilFunc) := ⟨Tryd.zeroValue54⟩
instance : ElemT Tryd.prog 54 1 8 (.nilFunc) := ⟨⟨_, info_of_run (Tryd.typeInfo54 default), rfl, rfl, rfl⟩⟩
instance : Und Tryd.prog 55 (Go.TypeDesc.pointer 57) := ⟨Tryd.runUnderlying55, Tryd.underlying55⟩
instance : MkI Tryd.prog 55 := ⟨fun v w => by simp [Instr.makeInterface, Tryd.runUnderlying55]⟩
instance : AggT Tryd.prog 55 false 1 := ⟨Tryd.isAgg55, Tryd.sizeOf55⟩
instance : BytesT Tryd.prog 55 8 := ⟨fun w => ⟨_, Tryd.typeInfo55 w, rfl⟩⟩
instance : ZeroT Tryd.prog 55 (.pointer none) := ⟨Tryd.zeroValue55⟩
instance : ElemT Tryd.prog 55 1 8 (.pointer none) := ⟨⟨_, info_of_run (Tryd.typeInfo55 default), rfl, rfl, rfl⟩⟩
instance : MkI Tryd.prog 56 := ⟨fun v w => by simp [Instr.makeInterface, Tryd.runUnderlying56]⟩
instance : AggT Tryd.prog 56 true 3 := ⟨Tryd.isAgg56, Tryd.sizeOf56⟩
instance : BytesT Tryd.prog 56 40 := ⟨fun w => ⟨_, Tryd.typeInfo56 w, rfl⟩⟩
instance : ZeroT Tryd.prog 56 (.agg #[.slice none 0 0, .int .i64 0, .int .i64 0]) := ⟨Tryd.zeroValue56⟩
instance : ElemT Tryd.prog 56 3 40 (.agg #[.slice none 0 0, .int .i64 0, .int .i64 0]) := ⟨⟨_, info_of_run (Tryd.typeInfo56 default), rfl, rfl, rfl⟩⟩
instance : FOff Tryd.prog 56 0 0 := ⟨fun w a => by simp [Instr.fieldAt, Instr.sureAddr, fieldPlace]⟩
instance : FOff Tryd.prog 56 1 1 := ⟨fun w a => by simp [Instr.fieldAt, Instr.sureAddr, fieldPlace]⟩
instance : FOff Tryd.prog 56 2 2 := ⟨fun w a => by simp [Instr.fieldAt, Instr.sureAddr, fieldPlace]⟩
instance : BuildT Tryd.prog 56 [(0, 1), (1, 1), (2, 1)] [.slice none 0 0, .int .i64 0, .int .i64 0] := buildT_of Tryd.zeroValue56 Tryd.runUnderlying56 (fun w => by simp)
instance : MkI Tryd.prog 57 := ⟨fun v w => by simp [Instr.makeInterface, Tryd.runUnderlying57]⟩
instance : AggT Tryd.prog 57 true 3 := ⟨Tryd.isAgg57, Tryd.sizeOf57⟩
instance : BytesT Tryd.prog 57 40 := ⟨fun w => ⟨_, Tryd.typeInfo57 w, rfl⟩⟩
instance : ZeroT Tryd.prog 57 (.agg #[.slice none 0 0, .int .i64 0, .int .i64 0]) := ⟨Tryd.zeroValue57⟩
instance : ElemT Tryd.prog 57 3 40 (.agg #[.slice none 0 0, .int .i64 0, .int .i64 0]) := ⟨⟨_, info_of_run (Tryd.typeInfo57 default), rfl, rfl, rfl⟩⟩
instance : FOff Tryd.prog 57 0 0 := ⟨fun w a => by simp [Instr.fieldAt, Instr.sureAddr, fieldPlace]⟩
instance : FOff Tryd.prog 57 1 1 := ⟨fun w a => by simp [Instr.fieldAt, Instr.sureAddr, fieldPlace]⟩
instance : FOff Tryd.prog 57 2 2 := ⟨fun w a => by simp [Instr.fieldAt, Instr.sureAddr, fieldPlace]⟩
instance : BuildT Tryd.prog 57 [(0, 1), (1, 1), (2, 1)] [.slice none 0 0, .int .i64 0, .int .i64 0] := buildT_of Tryd.zeroValue57 Tryd.runUnderlying57 (fun w => by simp)
instance : Und Tryd.prog 58 (Go.TypeDesc.func #[] #[21] false) := ⟨Tryd.runUnderlying58, Tryd.underlying58⟩
instance : MkI Tryd.prog 58 := ⟨fun v w => by simp [Instr.makeInterface, Tryd.runUnderlying58]⟩
instance : AggT Tryd.prog 58 false 1 := ⟨Tryd.isAgg58, Tryd.sizeOf58⟩
instance : BytesT Tryd.prog 58 8 := ⟨fun w => ⟨_, Tryd.typeInfo58 w, rfl⟩⟩
instance : ZeroT Tryd.prog 58 (.nilFunc) := ⟨Tryd.zeroValue58⟩
instance : ElemT Tryd.prog 58 1 8 (.nilFunc) := ⟨⟨_, info_of_run (Tryd.typeInfo58 default), rfl, rfl, rfl⟩⟩
instance : Und Tryd.prog 59 (Go.TypeDesc.func #[25] #[] false) := ⟨Tryd.runUnderlying59, Tryd.underlying59⟩
instance : MkI Tryd.prog 59 := ⟨fun v w => by simp [Instr.makeInterface, Tryd.runUnderlying59]⟩
instance : AggT Tryd.prog 59 false 1 := ⟨Tryd.isAgg59, Tryd.sizeOf59⟩
instance : BytesT Tryd.prog 59 8 := ⟨fun w => ⟨_, Tryd.typeInfo59 w, rfl⟩⟩
instance : ZeroT Tryd.prog 59 (.nilFunc) := ⟨Tryd.zeroValue59⟩
instance : ElemT Tryd.prog 59 1 8 (.nilFunc) := ⟨⟨_, info_of_run (Tryd.typeInfo59 default), rfl, rfl, rfl⟩⟩
instance : Und Tryd.prog 60 (Go.TypeDesc.tuple #[21, 3]) := ⟨Tryd.runUnderlying60, Tryd.underlying60⟩
instance : AggT Tryd.prog 60 false 1 := ⟨Tryd.isAgg60, Tryd.sizeOf60⟩
instance : BytesT Tryd.prog 60 0 := ⟨fun w => ⟨_, Tryd.typeInfo60 w, rfl⟩⟩
instance : Und Tryd.prog 61 (Go.TypeDesc.func #[9] #[21, 3] false) := ⟨Tryd.runUnderlying61, Tryd.underlying61⟩
instance : MkI Tryd.prog 61 := ⟨fun v w => by simp [Instr.makeInterface, Tryd.runUnderlying61]⟩
instance : AggT Tryd.prog 61 false 1 := ⟨Tryd.isAgg61, Tryd.sizeOf61⟩
instance : BytesT Tryd.prog 61 8 := ⟨fun w => ⟨_, Tryd.typeInfo61 w, rfl⟩⟩
instance : ZeroT Tryd.prog 61 (.nilFunc) := ⟨Tryd.zeroValue61⟩
instance : ElemT Tryd.prog 61 1 8 (.nilFunc) := ⟨⟨_, info_of_run (Tryd.typeInfo61 default), rfl, rfl, rfl⟩⟩
instance : Und Tryd.prog 62 (Go.TypeDesc.pointer 64) := ⟨Tryd.runUnderlying62, Tryd.underlying62⟩
instance : MkI Tryd.prog 62 := ⟨fun v w => by simp [Instr.makeInterface, Tryd.runUnderlying62]⟩
instance : AggT Tryd.prog 62 false 1 := ⟨Tryd.isAgg62, Tryd.sizeOf62⟩
instance : BytesT Tryd.prog 62 8 := ⟨fun w => ⟨_, Tryd.typeInfo62 w, rfl⟩⟩
instance : ZeroT Tryd.prog 62 (.pointer none) := ⟨Tryd.zeroValue62⟩
instance : ElemT Tryd.prog 62 1 8 (.pointer none) := ⟨⟨_, info_of_run (Tryd.typeInfo62 default), rfl, rfl, rfl⟩⟩
instance : MkI Tryd.prog 63 := ⟨fun v w => by simp [Instr.makeInterface, Tryd.runUnderlying63]⟩
instance : AggT Tryd.prog 63 true 3 := ⟨Tryd.isAgg63, Tryd.sizeOf63⟩
instance : BytesT Tryd.prog 63 40 := ⟨fun w => ⟨_, Tryd.typeInfo63 w, rfl⟩⟩
instance : ZeroT Tryd.prog 63 (.agg #[.slice none 0 0, .int .i64 0, .int .i64 0]) := ⟨Tryd.zeroValue63⟩
instance : ElemT Tryd.prog 63 3 40 (.agg #[.slice none 0 0, .int .i64 0, .int .i64 0]) := ⟨⟨_, info_of_run (Tryd.typeInfo63 default), rfl, rfl, rfl⟩⟩
instance : FOff Tryd.prog 63 0 0 := ⟨fun w a => by simp [Instr.fieldAt, Instr.sureAddr, fieldPlace]⟩
instance : FOff Tryd.prog 63 1 1 := ⟨fun w a => by simp [Instr.fieldAt, Instr.sureAddr, fieldPlace]⟩
instance : FOff Tryd.prog 63 2 2 := ⟨fun w a => by simp [Instr.fieldAt, Instr.sureAddr, fieldPlace]⟩
instance : BuildT Tryd.prog 63 [(0, 1), (1, 1), (2, 1)] [.slice none 0 0, .int .i64 0, .int .i64 0] := buildT_of Tryd.zeroValue63 Tryd.runUnderlying63 (fun w => by simp)
instance : MkI Tryd.prog 64 := ⟨fun v w => by simp [Instr.makeInterface, Tryd.runUnderlying64]⟩
instance : AggT Tryd.prog 64 true 3 := ⟨Tryd.isAgg64, Tryd.sizeOf64⟩
instance : BytesT Tryd.prog 64 40 := ⟨fun w => ⟨_, Tryd.typeInfo64 w, rfl⟩⟩
instance : ZeroT Tryd.prog 64 (.agg #[.slice none 0 0, .int .i64 0, .int .i64 0]) := ⟨Tryd.zeroValue64⟩
instance : ElemT Tryd.prog 64 3 40 (.agg #[.slice none 0 0, .int .i64 0, .int .i64 0]) := ⟨⟨_, info_of_run (Tryd.typeInfo64 default), rfl, rfl, rfl⟩⟩
instance : FOff Tryd.prog 64 0 0 := ⟨fun w a => by simp [Instr.fieldAt, Instr.sureAddr, fieldPlace]⟩
instance : FOff Tryd.prog 64 1 1 := ⟨fun w a => by simp [Instr.fieldAt, Instr.sureAddr, fieldPlace]⟩
instance : FOff Tryd.prog 64 2 2 := ⟨fun w a => by simp [Instr.fieldAt, Instr.sureAddr, fieldPlace]⟩
instance : BuildT Tryd.prog 64 [(0, 1), (1, 1), (2, 1)] [.slice none 0 0, .int .i64 0, .int .i64 0] := buildT_of Tryd.zeroValue64 Tryd.runUnderlying64 (fun w => by simp)
instance : Und Tryd.prog 65 (Go.TypeDesc.func #[3] #[21] false) := ⟨Tryd.runUnderlying65, Tryd.underlying65⟩
instance : MkI Tryd.prog 65 := ⟨fun v w => by simp [Instr.makeInterface, Tryd.runUnderlying65]⟩
instance : AggT Tryd.prog 65 false 1 := ⟨Tryd.isAgg65, Tryd.sizeOf65⟩
instance : BytesT Tryd.prog 65 8 := ⟨fun w => ⟨_, Tryd.typeInfo65 w, rfl⟩⟩
instance : ZeroT Tryd.prog 65 (.nilFunc) := ⟨Tryd.zeroValue65⟩
instance : ElemT Tryd.prog 65 1 8 (.nilFunc) := ⟨⟨_, info_of_run (Tryd.typeInfo65 default), rfl, rfl, rfl⟩⟩
instance : Und Tryd.prog 66 (Go.TypeDesc.func #[] #[9] false) := ⟨Tryd.runUnderlying66, Tryd.underlying66⟩
instance : MkI Tryd.prog 66 := ⟨fun v w => by simp [Instr.makeInterface, Tryd.runUnderlying66]⟩
instance : AggT Tryd.prog 66 false 1 := ⟨Tryd.isAgg66, Tryd.sizeOf66⟩
instance : BytesT Tryd.prog 66 8 := ⟨fun w => ⟨_, Tryd.typeInfo66 w, rfl⟩⟩
instance : ZeroT Tryd.prog 66 (.nilFunc) := ⟨Tryd.zeroValue66⟩
instance : ElemT Tryd.prog 66 1 8 (.nilFunc) := ⟨⟨_, info_of_run (Tryd.typeInfo66 default), rfl, rfl, rfl⟩⟩
instance : Und Tryd.prog 67 (Go.TypeDesc.func #[3] #[9] false) := ⟨Tryd.runUnderlying67, Tryd.underlying67⟩
instance : MkI Tryd.prog 67 := ⟨fun v w => by simp [Instr.makeInterface, Tryd.runUnderlying67]⟩
instance : AggT Tryd.prog 67 false 1 := ⟨Tryd.isAgg67, Tryd.sizeOf67⟩
instance : BytesT Tryd.prog 67 8 := ⟨fun w => ⟨_, Tryd.typeInfo67 w, rfl⟩⟩
instance : ZeroT Tryd.prog 67 (.nilFunc) := ⟨Tryd.zeroValue67⟩
instance : ElemT Tryd.prog 67 1 8 (.nilFunc) := ⟨⟨_, info_of_run (Tryd.typeInfo67 default), rfl, rfl, rfl⟩⟩
instance : MkI Tryd.prog 68 := ⟨fun v w => by simp [Instr.makeInterface, Tryd.runUnderlying68]⟩
instance : AggT Tryd.prog 68 true 2 := ⟨Tryd.isAgg68, Tryd.sizeOf68⟩
instance : BytesT Tryd.prog 68 24 := ⟨fun w => ⟨_, Tryd.typeInfo68 w, rfl⟩⟩
instance : ZeroT Tryd.prog 68 (.agg #[.int .i64 0, .string ⟨#[]⟩]) := ⟨Tryd.zeroValue68⟩
instance : ElemT Tryd.prog 68 2 24 (.agg #[.int .i64 0, .string ⟨#[]⟩]) := ⟨⟨_, info_of_run (Tryd.typeInfo68 default), rfl, rfl, rfl⟩⟩
instance : FOff Tryd.prog 68 0 0 := ⟨fun w a => by simp [Instr.fieldAt, Instr.sureAddr, fieldPlace]⟩
instance : FOff Tryd.prog 68 1 1 := ⟨fun w a => by simp [Instr.fieldAt, Instr.sureAddr, fieldPlace]⟩
instance : BuildT Tryd.prog 68 [(0, 1), (1, 1)] [.int .i64 0, .string ⟨#[]⟩] := buildT_of Tryd.zeroValue68 Tryd.runUnderlying68 (fun w => by simp)
instance : MkI Tryd.prog 69 := ⟨fun v w => by simp [Instr.makeInterface, Tryd.runUnderlying69]⟩
instance : AggT Tryd.prog 69 true 2 := ⟨Tryd.isAgg69, Tryd.sizeOf69⟩
instance : BytesT Tryd.prog 69 24 := ⟨fun w => ⟨_, Tryd.typeInfo69 w, rfl⟩⟩
instance : ZeroT Tryd.prog 69 (.agg #[.int .i64 0, .string ⟨#[]⟩]) := ⟨Tryd.zeroValue69⟩
instance : ElemT Tryd.prog 69 2 24 (.agg #[.int .i64 0, .string ⟨#[]⟩]) := ⟨⟨_, info_of_run (Tryd.typeInfo69 default), rfl, rfl, rfl⟩⟩
instance : FOff Tryd.prog 69 0 0 := ⟨fun w a => by simp [Instr.fieldAt, Instr.sureAddr, fieldPlace]⟩
instance : FOff Tryd.prog 69 1 1 := ⟨fun w a => by simp [Instr.fieldAt, Instr.sureAddr, fieldPlace]⟩
instance : BuildT Tryd.prog 69 [(0, 1), (1, 1)] [.int .i64 0, .string ⟨#[]⟩] := buildT_of Tryd.zeroValue69 Tryd.runUnderlying69 (fun w => by simp)
instance : MkI Tryd.prog 70 := ⟨fun v w => by simp [Instr.makeInterface, Tryd.runUnderlying70]⟩
instance : AggT Tryd.prog 70 true 1 := ⟨Tryd.isAgg70, Tryd.sizeOf70⟩
instance : BytesT Tryd.prog 70 8 := ⟨fun w => ⟨_, Tryd.typeInfo70 w, rfl⟩⟩
instance : ZeroT Tryd.prog 70 (.agg #[.int .i64 0]) := ⟨Tryd.zeroValue70⟩
instance : ElemT Tryd.prog 70 1 8 (.agg #[.int .i64 0]) := ⟨⟨_, info_of_run (Tryd.typeInfo70 default), rfl, rfl, rfl⟩⟩
instance : FOff Tryd.prog 70 0 0 := ⟨fun w a => by simp [Instr.fieldAt, Instr.sureAddr, fieldPlace]⟩
instance : BuildT Tryd.prog 70 [(0, 1)] [.int .i64 0] := buildT_of Tryd.zeroValue70 Tryd.runUnderlying70 (fun w => by simp)
instance : MkI Tryd.prog 71 := ⟨fun v w => by simp [Instr.makeInterface, Tryd.runUnderlying71]⟩
instance : AggT Tryd.prog 71 true 1 := ⟨Tryd.isAgg71, Tryd.sizeOf71⟩
instance : BytesT Tryd.prog 71 8 := ⟨fun w => ⟨_, Tryd.typeInfo71 w, rfl⟩⟩
instance : ZeroT Tryd.prog 71 (.agg #[.int .i64 0]) := ⟨Tryd.zeroValue71⟩
instance : ElemT Tryd.prog 71 1 8 (.agg #[.int .i64 0]) := ⟨⟨_, info_of_run (Tryd.typeInfo71 default), rfl, rfl, rfl⟩⟩
instance : FOff Tryd.prog 71 0 0 := ⟨fun w a => by simp [Instr.fieldAt, Instr.sureAddr, fieldPlace]⟩
instance : BuildT Tryd.prog 71 [(0, 1)] [.int .i64 0] := buildT_of Tryd.zeroValue71 Tryd.runUnderlying71 (fun w => by simp)
instance : MkI Tryd.prog 72 := ⟨fun v w => by simp [Instr.makeInterface, Tryd.runUnderlying72]⟩
instance : AggT Tryd.prog 72 true 1 := ⟨Tryd.isAgg72, Tryd.sizeOf72⟩
instance : BytesT Tryd.prog 72 8 := ⟨fun w => ⟨_, Tryd.typeInfo72 w, rfl⟩⟩
instance : ZeroT Tryd.prog 72 (.agg #[.int .i64 0]) := ⟨Tryd.zeroValue72⟩
instance : ElemT Tryd.prog 72 1 8 (.agg #[.int .i64 0]) := ⟨⟨_, info_of_run (Tryd.typeInfo72 default), rfl, rfl, rfl⟩⟩
instance : FOff Tryd.prog 72 0 0 := ⟨fun w a => by simp [Instr.fieldAt, Instr.sureAddr, fieldPlace]⟩
instance : BuildT Tryd.prog 72 [(0, 1)] [.int .i64 0] := buildT_of Tryd.zeroValue72 Tryd.runUnderlying72 (fun w => by simp)
instance : MkI Tryd.prog 73 := ⟨fun v w => by simp [Instr.makeInterface, Tryd.runUnderlying73]⟩
instance : AggT Tryd.prog 73 true 1 := ⟨Tryd.isAgg73, Tryd.sizeOf73⟩
instance : BytesT Tryd.prog 73 16 := ⟨fun w => ⟨_, Tryd.typeInfo73 w, rfl⟩⟩
instance : ZeroT Tryd.prog 73 (.agg #[.string ⟨#[]⟩]) := ⟨Tryd.zeroValue73⟩
instance : ElemT Tryd.prog 73 1 16 (.agg #[.string ⟨#[]⟩]) := ⟨⟨_, info_of_run (Tryd.typeInfo73 default), rfl, rfl, rfl⟩⟩
instance : FOff Tryd.prog 73 0 0 := ⟨fun w a => by simp [Instr.fieldAt, Instr.sureAddr, fieldPlace]⟩
instance : BuildT Tryd.prog 73 [(0, 1)] [.string ⟨#[]⟩] := buildT_of Tryd.zeroValue73 Tryd.runUnderlying73 (fun w => by simp)
instance : MkI Tryd.prog 74 := ⟨fun v w => by simp [Instr.makeInterface, Tryd.runUnderlying74]⟩
instance : AggT Tryd.prog 74 true 1 := ⟨Tryd.isAgg74, Tryd.sizeOf74⟩
instance : BytesT Tryd.prog 74 16 := ⟨fun w => ⟨_, Tryd.typeInfo74 w, rfl⟩⟩
instance : ZeroT Tryd.prog 74 (.agg #[.string ⟨#[]⟩]) := ⟨Tryd.zeroValue74⟩
instance : ElemT Tryd.prog 74 1 16 (.agg #[.string ⟨#[]⟩]) := ⟨⟨_, info_of_run (Tryd.typeInfo74 default), rfl, rfl, rfl⟩⟩
instance : FOff Tryd.prog 74 0 0 := ⟨fun w a => by simp [Instr.fieldAt, Instr.sureAddr, fieldPlace]⟩
instance : BuildT Tryd.prog 74 [(0, 1)] [.string ⟨#[]⟩] := buildT_of Tryd.zeroValue74 Tryd.runUnderlying74 (fun w => by simp)
instance : MkI Tryd.prog 75 := ⟨fun v w => by simp [Instr.makeInterface, Tryd.runUnderlying75]⟩
instance : AggT Tryd.prog 75 true 2 := ⟨Tryd.isAgg75, Tryd.sizeOf75⟩
instance : BytesT Tryd.prog 75 16 := ⟨fun w => ⟨_, Tryd.typeInfo75 w, rfl⟩⟩
instance : ZeroT Tryd.prog 75 (.agg #[.bool false, .int .i64 0]) := ⟨Tryd.zeroValue75⟩
instance : ElemT Tryd.prog 75 2 16 (.agg #[.bool false, .int .i64 0]) := ⟨⟨_, info_of_run (Tryd.typeInfo75 default), rfl, rfl, rfl⟩⟩
instance : FOff Tryd.prog 75 0 0 := ⟨fun w a => by simp [Instr.fieldAt, Instr.sureAddr, fieldPlace]⟩
instance : FOff Tryd.prog 75 1 1 := ⟨fun w a => by simp [Instr.fieldAt, Instr.sureAddr, fieldPlace]⟩
instance : BuildT Tryd.prog 75 [(0, 1), (1, 1)] [.bool false, .int .i64 0] := buildT_of Tryd.zeroValue75 Tryd.runUnderlying75 (fun w => by simp)
instance : MkI Tryd.prog 76 := ⟨fun v w => by simp [Instr.makeInterface, Tryd.runUnderlying76]⟩
instance : AggT Tryd.prog 76 true 2 := ⟨Tryd.isAgg76, Tryd.sizeOf76⟩
instance : BytesT Tryd.prog 76 16 := ⟨fun w => ⟨_, Tryd.typeInfo76 w, rfl⟩⟩
instance : ZeroT Tryd.prog 76 (.agg #[.bool false, .int .i64 0]) := ⟨Tryd.zeroValue76⟩
instance : ElemT Tryd.prog 76 2 16 (.agg #[.bool false, .int .i64 0]) := ⟨⟨_, info_of_run (Tryd.typeInfo76 default), rfl, rfl, rfl⟩⟩
instance : FOff Tryd.prog 76 0 0 := ⟨fun w a => by simp [Instr.fieldAt, Instr.sureAddr, fieldPlace]⟩
instance : FOff Tryd.prog 76 1 1 := ⟨fun w a => by simp [Instr.fieldAt, Instr.sureAddr, fieldPlace]⟩
instance : BuildT Tryd.prog 76 [(0, 1), (1, 1)] [.bool false, .int .i64 0] := buildT_of Tryd.zeroValue76 Tryd.runUnderlying76 (fun w => by simp)
instance : MkI Tryd.prog 77 := ⟨fun v w => by simp [Instr.makeInterface, Tryd.runUnderlying77]⟩
instance : AggT Tryd.prog 77 true 2 := ⟨Tryd.isAgg77, Tryd.sizeOf77⟩
instance : BytesT Tryd.prog 77 24 := ⟨fun w => ⟨_, Tryd.typeInfo77 w, rfl⟩⟩
instance : ZeroT Tryd.prog 77 (.agg #[.string ⟨#[]⟩, .int .i64 0]) := ⟨Tryd.zeroValue77⟩
instance : ElemT Tryd.prog 77 2 24 (.agg #[.string ⟨#[]⟩, .int .i64 0]) := ⟨⟨_, info_of_run (Tryd.typeInfo77 default), rfl, rfl, rfl⟩⟩
instance : FOff Tryd.prog 77 0 0 := ⟨fun w a => by simp [Instr.fieldAt, Instr.sureAddr, fieldPlace]⟩
instance : FOff Tryd.prog 77 1 1 := ⟨fun w a => by simp [Instr.fieldAt, Instr.sureAddr, fieldPlace]⟩
instance : BuildT Tryd.prog 77 [(0, 1), (1, 1)] [.string ⟨#[]⟩, .int .i64 0] := buildT_of Tryd.zeroValue77 Tryd.runUnderlying77 (fun w => by simp)
instance : MkI Tryd.prog 78 := ⟨fun v w => by simp [Instr.makeInterface, Tryd.runUnderlying78]⟩
instance : AggT Tryd.prog 78 true 2 := ⟨Tryd.isAgg78, Tryd.sizeOf78⟩
instance : BytesT Tryd.prog 78 24 := ⟨fun w => ⟨_, Tryd.typeInfo78 w, rfl⟩⟩
instance : ZeroT Tryd.prog 78 (.agg #[.string ⟨#[]⟩, .int .i64 0]) := ⟨Tryd.zeroValue78⟩
instance : ElemT Tryd.prog 78 2 24 (.agg #[.string ⟨#[]⟩, .int .i64 0]) := ⟨⟨_, info_of_run (Tryd.typeInfo78 default), rfl, rfl, rfl⟩⟩
instance : FOff Tryd.prog 78 0 0 := ⟨fun w a => by simp [Instr.fieldAt, Instr.sureAddr, fieldPlace]⟩
instance : FOff Tryd.prog 78 1 1 := ⟨fun w a => by simp [Instr.fieldAt, Instr.sureAddr, fieldPlace]⟩
instance : BuildT Tryd.prog 78 [(0, 1), (1, 1)] [.string ⟨#[]⟩, .int .i64 0] := buildT_of Tryd.zeroValue78 Tryd.runUnderlying78 (fun w => by simp)
instance : MkI Tryd.prog 79 := ⟨fun v w => by simp [Instr.makeInterface, Tryd.runUnderlying79]⟩
instance : AggT Tryd.prog 79 true 2 := ⟨Tryd.isAgg79, Tryd.sizeOf79⟩
instance : BytesT Tryd.prog 79 16 := ⟨fun w => ⟨_, Tryd.typeInfo79 w, rfl⟩⟩
instance : ZeroT Tryd.prog 79 (.agg #[.int .i64 0, .int .i64 0]) := ⟨Tryd.zeroValue79⟩
instance : ElemT Tryd.prog 79 2 16 (.agg #[.int .i64 0, .int .i64 0]) := ⟨⟨_, info_of_run (Tryd.typeInfo79 default), rfl, rfl, rfl⟩⟩
instance : FOff Tryd.prog 79 0 0 := ⟨fun w a => by simp [Instr.fieldAt, Instr.sureAddr, fieldPlace]⟩
instance : FOff Tryd.prog 79 1 1 := ⟨fun w a => by simp [Instr.fieldAt, Instr.sureAddr, fieldPlace]⟩
instance : BuildT Tryd.prog 79 [(0, 1), (1, 1)] [.int .i64 0, .int .i64 0] := buildT_of Tryd.zeroValue79 Tryd.runUnderlying79 (fun w => by simp)
instance : MkI Tryd.prog 80 := ⟨fun v w => by simp [Instr.makeInterface, Tryd.runUnderlying80]⟩
instance : AggT Tryd.prog 80 true 2 := ⟨Tryd.isAgg80, Tryd.sizeOf80⟩
instance : BytesT Tryd.prog 80 16 := ⟨fun w => ⟨_, Tryd.typeInfo80 w, rfl⟩⟩
instance : ZeroT Tryd.prog 80 (.agg #[.int .i64 0, .int .i64 0]) := ⟨Tryd.zeroValue80⟩
instance : ElemT Tryd.prog 80 2 16 (.agg #[.int .i64 0, .int .i64 0]) := ⟨⟨_, info_of_run (Tryd.typeInfo80 default), rfl, rfl, rfl⟩⟩
instance : FOff Tryd.prog 80 0 0 := ⟨fun w a => by simp [Instr.fieldAt, Instr.sureAddr, fieldPlace]⟩
instance : FOff Tryd.prog 80 1 1 := ⟨fun w a => by simp [Instr.fieldAt, Instr.sureAddr, fieldPlace]⟩
instance : BuildT Tryd.prog 80 [(0, 1), (1, 1)] [.int .i64 0, .int .i64 0] := buildT_of Tryd.zeroValue80 Tryd.runUnderlying80 (fun w => by simp)
instance : MkI Tryd.prog 81 := ⟨fun v w => by simp [Instr.makeInterface, Tryd.runUnderlying81]⟩
instance : AggT Tryd.prog 81 true 2 := ⟨Tryd.isAgg81, Tryd.sizeOf81⟩
instance : BytesT Tryd.prog 81 16 := ⟨fun w => ⟨_, Tryd.typeInfo81 w, rfl⟩⟩
instance : ZeroT Tryd.prog 81 (.agg #[.int .i64 0, .int .u64 0]) := ⟨Tryd.zeroValue81⟩
instance : ElemT Tryd.prog 81 2 16 (.agg #[.int .i64 0, .int .u64 0]) := ⟨⟨_, info_of_run (Tryd.typeInfo81 default), rfl, rfl, rfl⟩⟩
instance : FOff Tryd.prog 81 0 0 := ⟨fun w a => by simp [Instr.fieldAt, Instr.sureAddr, fieldPlace]⟩
instance : FOff Tryd.prog 81 1 1 := ⟨fun w a => by simp [Instr.fieldAt, Instr.sureAddr, fieldPlace]⟩
instance : BuildT Tryd.prog 81 [(0, 1), (1, 1)] [.int .i64 0, .int .u64 0] := buildT_of Tryd.zeroValue81 Tryd.runUnderlying81 (fun w => by simp)
instance : MkI Tryd.prog 82 := ⟨fun v w => by simp [Instr.makeInterface, Tryd.runUnderlying82]⟩
instance : AggT Tryd.prog 82 true 2 := ⟨Tryd.isAgg82, Tryd.sizeOf82⟩
instance : BytesT Tryd.prog 82 16 := ⟨fun w => ⟨_, Tryd.typeInfo82 w, rfl⟩⟩
instance : ZeroT Tryd.prog 82 (.agg #[.int .i64 0, .int .u64 0]) := ⟨Tryd.zeroValue82⟩
instance : ElemT Tryd.prog 82 2 16 (.agg #[.int .i64 0, .int .u64 0]) := ⟨⟨_, info_of_run (Tryd.typeInfo82 default), rfl, rfl, rfl⟩⟩
instance : FOff Tryd.prog 82 0 0 := ⟨fun w a => by simp [Instr.fieldAt, Instr.sureAddr, fieldPlace]⟩
instance : FOff Tryd.prog 82 1 1 := ⟨fun w a => by simp [Instr.fieldAt, Instr.sureAddr, fieldPlace]⟩
instance : BuildT Tryd.prog 82 [(0, 1), (1, 1)] [.int .i64 0, .int .u64 0] := buildT_of Tryd.zeroValue82 Tryd.runUnderlying82 (fun w => by simp)
instance : Und Tryd.prog 83 (Go.TypeDesc.func #[38, 3] #[9] false) := ⟨Tryd.runUnderlying83, Tryd.underlying83⟩
instance : MkI Tryd.prog 83 := ⟨fun v w => by simp [Instr.makeInterface, Tryd.runUnderlying83]⟩
instance : AggT Tryd.prog 83 false 1 := ⟨Tryd.isAgg83, Tryd.sizeOf83⟩
instance : BytesT Tryd.prog 83 8 := ⟨fun w => ⟨_, Tryd.typeInfo83 w, rfl⟩⟩
instance : ZeroT Tryd.prog 83 (.nilFunc) := ⟨Tryd.zeroValue83⟩
instance : ElemT Tryd.prog 83 1 8 (.nilFunc) := ⟨⟨_, info_of_run (Tryd.typeInfo83 default), rfl, rfl, rfl⟩⟩
instance : Und Tryd.prog 84 (Go.TypeDesc.interface #[("Block", 87), ("Word", 66)]) := ⟨Tryd.runUnderlying84, Tryd.underlying84⟩
instance : AggT Tryd.prog 84 false 1 := ⟨Tryd.isAgg84, Tryd.sizeOf84⟩
instance : BytesT Tryd.prog 84 16 := ⟨fun w => ⟨_, Tryd.typeInfo84 w, rfl⟩⟩
instance : ZeroT Tryd.prog 84 (.nilIface) := ⟨Tryd.zeroValue84⟩
instance : ElemT Tryd.prog 84 1 16 (.nilIface) := ⟨⟨_, info_of_run (Tryd.typeInfo84 default), rfl, rfl, rfl⟩⟩
instance : Und Tryd.prog 85 (Go.TypeDesc.interface #[("Block", 87), ("Word", 66)]) := ⟨Tryd.runUnderlying85, Tryd.underlying85⟩
instance : AggT Tryd.prog 85 false 1 := ⟨Tryd.isAgg85, Tryd.sizeOf85⟩
instance : BytesT Tryd.prog 85 16 := ⟨fun w => ⟨_, Tryd.typeInfo85 w, rfl⟩⟩
instance : ZeroT Tryd.prog 85 (.nilIface) := ⟨Tryd.zeroValue85⟩
instance : ElemT Tryd.prog 85 1 16 (.nilIface) := ⟨⟨_, info_of_run (Tryd.typeInfo85 default), rfl, rfl, rfl⟩⟩
instance : Und Tryd.prog 86 (Go.TypeDesc.tuple #[85, 4]) := ⟨Tryd.runUnderlying86, Tryd.underlying86⟩
instance : AggT Tryd.prog 86 false 1 := ⟨Tryd.isAgg86, Tryd.sizeOf86⟩
instance : BytesT Tryd.prog 86 0 := ⟨fun w => ⟨_, Tryd.typeInfo86 w, rfl⟩⟩
instance : Und Tryd.prog 87 (Go.TypeDesc.func #[] #[3] false) := ⟨Tryd.runUnderlying87, Tryd.underlying87⟩
instance : MkI Tryd.prog 87 := ⟨fun v w => by simp [Instr.makeInterface, Tryd.runUnderlying87]⟩
instance : AggT Tryd.prog 87 false 1 := ⟨Tryd.isAgg87, Tryd.sizeOf87⟩
instance : BytesT Tryd.prog 87 8 := ⟨fun w => ⟨_, Tryd.typeInfo87 w, rfl⟩⟩
instance : ZeroT Tryd.prog 87 (.nilFunc) := ⟨Tryd.zeroValue87⟩
instance : ElemT Tryd.prog 87 1 8 (.nilFunc) := ⟨⟨_, info_of_run (Tryd.typeInfo87 default), rfl, rfl, rfl⟩⟩
instance : Und Tryd.prog 88 (Go.TypeDesc.pointer 90) := ⟨Tryd.runUnderlying88, Tryd.underlying88⟩
instance : MkI Tryd.prog 88 := ⟨fun v w => by simp [Instr.makeInterface, Tryd.runUnderlying88]⟩
instance : AggT Tryd.prog 88 false 1 := ⟨Tryd.isAgg88, Tryd.sizeOf88⟩
instance : BytesT Tryd.prog 88 8 := ⟨fun w => ⟨_, Tryd.typeInfo88 w, rfl⟩⟩
instance : ZeroT Tryd.prog 88 (.pointer none) := ⟨Tryd.zeroValue88⟩
instance : ElemT Tryd.prog 88 1 8 (.pointer none) := ⟨⟨_, info_of_run (Tryd.typeInfo88 default), rfl, rfl, rfl⟩⟩
instance : MkI Tryd.prog 89 := ⟨fun v w => by simp [Instr.makeInterface, Tryd.runUnderlying89]⟩
instance : AggT Tryd.prog 89 true 2 := ⟨Tryd.isAgg89, Tryd.sizeOf89⟩
instance : BytesT Tryd.prog 89 32 := ⟨fun w => ⟨_, Tryd.typeInfo89 w, rfl⟩⟩
instance : ZeroT Tryd.prog 89 (.agg #[.pointer none, .slice none 0 0]) := ⟨Tryd.zeroValue89⟩
instance : ElemT Tryd.prog 89 2 32 (.agg #[.pointer none, .slice none 0 0]) := ⟨⟨_, info_of_run (Tryd.typeInfo89 default), rfl, rfl, rfl⟩⟩
instance : FOff Tryd.prog 89 0 0 := ⟨fun w a => by simp [Instr.fieldAt, Instr.sureAddr, fieldPlace]⟩
instance : FOff Tryd.prog 89 1 1 := ⟨fun w a => by simp [Instr.fieldAt, Instr.sureAddr, fieldPlace]⟩
instance : BuildT Tryd.prog 89 [(0, 1), (1, 1)] [.pointer none, .slice none 0 0] := buildT_of Tryd.zeroValue89 Tryd.runUnderlying89 (fun w => by simp)
instance : MkI Tryd.prog 90 := ⟨fun v w => by simp [Instr.makeInterface, Tryd.runUnderlying90]⟩
instance : AggT Tryd.prog 90 true 2 := ⟨Tryd.isAgg90, Tryd.sizeOf90⟩
instance : BytesT Tryd.prog 90 32 := ⟨fun w => ⟨_, Tryd.typeInfo90 w, rfl⟩⟩
instance : ZeroT Tryd.prog 90 (.agg #[.pointer none, .slice none 0 0]) := ⟨Tryd.zeroValue90⟩
instance : ElemT Tryd.prog 90 2 32 (.agg #[.pointer none, .slice none 0 0]) := ⟨⟨_, info_of_run (Tryd.typeInfo90 default), rfl, rfl, rfl⟩⟩
instance : FOff Tryd.prog 90 0 0 := ⟨fun w a => by simp [Instr.fieldAt, Instr.sureAddr, fieldPlace]⟩
instance : FOff Tryd.prog 90 1 1 := ⟨fun w a => by simp [Instr.fieldAt, Instr.sureAddr, fieldPlace]⟩
instance : BuildT Tryd.prog 90 [(0, 1), (1, 1)] [.pointer none, .slice none 0 0] := buildT_of Tryd.zeroValue90 Tryd.runUnderlying90 (fun w => by simp)
instance : Und Tryd.prog 91 (Go.TypeDesc.interface #[("Error", 66)]) := ⟨Tryd.runUnderlying91, Tryd.underlying91⟩
instance : AggT Tryd.prog 91 false 1 := ⟨Tryd.isAgg91, Tryd.sizeOf91⟩
instance : BytesT Tryd.prog 91 16 := ⟨fun w => ⟨_, Tryd.typeInfo91 w, rfl⟩⟩
instance : ZeroT Tryd.prog 91 (.nilIface) := ⟨Tryd.zeroValue91⟩
instance : ElemT Tryd.prog 91 1 16 (.nilIface) := ⟨⟨_, info_of_run (Tryd.typeInfo91 default), rfl, rfl, rfl⟩⟩
instance : Und Tryd.prog 92 (Go.TypeDesc.interface #[("Error", 66)]) := ⟨Tryd.runUnderlying92, Tryd.underlying92⟩
instance : AggT Tryd.prog 92 false 1 := ⟨Tryd.isAgg92, Tryd.sizeOf92⟩
instance : BytesT Tryd.prog 92 16 := ⟨fun w => ⟨_, Tryd.typeInfo92 w, rfl⟩⟩
instance : ZeroT Tryd.prog 92 (.nilIface) := ⟨Tryd.zeroValue92⟩
instance : ElemT Tryd.prog 92 1 16 (.nilIface) := ⟨⟨_, info_of_run (Tryd.typeInfo92 default), rfl, rfl, rfl⟩⟩
instance : Und Tryd.prog 93 (Go.TypeDesc.tuple #[3, 92]) := ⟨Tryd.runUnderlying93, Tryd.underlying93⟩
instance : AggT Tryd.prog 93 false 1 := ⟨Tryd.isAgg93, Tryd.sizeOf93⟩
instance : BytesT Tryd.prog 93 0 := ⟨fun w => ⟨_, Tryd.typeInfo93 w, rfl⟩⟩
instance : Und Tryd.prog 94 (Go.TypeDesc.func #[9] #[3, 92] false) := ⟨Tryd.runUnderlying94, Tryd.underlying94⟩
instance : MkI Tryd.prog 94 := ⟨fun v w => by simp [Instr.makeInterface, Tryd.runUnderlying94]⟩
instance : AggT Tryd.prog 94 false 1 := ⟨Tryd.isAgg94, Tryd.sizeOf94⟩
instance : BytesT Tryd.prog 94 8 := ⟨fun w => ⟨_, Tryd.typeInfo94 w, rfl⟩⟩
instance : ZeroT Tryd.prog 94 (.nilFunc) := ⟨Tryd.zeroValue94⟩
instance : ElemT Tryd.prog 94 1 8 (.nilFunc) := ⟨⟨_, info_of_run (Tryd.typeInfo94 default), rfl, rfl, rfl⟩⟩
instance : Und Tryd.prog 95 (Go.TypeDesc.func #[21, 21] #[9] false) := ⟨Tryd.runUnderlying95, Tryd.underlying95⟩
instance : MkI Tryd.prog 95 := ⟨fun v w => by simp [Instr.makeInterface, Tryd.runUnderlying95]⟩
instance : AggT Tryd.prog 95 false 1 := ⟨Tryd.isAgg95, Tryd.sizeOf95⟩
instance : BytesT Tryd.prog 95 8 := ⟨fun w => ⟨_, Tryd.typeInfo95 w, rfl⟩⟩
instance : ZeroT Tryd.prog 95 (.nilFunc) := ⟨Tryd.zeroValue95⟩
instance : ElemT Tryd.prog 95 1 8 (.nilFunc) := ⟨⟨_, info_of_run (Tryd.typeInfo95 default), rfl, rfl, rfl⟩⟩
instance : Und Tryd.prog 96 (Go.TypeDesc.func #[38] #[38] false) := ⟨Tryd.runUnderlying96, Tryd.underlying96⟩
instance : MkI Tryd.prog 96 := ⟨fun v w => by simp [Instr.makeInterface, Tryd.runUnderlying96]⟩
instance : AggT Tryd.prog 96 false 1 := ⟨Tryd.isAgg96, Tryd.sizeOf96⟩
instance : BytesT Tryd.prog 96 8 := ⟨fun w => ⟨_, Tryd.typeInfo96 w, rfl⟩⟩
instance : ZeroT Tryd.prog 96 (.nilFunc) := ⟨Tryd.zeroValue96⟩
instance : ElemT Tryd.prog 96 1 8 (.nilFunc) := ⟨⟨_, info_of_run (Tryd.typeInfo96 default), rfl, rfl, rfl⟩⟩
instance : Und Tryd.prog 97 (Go.TypeDesc.pointer 5) := ⟨Tryd.runUnderlying97, Tryd.underlying97⟩
instance : MkI Tryd.prog 97 := ⟨fun v w => by simp [Instr.makeInterface, Tryd.runUnderlying97]⟩
instance : AggT Tryd.prog 97 false 1 := ⟨Tryd.isAgg97, Tryd.sizeOf97⟩
instance : BytesT Tryd.prog 97 8 := ⟨fun w => ⟨_, Tryd.typeInfo97 w, rfl⟩⟩
instance : ZeroT Tryd.prog 97 (.pointer none) := ⟨Tryd.zeroValue97⟩
instance : ElemT Tryd.prog 97 1 8 (.pointer none) := ⟨⟨_, info_of_run (Tryd.typeInfo97 default), rfl, rfl, rfl⟩⟩
instance : Und Tryd.prog 98 (Go.TypeDesc.func #[21] #[3, 92] false) := ⟨Tryd.runUnderlying98, Tryd.underlying98⟩
instance : MkI Tryd.prog 98 := ⟨fun v w => by simp [Instr.makeInterface, Tryd.runUnderlying98]⟩
instance : AggT Tryd.prog 98 false 1 := ⟨Tryd.isAgg98, Tryd.sizeOf98⟩
instance : BytesT Tryd.prog 98 8 := ⟨fun w => ⟨_, Tryd.typeInfo98 w, rfl⟩⟩
instance : ZeroT Tryd.prog 98 (.nilFunc) := ⟨Tryd.zeroValue98⟩
instance : ElemT Tryd.prog 98 1 8 (.nilFunc) := ⟨⟨_, info_of_run (Tryd.typeInfo98 default), rfl, rfl, rfl⟩⟩
instance : Und Tryd.prog 99 (Go.TypeDesc.tuple #[38, 92]) := ⟨Tryd.runUnderlying99, Tryd.underlying99⟩
instance : AggT Tryd.prog 99 false 1 := ⟨Tryd.isAgg99, Tryd.sizeOf99⟩
instance : BytesT Tryd.prog 99 0 := ⟨fun w => ⟨_, Tryd.typeInfo99 w, rfl⟩⟩
instance : Und Tryd.prog 100 (Go.TypeDesc.func #[9, 3, 3] #[38, 92] false) := ⟨Tryd.runUnderlying100, Tryd.underlying100⟩
instance : MkI Tryd.prog 100 := ⟨fun v w => by simp [Instr.makeInterface, Tryd.runUnderlying100]⟩
instance : AggT Tryd.prog 100 false 1 := ⟨Tryd.isAgg100, Tryd.sizeOf100⟩
instance : BytesT Tryd.prog 100 8 := ⟨fun w => ⟨_, Tryd.typeInfo100 w, rfl⟩⟩
instance : ZeroT Tryd.prog 100 (.nilFunc) := ⟨Tryd.zeroValue100⟩
instance : ElemT Tryd.prog 100 1 8 (.nilFunc) := ⟨⟨_, info_of_run (Tryd.typeInfo100 default), rfl, rfl, rfl⟩⟩
instance : Und Tryd.prog 101 (Go.TypeDesc.array 256 5) := ⟨Tryd.runUnderlying101, Tryd.underlying101⟩
instance : MkI Tryd.prog 101 := ⟨fun v w => by simp [Instr.makeInterface, Tryd.runUnderlying101]⟩
instance : AggT Tryd.prog 101 true 256 := ⟨Tryd.isAgg101, Tryd.sizeOf101⟩
instance : BytesT Tryd.prog 101 256 := ⟨fun w => ⟨_, Tryd.typeInfo101 w, rfl⟩⟩
instance : Und Tryd.prog 102 (Go.TypeDesc.int (Go.IntKind.u64)) := ⟨Tryd.runUnderlying102, Tryd.underlying102⟩
instance : MkI Tryd.prog 102 := ⟨fun v w => by simp [Instr.makeInterface, Tryd.runUnderlying102]⟩
instance : AggT Tryd.prog 102 false 1 := ⟨Tryd.isAgg102, Tryd.sizeOf102⟩
instance : BytesT Tryd.prog 102 8 := ⟨fun w => ⟨_, Tryd.typeInfo102 w, rfl⟩⟩
instance : ZeroT Tryd.prog 102 (.int .u64 0) := ⟨Tryd.zeroValue102⟩
instance : ElemT Tryd.prog 102 1 8 (.int .u64 0) := ⟨⟨_, info_of_run (Tryd.typeInfo102 default), rfl, rfl, rfl⟩⟩
instance : MkI Tryd.prog 103 := ⟨fun v w => by simp [Instr.makeInterface, Tryd.runUnderlying103]⟩
instance : AggT Tryd.prog 103 true 2 := ⟨Tryd.isAgg103, Tryd.sizeOf103⟩
instance : BytesT Tryd.prog 103 2 := ⟨fun w => ⟨_, Tryd.typeInfo103 w, rfl⟩⟩
instance : ZeroT Tryd.prog 103 (.agg #[.int .u8 0, .int .u8 0]) := ⟨Tryd.zeroValue103⟩
instance : ElemT Tryd.prog 103 2 2 (.agg #[.int .u8 0, .int .u8 0]) := ⟨⟨_, info_of_run (Tryd.typeInfo103 default), rfl, rfl, rfl⟩⟩
instance : FOff Tryd.prog 103 0 0 := ⟨fun w a => by simp [Instr.fieldAt, Instr.sureAddr, fieldPlace]⟩
instance : FOff Tryd.prog 103 1 1 := ⟨fun w a => by simp [Instr.fieldAt, Instr.sureAddr, fieldPlace]⟩
instance : BuildT Tryd.prog 103 [(0, 1), (1, 1)] [.int .u8 0, .int .u8 0] := buildT_of Tryd.zeroValue103 Tryd.runUnderlying103 (fun w => by simp)
instance : MkI Tryd.prog 104 := ⟨fun v w => by simp [Instr.makeInterface, Tryd.runUnderlying104]⟩
instance : AggT Tryd.prog 104 true 2 := ⟨Tryd.isAgg104, Tryd.sizeOf104⟩
instance : BytesT Tryd.prog 104 2 := ⟨fun w => ⟨_, Tryd.typeInfo104 w, rfl⟩⟩
instance : ZeroT Tryd.prog 104 (.agg #[.int .u8 0, .int .u8 0]) := ⟨Tryd.zeroValue104⟩
instance : ElemT Tryd.prog 104 2 2 (.agg #[.int .u8 0, .int .u8 0]) := ⟨⟨_, info_of_run (Tryd.typeInfo104 default), rfl, rfl, rfl⟩⟩
instance : FOff Tryd.prog 104 0 0 := ⟨fun w a => by simp [Instr.fieldAt, Instr.sureAddr, fieldPlace]⟩
instance : FOff Tryd.prog 104 1 1 := ⟨fun w a => by simp [Instr.fieldAt, Instr.sureAddr, fieldPlace]⟩
instance : BuildT Tryd.prog 104 [(0, 1), (1, 1)] [.int .u8 0, .int .u8 0] := buildT_of Tryd.zeroValue104 Tryd.runUnderlying104 (fun w => by simp)
instance : Und Tryd.prog 105 (Go.TypeDesc.array 16 104) := ⟨Tryd.runUnderlying105, Tryd.underlying105⟩
instance : MkI Tryd.prog 105 := ⟨fun v w => by simp [Instr.makeInterface, Tryd.runUnderlying105]⟩
instance : AggT Tryd.prog 105 true 32 := ⟨Tryd.isAgg105, Tryd.sizeOf105⟩
instance : BytesT Tryd.prog 105 32 := ⟨fun w => ⟨_, Tryd.typeInfo105 w, rfl⟩⟩
instance : ZeroT Tryd.prog 105 (.agg #[.int .u8 0, .int .u8 0, .int .u8 0, .int .u8 0, .int .u8 0, .int .u8 0, .int .u8 0, .int .u8 0, .int .u8 0, .int .u8 0, .int .u8 0, .int .u8 0, .int .u8 0, .int .u8 0, .int .u8 0, .int .u8 0, .int .u8 0, .int .u8 0, .int .u8 0, .int .u8 0, .int .u8 0, .int .u8 0, .int .u8 0, .int .u8 0, .int .u8 0, .int .u8 0, .int .u8 0, .int .u8 0, .int .u8 0, .int .u8 0, .int .u8 0, .int .u8 0]) := ⟨Tryd.zeroValue105⟩
instance : ElemT Tryd.prog 105 32 32 (.agg #[.int .u8 0, .int .u8 0, .int .u8 0, .int .u8 0, .int .u8 0, .int .u8 0, .int .u8 0, .int .u8 0, .int .u8 0, .int .u8 0, .int .u8 0, .int .u8 0, .int .u8 0, .int .u8 0, .int .u8 0, .int .u8 0, .int .u8 0, .int .u8 0, .int .u8 0, .int .u8 0, .int .u8 0, .int .u8 0, .int .u8 0, .int .u8 0, .int .u8 0, .int .u8 0, .int .u8 0, .int .u8 0, .int .u8 0, .int .u8 0, .int .u8 0, .int .u8 0]) := ⟨⟨_, info_of_run (Tryd.typeInfo105 default), rfl, rfl, rfl⟩⟩
instance : Und Tryd.prog 106 (Go.TypeDesc.func #[2, 3] #[9] false) := ⟨Tryd.runUnderlying106, Tryd.underlying106⟩
instance : MkI Tryd.prog 106 := ⟨fun v w => by simp [Instr.makeInterface, Tryd.runUnderlying106]⟩
instance : AggT Tryd.prog 106 false 1 := ⟨Tryd.isAgg106, Tryd.sizeOf106⟩
instance : BytesT Tryd.prog 106 8 := ⟨fun w => ⟨_, Tryd.typeInfo106 w, rfl⟩⟩
instance : ZeroT Tryd.prog 106 (.nilFunc) := ⟨Tryd.zeroValue106⟩
instance : ElemT Tryd.prog 106 1 8 (.nilFunc) := ⟨⟨_, info_of_run (Tryd.typeInfo106 default), rfl, rfl, rfl⟩⟩
instance : Und Tryd.prog 107 (Go.TypeDesc.array 24 5) := ⟨Tryd.runUnderlying107, Tryd.underlying107⟩
instance : MkI Tryd.prog 107 := ⟨fun v w => by simp [Instr.makeInterface, Tryd.runUnderlying107]⟩
instance : AggT Tryd.prog 107 true 24 := ⟨Tryd.isAgg107, Tryd.sizeOf107⟩
instance : BytesT Tryd.prog 107 24 := ⟨fun w => ⟨_, Tryd.typeInfo107 w, rfl⟩⟩
instance : ZeroT Tryd.prog 107 (.agg #[.int .u8 0, .int .u8 0, .int .u8 0, .int .u8 0, .int .u8 0, .int .u8 0, .int .u8 0, .int .u8 0, .int .u8 0, .int .u8 0, .int .u8 0, .int .u8 0, .int .u8 0, .int .u8 0, .int .u8 0, .int .u8 0, .int .u8 0, .int .u8 0, .int .u8 0, .int .u8 0, .int .u8 0, .int .u8 0, .int .u8 0, .int .u8 0]) := ⟨Tryd.zeroValue107⟩
instance : ElemT Tryd.prog 107 24 24 (.agg #[.int .u8 0, .int .u8 0, .int .u8 0, .int .u8 0, .int .u8 0, .int .u8 0, .int .u8 0, .int .u8 0, .int .u8 0, .int .u8 0, .int .u8 0, .int .u8 0, .int .u8 0, .int .u8 0, .int .u8 0, .int .u8 0, .int .u8 0, .int .u8 0, .int .u8 0, .int .u8 0, .int .u8 0, .int .u8 0, .int .u8 0, .int .u8 0]) := ⟨⟨_, info_of_run (Tryd.typeInfo107 default), rfl, rfl, rfl⟩⟩
instance : Und Tryd.prog 108 (Go.TypeDesc.func #[38] #[3] false) := ⟨Tryd.runUnderlying108, Tryd.underlying108⟩
instance : MkI Tryd.prog 108 := ⟨fun v w => by simp [Instr.makeInterface, Tryd.runUnderlying108]⟩
instance : AggT Tryd.prog 108 false 1 := ⟨Tryd.isAgg108, Tryd.sizeOf108⟩
instance : BytesT Tryd.prog 108 8 := ⟨fun w => ⟨_, Tryd.typeInfo108 w, rfl⟩⟩
instance : ZeroT Tryd.prog 108 (.nilFunc) := ⟨Tryd.zeroValue108⟩
instance : ElemT Tryd.prog 108 1 8 (.nilFunc) := ⟨⟨_, info_of_run (Tryd.typeInfo108 default), rfl, rfl, rfl⟩⟩
instance : Und Tryd.prog 109 (Go.TypeDesc.func #[23, 38] #[] false) := ⟨Tryd.runUnderlying109, Tryd.underlying109⟩
instance : MkI Tryd.prog 109 := ⟨fun v w => by simp [Instr.makeInterface, Tryd.runUnderlying109]⟩
instance : AggT Tryd.prog 109 false 1 := ⟨Tryd.isAgg109, Tryd.sizeOf109⟩
instance : BytesT Tryd.prog 109 8 := ⟨fun w => ⟨_, Tryd.typeInfo109 w, rfl⟩⟩
instance : ZeroT Tryd.prog 109 (.nilFunc) := ⟨Tryd.zeroValue109⟩
instance : ElemT Tryd.prog 109 1 8 (.nilFunc) := ⟨⟨_, info_of_run (Tryd.typeInfo109 default), rfl, rfl, rfl⟩⟩
instance : Und Tryd.prog 110 (Go.TypeDesc.tuple #[23, 9]) := ⟨Tryd.runUnderlying110, Tryd.underlying110⟩
instance : AggT Tryd.prog 110 false 1 := ⟨Tryd.isAgg110, Tryd.sizeOf110⟩
instance : BytesT Tryd.prog 110 0 := ⟨fun w => ⟨_, Tryd.typeInfo110 w, rfl⟩⟩
instance : Und Tryd.prog 111 (Go.TypeDesc.func #[23, 38, 3, 4, 4] #[23, 9] false) := ⟨Tryd.runUnderlying111, Tryd.underlying111⟩
instance : MkI Tryd.prog 111 := ⟨fun v w => by simp [Instr.makeInterface, Tryd.runUnderlying111]⟩
instance : AggT Tryd.prog 111 false 1 := ⟨Tryd.isAgg111, Tryd.sizeOf111⟩
instance : BytesT Tryd.prog 111 8 := ⟨fun w => ⟨_, Tryd.typeInfo111 w, rfl⟩⟩
instance : ZeroT Tryd.prog 111 (.nilFunc) := ⟨Tryd.zeroValue111⟩
instance : ElemT Tryd.prog 111 1 8 (.nilFunc) := ⟨⟨_, info_of_run (Tryd.typeInfo111 default), rfl, rfl, rfl⟩⟩
instance : Und Tryd.prog 113 (Go.TypeDesc.func #[112] #[112] false) := ⟨Tryd.runUnderlying113, Tryd.underlying113⟩
instance : MkI Tryd.prog 113 := ⟨fun v w => by simp [Instr.makeInterface, Tryd.runUnderlying113]⟩
instance : AggT Tryd.prog 113 false 1 := ⟨Tryd.isAgg113, Tryd.sizeOf113⟩
instance : BytesT Tryd.prog 113 8 := ⟨fun w => ⟨_, Tryd.typeInfo113 w, rfl⟩⟩
instance : ZeroT Tryd.prog 113 (.nilFunc) := ⟨Tryd.zeroValue113⟩
instance : ElemT Tryd.prog 113 1 8 (.nilFunc) := ⟨⟨_, info_of_run (Tryd.typeInfo113 default), rfl, rfl, rfl⟩⟩
instance : Und Tryd.prog 114 (Go.TypeDesc.func #[23, 21] #[23] false) := ⟨Tryd.runUnderlying114, Tryd.underlying114⟩
instance : MkI Tryd.prog 114 := ⟨fun v w => by simp [Instr.makeInterface, Tryd.runUnderlying114]⟩
instance : AggT Tryd.prog 114 false 1 := ⟨Tryd.isAgg114, Tryd.sizeOf114⟩
instance : BytesT Tryd.prog 114 8 := ⟨fun w => ⟨_, Tryd.typeInfo114 w, rfl⟩⟩
instance : ZeroT Tryd.prog 114 (.nilFunc) := ⟨Tryd.zeroValue114⟩
instance : ElemT Tryd.prog 114 1 8 (.nilFunc) := ⟨⟨_, info_of_run (Tryd.typeInfo114 default), rfl, rfl, rfl⟩⟩
instance : Und Tryd.prog 115 (Go.TypeDesc.func #[9, 9, 3, 3, 92] #[92] false) := ⟨Tryd.runUnderlying115, Tryd.underlying115⟩
instance : MkI Tryd.prog 115 := ⟨fun v w => by simp [Instr.makeInterface, Tryd.runUnderlying115]⟩
instance : AggT Tryd.prog 115 false 1 := ⟨Tryd.isAgg115, Tryd.sizeOf115⟩
instance : BytesT Tryd.prog 115 8 := ⟨fun w => ⟨_, Tryd.typeInfo115 w, rfl⟩⟩
instance : ZeroT Tryd.prog 115 (.nilFunc) := ⟨Tryd.zeroValue115⟩
instance : ElemT Tryd.prog 115 1 8 (.nilFunc) := ⟨⟨_, info_of_run (Tryd.typeInfo115 default), rfl, rfl, rfl⟩⟩
instance : Und Tryd.prog 116 (Go.TypeDesc.func #[3] #[3] false) := ⟨Tryd.runUnderlying116, Tryd.underlying116⟩
instance : MkI Tryd.prog 116 := ⟨fun v w => by simp [Instr.makeInterface, Tryd.runUnderlying116]⟩
instance : AggT Tryd.prog 116 false 1 := ⟨Tryd.isAgg116, Tryd.sizeOf116⟩
instance : BytesT Tryd.prog 116 8 := ⟨fun w => ⟨_, Tryd.typeInfo116 w, rfl⟩⟩
instance : ZeroT Tryd.prog 116 (.nilFunc) := ⟨Tryd.zeroValue116⟩
instance : ElemT Tryd.prog 116 1 8 (.nilFunc) := ⟨⟨_, info_of_run (Tryd.typeInfo116 default), rfl, rfl, rfl⟩⟩
instance : Und Tryd.prog 117 (Go.TypeDesc.func #[4] #[3] false) := ⟨Tryd.runUnderlying117, Tryd.underlying117⟩
instance : MkI Tryd.prog 117 := ⟨fun v w => by simp [Instr.makeInterface, Tryd.runUnderlying117]⟩
instance : AggT Tryd.prog 117 false 1 := ⟨Tryd.isAgg117, Tryd.sizeOf117⟩
instance : BytesT Tryd.prog 117 8 := ⟨fun w => ⟨_, Tryd.typeInfo117 w, rfl⟩⟩
instance : ZeroT Tryd.prog 117 (.nilFunc) := ⟨Tryd.zeroValue117⟩
instance : ElemT Tryd.prog 117 1 8 (.nilFunc) := ⟨⟨_, info_of_run (Tryd.typeInfo117 default), rfl, rfl, rfl⟩⟩
instance : Und Tryd.prog 118 (Go.TypeDesc.array 20 38) := ⟨Tryd.runUnderlying118, Tryd.underlying118⟩
instance : MkI Tryd.prog 118 := ⟨fun v w => by simp [Instr.makeInterface, Tryd.runUnderlying118]⟩
instance : AggT Tryd.prog 118 true 20 := ⟨Tryd.isAgg118, Tryd.sizeOf118⟩
instance : BytesT Tryd.prog 118 160 := ⟨fun w => ⟨_, Tryd.typeInfo118 w, rfl⟩⟩
instance : ZeroT Tryd.prog 118 (.agg #[.int .u64 0, .int .u64 0, .int .u64 0, .int .u64 0, .int .u64 0, .int .u64 0, .int .u64 0, .int .u64 0, .int .u64 0, .int .u64 0, .int .u64 0, .int .u64 0, .int .u64 0, .int .u64 0, .int .u64 0, .int .u64 0, .int .u64 0, .int .u64 0, .int .u64 0, .int .u64 0]) := ⟨Tryd.zeroValue118⟩
instance : ElemT Tryd.prog 118 20 160 (.agg #[.int .u64 0, .int .u64 0, .int .u64 0, .int .u64 0, .int .u64 0, .int .u64 0, .int .u64 0, .int .u64 0, .int .u64 0, .int .u64 0, .int .u64 0, .int .u64 0, .int .u64 0, .int .u64 0, .int .u64 0, .int .u64 0, .int .u64 0, .int .u64 0, .int .u64 0, .int .u64 0]) := ⟨⟨_, info_of_run (Tryd.typeInfo118 default), rfl, rfl, rfl⟩⟩
instance : Und Tryd.prog 119 (Go.TypeDesc.int (Go.IntKind.u32)) := ⟨Tryd.runUnderlying119, Tryd.underlying119⟩
instance : MkI Tryd.prog 119 := ⟨fun v w => by simp [Instr.makeInterface, Tryd.runUnderlying119]⟩
instance : AggT Tryd.prog 119 false 1 := ⟨Tryd.isAgg119, Tryd.sizeOf119⟩
instance : BytesT Tryd.prog 119 4 := ⟨fun w => ⟨_, Tryd.typeInfo119 w, rfl⟩⟩
instance : ZeroT Tryd.prog 119 (.int .u32 0) := ⟨Tryd.zeroValue119⟩
instance : ElemT Tryd.prog 119 1 4 (.int .u32 0) := ⟨⟨_, info_of_run (Tryd.typeInfo119 default), rfl, rfl, rfl⟩⟩
instance : Und Tryd.prog 120 (Go.TypeDesc.array 65 5) := ⟨Tryd.runUnderlying120, Tryd.underlying120⟩
instance : MkI Tryd.prog 120 := ⟨fun v w => by simp [Instr.makeInterface, Tryd.runUnderlying120]⟩
instance : AggT Tryd.prog 120 true 65 := ⟨Tryd.isAgg120, Tryd.sizeOf120⟩
instance : BytesT Tryd.prog 120 65 := ⟨fun w => ⟨_, Tryd.typeInfo120 w, rfl⟩⟩
instance : Und Tryd.prog 121 (Go.TypeDesc.func #[3] #[4] false) := ⟨Tryd.runUnderlying121, Tryd.underlying121⟩
instance : MkI Tryd.prog 121 := ⟨fun v w => by simp [Instr.makeInterface, Tryd.runUnderlying121]⟩
instance : AggT Tryd.prog 121 false 1 := ⟨Tryd.isAgg121, Tryd.sizeOf121⟩
instance : BytesT Tryd.prog 121 8 := ⟨fun w => ⟨_, Tryd.typeInfo121 w, rfl⟩⟩
instance : ZeroT Tryd.prog 121 (.nilFunc) := ⟨Tryd.zeroValue121⟩
instance : ElemT Tryd.prog 121 1 8 (.nilFunc) := ⟨⟨_, info_of_run (Tryd.typeInfo121 default), rfl, rfl, rfl⟩⟩
instance : Und Tryd.prog 122 (Go.TypeDesc.func #[102] #[3] false) := ⟨Tryd.runUnderlying122, Tryd.underlying122⟩
instance : MkI Tryd.prog 122 := ⟨fun v w => by simp [Instr.makeInterface, Tryd.runUnderlying122]⟩
instance : AggT Tryd.prog 122 false 1 := ⟨Tryd.isAgg122, Tryd.sizeOf122⟩
instance : BytesT Tryd.prog 122 8 := ⟨fun w => ⟨_, Tryd.typeInfo122 w, rfl⟩⟩
instance : ZeroT Tryd.prog 122 (.nilFunc) := ⟨Tryd.zeroValue122⟩
instance : ElemT Tryd.prog 122 1 8 (.nilFunc) := ⟨⟨_, info_of_run (Tryd.typeInfo122 default), rfl, rfl, rfl⟩⟩
instance : Und Tryd.prog 123 (Go.TypeDesc.int (Go.IntKind.i64)) := ⟨Tryd.runUnderlying123, Tryd.underlying123⟩
instance : MkI Tryd.prog 123 := ⟨fun v w => by simp [Instr.makeInterface, Tryd.runUnderlying123]⟩
instance : AggT Tryd.prog 123 false 1 := ⟨Tryd.isAgg123, Tryd.sizeOf123⟩
instance : BytesT Tryd.prog 123 8 := ⟨fun w => ⟨_, Tryd.typeInfo123 w, rfl⟩⟩
instance : ZeroT Tryd.prog 123 (.int .i64 0) := ⟨Tryd.zeroValue123⟩
instance : ElemT Tryd.prog 123 1 8 (.int .i64 0) := ⟨⟨_, info_of_run (Tryd.typeInfo123 default), rfl, rfl, rfl⟩⟩
instance : Und Tryd.prog 124 (Go.TypeDesc.func #[5] #[5] false) := ⟨Tryd.runUnderlying124, Tryd.underlying124⟩
instance : MkI Tryd.prog 124 := ⟨fun v w => by simp [Instr.makeInterface, Tryd.runUnderlying124]⟩
instance : AggT Tryd.prog 124 false 1 := ⟨Tryd.isAgg124, Tryd.sizeOf124⟩
instance : BytesT Tryd.prog 124 8 := ⟨fun w => ⟨_, Tryd.typeInfo124 w, rfl⟩⟩
instance : ZeroT Tryd.prog 124 (.nilFunc) := ⟨Tryd.zeroValue124⟩
instance : ElemT Tryd.prog 124 1 8 (.nilFunc) := ⟨⟨_, info_of_run (Tryd.typeInfo124 default), rfl, rfl, rfl⟩⟩
instance : Und Tryd.prog 125 (Go.TypeDesc.pointer 131) := ⟨Tryd.runUnderlying125, Tryd.underlying125⟩
instance : MkI Tryd.prog 125 := ⟨fun v w => by simp [Instr.makeInterface, Tryd.runUnderlying125]⟩
instance : AggT Tryd.prog 125 false 1 := ⟨Tryd.isAgg125, Tryd.sizeOf125⟩
instance : BytesT Tryd.prog 125 8 := ⟨fun w => ⟨_, Tryd.typeInfo125 w, rfl⟩⟩
instance : ZeroT Tryd.prog 125 (.pointer none) := ⟨Tryd.zeroValue125⟩
instance : ElemT Tryd.prog 125 1 8 (.pointer none) := ⟨⟨_, info_of_run (Tryd.typeInfo125 default), rfl, rfl, rfl⟩⟩
instance : Und Tryd.prog 126 (Go.TypeDesc.func #[9, 9] #[125] false) := ⟨Tryd.runUnderlying126, Tryd.underlying126⟩
instance : MkI Tryd.prog 126 := ⟨fun v w => by simp [Instr.makeInterface, Tryd.runUnderlying126]⟩
instance : AggT Tryd.prog 126 false 1 := ⟨Tryd.isAgg126, Tryd.sizeOf126⟩
instance : BytesT Tryd.prog 126 8 := ⟨fun w => ⟨_, Tryd.typeInfo126 w, rfl⟩⟩
instance : ZeroT Tryd.prog 126 (.nilFunc) := ⟨Tryd.zeroValue126⟩
instance : ElemT Tryd.prog 126 1 8 (.nilFunc) := ⟨⟨_, info_of_run (Tryd.typeInfo126 default), rfl, rfl, rfl⟩⟩
instance : Und Tryd.prog 127 (Go.TypeDesc.func #[9, 9, 3] #[125] false) := ⟨Tryd.runUnderlying127, Tryd.underlying127⟩
instance : MkI Tryd.prog 127 := ⟨fun v w => by simp [Instr.makeInterface, Tryd.runUnderlying127]⟩
instance : AggT Tryd.prog 127 false 1 := ⟨Tryd.isAgg127, Tryd.sizeOf127⟩
instance : BytesT Tryd.prog 127 8 := ⟨fun w => ⟨_, Tryd.typeInfo127 w, rfl⟩⟩
instance : ZeroT Tryd.prog 127 (.nilFunc) := ⟨Tryd.zeroValue127⟩
instance : ElemT Tryd.prog 127 1 8 (.nilFunc) := ⟨⟨_, info_of_run (Tryd.typeInfo127 default), rfl, rfl, rfl⟩⟩
instance : Und Tryd.prog 128 (Go.TypeDesc.func #[119] #[3] false) := ⟨Tryd.runUnderlying128, Tryd.underlying128⟩
instance : MkI Tryd.prog 128 := ⟨fun v w => by simp [Instr.makeInterface, Tryd.runUnderlying128]⟩
instance : AggT Tryd.prog 128 false 1 := ⟨Tryd.isAgg128, Tryd.sizeOf128⟩
instance : BytesT Tryd.prog 128 8 := ⟨fun w => ⟨_, Tryd.typeInfo128 w, rfl⟩⟩
instance : ZeroT Tryd.prog 128 (.nilFunc) := ⟨Tryd.zeroValue128⟩
instance : ElemT Tryd.prog 128 1 8 (.nilFunc) := ⟨⟨_, info_of_run (Tryd.typeInfo128 default), rfl, rfl, rfl⟩⟩
instance : Und Tryd.prog 129 (Go.TypeDesc.func #[9] #[9] false) := ⟨Tryd.runUnderlying129, Tryd.underlying129⟩
instance : MkI Tryd.prog 129 := ⟨fun v w => by simp [Instr.makeInterface, Tryd.runUnderlying129]⟩
instance : AggT Tryd.prog 129 false 1 := ⟨Tryd.isAgg129, Tryd.sizeOf129⟩
instance : BytesT Tryd.prog 129 8 := ⟨fun w => ⟨_, Tryd.typeInfo129 w, rfl⟩⟩
instance : ZeroT Tryd.prog 129 (.nilFunc) := ⟨Tryd.zeroValue129⟩
instance : ElemT Tryd.prog 129 1 8 (.nilFunc) := ⟨⟨_, info_of_run (Tryd.typeInfo129 default), rfl, rfl, rfl⟩⟩
instance : MkI Tryd.prog 130 := ⟨fun v w => by simp [Instr.makeInterface, Tryd.runUnderlying130]⟩
instance : AggT Tryd.prog 130 true 3 := ⟨Tryd.isAgg130, Tryd.sizeOf130⟩
instance : BytesT Tryd.prog 130 48 := ⟨fun w => ⟨_, Tryd.typeInfo130 w, rfl⟩⟩
instance : ZeroT Tryd.prog 130 (.agg #[.string ⟨#[]⟩, .string ⟨#[]⟩, .nilIface]) := ⟨Tryd.zeroValue130⟩
instance : ElemT Tryd.prog 130 3 48 (.agg #[.string ⟨#[]⟩, .string ⟨#[]⟩, .nilIface]) := ⟨⟨_, info_of_run (Tryd.typeInfo130 default), rfl, rfl, rfl⟩⟩
instance : FOff Tryd.prog 130 0 0 := ⟨fun w a => by simp [Instr.fieldAt, Instr.sureAddr, fieldPlace]⟩
instance : FOff Tryd.prog 130 1 1 := ⟨fun w a => by simp [Instr.fieldAt, Instr.sureAddr, fieldPlace]⟩
instance : FOff Tryd.prog 130 2 2 := ⟨fun w a => by simp [Instr.fieldAt, Instr.sureAddr, fieldPlace]⟩
instance : BuildT Tryd.prog 130 [(0, 1), (1, 1), (2, 1)] [.string ⟨#[]⟩, .string ⟨#[]⟩, .nilIface] := buildT_of Tryd.zeroValue130 Tryd.runUnderlying130 (fun w => by simp)
instance : MkI Tryd.prog 131 := ⟨fun v w => by simp [Instr.makeInterface, Tryd.runUnderlying131]⟩
instance : AggT Tryd.prog 131 true 3 := ⟨Tryd.isAgg131, Tryd.sizeOf131⟩
instance : BytesT Tryd.prog 131 48 := ⟨fun w => ⟨_, Tryd.typeInfo131 w, rfl⟩⟩
instance : ZeroT Tryd.prog 131 (.agg #[.string ⟨#[]⟩, .string ⟨#[]⟩, .nilIface]) := ⟨Tryd.zeroValue131⟩
instance : ElemT Tryd.prog 131 3 48 (.agg #[.string ⟨#[]⟩, .string ⟨#[]⟩, .nilIface]) := ⟨⟨_, info_of_run (Tryd.typeInfo131 default), rfl, rfl, rfl⟩⟩
instance : FOff Tryd.prog 131 0 0 := ⟨fun w a => by simp [Instr.fieldAt, Instr.sureAddr, fieldPlace]⟩
instance : FOff Tryd.prog 131 1 1 := ⟨fun w a => by simp [Instr.fieldAt, Instr.sureAddr, fieldPlace]⟩
instance : FOff Tryd.prog 131 2 2 := ⟨fun w a => by simp [Instr.fieldAt, Instr.sureAddr, fieldPlace]⟩
instance : BuildT Tryd.prog 131 [(0, 1), (1, 1), (2, 1)] [.string ⟨#[]⟩, .string ⟨#[]⟩, .nilIface] := buildT_of Tryd.zeroValue131 Tryd.runUnderlying131 (fun w => by simp)
instance : Und Tryd.prog 132 (Go.TypeDesc.func #[9] #[92] false) := ⟨Tryd.runUnderlying132, Tryd.underlying132⟩
instance : MkI Tryd.prog 132 := ⟨fun v w => by simp [Instr.makeInterface, Tryd.runUnderlying132]⟩
instance : AggT Tryd.prog 132 false 1 := ⟨Tryd.isAgg132, Tryd.sizeOf132⟩
instance : BytesT Tryd.prog 132 8 := ⟨fun w => ⟨_, Tryd.typeInfo132 w, rfl⟩⟩
instance : ZeroT Tryd.prog 132 (.nilFunc) := ⟨Tryd.zeroValue132⟩
instance : ElemT Tryd.prog 132 1 8 (.nilFunc) := ⟨⟨_, info_of_run (Tryd.typeInfo132 default), rfl, rfl, rfl⟩⟩
instance : Und Tryd.prog 133 (Go.TypeDesc.array 32 5) := ⟨Tryd.runUnderlying133, Tryd.underlying133⟩
instance : MkI Tryd.prog 133 := ⟨fun v w => by simp [Instr.makeInterface, Tryd.runUnderlying133]⟩
instance : AggT Tryd.prog 133 true 32 := ⟨Tryd.isAgg133, Tryd.sizeOf133⟩
instance : BytesT Tryd.prog 133 32 := ⟨fun w => ⟨_, Tryd.typeInfo133 w, rfl⟩⟩
instance : ZeroT Tryd.prog 133 (.agg #[.int .u8 0, .int .u8 0, .int .u8 0, .int .u8 0, .int .u8 0, .int .u8 0, .int .u8 0, .int .u8 0, .int .u8 0, .int .u8 0, .int .u8 0, .int .u8 0, .int .u8 0, .int .u8 0, .int .u8 0, .int .u8 0, .int .u8 0, .int .u8 0, .int .u8 0, .int .u8 0, .int .u8 0, .int .u8 0, .int .u8 0, .int .u8 0, .int .u8 0, .int .u8 0, .int .u8 0, .int .u8 0, .int .u8 0, .int .u8 0, .int .u8 0, .int .u8 0]) := ⟨Tryd.zeroValue133⟩
instance : ElemT Tryd.prog 133 32 32 (.agg #[.int .u8 0, .int .u8 0, .int .u8 0, .int .u8 0, .int .u8 0, .int .u8 0, .int .u8 0, .int .u8 0, .int .u8 0, .int .u8 0, .int .u8 0, .int .u8 0, .int .u8 0, .int .u8 0, .int .u8 0, .int .u8 0, .int .u8 0, .int .u8 0, .int .u8 0, .int .u8 0, .int .u8 0, .int .u8 0, .int .u8 0, .int .u8 0, .int .u8 0, .int .u8 0, .int .u8 0, .int .u8 0, .int .u8 0, .int .u8 0, .int .u8 0, .int .u8 0]) := ⟨⟨_, info_of_run (Tryd.typeInfo133 default), rfl, rfl, rfl⟩⟩
instance : Und Tryd.prog 134 (Go.TypeDesc.array 64 5) := ⟨Tryd.runUnderlying134, Tryd.underlying134⟩
instance : MkI Tryd.prog 134 := ⟨fun v w => by simp [Instr.makeInterface, Tryd.runUnderlying134]⟩
instance : AggT Tryd.prog 134 true 64 := ⟨Tryd.isAgg134, Tryd.sizeOf134⟩
instance : BytesT Tryd.prog 134 64 := ⟨fun w => ⟨_, Tryd.typeInfo134 w, rfl⟩⟩
instance : Und Tryd.prog 135 (Go.TypeDesc.pointer 137) := ⟨Tryd.runUnderlying135, Tryd.underlying135⟩
instance : MkI Tryd.prog 135 := ⟨fun v w => by simp [Instr.makeInterface, Tryd.runUnderlying135]⟩
instance : AggT Tryd.prog 135 false 1 := ⟨Tryd.isAgg135, Tryd.sizeOf135⟩
instance : BytesT Tryd.prog 135 8 := ⟨fun w => ⟨_, Tryd.typeInfo135 w, rfl⟩⟩
instance : ZeroT Tryd.prog 135 (.pointer none) := ⟨Tryd.zeroValue135⟩
instance : ElemT Tryd.prog 135 1 8 (.pointer none) := ⟨⟨_, info_of_run (Tryd.typeInfo135 default), rfl, rfl, rfl⟩⟩
instance : MkI Tryd.prog 136 := ⟨fun v w => by simp [Instr.makeInterface, Tryd.runUnderlying136]⟩
instance : AggT Tryd.prog 136 true 1 := ⟨Tryd.isAgg136, Tryd.sizeOf136⟩
instance : BytesT Tryd.prog 136 16 := ⟨fun w => ⟨_, Tryd.typeInfo136 w, rfl⟩⟩
instance : ZeroT Tryd.prog 136 (.agg #[.string ⟨#[]⟩]) := ⟨Tryd.zeroValue136⟩
instance : ElemT Tryd.prog 136 1 16 (.agg #[.string ⟨#[]⟩]) := ⟨⟨_, info_of_run (Tryd.typeInfo136 default), rfl, rfl, rfl⟩⟩
instance : FOff Tryd.prog 136 0 0 := ⟨fun w a => by simp [Instr.fieldAt, Instr.sureAddr, fieldPlace]⟩
instance : BuildT Tryd.prog 136 [(0, 1)] [.string ⟨#[]⟩] := buildT_of Tryd.zeroValue136 Tryd.runUnderlying136 (fun w => by simp)
instance : MkI Tryd.prog 137 := ⟨fun v w => by simp [Instr.makeInterface, Tryd.runUnderlying137]⟩
instance : AggT Tryd.prog 137 true 1 := ⟨Tryd.isAgg137, Tryd.sizeOf137⟩
instance : BytesT Tryd.prog 137 16 := ⟨fun w => ⟨_, Tryd.typeInfo137 w, rfl⟩⟩
instance : ZeroT Tryd.prog 137 (.agg #[.string ⟨#[]⟩]) := ⟨Tryd.zeroValue137⟩
instance : ElemT Tryd.prog 137 1 16 (.agg #[.string ⟨#[]⟩]) := ⟨⟨_, info_of_run (Tryd.typeInfo137 default), rfl, rfl, rfl⟩⟩
instance : FOff Tryd.prog 137 0 0 := ⟨fun w a => by simp [Instr.fieldAt, Instr.sureAddr, fieldPlace]⟩
instance : BuildT Tryd.prog 137 [(0, 1)] [.string ⟨#[]⟩] := buildT_of Tryd.zeroValue137 Tryd.runUnderlying137 (fun w => by simp)
instance : MkI Tryd.prog 138 := ⟨fun v w => by simp [Instr.makeInterface, Tryd.runUnderlying138]⟩
instance : AggT Tryd.prog 138 true 4 := ⟨Tryd.isAgg138, Tryd.sizeOf138⟩
instance : BytesT Tryd.prog 138 40 := ⟨fun w => ⟨_, Tryd.typeInfo138 w, rfl⟩⟩
instance : ZeroT Tryd.prog 138 (.agg #[.pointer none, .pointer none, .pointer none, .string ⟨#[]⟩]) := ⟨Tryd.zeroValue138⟩
instance : ElemT Tryd.prog 138 4 40 (.agg #[.pointer none, .pointer none, .pointer none, .string ⟨#[]⟩]) := ⟨⟨_, info_of_run (Tryd.typeInfo138 default), rfl, rfl, rfl⟩⟩
instance : FOff Tryd.prog 138 0 0 := ⟨fun w a => by simp [Instr.fieldAt, Instr.sureAddr, fieldPlace]⟩
instance : FOff Tryd.prog 138 1 1 := ⟨fun w a => by simp [Instr.fieldAt, Instr.sureAddr, fieldPlace]⟩
instance : FOff Tryd.prog 138 2 2 := ⟨fun w a => by simp [Instr.fieldAt, Instr.sureAddr, fieldPlace]⟩
instance : FOff Tryd.prog 138 3 3 := ⟨fun w a => by simp [Instr.fieldAt, Instr.sureAddr, fieldPlace]⟩
instance : BuildT Tryd.prog 138 [(0, 1), (1, 1), (2, 1), (3, 1)] [.pointer none, .pointer none, .pointer none, .string ⟨#[]⟩] := buildT_of Tryd.zeroValue138 Tryd.runUnderlying138 (fun w => by simp)
instance : Und Tryd.prog 140 (Go.TypeDesc.array 0 16) := ⟨Tryd.runUnderlying140, Tryd.underlying140⟩
instance : MkI Tryd.prog 140 := ⟨fun v w => by simp [Instr.makeInterface, Tryd.runUnderlying140]⟩
instance : AggT Tryd.prog 140 true 0 := ⟨Tryd.isAgg140, Tryd.sizeOf140⟩
instance : BytesT Tryd.prog 140 0 := ⟨fun w => ⟨_, Tryd.typeInfo140 w, rfl⟩⟩
instance : ZeroT Tryd.prog 140 (.agg #[]) := ⟨Tryd.zeroValue140⟩
instance : ElemT Tryd.prog 140 0 0 (.agg #[]) := ⟨⟨_, info_of_run (Tryd.typeInfo140 default), rfl, rfl, rfl⟩⟩
instance : MkI Tryd.prog 141 := ⟨fun v w => by simp [Instr.makeInterface, Tryd.runUnderlying141]⟩
instance : AggT Tryd.prog 141 true 0 := ⟨Tryd.isAgg141, Tryd.sizeOf141⟩
instance : BytesT Tryd.prog 141 0 := ⟨fun w => ⟨_, Tryd.typeInfo141 w, rfl⟩⟩
instance : ZeroT Tryd.prog 141 (.agg #[]) := ⟨Tryd.zeroValue141⟩
instance : ElemT Tryd.prog 141 0 0 (.agg #[]) := ⟨⟨_, info_of_run (Tryd.typeInfo141 default), rfl, rfl, rfl⟩⟩
instance : Und Tryd.prog 145 (Go.TypeDesc.func #[112, 112] #[4] false) := ⟨Tryd.runUnderlying145, Tryd.underlying145⟩
instance : MkI Tryd.prog 145 := ⟨fun v w => by simp [Instr.makeInterface, Tryd.runUnderlying145]⟩
instance : AggT Tryd.prog 145 false 1 := ⟨Tryd.isAgg145, Tryd.sizeOf145⟩
instance : BytesT Tryd.prog 145 8 := ⟨fun w => ⟨_, Tryd.typeInfo145 w, rfl⟩⟩
instance : ZeroT Tryd.prog 145 (.nilFunc) := ⟨Tryd.zeroValue145⟩
instance : ElemT Tryd.prog 145 1 8 (.nilFunc) := ⟨⟨_, info_of_run (Tryd.typeInfo145 default), rfl, rfl, rfl⟩⟩
instance : MkI Tryd.prog 148 := ⟨fun v w => by simp [Instr.makeInterface, Tryd.runUnderlying148]⟩
instance : AggT Tryd.prog 148 true 11 := ⟨Tryd.isAgg148, Tryd.sizeOf148⟩
instance : BytesT Tryd.prog 148 48 := ⟨fun w => ⟨_, Tryd.typeInfo148 w, rfl⟩⟩
instance : ZeroT Tryd.prog 148 (.agg #[.int .u64 0, .int .u64 0, .int .u32 0, .int .u8 0, .int .u8 0, .int .u8 0, .int .u8 0, .nilFunc, .pointer none, .int .i32 0, .int .i32 0]) := ⟨Tryd.zeroValue148⟩
instance : ElemT Tryd.prog 148 11 48 (.agg #[.int .u64 0, .int .u64 0, .int .u32 0, .int .u8 0, .int .u8 0, .int .u8 0, .int .u8 0, .nilFunc, .pointer none, .int .i32 0, .int .i32 0]) := ⟨⟨_, info_of_run (Tryd.typeInfo148 default), rfl, rfl, rfl⟩⟩
instance : FOff Tryd.prog 148 0 0 := ⟨fun w a => by simp [Instr.fieldAt, Instr.sureAddr, fieldPlace]⟩
instance : FOff Tryd.prog 148 1 1 := ⟨fun w a => by simp [Instr.fieldAt, Instr.sureAddr, fieldPlace]⟩
instance : FOff Tryd.prog 148 2 2 := ⟨fun w a => by simp [Instr.fieldAt, Instr.sureAddr, fieldPlace]⟩
instance : FOff Tryd.prog 148 3 3 := ⟨fun w a => by simp [Instr.fieldAt, Instr.sureAddr, fieldPlace]⟩
instance : FOff Tryd.prog 148 4 4 := ⟨fun w a => by simp [Instr.fieldAt, Instr.sureAddr, fieldPlace]⟩
instance : FOff Tryd.prog 148 5 5 := ⟨fun w a => by simp [Instr.fieldAt, Instr.sureAddr, fieldPlace]⟩
instance : FOff Tryd.prog 148 6 6 := ⟨fun w a => by simp [Instr.fieldAt, Instr.sureAddr, fieldPlace]⟩
instance : FOff Tryd.prog 148 7 7 := ⟨fun w a => by simp [Instr.fieldAt, Instr.sureAddr, fieldPlace]⟩
instance : FOff Tryd.prog 148 8 8 := ⟨fun w a => by simp [Instr.fieldAt, Instr.sureAddr, fieldPlace]⟩
instance : FOff Tryd.prog 148 9 9 := ⟨fun w a => by simp [Instr.fieldAt, Instr.sureAddr, fieldPlace]⟩
instance : FOff Tryd.prog 148 10 10 := ⟨fun w a => by simp [Instr.fieldAt, Instr.sureAddr, fieldPlace]⟩
instance : BuildT Tryd.prog 148 [(0, 1), (1, 1), (2, 1), (3, 1), (4, 1), (5, 1), (6, 1), (7, 1), (8, 1), (9, 1), (10, 1)] [.int .u64 0, .int .u64 0, .int .u32 0, .int .u8 0, .int .u8 0, .int .u8 0, .int .u8 0, .nilFunc, .pointer none, .int .i32 0, .int .i32 0] := buildT_of Tryd.zeroValue148 Tryd.runUnderlying148 (fun w => by simp)
instance : CallT Tryd.prog 2 := ⟨Tryd.call2⟩
instance : CallT Tryd.prog 3 := ⟨Tryd.call3⟩
instance : CallT Tryd.prog 4 := ⟨Tryd.call4⟩
instance : CallT Tryd.prog 5 := ⟨Tryd.call5⟩
instance : CallT Tryd.prog 6 := ⟨Tryd.call6⟩
instance : CallT Tryd.prog 7 := ⟨Tryd.call7⟩
instance : CallT Tryd.prog 8 := ⟨Tryd.call8⟩
instance : CallT Tryd.prog 9 := ⟨Tryd.call9⟩
instance : CallT Tryd.prog 10 := ⟨Tryd.call10⟩
instance : CallT Tryd.prog 11 := ⟨Tryd.call11⟩
instance : CallT Tryd.prog 12 := ⟨Tryd.call12⟩
instance : CallT Tryd.prog 13 := ⟨Tryd.call13⟩
instance : CallT Tryd.prog 14 := ⟨Tryd.call14⟩
instance : CallT Tryd.prog 15 := ⟨Tryd.call15⟩
instance : CallT Tryd.prog 16 := ⟨Tryd.call16⟩
instance : CallT Tryd.prog 17 := ⟨Tryd.call17⟩
instance : CallT Tryd.prog 18 := ⟨Tryd.call18⟩
instance : CallT Tryd.prog 19 := ⟨Tryd.call19⟩
instance : CallT Tryd.prog 20 := ⟨Tryd.call20⟩
instance : CallT Tryd.prog 21 := ⟨Tryd.call21⟩
instance : CallT Tryd.prog 22 := ⟨Tryd.call22⟩
instance : CallT Tryd.prog 23 := ⟨Tryd.call23⟩
instance : CallT Tryd.prog 24 := ⟨Tryd.call24⟩
instance : CallT Tryd.prog 25 := ⟨Tryd.call25⟩
instance : CallT Tryd.prog 26 := ⟨Tryd.call26⟩
instance : CallT Tryd.prog 27 := ⟨Tryd.call27⟩
instance : CallT Tryd.prog 28 := ⟨Tryd.call28⟩
instance : CallT Tryd.prog 29 := ⟨Tryd.call29⟩
instance : CallT Tryd.prog 30 := ⟨Tryd.call30⟩
instance : CallT Tryd.prog 31 := ⟨Tryd.call31⟩
instance : CallT Tryd.prog 32 := ⟨Tryd.call32⟩
instance : CallT Tryd.prog 33 := ⟨Tryd.call33⟩
instance : CallT Tryd.prog 34 := ⟨Tryd.call34⟩
instance : CallT Tryd.prog 35 := ⟨Tryd.call35⟩
instance : CallT Tryd.prog 36 := ⟨Tryd.call36⟩
instance : CallT Tryd.prog 37 := ⟨Tryd.call37⟩
instance : CallT Tryd.prog 38 := ⟨Tryd.call38⟩
instance : CallT Tryd.prog 39 := ⟨Tryd.call39⟩
instance : CallT Tryd.prog 40 := ⟨Tryd.call40⟩
instance : CallT Tryd.prog 41 := ⟨Tryd.call41⟩
instance : CallT Tryd.prog 42 := ⟨Tryd.call42⟩
instance : CallT Tryd.prog 43 := ⟨Tryd.call43⟩
instance : CallT Tryd.prog 44 := ⟨Tryd.call44⟩
instance : CallT Tryd.prog 45 := ⟨Tryd.call45⟩
instance : CallT Tryd.prog 46 := ⟨Tryd.call46⟩
instance : CallT Tryd.prog 47 := ⟨Tryd.call47⟩
instance : CallT Tryd.prog 48 := ⟨Tryd.call48⟩
instance : CallT Tryd.prog 49 := ⟨Tryd.call49⟩
instance : CallT Tryd.prog 50 := ⟨Tryd.call50⟩
instance : CallT Tryd.prog 51 := ⟨Tryd.call51⟩
instance : CallT Tryd.prog 52 := ⟨Tryd.call52⟩
instance : CallT Tryd.prog 53 := ⟨Tryd.call53⟩
instance : CallT Tryd.prog 54 := ⟨Tryd.call54⟩
instance : CallT Tryd.prog 55 := ⟨Tryd.call55⟩
instance : CallT Tryd.prog 57 := ⟨Tryd.call57⟩
instance : CallT Tryd.prog 58 := ⟨Tryd.call58⟩
instance : CallT Tryd.prog 59 := ⟨Tryd.call59⟩
instance : CallT Tryd.prog 60 := ⟨Tryd.call60⟩
instance : CallT Tryd.prog 61 := ⟨Tryd.call61⟩
instance : CallT Tryd.prog 62 := ⟨Tryd.call62⟩
instance : CallT Tryd.prog 63 := ⟨Tryd.call63⟩
instance : CallT Tryd.prog 64 := ⟨Tryd.call64⟩
instance : CallT Tryd.prog 65 := ⟨Tryd.call65⟩
instance : CallT Tryd.prog 66 := ⟨Tryd.call66⟩
instance : CallT Tryd.prog 67 := ⟨Tryd.call67⟩
instance : CallT Tryd.prog 68 := ⟨Tryd.call68⟩
instance : CallT Tryd.prog 69 := ⟨Tryd.call69⟩
instance : CallT Tryd.prog 70 := ⟨Tryd.call70⟩
instance : CallT Tryd.prog 71 := ⟨Tryd.call71⟩
instance : CallT Tryd.prog 72 := ⟨Tryd.call72⟩
instance : CallT Tryd.prog 73 := ⟨Tryd.call73⟩
instance : CallT Tryd.prog 74 := ⟨Tryd.call74⟩
instance : CallT Tryd.prog 75 := ⟨Tryd.call75⟩
instance : CallT Tryd.prog 92 := ⟨Tryd.call92⟩
instance : CallT Tryd.prog 93 := ⟨Tryd.call93⟩
instance : CallT Tryd.prog 94 := ⟨Tryd.call94⟩
instance : CallT Tryd.prog 95 := ⟨Tryd.call95⟩
instance : CallT Tryd.prog 96 := ⟨Tryd.call96⟩
instance : CallT Tryd.prog 97 := ⟨Tryd.call97⟩
instance : CallT Tryd.prog 98 := ⟨Tryd.call98⟩
instance : CallT Tryd.prog 99 := ⟨Tryd.call99⟩
instance : CallT Tryd.prog 100 := ⟨Tryd.call100⟩
instance : CallT Tryd.prog 101 := ⟨Tryd.call101⟩
instance : CallT Tryd.prog 102 := ⟨Tryd.call102⟩
instance : CallT Tryd.prog 117 := ⟨Tryd.call117⟩
end Go.Proofs.YtihkfklpoliilaaDoor
