/- The tables of this seat's program, as the walks look them up. Printed by wip/tools/Dump.lean. -/
import Derived.Test.YtohienhoifgmaaaGreatP08
import Derived.Test.YtohienhoifgmaaaGreatProg
import Derived.KernelRfl

namespace Go.Proofs.YtohienhoifgmaaaGreat
open Go Go.Sl
instance : Und Tryz.prog 3 (Go.TypeDesc.int (Go.IntKind.i64)) := ⟨Tryz.runUnderlying3, Tryz.underlying3⟩
instance : AggT Tryz.prog 3 false 1 := ⟨Tryz.isAgg3, Tryz.sizeOf3⟩
instance : BytesT Tryz.prog 3 8 := ⟨fun w => ⟨_, Tryz.typeInfo3 w, rfl⟩⟩
instance : ZeroT Tryz.prog 3 (.int .i64 0) := ⟨Tryz.zeroValue3⟩
instance : ElemT Tryz.prog 3 1 8 (.int .i64 0) := ⟨⟨_, info_of_run (Tryz.typeInfo3 default), rfl, rfl, rfl⟩⟩
instance : Und Tryz.prog 4 (Go.TypeDesc.bool) := ⟨Tryz.runUnderlying4, Tryz.underlying4⟩
instance : AggT Tryz.prog 4 false 1 := ⟨Tryz.isAgg4, Tryz.sizeOf4⟩
instance : Und Tryz.prog 5 (Go.TypeDesc.int (Go.IntKind.u8)) := ⟨Tryz.runUnderlying5, Tryz.underlying5⟩
instance : AggT Tryz.prog 5 false 1 := ⟨Tryz.isAgg5, Tryz.sizeOf5⟩
instance : BytesT Tryz.prog 5 1 := ⟨fun w => ⟨_, Tryz.typeInfo5 w, rfl⟩⟩
instance : ZeroT Tryz.prog 5 (.int .u8 0) := ⟨Tryz.zeroValue5⟩
instance : ElemT Tryz.prog 5 1 1 (.int .u8 0) := ⟨⟨_, info_of_run (Tryz.typeInfo5 default), rfl, rfl, rfl⟩⟩
instance : AggT Tryz.prog 23 true 6 := ⟨Tryz.isAgg23, Tryz.sizeOf23⟩
instance : FOff Tryz.prog 23 0 0 := ⟨fun w a => by simp [Instr.fieldAt, Instr.sureAddr, fieldPlace]⟩
instance : FOff Tryz.prog 23 1 1 := ⟨fun w a => by simp [Instr.fieldAt, Instr.sureAddr, fieldPlace]⟩
instance : FOff Tryz.prog 23 2 2 := ⟨fun w a => by simp [Instr.fieldAt, Instr.sureAddr, fieldPlace]⟩
instance : FOff Tryz.prog 23 3 3 := ⟨fun w a => by simp [Instr.fieldAt, Instr.sureAddr, fieldPlace]⟩
instance : FOff Tryz.prog 23 4 4 := ⟨fun w a => by simp [Instr.fieldAt, Instr.sureAddr, fieldPlace]⟩
instance : FOff Tryz.prog 23 5 5 := ⟨fun w a => by simp [Instr.fieldAt, Instr.sureAddr, fieldPlace]⟩
instance : BuildT Tryz.prog 23 [(0, 1), (1, 1), (2, 1), (3, 1), (4, 1), (5, 1)] [.int .u8 0, .int .u8 0, .int .u8 0, .int .u8 0, .int .u8 0, .int .u8 0] := buildT_of Tryz.zeroValue23 Tryz.runUnderlying23 (fun w => by simp)
instance : Und Tryz.prog 24 (Go.TypeDesc.slice 39) := ⟨Tryz.runUnderlying24, Tryz.underlying24⟩
instance : AggT Tryz.prog 27 true 6 := ⟨Tryz.isAgg27, Tryz.sizeOf27⟩
instance : ZeroT Tryz.prog 27 (.agg #[.int .i64 0, .int .i64 0, .int .i64 0, .int .i64 0, .int .i64 0, .int .i64 0]) := ⟨Tryz.zeroValue27⟩
instance : FOff Tryz.prog 27 0 0 := ⟨fun w a => by simp [Instr.fieldAt, Instr.sureAddr, fieldPlace]⟩
instance : FOff Tryz.prog 27 1 1 := ⟨fun w a => by simp [Instr.fieldAt, Instr.sureAddr, fieldPlace]⟩
instance : FOff Tryz.prog 27 2 2 := ⟨fun w a => by simp [Instr.fieldAt, Instr.sureAddr, fieldPlace]⟩
instance : FOff Tryz.prog 27 3 3 := ⟨fun w a => by simp [Instr.fieldAt, Instr.sureAddr, fieldPlace]⟩
instance : FOff Tryz.prog 27 4 4 := ⟨fun w a => by simp [Instr.fieldAt, Instr.sureAddr, fieldPlace]⟩
instance : FOff Tryz.prog 27 5 5 := ⟨fun w a => by simp [Instr.fieldAt, Instr.sureAddr, fieldPlace]⟩
instance : BuildT Tryz.prog 27 [(0, 1), (1, 1), (2, 1), (3, 1), (4, 1), (5, 1)] [.int .i64 0, .int .i64 0, .int .i64 0, .int .i64 0, .int .i64 0, .int .i64 0] := buildT_of Tryz.zeroValue27 Tryz.runUnderlying27 (fun w => by simp)
instance : Und Tryz.prog 29 (Go.TypeDesc.pointer 49) := ⟨Tryz.runUnderlying29, Tryz.underlying29⟩
instance : Und Tryz.prog 35 (Go.TypeDesc.int (Go.IntKind.u64)) := ⟨Tryz.runUnderlying35, Tryz.underlying35⟩
instance : AggT Tryz.prog 35 false 1 := ⟨Tryz.isAgg35, Tryz.sizeOf35⟩
instance : BytesT Tryz.prog 35 8 := ⟨fun w => ⟨_, Tryz.typeInfo35 w, rfl⟩⟩
instance : ZeroT Tryz.prog 35 (.int .u64 0) := ⟨Tryz.zeroValue35⟩
instance : AggT Tryz.prog 37 true 3 := ⟨Tryz.isAgg37, Tryz.sizeOf37⟩
instance : FOff Tryz.prog 37 0 0 := ⟨fun w a => by simp [Instr.fieldAt, Instr.sureAddr, fieldPlace]⟩
instance : FOff Tryz.prog 37 1 1 := ⟨fun w a => by simp [Instr.fieldAt, Instr.sureAddr, fieldPlace]⟩
instance : FOff Tryz.prog 37 2 2 := ⟨fun w a => by simp [Instr.fieldAt, Instr.sureAddr, fieldPlace]⟩
instance : AggT Tryz.prog 39 true 4 := ⟨Tryz.isAgg39, Tryz.sizeOf39⟩
instance : ZeroT Tryz.prog 39 (.agg #[.int .u8 0, .int .u8 0, .int .u8 0, .int .u8 0]) := ⟨Tryz.zeroValue39⟩
instance : FOff Tryz.prog 39 0 0 := ⟨fun w a => by simp [Instr.fieldAt, Instr.sureAddr, fieldPlace]⟩
instance : FOff Tryz.prog 39 1 3 := ⟨fun w a => by simp [Instr.fieldAt, Instr.sureAddr, fieldPlace]⟩
instance : AggT Tryz.prog 43 true 9 := ⟨Tryz.isAgg43, Tryz.sizeOf43⟩
instance : ZeroT Tryz.prog 43 (.agg #[.int .i64 0, .int .i64 0, .int .i64 0, .int .i64 0, .int .i64 0, .int .i64 0, .int .u64 0, .int .u64 0, .int .i64 0]) := ⟨Tryz.zeroValue43⟩
instance : FOff Tryz.prog 43 0 0 := ⟨fun w a => by simp [Instr.fieldAt, Instr.sureAddr, fieldPlace]⟩
instance : FOff Tryz.prog 43 1 6 := ⟨fun w a => by simp [Instr.fieldAt, Instr.sureAddr, fieldPlace]⟩
instance : FOff Tryz.prog 43 2 7 := ⟨fun w a => by simp [Instr.fieldAt, Instr.sureAddr, fieldPlace]⟩
instance : FOff Tryz.prog 43 3 8 := ⟨fun w a => by simp [Instr.fieldAt, Instr.sureAddr, fieldPlace]⟩
instance : BuildT Tryz.prog 43 [(0, 6), (6, 1), (7, 1), (8, 1)] [.int .i64 0, .int .i64 0, .int .i64 0, .int .i64 0, .int .i64 0, .int .i64 0, .int .u64 0, .int .u64 0, .int .i64 0] := buildT_of Tryz.zeroValue43 Tryz.runUnderlying43 (fun w => by simp)
instance : Und Tryz.prog 44 (Go.TypeDesc.pointer 119) := ⟨Tryz.runUnderlying44, Tryz.underlying44⟩
instance : AggT Tryz.prog 44 false 1 := ⟨Tryz.isAgg44, Tryz.sizeOf44⟩
instance : Und Tryz.prog 45 (Go.TypeDesc.pointer 112) := ⟨Tryz.runUnderlying45, Tryz.underlying45⟩
instance : AggT Tryz.prog 45 false 1 := ⟨Tryz.isAgg45, Tryz.sizeOf45⟩
instance : Und Tryz.prog 46 (Go.TypeDesc.pointer 163) := ⟨Tryz.runUnderlying46, Tryz.underlying46⟩
instance : AggT Tryz.prog 46 false 1 := ⟨Tryz.isAgg46, Tryz.sizeOf46⟩
instance : Und Tryz.prog 47 (Go.TypeDesc.pointer 135) := ⟨Tryz.runUnderlying47, Tryz.underlying47⟩
instance : AggT Tryz.prog 47 false 1 := ⟨Tryz.isAgg47, Tryz.sizeOf47⟩
instance : FOff Tryz.prog 49 0 0 := ⟨fun w a => by simp [Instr.fieldAt, Instr.sureAddr, fieldPlace]⟩
instance : FOff Tryz.prog 49 1 6 := ⟨fun w a => by simp [Instr.fieldAt, Instr.sureAddr, fieldPlace]⟩
instance : FOff Tryz.prog 49 2 7 := ⟨fun w a => by simp [Instr.fieldAt, Instr.sureAddr, fieldPlace]⟩
instance : FOff Tryz.prog 49 3 8 := ⟨fun w a => by simp [Instr.fieldAt, Instr.sureAddr, fieldPlace]⟩
instance : FOff Tryz.prog 49 4 9 := ⟨fun w a => by simp [Instr.fieldAt, Instr.sureAddr, fieldPlace]⟩
instance : FOff Tryz.prog 49 5 10 := ⟨fun w a => by simp [Instr.fieldAt, Instr.sureAddr, fieldPlace]⟩
instance : FOff Tryz.prog 49 6 11 := ⟨fun w a => by simp [Instr.fieldAt, Instr.sureAddr, fieldPlace]⟩
instance : BuildT Tryz.prog 49 [(0, 6), (6, 1), (7, 1), (8, 1), (9, 1), (10, 1), (11, 1)] [.int .i64 0, .int .i64 0, .int .i64 0, .int .i64 0, .int .i64 0, .int .i64 0, .pointer none, .pointer none, .pointer none, .pointer none, .int .i64 0, .int .i64 0] := buildT_of Tryz.zeroValue49 Tryz.runUnderlying49 (fun w => by simp)
instance : Und Tryz.prog 52 (Go.TypeDesc.slice 67) := ⟨Tryz.runUnderlying52, Tryz.underlying52⟩
instance : AggT Tryz.prog 52 false 1 := ⟨Tryz.isAgg52, Tryz.sizeOf52⟩
instance : Und Tryz.prog 53 (Go.TypeDesc.slice 3) := ⟨Tryz.runUnderlying53, Tryz.underlying53⟩
instance : AggT Tryz.prog 53 false 1 := ⟨Tryz.isAgg53, Tryz.sizeOf53⟩
instance : AggT Tryz.prog 55 true 5 := ⟨Tryz.isAgg55, Tryz.sizeOf55⟩
instance : ZeroT Tryz.prog 55 (.agg #[.int .u64 0, .int .i64 0, .int .i64 0, .slice none 0 0, .slice none 0 0]) := ⟨Tryz.zeroValue55⟩
instance : FOff Tryz.prog 55 0 0 := ⟨fun w a => by simp [Instr.fieldAt, Instr.sureAddr, fieldPlace]⟩
instance : FOff Tryz.prog 55 1 1 := ⟨fun w a => by simp [Instr.fieldAt, Instr.sureAddr, fieldPlace]⟩
instance : FOff Tryz.prog 55 2 2 := ⟨fun w a => by simp [Instr.fieldAt, Instr.sureAddr, fieldPlace]⟩
instance : FOff Tryz.prog 55 3 3 := ⟨fun w a => by simp [Instr.fieldAt, Instr.sureAddr, fieldPlace]⟩
instance : FOff Tryz.prog 55 4 4 := ⟨fun w a => by simp [Instr.fieldAt, Instr.sureAddr, fieldPlace]⟩
instance : BuildT Tryz.prog 55 [(0, 1), (1, 1), (2, 1), (3, 1), (4, 1)] [.int .u64 0, .int .i64 0, .int .i64 0, .slice none 0 0, .slice none 0 0] := buildT_of Tryz.zeroValue55 Tryz.runUnderlying55 (fun w => by simp)
instance : Und Tryz.prog 57 (Go.TypeDesc.slice 145) := ⟨Tryz.runUnderlying57, Tryz.underlying57⟩
instance : AggT Tryz.prog 57 false 1 := ⟨Tryz.isAgg57, Tryz.sizeOf57⟩
instance : Und Tryz.prog 58 (Go.TypeDesc.slice 68) := ⟨Tryz.runUnderlying58, Tryz.underlying58⟩
instance : AggT Tryz.prog 58 false 1 := ⟨Tryz.isAgg58, Tryz.sizeOf58⟩
instance : Und Tryz.prog 59 (Go.TypeDesc.slice 35) := ⟨Tryz.runUnderlying59, Tryz.underlying59⟩
instance : AggT Tryz.prog 59 false 1 := ⟨Tryz.isAgg59, Tryz.sizeOf59⟩
instance : MapT Tryz.prog 60 3 80 := ⟨Tryz.runUnderlying60, Tryz.runUnderlying3⟩
instance : AggT Tryz.prog 60 false 1 := ⟨Tryz.isAgg60, Tryz.sizeOf60⟩
instance : MapT Tryz.prog 61 3 143 := ⟨Tryz.runUnderlying61, Tryz.runUnderlying3⟩
instance : AggT Tryz.prog 61 false 1 := ⟨Tryz.isAgg61, Tryz.sizeOf61⟩
instance : FOff Tryz.prog 63 0 0 := ⟨fun w a => by simp [Instr.fieldAt, Instr.sureAddr, fieldPlace]⟩
instance : FOff Tryz.prog 63 1 6 := ⟨fun w a => by simp [Instr.fieldAt, Instr.sureAddr, fieldPlace]⟩
instance : FOff Tryz.prog 63 2 7 := ⟨fun w a => by simp [Instr.fieldAt, Instr.sureAddr, fieldPlace]⟩
instance : FOff Tryz.prog 63 3 8 := ⟨fun w a => by simp [Instr.fieldAt, Instr.sureAddr, fieldPlace]⟩
instance : FOff Tryz.prog 63 4 9 := ⟨fun w a => by simp [Instr.fieldAt, Instr.sureAddr, fieldPlace]⟩
instance : FOff Tryz.prog 63 5 10 := ⟨fun w a => by simp [Instr.fieldAt, Instr.sureAddr, fieldPlace]⟩
instance : FOff Tryz.prog 63 6 11 := ⟨fun w a => by simp [Instr.fieldAt, Instr.sureAddr, fieldPlace]⟩
instance : FOff Tryz.prog 63 7 12 := ⟨fun w a => by simp [Instr.fieldAt, Instr.sureAddr, fieldPlace]⟩
instance : FOff Tryz.prog 63 8 13 := ⟨fun w a => by simp [Instr.fieldAt, Instr.sureAddr, fieldPlace]⟩
instance : FOff Tryz.prog 63 9 14 := ⟨fun w a => by simp [Instr.fieldAt, Instr.sureAddr, fieldPlace]⟩
instance : FOff Tryz.prog 63 10 15 := ⟨fun w a => by simp [Instr.fieldAt, Instr.sureAddr, fieldPlace]⟩
instance : BuildT Tryz.prog 63 [(0, 6), (6, 1), (7, 1), (8, 1), (9, 1), (10, 1), (11, 1), (12, 1), (13, 1), (14, 1), (15, 1)] [.int .i64 0, .int .i64 0, .int .i64 0, .int .i64 0, .int .i64 0, .int .i64 0, .slice none 0 0, .int .u64 0, .int .u64 0, .int .i64 0, .int .i64 0, .slice none 0 0, .slice none 0 0, .slice none 0 0, .map none, .map none] := buildT_of Tryz.zeroValue63 Tryz.runUnderlying63 (fun w => by simp)
instance : AggT Tryz.prog 67 true 2 := ⟨Tryz.isAgg67, Tryz.sizeOf67⟩
instance : ZeroT Tryz.prog 67 (.agg #[.int .i64 0, .int .u64 0]) := ⟨Tryz.zeroValue67⟩
instance : ElemT Tryz.prog 67 2 16 (.agg #[.int .i64 0, .int .u64 0]) := ⟨⟨_, info_of_run (Tryz.typeInfo67 default), rfl, rfl, rfl⟩⟩
instance : FOff Tryz.prog 67 0 0 := ⟨fun w a => by simp [Instr.fieldAt, Instr.sureAddr, fieldPlace]⟩
instance : FOff Tryz.prog 67 1 1 := ⟨fun w a => by simp [Instr.fieldAt, Instr.sureAddr, fieldPlace]⟩
instance : BuildT Tryz.prog 67 [(0, 1), (1, 1)] [.int .i64 0, .int .u64 0] := buildT_of Tryz.zeroValue67 Tryz.runUnderlying67 (fun w => by simp)
instance : Und Tryz.prog 68 (Go.TypeDesc.int (Go.IntKind.i64)) := ⟨Tryz.runUnderlying68, Tryz.underlying68⟩
instance : AggT Tryz.prog 68 false 1 := ⟨Tryz.isAgg68, Tryz.sizeOf68⟩
instance : BytesT Tryz.prog 68 8 := ⟨fun w => ⟨_, Tryz.typeInfo68 w, rfl⟩⟩
instance : ZeroT Tryz.prog 68 (.int .i64 0) := ⟨Tryz.zeroValue68⟩
instance : Und Tryz.prog 71 (Go.TypeDesc.slice 121) := ⟨Tryz.runUnderlying71, Tryz.underlying71⟩
instance : AggT Tryz.prog 71 false 1 := ⟨Tryz.isAgg71, Tryz.sizeOf71⟩
instance : AggT Tryz.prog 73 false 1 := ⟨Tryz.isAgg73, Tryz.sizeOf73⟩
instance : Und Tryz.prog 74 (Go.TypeDesc.slice 98) := ⟨Tryz.runUnderlying74, Tryz.underlying74⟩
instance : AggT Tryz.prog 74 false 1 := ⟨Tryz.isAgg74, Tryz.sizeOf74⟩
instance : FOff Tryz.prog 76 1 6 := ⟨fun w a => by simp [Instr.fieldAt, Instr.sureAddr, fieldPlace]⟩
instance : FOff Tryz.prog 76 2 7 := ⟨fun w a => by simp [Instr.fieldAt, Instr.sureAddr, fieldPlace]⟩
instance : FOff Tryz.prog 76 3 8 := ⟨fun w a => by simp [Instr.fieldAt, Instr.sureAddr, fieldPlace]⟩
instance : FOff Tryz.prog 76 4 9 := ⟨fun w a => by simp [Instr.fieldAt, Instr.sureAddr, fieldPlace]⟩
instance : BuildT Tryz.prog 76 [(0, 6), (6, 1), (7, 1), (8, 1), (9, 1)] [.int .i64 0, .int .i64 0, .int .i64 0, .int .i64 0, .int .i64 0, .int .i64 0, .pointer none, .slice none 0 0, .pointer none, .pointer none] := buildT_of Tryz.zeroValue76 Tryz.runUnderlying76 (fun w => by simp)
instance : Und Tryz.prog 80 (Go.TypeDesc.slice 5) := ⟨Tryz.runUnderlying80, Tryz.underlying80⟩
instance : AggT Tryz.prog 80 false 1 := ⟨Tryz.isAgg80, Tryz.sizeOf80⟩
instance : BytesT Tryz.prog 80 24 := ⟨fun w => ⟨_, Tryz.typeInfo80 w, rfl⟩⟩
instance : ZeroT Tryz.prog 80 (.slice none 0 0) := ⟨Tryz.zeroValue80⟩
instance : ElemT Tryz.prog 80 1 24 (.slice none 0 0) := ⟨⟨_, info_of_run (Tryz.typeInfo80 default), rfl, rfl, rfl⟩⟩
instance : Und Tryz.prog 84 (Go.TypeDesc.slice 80) := ⟨Tryz.runUnderlying84, Tryz.underlying84⟩
instance : AggT Tryz.prog 84 false 1 := ⟨Tryz.isAgg84, Tryz.sizeOf84⟩
instance : Und Tryz.prog 96 (Go.TypeDesc.int (Go.IntKind.i64)) := ⟨Tryz.runUnderlying96, Tryz.underlying96⟩
instance : AggT Tryz.prog 96 false 1 := ⟨Tryz.isAgg96, Tryz.sizeOf96⟩
instance : ElemT Tryz.prog 96 1 8 (.int .i64 0) := ⟨⟨_, info_of_run (Tryz.typeInfo96 default), rfl, rfl, rfl⟩⟩
instance : MkI Tryz.prog 98 := ⟨fun v w => by simp [Instr.makeInterface, Tryz.runUnderlying98]⟩
instance : AggT Tryz.prog 98 false 1 := ⟨Tryz.isAgg98, Tryz.sizeOf98⟩
instance : ElemT Tryz.prog 98 1 8 (.pointer none) := ⟨⟨_, info_of_run (Tryz.typeInfo98 default), rfl, rfl, rfl⟩⟩
instance : AggT Tryz.prog 109 true 3 := ⟨Tryz.isAgg109, Tryz.sizeOf109⟩
instance : BytesT Tryz.prog 109 24 := ⟨fun w => ⟨_, Tryz.typeInfo109 w, rfl⟩⟩
instance : ZeroT Tryz.prog 109 (.agg #[.int .i64 0, .int .i64 0, .int .u64 0]) := ⟨Tryz.zeroValue109⟩
instance : ElemT Tryz.prog 109 3 24 (.agg #[.int .i64 0, .int .i64 0, .int .u64 0]) := ⟨⟨_, info_of_run (Tryz.typeInfo109 default), rfl, rfl, rfl⟩⟩
instance : FOff Tryz.prog 109 0 0 := ⟨fun w a => by simp [Instr.fieldAt, Instr.sureAddr, fieldPlace]⟩
instance : FOff Tryz.prog 109 1 1 := ⟨fun w a => by simp [Instr.fieldAt, Instr.sureAddr, fieldPlace]⟩
instance : FOff Tryz.prog 109 2 2 := ⟨fun w a => by simp [Instr.fieldAt, Instr.sureAddr, fieldPlace]⟩
instance : BuildT Tryz.prog 109 [(0, 1), (1, 1), (2, 1)] [.int .i64 0, .int .i64 0, .int .u64 0] := buildT_of Tryz.zeroValue109 Tryz.runUnderlying109 (fun w => by simp)
instance : FOff Tryz.prog 112 0 0 := ⟨fun w a => by simp [Instr.fieldAt, Instr.sureAddr, fieldPlace]⟩
instance : FOff Tryz.prog 112 1 1 := ⟨fun w a => by simp [Instr.fieldAt, Instr.sureAddr, fieldPlace]⟩
instance : FOff Tryz.prog 112 2 2 := ⟨fun w a => by simp [Instr.fieldAt, Instr.sureAddr, fieldPlace]⟩
instance : FOff Tryz.prog 112 3 3 := ⟨fun w a => by simp [Instr.fieldAt, Instr.sureAddr, fieldPlace]⟩
instance : BuildT Tryz.prog 112 [(0, 1), (1, 1), (2, 1), (3, 9)] [.pointer none, .slice none 0 0, .int .u64 0, .int .i64 0, .int .i64 0, .int .i64 0, .int .i64 0, .int .i64 0, .int .i64 0, .int .u64 0, .int .u64 0, .int .i64 0] := buildT_of Tryz.zeroValue112 Tryz.runUnderlying112 (fun w => by simp)
instance : Und Tryz.prog 113 (Go.TypeDesc.slice 109) := ⟨Tryz.runUnderlying113, Tryz.underlying113⟩
instance : AggT Tryz.prog 113 false 1 := ⟨Tryz.isAgg113, Tryz.sizeOf113⟩
instance : FOff Tryz.prog 119 0 0 := ⟨fun w a => by simp [Instr.fieldAt, Instr.sureAddr, fieldPlace]⟩
instance : FOff Tryz.prog 119 1 6 := ⟨fun w a => by simp [Instr.fieldAt, Instr.sureAddr, fieldPlace]⟩
instance : FOff Tryz.prog 119 2 7 := ⟨fun w a => by simp [Instr.fieldAt, Instr.sureAddr, fieldPlace]⟩
instance : FOff Tryz.prog 119 3 8 := ⟨fun w a => by simp [Instr.fieldAt, Instr.sureAddr, fieldPlace]⟩
instance : BuildT Tryz.prog 119 [(0, 6), (6, 1), (7, 1), (8, 1)] [.int .i64 0, .int .i64 0, .int .i64 0, .int .i64 0, .int .i64 0, .int .i64 0, .slice none 0 0, .pointer none, .bool false] := buildT_of Tryz.zeroValue119 Tryz.runUnderlying119 (fun w => by simp)
instance : AggT Tryz.prog 121 false 1 := ⟨Tryz.isAgg121, Tryz.sizeOf121⟩
instance : ElemT Tryz.prog 121 1 16 (.nilIface) := ⟨⟨_, info_of_run (Tryz.typeInfo121 default), rfl, rfl, rfl⟩⟩
instance : FOff Tryz.prog 135 0 0 := ⟨fun w a => by simp [Instr.fieldAt, Instr.sureAddr, fieldPlace]⟩
instance : BuildT Tryz.prog 135 [(0, 1)] [.slice none 0 0] := buildT_of Tryz.zeroValue135 Tryz.runUnderlying135 (fun w => by simp)
instance : Und Tryz.prog 136 (Go.TypeDesc.slice 96) := ⟨Tryz.runUnderlying136, Tryz.underlying136⟩
instance : Und Tryz.prog 141 (Go.TypeDesc.slice 147) := ⟨Tryz.runUnderlying141, Tryz.underlying141⟩
instance : AggT Tryz.prog 141 false 1 := ⟨Tryz.isAgg141, Tryz.sizeOf141⟩
instance : AggT Tryz.prog 143 true 3 := ⟨Tryz.isAgg143, Tryz.sizeOf143⟩
instance : ZeroT Tryz.prog 143 (.agg #[.int .u64 0, .int .i64 0, .slice none 0 0]) := ⟨Tryz.zeroValue143⟩
instance : FOff Tryz.prog 143 0 0 := ⟨fun w a => by simp [Instr.fieldAt, Instr.sureAddr, fieldPlace]⟩
instance : FOff Tryz.prog 143 1 1 := ⟨fun w a => by simp [Instr.fieldAt, Instr.sureAddr, fieldPlace]⟩
instance : FOff Tryz.prog 143 2 2 := ⟨fun w a => by simp [Instr.fieldAt, Instr.sureAddr, fieldPlace]⟩
instance : BuildT Tryz.prog 143 [(0, 1), (1, 1), (2, 1)] [.int .u64 0, .int .i64 0, .slice none 0 0] := buildT_of Tryz.zeroValue143 Tryz.runUnderlying143 (fun w => by simp)
instance : AggT Tryz.prog 145 true 4 := ⟨Tryz.isAgg145, Tryz.sizeOf145⟩
instance : ZeroT Tryz.prog 145 (.agg #[.int .u64 0, .int .i64 0, .int .i64 0, .slice none 0 0]) := ⟨Tryz.zeroValue145⟩
instance : ElemT Tryz.prog 145 4 48 (.agg #[.int .u64 0, .int .i64 0, .int .i64 0, .slice none 0 0]) := ⟨⟨_, info_of_run (Tryz.typeInfo145 default), rfl, rfl, rfl⟩⟩
instance : FOff Tryz.prog 145 0 0 := ⟨fun w a => by simp [Instr.fieldAt, Instr.sureAddr, fieldPlace]⟩
instance : FOff Tryz.prog 145 1 1 := ⟨fun w a => by simp [Instr.fieldAt, Instr.sureAddr, fieldPlace]⟩
instance : FOff Tryz.prog 145 2 2 := ⟨fun w a => by simp [Instr.fieldAt, Instr.sureAddr, fieldPlace]⟩
instance : FOff Tryz.prog 145 3 3 := ⟨fun w a => by simp [Instr.fieldAt, Instr.sureAddr, fieldPlace]⟩
instance : BuildT Tryz.prog 145 [(0, 1), (1, 1), (2, 1), (3, 1)] [.int .u64 0, .int .i64 0, .int .i64 0, .slice none 0 0] := buildT_of Tryz.zeroValue145 Tryz.runUnderlying145 (fun w => by simp)
instance : AggT Tryz.prog 147 true 2 := ⟨Tryz.isAgg147, Tryz.sizeOf147⟩
instance : BytesT Tryz.prog 147 16 := ⟨fun w => ⟨_, Tryz.typeInfo147 w, rfl⟩⟩
instance : ZeroT Tryz.prog 147 (.agg #[.int .i64 0, .int .i64 0]) := ⟨Tryz.zeroValue147⟩
instance : FOff Tryz.prog 147 0 0 := ⟨fun w a => by simp [Instr.fieldAt, Instr.sureAddr, fieldPlace]⟩
instance : FOff Tryz.prog 147 1 1 := ⟨fun w a => by simp [Instr.fieldAt, Instr.sureAddr, fieldPlace]⟩
instance : BuildT Tryz.prog 147 [(0, 1), (1, 1)] [.int .i64 0, .int .i64 0] := buildT_of Tryz.zeroValue147 Tryz.runUnderlying147 (fun w => by simp)
instance : FOff Tryz.prog 155 0 0 := ⟨fun w a => by simp [Instr.fieldAt, Instr.sureAddr, fieldPlace]⟩
instance : FOff Tryz.prog 155 1 1 := ⟨fun w a => by simp [Instr.fieldAt, Instr.sureAddr, fieldPlace]⟩
instance : FOff Tryz.prog 155 2 2 := ⟨fun w a => by simp [Instr.fieldAt, Instr.sureAddr, fieldPlace]⟩
instance : FOff Tryz.prog 155 3 3 := ⟨fun w a => by simp [Instr.fieldAt, Instr.sureAddr, fieldPlace]⟩
instance : FOff Tryz.prog 155 4 4 := ⟨fun w a => by simp [Instr.fieldAt, Instr.sureAddr, fieldPlace]⟩
instance : FOff Tryz.prog 155 5 5 := ⟨fun w a => by simp [Instr.fieldAt, Instr.sureAddr, fieldPlace]⟩
instance : FOff Tryz.prog 155 6 6 := ⟨fun w a => by simp [Instr.fieldAt, Instr.sureAddr, fieldPlace]⟩
instance : BuildT Tryz.prog 155 [(0, 1), (1, 1), (2, 1), (3, 1), (4, 1), (5, 1), (6, 1)] [.pointer none, .int .i64 0, .slice none 0 0, .map none, .slice none 0 0, .bool false, .int .i64 0] := buildT_of Tryz.zeroValue155 Tryz.runUnderlying155 (fun w => by simp)
instance : FOff Tryz.prog 157 0 0 := ⟨fun w a => by simp [Instr.fieldAt, Instr.sureAddr, fieldPlace]⟩
instance : FOff Tryz.prog 157 1 1 := ⟨fun w a => by simp [Instr.fieldAt, Instr.sureAddr, fieldPlace]⟩
instance : BuildT Tryz.prog 157 [(0, 1), (1, 1)] [.int .i64 0, .int .i64 0] := buildT_of Tryz.zeroValue157 Tryz.runUnderlying157 (fun w => by simp)
instance : MkI Tryz.prog 159 := ⟨fun v w => by simp [Instr.makeInterface, Tryz.runUnderlying159]⟩
instance : BuildT Tryz.prog 159 [] [] := buildT_of Tryz.zeroValue159 Tryz.runUnderlying159 (fun w => by simp)
instance : Und Tryz.prog 161 (Go.TypeDesc.slice 214) := ⟨Tryz.runUnderlying161, Tryz.underlying161⟩
instance : AggT Tryz.prog 161 false 1 := ⟨Tryz.isAgg161, Tryz.sizeOf161⟩
instance : FOff Tryz.prog 163 0 0 := ⟨fun w a => by simp [Instr.fieldAt, Instr.sureAddr, fieldPlace]⟩
instance : FOff Tryz.prog 163 1 1 := ⟨fun w a => by simp [Instr.fieldAt, Instr.sureAddr, fieldPlace]⟩
instance : FOff Tryz.prog 163 2 2 := ⟨fun w a => by simp [Instr.fieldAt, Instr.sureAddr, fieldPlace]⟩
instance : BuildT Tryz.prog 163 [(0, 1), (1, 1), (2, 1)] [.int .i64 0, .slice none 0 0, .int .i64 0] := buildT_of Tryz.zeroValue163 Tryz.runUnderlying163 (fun w => by simp)
instance : Und Tryz.prog 167 (Go.TypeDesc.int (Go.IntKind.u16)) := ⟨Tryz.runUnderlying167, Tryz.underlying167⟩
instance : AggT Tryz.prog 167 false 1 := ⟨Tryz.isAgg167, Tryz.sizeOf167⟩
instance : ElemT Tryz.prog 167 1 2 (.int .u16 0) := ⟨⟨_, info_of_run (Tryz.typeInfo167 default), rfl, rfl, rfl⟩⟩
instance : Und Tryz.prog 168 (Go.TypeDesc.slice 167) := ⟨Tryz.runUnderlying168, Tryz.underlying168⟩
instance : AggT Tryz.prog 168 false 1 := ⟨Tryz.isAgg168, Tryz.sizeOf168⟩
instance : Und Tryz.prog 169 (Go.TypeDesc.int (Go.IntKind.i8)) := ⟨Tryz.runUnderlying169, Tryz.underlying169⟩
instance : AggT Tryz.prog 169 false 1 := ⟨Tryz.isAgg169, Tryz.sizeOf169⟩
instance : Und Tryz.prog 170 (Go.TypeDesc.slice 220) := ⟨Tryz.runUnderlying170, Tryz.underlying170⟩
instance : AggT Tryz.prog 170 false 1 := ⟨Tryz.isAgg170, Tryz.sizeOf170⟩
instance : FOff Tryz.prog 172 0 0 := ⟨fun w a => by simp [Instr.fieldAt, Instr.sureAddr, fieldPlace]⟩
instance : FOff Tryz.prog 172 1 1 := ⟨fun w a => by simp [Instr.fieldAt, Instr.sureAddr, fieldPlace]⟩
instance : FOff Tryz.prog 172 2 2 := ⟨fun w a => by simp [Instr.fieldAt, Instr.sureAddr, fieldPlace]⟩
instance : FOff Tryz.prog 172 3 3 := ⟨fun w a => by simp [Instr.fieldAt, Instr.sureAddr, fieldPlace]⟩
instance : FOff Tryz.prog 172 4 4 := ⟨fun w a => by simp [Instr.fieldAt, Instr.sureAddr, fieldPlace]⟩
instance : BuildT Tryz.prog 172 [(0, 1), (1, 1), (2, 1), (3, 1), (4, 1)] [.int .u64 0, .int .i8 0, .int .u8 0, .slice none 0 0, .slice none 0 0] := buildT_of Tryz.zeroValue172 Tryz.runUnderlying172 (fun w => by simp)
instance : AggT Tryz.prog 184 true 1 := ⟨Tryz.isAgg184, Tryz.sizeOf184⟩
instance : ZeroT Tryz.prog 184 (.agg #[.slice none 0 0]) := ⟨Tryz.zeroValue184⟩
instance : FOff Tryz.prog 184 0 0 := ⟨fun w a => by simp [Instr.fieldAt, Instr.sureAddr, fieldPlace]⟩
instance : BuildT Tryz.prog 184 [(0, 1)] [.slice none 0 0] := buildT_of Tryz.zeroValue184 Tryz.runUnderlying184 (fun w => by simp)
instance : FOff Tryz.prog 194 0 0 := ⟨fun w a => by simp [Instr.fieldAt, Instr.sureAddr, fieldPlace]⟩
instance : FOff Tryz.prog 194 1 1 := ⟨fun w a => by simp [Instr.fieldAt, Instr.sureAddr, fieldPlace]⟩
instance : BuildT Tryz.prog 194 [(0, 1), (1, 1)] [.slice none 0 0, .bool false] := buildT_of Tryz.zeroValue194 Tryz.runUnderlying194 (fun w => by simp)
instance : AggT Tryz.prog 197 true 2 := ⟨Tryz.isAgg197, Tryz.sizeOf197⟩
instance : ZeroT Tryz.prog 197 (.agg #[.int .i64 0, .int .i64 0]) := ⟨Tryz.zeroValue197⟩
instance : FOff Tryz.prog 197 0 0 := ⟨fun w a => by simp [Instr.fieldAt, Instr.sureAddr, fieldPlace]⟩
instance : FOff Tryz.prog 197 1 1 := ⟨fun w a => by simp [Instr.fieldAt, Instr.sureAddr, fieldPlace]⟩
instance : BuildT Tryz.prog 197 [(0, 1), (1, 1)] [.int .i64 0, .int .i64 0] := buildT_of Tryz.zeroValue197 Tryz.runUnderlying197 (fun w => by simp)
instance : Und Tryz.prog 207 (Go.TypeDesc.int (Go.IntKind.u64)) := ⟨Tryz.runUnderlying207, Tryz.underlying207⟩
instance : Und Tryz.prog 214 (Go.TypeDesc.pointer 223) := ⟨Tryz.runUnderlying214, Tryz.underlying214⟩
instance : AggT Tryz.prog 214 false 1 := ⟨Tryz.isAgg214, Tryz.sizeOf214⟩
instance : BytesT Tryz.prog 214 8 := ⟨fun w => ⟨_, Tryz.typeInfo214 w, rfl⟩⟩
instance : ZeroT Tryz.prog 214 (.pointer none) := ⟨Tryz.zeroValue214⟩
instance : Und Tryz.prog 221 (Go.TypeDesc.int (Go.IntKind.u32)) := ⟨Tryz.runUnderlying221, Tryz.underlying221⟩
instance : Und Tryz.prog 223 (Go.TypeDesc.array 16 3) := ⟨Tryz.runUnderlying223, Tryz.underlying223⟩
instance : ZeroT Tryz.prog 223 (.agg #[.int .i64 0, .int .i64 0, .int .i64 0, .int .i64 0, .int .i64 0, .int .i64 0, .int .i64 0, .int .i64 0, .int .i64 0, .int .i64 0, .int .i64 0, .int .i64 0, .int .i64 0, .int .i64 0, .int .i64 0, .int .i64 0]) := ⟨Tryz.zeroValue223⟩
instance : MapT Tryz.prog 225 3 3 := ⟨Tryz.runUnderlying225, Tryz.runUnderlying3⟩
instance : CallT Tryz.prog 10 := ⟨Tryz.call10⟩
instance : CallT Tryz.prog 11 := ⟨Tryz.call11⟩
instance : CallT Tryz.prog 12 := ⟨Tryz.call12⟩
instance : CallT Tryz.prog 13 := ⟨Tryz.call13⟩
instance : CallT Tryz.prog 14 := ⟨Tryz.call14⟩
instance : CallT Tryz.prog 15 := ⟨Tryz.call15⟩
instance : CallT Tryz.prog 16 := ⟨Tryz.call16⟩
instance : CallT Tryz.prog 17 := ⟨Tryz.call17⟩
instance : CallT Tryz.prog 18 := ⟨Tryz.call18⟩
instance : CallT Tryz.prog 19 := ⟨Tryz.call19⟩
instance : CallT Tryz.prog 20 := ⟨Tryz.call20⟩
instance : CallT Tryz.prog 21 := ⟨Tryz.call21⟩
instance : CallT Tryz.prog 22 := ⟨Tryz.call22⟩
instance : CallT Tryz.prog 23 := ⟨Tryz.call23⟩
instance : CallT Tryz.prog 24 := ⟨Tryz.call24⟩
instance : CallT Tryz.prog 25 := ⟨Tryz.call25⟩
instance : CallT Tryz.prog 27 := ⟨Tryz.call27⟩
instance : CallT Tryz.prog 28 := ⟨Tryz.call28⟩
instance : CallT Tryz.prog 30 := ⟨Tryz.call30⟩
instance : CallT Tryz.prog 32 := ⟨Tryz.call32⟩
instance : CallT Tryz.prog 33 := ⟨Tryz.call33⟩
instance : CallT Tryz.prog 34 := ⟨Tryz.call34⟩
instance : CallT Tryz.prog 35 := ⟨Tryz.call35⟩
instance : CallT Tryz.prog 36 := ⟨Tryz.call36⟩
instance : CallT Tryz.prog 37 := ⟨Tryz.call37⟩
instance : CallT Tryz.prog 39 := ⟨Tryz.call39⟩
instance : CallT Tryz.prog 44 := ⟨Tryz.call44⟩
instance : CallT Tryz.prog 45 := ⟨Tryz.call45⟩
instance : CallT Tryz.prog 46 := ⟨Tryz.call46⟩
instance : CallT Tryz.prog 47 := ⟨Tryz.call47⟩
instance : CallT Tryz.prog 48 := ⟨Tryz.call48⟩
instance : CallT Tryz.prog 49 := ⟨Tryz.call49⟩
instance : CallT Tryz.prog 50 := ⟨Tryz.call50⟩
instance : CallT Tryz.prog 51 := ⟨Tryz.call51⟩
instance : CallT Tryz.prog 52 := ⟨Tryz.call52⟩
instance : CallT Tryz.prog 53 := ⟨Tryz.call53⟩
instance : CallT Tryz.prog 54 := ⟨Tryz.call54⟩
instance : CallT Tryz.prog 55 := ⟨Tryz.call55⟩
instance : CallT Tryz.prog 56 := ⟨Tryz.call56⟩
instance : CallT Tryz.prog 57 := ⟨Tryz.call57⟩
instance : CallT Tryz.prog 58 := ⟨Tryz.call58⟩
instance : CallT Tryz.prog 59 := ⟨Tryz.call59⟩
instance : CallT Tryz.prog 60 := ⟨Tryz.call60⟩
instance : CallT Tryz.prog 61 := ⟨Tryz.call61⟩
instance : CallT Tryz.prog 62 := ⟨Tryz.call62⟩
instance : CallT Tryz.prog 63 := ⟨Tryz.call63⟩
instance : CallT Tryz.prog 64 := ⟨Tryz.call64⟩
instance : CallT Tryz.prog 65 := ⟨Tryz.call65⟩
instance : CallT Tryz.prog 66 := ⟨Tryz.call66⟩
instance : CallT Tryz.prog 67 := ⟨Tryz.call67⟩
instance : CallT Tryz.prog 68 := ⟨Tryz.call68⟩
instance : CallT Tryz.prog 69 := ⟨Tryz.call69⟩
instance : CallT Tryz.prog 70 := ⟨Tryz.call70⟩
instance : CallT Tryz.prog 71 := ⟨Tryz.call71⟩
instance : CallT Tryz.prog 72 := ⟨Tryz.call72⟩
instance : CallT Tryz.prog 73 := ⟨Tryz.call73⟩
instance : CallT Tryz.prog 74 := ⟨Tryz.call74⟩
instance : CallT Tryz.prog 76 := ⟨Tryz.call76⟩
instance : CallT Tryz.prog 78 := ⟨Tryz.call78⟩
instance : CallT Tryz.prog 79 := ⟨Tryz.call79⟩
instance : CallT Tryz.prog 80 := ⟨Tryz.call80⟩
instance : CallT Tryz.prog 81 := ⟨Tryz.call81⟩
instance : CallT Tryz.prog 82 := ⟨Tryz.call82⟩
instance : CallT Tryz.prog 83 := ⟨Tryz.call83⟩
instance : CallT Tryz.prog 84 := ⟨Tryz.call84⟩
instance : CallT Tryz.prog 85 := ⟨Tryz.call85⟩
instance : CallT Tryz.prog 86 := ⟨Tryz.call86⟩
instance : CallT Tryz.prog 87 := ⟨Tryz.call87⟩
instance : CallT Tryz.prog 88 := ⟨Tryz.call88⟩
instance : CallT Tryz.prog 91 := ⟨Tryz.call91⟩
instance : CallT Tryz.prog 92 := ⟨Tryz.call92⟩
instance : CallT Tryz.prog 93 := ⟨Tryz.call93⟩
instance : CallT Tryz.prog 94 := ⟨Tryz.call94⟩
instance : CallT Tryz.prog 95 := ⟨Tryz.call95⟩
instance : CallT Tryz.prog 96 := ⟨Tryz.call96⟩
instance : CallT Tryz.prog 97 := ⟨Tryz.call97⟩
instance : CallT Tryz.prog 98 := ⟨Tryz.call98⟩
instance : CallT Tryz.prog 99 := ⟨Tryz.call99⟩
instance : CallT Tryz.prog 100 := ⟨Tryz.call100⟩
instance : CallT Tryz.prog 101 := ⟨Tryz.call101⟩
instance : CallT Tryz.prog 102 := ⟨Tryz.call102⟩
instance : CallT Tryz.prog 103 := ⟨Tryz.call103⟩
instance : CallT Tryz.prog 104 := ⟨Tryz.call104⟩
instance : CallT Tryz.prog 105 := ⟨Tryz.call105⟩
instance : CallT Tryz.prog 106 := ⟨Tryz.call106⟩
instance : CallT Tryz.prog 107 := ⟨Tryz.call107⟩
instance : CallT Tryz.prog 108 := ⟨Tryz.call108⟩
instance : CallT Tryz.prog 109 := ⟨Tryz.call109⟩
instance : CallT Tryz.prog 110 := ⟨Tryz.call110⟩
instance : CallT Tryz.prog 111 := ⟨Tryz.call111⟩
instance : CallT Tryz.prog 112 := ⟨Tryz.call112⟩
instance : CallT Tryz.prog 113 := ⟨Tryz.call113⟩
instance : CallT Tryz.prog 114 := ⟨Tryz.call114⟩
instance : CallT Tryz.prog 115 := ⟨Tryz.call115⟩
instance : CallT Tryz.prog 116 := ⟨Tryz.call116⟩
instance : CallT Tryz.prog 117 := ⟨Tryz.call117⟩
instance : CallT Tryz.prog 118 := ⟨Tryz.call118⟩
instance : CallT Tryz.prog 119 := ⟨Tryz.call119⟩
instance : CallT Tryz.prog 120 := ⟨Tryz.call120⟩
instance : CallT Tryz.prog 121 := ⟨Tryz.call121⟩
instance : CallT Tryz.prog 122 := ⟨Tryz.call122⟩
instance : CallT Tryz.prog 123 := ⟨Tryz.call123⟩
instance : CallT Tryz.prog 124 := ⟨Tryz.call124⟩
instance : CallT Tryz.prog 125 := ⟨Tryz.call125⟩
instance : CallT Tryz.prog 126 := ⟨Tryz.call126⟩
instance : CallT Tryz.prog 127 := ⟨Tryz.call127⟩
instance : CallT Tryz.prog 128 := ⟨Tryz.call128⟩
instance : CallT Tryz.prog 129 := ⟨Tryz.call129⟩
instance : CallT Tryz.prog 130 := ⟨Tryz.call130⟩
instance : CallT Tryz.prog 131 := ⟨Tryz.call131⟩
instance : CallT Tryz.prog 132 := ⟨Tryz.call132⟩
instance : CallT Tryz.prog 133 := ⟨Tryz.call133⟩
instance : CallT Tryz.prog 134 := ⟨Tryz.call134⟩
instance : CallT Tryz.prog 135 := ⟨Tryz.call135⟩
instance : CallT Tryz.prog 136 := ⟨Tryz.call136⟩
instance : CallT Tryz.prog 137 := ⟨Tryz.call137⟩
instance : CallT Tryz.prog 138 := ⟨Tryz.call138⟩
instance : CallT Tryz.prog 139 := ⟨Tryz.call139⟩
instance : CallT Tryz.prog 142 := ⟨Tryz.call142⟩
instance : CallT Tryz.prog 143 := ⟨Tryz.call143⟩
instance : CallT Tryz.prog 144 := ⟨Tryz.call144⟩
instance : CallT Tryz.prog 145 := ⟨Tryz.call145⟩
instance : CallT Tryz.prog 146 := ⟨Tryz.call146⟩
instance : CallT Tryz.prog 147 := ⟨Tryz.call147⟩
instance : CallT Tryz.prog 148 := ⟨Tryz.call148⟩
instance : CallT Tryz.prog 150 := ⟨Tryz.call150⟩
instance : CallT Tryz.prog 154 := ⟨Tryz.call154⟩
instance : CallT Tryz.prog 196 := ⟨Tryz.call196⟩
instance : CallT Tryz.prog 197 := ⟨Tryz.call197⟩
instance : CallT Tryz.prog 198 := ⟨Tryz.call198⟩
instance : CallT Tryz.prog 199 := ⟨Tryz.call199⟩
instance : CallT Tryz.prog 200 := ⟨Tryz.call200⟩
end Go.Proofs.YtohienhoifgmaaaGreat
