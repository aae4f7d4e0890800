/- Pointers through unsafe.Pointer and back, as strings.Builder has it. No program. -/
import Derived.Test.YtihkfklpoliilaaDoorEng9
import Derived.Lib.Builder
import Derived.Laws.Externs
namespace Go.Sl
open Go
section ops
variable {P : Program} {w0 : World} {n : Nat} {env : Env} {Γ : List HP} {ty : TypeId} {ops : Array Oper} {Q : Exit → Act → World → Prop} {rest : List Oper} {pos : String} {after : Array Edge}
def HasK (b : Nat) (cs : List Value) (T : TypeId) : World → Prop := fun w => hpOf w b = some (.cells cs.toArray T (0, 0))
class SizedT (P : Program) (t : TypeId) : Prop where
  info : ∃ j, P.info? t = some j ∧ j.size ≠ 0
class LiesT (P : Program) (t : TypeId) (m : Nat) : Prop where
  lies : liesAt P P.depth t (m / P.cellsOf t) 0 t 1 = true
class NoEscT (P : Program) (f : FuncId) : Prop where
  run : ∀ x w, (callFunc f #[x]).run P w = .ok (.value x) w
theorem shape_of {w : World} {b : Nat} {cs : List Value} {T : TypeId} (h : hpOf w b = some (.cells cs.toArray T (0, 0))) : w.shape? b = some (T, cs.length) := by
  have h' : w.heap[b]? = some (.cells cs.toArray T (0, 0)) := h
  simp [World.shape?, h']
theorem yl_toUns {src dst t T : TypeId} {x : Operand} {b : Nat} {cs : List Value} {Γ' : List HP} [us : Und P src (.pointer t)] [ud : Und P dst .unsafePointer] [sz : SizedT P t] (hx : evl env x = some (vp b)) [p : PickK Γ b cs T Γ'] (hc : 0 < cs.length) :
    Yl P (.convert src dst x) ty w0 n env Γ (vp b) (HasK b cs T) := by
  refine fun _ _ _ _ a w s => ⟨(p.pick _ s.sat).blk, fun w' hw => ?_⟩
  obtain ⟨j, hj, hjs⟩ := sz.info
  have := Lib.run_to_unsafe (P := P) w' ⟨b, 0, none⟩ us.fact ud.fact hj hjs (shape_of hw) hc
  simp only [execOp, s.env.evl hx, Sem.run_bind, this, Result.andThen_ok, Sem.run_pure]
theorem yl_ofUns {src dst t : TypeId} {x : Operand} {b : Nat} {cs : List Value} {Γ' : List HP} [us : Und P src .unsafePointer] [ud : Und P dst (.pointer t)] [sz : SizedT P t] (hx : evl env x = some (vp b)) [p : PickK Γ b cs t Γ'] [li : LiesT P t cs.length] :
    Yl P (.convert src dst x) ty w0 n env Γ (vp b) (HasK b cs t) := by
  refine fun _ _ _ _ a w s => ⟨(p.pick _ s.sat).blk, fun w' hw => ?_⟩
  obtain ⟨j, hj, hjs⟩ := sz.info
  have := Lib.run_from_unsafe (P := P) w' ⟨b, 0, none⟩ us.fact ud.fact hj (shape_of hw) li.lies
  simp only [execOp, s.env.evl hx, Sem.run_bind, this, Result.andThen_ok, Sem.run_pure]
theorem yl_noEsc {f : FuncId} {x : Operand} {ts : Array TypeId} {v : Value} [ne : NoEscT P f] (hx : evl env x = some v) : Yl P (.call ⟨.value (.func f), #[x], ts⟩) ty w0 n env Γ v Tt := by
  refine fun _ _ _ _ a w s => ⟨trivial, fun w' _ => ?_⟩
  have h := ne.run v w'
  have h1 := s.env.evl hx
  have h2 : a.eval (.func f) = .func (.func f) #[] #[] := rfl
  have h3 : (#[x] : Array Operand).map a.eval = #[v] := by simp [h1]
  simp only [execOp, resolve, h2, h3, Deferred.ofValue, invoke, Sem.run_bind, Sem.run_pure, Result.andThen_ok]
  simp [h]
theorem yl_nesame {t e yt : TypeId} {x y : Operand} {b : Nat} [u : Und P t (.pointer e)] [sz : SizedT P e] (hx : evl env x = some (vp b)) (hy : evl env y = some (vp b)) : Yl P (.binOp .neq t x y yt) ty w0 n env Γ (.bool false) Tt := by
  refine fun _ _ _ _ a w s => ⟨trivial, fun w' _ => ?_⟩
  obtain ⟨j, hj, _⟩ := sz.info
  have := Lib.run_neq_ptr_same (P := P) w' ⟨b, 0, none⟩ u.fact hj
  simp only [execOp, s.env.evl hx, s.env.evl hy, eqGuard]
  simp [this]
theorem yl_eqnn {t e yt : TypeId} {x y : Operand} [u : Und P t (.pointer e)] (hx : evl env x = some (.pointer none)) (hy : evl env y = some (.pointer none)) : Yl P (.binOp .eql t x y yt) ty w0 n env Γ (.bool true) Tt := by
  refine fun _ _ _ _ a w s => ⟨trivial, fun w' _ => ?_⟩
  have h : ∀ d : Nat, (Op.equalIn (d + 1) t (.pointer none) (.pointer none)).run P w' = .ok true w' := fun d => by simp [Op.equalIn, u.run]
  simp [execOp, s.env.evl hx, s.env.evl hy, eqGuard, binOp, Op.equal, Op.maxDepth, h 9999]
theorem yl_sliceArrTo {t e : TypeId} {ag : Bool} {x y : Operand} {b m j : Nat} {k : IntKind} [u : Und P t (.array m e)] [g : AggT P e ag 1] (hx : evl env x = some (vp b)) (hy : evl env y = some (.int k (j : Int))) (_h0 : m ≠ 0) (h1 : j ≤ m) :
    Yl P (.slice t x none (some y) none) ty w0 n env Γ (.slice (some ⟨b, 0, none⟩) j m) Tt := by
  refine fun _ _ _ _ a w s => ⟨trivial, fun w' _ => ?_⟩
  simp [execOp, s.env.evl hx, s.env.evl hy, Instr.sliceAt, Instr.sureAddr, Instr.sliceBounds, u.run, run_bound' k j m _ h1, g.size, add_zero]
end ops
end Go.Sl
