/- Elements of an array. No program. -/
import Derived.Test.YtapgejjjgeiihaaEng9
namespace Go.Sl
open Go
section
variable {P : Program} {w0 : World} {n : Nat} {env : Env} {Γ : List HP} {ty : TypeId}
theorem yl_indexA {t e : TypeId} {ag : Bool} {k' m : Nat} {x y : Operand} {a : Addr} {kd : IntKind} {i : Nat} [u : Und P t (.array m e)] [g : AggT P e ag k'] (hx : evl env x = some (.pointer (some a))) (hy : evl env y = some (.int kd (i : Int)))
    (hi : i < m) : Yl P (.indexAddr t x y) ty w0 n env Γ (.pointer (some (a.add (i * k')))) Tt := by
  refine fun _ _ _ _ a w s => ⟨trivial, fun w' _ => ?_⟩
  simp [execOp, s.env.evl hx, s.env.evl hy, Instr.indexAt, Instr.sureAddr, asIntOf, u.run, g.size, hi]
theorem yl_indexA1 {t e : TypeId} {ag : Bool} {m b o : Nat} {x y : Operand} {kd : IntKind} {i : Nat} [u : Und P t (.array m e)] [g : AggT P e ag 1] (hx : evl env x = some (.pointer (some ⟨b, o, none⟩))) (hy : evl env y = some (.int kd (i : Int)))
    (hi : i < m) : Yl P (.indexAddr t x y) ty w0 n env Γ (.pointer (some ⟨b, o + i, none⟩)) Tt := by
  have := yl_indexA (P := P) (w0 := w0) (n := n) (Γ := Γ) (ty := ty) (t := t) hx hy hi
  rw [Nat.mul_one, show (⟨b, o, none⟩ : Addr).add i = ⟨b, o + i, none⟩ from by simp [Addr.add]] at this
  exact this
end
end Go.Sl
