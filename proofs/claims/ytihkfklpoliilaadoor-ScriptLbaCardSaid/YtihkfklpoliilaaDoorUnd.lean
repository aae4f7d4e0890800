/- Operations whose guard hangs on one that wasn't done: they aren't either. No program. -/
import Derived.Test.YtihkfklpoliilaaDoorEng9
namespace Go.Sl
open Go
section
variable {P : Program} {Q : Exit → Act → World → Prop} {w0 : World} {n : Nat} {env : Env} {Γ : List HP} {ops : Array Oper} {ty : TypeId} {pos : String} {after : Array Edge} {rest : List Oper}
theorem wl_guard_un {d : Nat} {op : Op} {g : Nat} {want : Bool} {og : Oper} {t : Tmp} (hg : ops[g]? = some og) (ht : og.dst = some t) (hc : env.get t = some undef)
    (hd : Nat.blt d n = true) (k : WL P ops rest Q w0 n ((d, undef) :: env) Γ) :
    WL P ops (⟨some d, op, ty, pos, after, some (g, want)⟩ :: rest) Q w0 n env Γ := fun a w s => by
  have hy : yielded ops a.tmps g = none := by simp [yielded, hg, ht, s.env.get _ _ hc, undef]
  unfold wpList
  rw [if_neg (by simp [Region.wanted, hy])]
  exact k _ _ ⟨s.env.put hd _, s.defers, s.evo, s.sat⟩
end
end Go.Sl
