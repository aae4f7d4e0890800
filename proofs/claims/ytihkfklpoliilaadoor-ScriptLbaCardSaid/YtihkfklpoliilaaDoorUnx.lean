/- Operations of a region that draws, whose guard hangs on one that wasn't done. No program. -/
import Derived.Test.YtihkfklpoliilaaDoorUnd
import Derived.Test.YtihkfklpoliilaaDoorDrw
namespace Go.Sl
open Go
section
variable {P : Program} {Q : Exit → Act → World → Prop} {w0 : World} {n : Nat} {env : Env} {Γ : List HP} {ops : Array Oper} {fuel : Nat} {L : Obl} {listed : Array Bool}
theorem du [pq : PutQ Q] (i : Nat) {d : Nat} {op : Op} {ty : TypeId} {pos : String} {after : Array Edge} {g : Nat} {want : Bool} {og : Oper} {t : Tmp}
    (k : WD P ops Q fuel L (listed.setIfInBounds i true) w0 n ((d, undef) :: env) Γ) (hi : ops[i]? = some ⟨some d, op, ty, pos, after, some (g, want)⟩ := by rfl)
    (hg : ops[g]? = some og := by rfl) (ht : og.dst = some t := by rfl) (hc : env.get t = some undef := by rfl)
    (hsel : Region.noSelect ops = true := by kernel_rfl) (hf : Region.free .any ops listed i = true := by kernel_rfl) (hr : (Region.ready .any ops listed).contains i = true := by kernel_rfl)
    (hd : Nat.blt d n = true := by rfl)  :
    WD P ops Q (fuel + 1) L listed w0 n env Γ := fun a w s ho => by
  refine wpAnyL_first hi hsel fuel L listed a w (Region.free_spec hi hf) (by simpa using hr) (v := undef) (I := Tt) (.inr ⟨?_, rfl⟩) trivial ho ?_
  · have hy : yielded ops a.tmps g = none := by simp [yielded, hg, ht, s.env.get _ _ hc, undef]
    simp [Region.wanted, hy]
  · exact wpAnyL_mono _ _ _ _ _ _ (fun q hq => by
      rcases List.mem_cons.1 hq with rfl | hq
      · exact .inr rfl
      · exact .inl hq) (k _ _ ⟨s.env.put hd _, s.defers, s.evo, s.sat⟩ ho)
end
/-- a slice that isn't nil -/
def Some1 (v : Value) : Prop := ∃ a m c, v = .slice (some a) m c
theorem yl_nenilv {P : Program} {w0 : World} {n : Nat} {env : Env} {Γ : List HP} {ty t e yt : TypeId} {x y : Operand} {v : Value} [u : Und P t (.slice e)] (hx : evl env x = some v) (hy : evl env y = some (.slice none 0 0)) (h : v = .slice none 0 0 ∨ Some1 v) :
    Yl P (.binOp .neq t x y yt) ty w0 n env Γ (.bool (!isNil v)) Tt := by
  refine fun _ _ _ _ _ w s => ⟨trivial, fun w' _ => ?_⟩
  have h1 := run_equalIn_slnil (P := P) (t := t) 9999 h w'
  rcases h with rfl | ⟨a, m, c, rfl⟩ <;> simp [execOp, s.env.evl hx, s.env.evl hy, eqGuard, binOp, Op.equal, Op.maxDepth, h1]
theorem Some1.not {v : Value} (h : Some1 v) : (!isNil v) = true := by obtain ⟨a, m, c, rfl⟩ := h; rfl
theorem shr_eq (keep k : Nat) (hk : k ≤ 64) : Int.fdiv (keep : Int) (2 ^ min (Int.toNat (k : Int)) (IntKind.bits .u64)) = ((keep >>> k : Nat) : Int) := by
  rw [Int.toNat_natCast, show min k (IntKind.bits .u64) = k from Nat.min_eq_left hk, Nat.shiftRight_eq_div_pow, Int.fdiv_eq_ediv_of_nonneg _ (Int.le_of_lt (Int.pow_pos (by decide)))]
  norm_cast
end Go.Sl
