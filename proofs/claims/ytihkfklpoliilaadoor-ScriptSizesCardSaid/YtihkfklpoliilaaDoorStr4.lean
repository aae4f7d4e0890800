/- Rows of bytes made with room, that strings are appended to. No program. -/
import Derived.Test.YtihkfklpoliilaaDoorStr2
namespace Go.Sl
open Go
section ops
variable {P : Program} {ops : Array Oper} {Q : Exit → Act → World → Prop} {w0 : World} {n : Nat} {env : Env} {Γ : List HP} {rest : List Oper}
  {ty : TypeId} {pos : String} {after : Array Edge}
theorem wl_makecapT {d : Nat} {t e : TypeId} {ag : Bool} {by' : Nat} {z : Value} {x y : Operand} {m : Int} [u : Und P t (.slice e)] [g : AggT P e ag 1] [bt : BytesT P e by'] [zt : ZeroT P e z] (hx : evl env x = some (.int .i64 0)) (hy : evl env y = some (.int .i64 m))
    (h0 : 0 < m) (h1 : (by' : Int) * m ≤ 281474976710656) (h2 : m ≤ 9223372036854775807) (hz : z.cells = #[z])
    (hd : Nat.blt d n = true) (k : ∀ v, WL P ops rest Q w0 n ((d, v) :: env) (SlT v e [] :: Γ)) :
    WL P ops (⟨some d, .makeSlice t x y, ty, pos, after, none⟩ :: rest) Q w0 n env Γ := by
  refine wl_gen (X := Nat) (φ := fun _ => True) (vf := fun b => .slice (some ⟨b, 0, none⟩) 0 m.toNat) (Γf := fun b => SlT (.slice (some ⟨b, 0, none⟩) 0 m.toNat) e [] :: Γ)
    (fun c w s => ⟨w.heap.size, w.alloc (.cells (List.replicate m.toNat z).toArray e), ?_, evo_alloc w _, trivial, ?_⟩) hd fun b _ => k _
  · obtain ⟨i, hi, hib⟩ := bt.run w
    have hw := wrap_i64 (a := m) (by omega) h2
    have hw0 := wrap_i64 (a := 0) (by omega) (by omega)
    have hsz : ((Array.range m.toNat).map (fun i => z.cells[i % z.cells.size]!)) = (List.replicate m.toNat z).toArray := by
      apply Array.toList_inj.1
      have := range_map_zero z.cells (by rw [hz]; exact Nat.one_pos) m.toNat
      rw [hz] at this ⊢
      simpa [flatten_one] using this
    have hn1 : ¬ (m < 0) := by omega
    have hn2 : ¬ (281474976710656 < (by' : Int) * m) := by omega
    have hm : ¬ m ≤ 0 := by omega
    simp only [execOp, s.env.evl hx, s.env.evl hy, Instr.makeSlice]
    simp [u.run, asInt, asIntOf, hi, hw, hw0, hib, hn1, hn2, g.size, hm, zt.run, newRow]
    rw [hsz]
    simp
  · refine (sat_alloc (.cells (List.replicate m.toNat z).toArray e) s.sat).imp fun hh hc => .inr ⟨_, m.toNat, _, rfl, Nat.zero_le _, by omega, by simp, rfl, hc⟩
end ops
theorem slt_sl {v : Value} {e : TypeId} {us : List Value} {Γ : List HP} : Ent (SlT v e us :: Γ) (Sl v 1 us :: Γ) := Ent.imp fun h hs => by
  rcases hs with ⟨rfl, rfl⟩ | ⟨b, cap, cs, rfl, h1, h2, h3, h4, h5⟩
  · exact .inl ⟨rfl, rfl⟩
  · exact .inr ⟨b, 0, us.length, cap, cs, rfl, h1, by omega, by simp, by simpa using h4, ⟨e, h5⟩⟩
end Go.Sl
