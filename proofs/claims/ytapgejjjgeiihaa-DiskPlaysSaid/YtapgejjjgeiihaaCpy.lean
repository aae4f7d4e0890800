/- A slice's parts, and copying within a row of cells. No program. -/
import Derived.Test.YtapgejjjgeiihaaEng10
import Derived.Laws.CopyRow
import Derived.Laws.Tables
namespace Go.Sl
open Go
section
variable {P : Program} {ops : Array Oper} {Q : Exit → Act → World → Prop} {w0 : World} {n : Nat} {env : Env} {Γ : List HP} {rest : List Oper}
  {ty : TypeId} {pos : String} {after : Array Edge}
theorem run_sliceBound' (k : IntKind) (i : Int) (y : Nat) (code : BoundsCode) (h0 : 0 ≤ i) (h1 : i ≤ y) (w : World) : (Instr.sliceBound (.int k i) y code).run P w = .ok i.toNat w := by
  simp [Instr.sliceBound, asIntOf, h0, h1]
/-- a slice that is known -/
theorem yl_lenS {x : Operand} {t e : TypeId} {a : Option Addr} {len cap : Nat} [u : Und P t (.slice e)] (hx : evl env x = some (.slice a len cap)) : Yl P (.call ⟨.builtin .len, #[x], #[t]⟩) ty w0 n env Γ (vi len) Tt :=
  fun _ _ _ _ a w s => ⟨trivial, fun w' _ => by simp [execOp, resolve, invoke, builtin, s.env.evl hx, Builtin.len_, u.run, goInt]⟩
/-- from a place on -/
theorem yl_sliceFrom {t e : TypeId} {ag : Bool} {x y : Operand} {b o len cap : Nat} {kd : IntKind} {l : Int} [u : Und P t (.slice e)] [g : AggT P e ag 1] (hx : evl env x = some (.slice (some ⟨b, o, none⟩) len cap)) (hy : evl env y = some (.int kd l))
    (h0 : 0 ≤ l) (h1 : l < len) (h2 : len ≤ cap) : Yl P (.slice t x (some y) none none) ty w0 n env Γ (.slice (some ⟨b, o + l.toNat, none⟩) (len - l.toNat) (cap - l.toNat)) Tt := by
  refine fun _ _ _ _ a w s => ⟨trivial, fun w' _ => ?_⟩
  have e1 : (Addr.mk b o none).add l.toNat = ⟨b, o + l.toNat, none⟩ := by unfold Addr.add; split <;> simp_all
  simp only [execOp, s.env.evl hx, Option.map, s.env.evl hy, Instr.sliceAt, Sem.run_bind, u.run, Result.andThen_ok, Instr.slice, Instr.sliceBounds, Sem.run_pure]
  rw [run_sliceBound' kd l len _ h0 (by omega)]
  simp only [Result.andThen_ok, g.size, Nat.mul_one, Sem.run_pure]
  rw [if_neg (by omega)]
  simp [e1]
/-- up to a place -/
theorem yl_sliceTo {t e : TypeId} {ag : Bool} {x y : Operand} {b o len cap : Nat} {kd : IntKind} {h : Int} [u : Und P t (.slice e)] [g : AggT P e ag 1] (hx : evl env x = some (.slice (some ⟨b, o, none⟩) len cap)) (hy : evl env y = some (.int kd h))
    (h0 : 0 ≤ h) (h1 : h ≤ cap) : Yl P (.slice t x none (some y) none) ty w0 n env Γ (.slice (some ⟨b, o, none⟩) h.toNat cap) Tt := by
  refine fun _ _ _ _ a w s => ⟨trivial, fun w' _ => ?_⟩
  have e1 : (Addr.mk b o none).add 0 = ⟨b, o, none⟩ := rfl
  simp only [execOp, s.env.evl hx, Option.map, s.env.evl hy, Instr.sliceAt, Sem.run_bind, u.run, Result.andThen_ok, Instr.slice, Instr.sliceBounds, Sem.run_pure]
  rw [run_sliceBound' kd h cap _ h0 h1]
  simp [g.size, e1]
/-- copying onto cells of one's own -/
theorem wl_copyIn {d : Nat} {x y : Operand} {t t' e : TypeId} {z : Value} {by' : Nat} {b o dl dc sl sc : Nat} {ad : Addr} {cs : List Value} {Γ' : List HP} (us : List Value) [u : Und P t (.slice e)] [el : ElemT P e 1 by' z]
    [p : PickC Γ b cs Γ'] (hn : us.length = min sl dl)
    (hsrc : ∀ w, Sat Γ (hpOf w) → ∀ j v, us[j]? = some v → w.cell? (ad.add j) = some v) (hfit : o + us.length ≤ cs.length) (h1 : ∀ v ∈ us, v.oneCell' = true)
    (hx : evl env x = some (.slice (some ⟨b, o, none⟩) dl dc)) (hy : evl env y = some (.slice (some ad) sl sc)) (hd : Nat.blt d n = true)
    (kk : WL P ops rest Q w0 n ((d, vi us.length) :: env) (Cells b (cs.take o ++ us ++ cs.drop (o + us.length)) :: Γ')) :
    WL P ops (⟨some d, .call ⟨.builtin .copy, #[x, y], #[t, t']⟩, ty, pos, after, none⟩ :: rest) Q w0 n env Γ := by
  refine wl_gen (X := Unit) (vf := fun _ => vi us.length) (φ := fun _ => True) (Γf := fun _ => Cells b (cs.take o ++ us ++ cs.drop (o + us.length)) :: Γ') (fun c w st => ?_) hd (fun _ _ => kk)
  obtain ⟨T, hT⟩ := (p.pick _ st.sat).cells
  obtain ⟨i, hi, hs1, _, _⟩ := el.info
  have hr := run_copy_row (P := P) w t t' ty e b o dl dc ad sl sc cs.toArray T us u.fact (by rw [hi]; simp [hs1]) hT (by rw [hn]) (hsrc _ st.sat) (by simpa using hfit) h1
  refine ⟨(), w.setRow b (cs.take o ++ us ++ cs.drop (o + us.length)).toArray, ?_, ⟨rfl, rfl, rfl, by simp [World.setRow]⟩, trivial, ?_⟩
  · simp [execOp, resolve, invoke, builtin, st.env.evl hx, st.env.evl hy, hr, goInt]
  · have h2 := p.pick _ st.sat
    obtain ⟨h1', h2', a, c, d', ⟨T', e'⟩, f⟩ := h2
    have hT' : hpOf w b = some (.cells cs.toArray T' (0, 0)) := a _ _ e'
    exact (sat_update (Γ := Γ') (w := w) (w' := w.setRow b (cs.take o ++ us ++ cs.drop (o + us.length)).toArray) (b := b) ⟨h1', h2', a, c, d', e', f⟩ (setRow_heap w b _ _ T' (0, 0) hT') (fun c hc => setRow_other w b c _ hc)).imp fun _ e => ⟨T', e⟩
end
/-- a slice of one's own that is none of the nil ones, as cells -/
theorem Sl.cells {v : Value} {vs : List Value} {Γ : List HP} {h : Hp} (hnil : ∃ a n c, v = .slice (some a) n c) (hs : Sat (Sl v 1 vs :: Γ) h) : ∃ x : Nat × Nat × Nat × List Value,
    (v = .slice (some ⟨x.1, x.2.1, none⟩) vs.length x.2.2.1 ∧ vs.length ≤ x.2.2.1 ∧ x.2.1 + x.2.2.1 ≤ x.2.2.2.length ∧ (x.2.2.2.drop x.2.1).take vs.length = vs) ∧ Sat (Cells x.1 x.2.2.2 :: Γ) h := by
  obtain ⟨h1, h2, a, c, d, hA, f⟩ := hs
  rcases hA with ⟨rfl, _⟩ | ⟨b, off, len, cap, cs, rfl, q1, q2, q3, q4, q5⟩
  · obtain ⟨_, _, _, h⟩ := hnil; cases h
  · obtain rfl : vs.length = len := by omega
    exact ⟨(b, off, cap, cs), ⟨rfl, q1, by simpa using q2, by simpa using q4⟩, h1, h2, a, c, d, q5, f⟩
theorem Sl.ofCells {b off cap : Nat} {cs vs : List Value} {Γ : List HP} (h1 : vs.length ≤ cap) (h2 : off + cap ≤ cs.length) (h3 : (cs.drop off).take vs.length = vs) : Ent (Cells b cs :: Γ) (Sl (.slice (some ⟨b, off, none⟩) vs.length cap) 1 vs :: Γ) :=
  Ent.imp fun _ hc => .inr ⟨b, off, vs.length, cap, cs, rfl, h1, by simpa using h2, by simp, by simpa using h3, hc⟩
end Go.Sl
