/- append, copy, slicing: on slices of one's own. No program. -/
import Derived.Test.YtohienhoifgmaaaGreatP03
import Derived.Laws.Append
import Derived.Laws.CopyRow

namespace Go.Sl
open Go

class ElemT (P : Program) (t : TypeId) (size bytes : outParam Nat) (z : outParam Value) : Prop where
  info : ∃ i, P.info? t = some i ∧ i.size = size ∧ i.bytes = bytes ∧ i.zero = some z
theorem info_of_run {P : Program} {t : TypeId} {i : TypeInfo} {w : World} (h : (typeInfo t).run P w = .ok i w) : P.info? t = some i := by
  unfold typeInfo at h
  simp only [Sem.run_bind, run_program, Result.andThen_ok] at h
  cases hq : P.info? t with
  | none => rw [hq] at h; simp at h
  | some j => rw [hq] at h; simp at h; rw [h]

theorem run_lenOf {P : Program} {w : World} {x : Value} {k : Nat} {vs : List Value} (r : Rd x k vs (hpOf w)) : (Builtin.lenOf x).run P w = .ok (slLen x) w := by
  rcases r.nil_iff with rfl | ⟨a, n, c, rfl⟩ <;> simp [Builtin.lenOf, slLen]
theorem run_firstCells {P : Program} {w : World} {x : Value} {k : Nat} {vs : List Value} (r : Rd x k vs (hpOf w)) : (Builtin.firstCells k (slLen x) x).run P w = .ok vs.toArray w := by
  have hc := fun m => Rd.cell r (m := m)
  have hl := r.len
  rcases r with ⟨rfl, rfl⟩ | ⟨a, cap, rfl, rfl⟩ | ⟨b, off, len, cap, cs, T, fr, rfl, h1, h2, h3, h4⟩
  · simp [Builtin.firstCells]
  · simp [Builtin.firstCells, slLen, loadCells, loadCellsFrom]
  · refine run_firstCells_some w k _ _ _ _ vs (by simpa using hl.symm) fun j u hj => ?_
    have hlt : j < vs.length := (List.getElem?_eq_some_iff.1 hj).1
    have := hc j hlt
    rw [add_pos]
    simp only [slAddr] at this
    rw [this, ← hj]; simp [hlt]
/-- a part of what a slice holds, from its head -/
theorem run_firstCells_take {P : Program} {w : World} {x : Value} {k : Nat} {vs : List Value} (r : Rd x k vs (hpOf w)) (m : Nat) (hm : m ≤ slLen x) : (Builtin.firstCells k m x).run P w = .ok (vs.take (m * k)).toArray w := by
  have hc := fun m => Rd.cell r (m := m)
  have hl := r.len
  rcases r with ⟨rfl, rfl⟩ | ⟨a, cap, rfl, rfl⟩ | ⟨b, off, len, cap, cs, T, fr, rfl, h1, h2, h3, h4⟩
  · simp [Builtin.firstCells]
  · have : m = 0 := by simp [slLen] at hm; exact hm
    subst this
    simp [Builtin.firstCells, loadCells, loadCellsFrom]
  · have hml : m * k ≤ vs.length := by rw [← hl]; exact Nat.mul_le_mul_right _ hm
    refine run_firstCells_some w k _ _ _ _ (vs.take (m * k)) (by simp [hml]) fun j u hj => ?_
    rw [List.getElem?_take] at hj
    split at hj
    · have hlt : j < vs.length := (List.getElem?_eq_some_iff.1 hj).1
      have := hc j hlt
      rw [add_pos]
      simp only [slAddr] at this
      rw [this, ← hj]; simp [hlt]
    · cases hj

theorem evo_setRow (w : World) (g : Nat) (cs : Array Value) : Evo w (w.setRow g cs) := ⟨rfl, rfl, rfl, by simp [World.setRow]⟩
theorem sat_setRow {Γ : List HP} {w : World} {b : Nat} {cs : List Value} (hs : Sat (Cells b cs :: Γ) (hpOf w)) (cs' : List Value) :
    Sat (Cells b cs' :: Γ) (hpOf (w.setRow b cs'.toArray)) := by
  obtain ⟨h1, h2, a, c, d, ⟨T, e⟩, f⟩ := hs
  have hb : hpOf w b = some (.cells cs.toArray T (0, 0)) := a _ _ e
  have h := sat_update (Γ := Γ) (w := w) (w' := w.setRow b cs'.toArray) (b := b) ⟨h1, h2, a, c, d, e, f⟩ (setRow_heap w b _ cs'.toArray T (0, 0) hb)
    (fun c hc => setRow_other w b c cs'.toArray hc)
  exact h.imp fun _ e => ⟨T, e⟩

/-- cells are written into a slice of one's own, from a place on: no further than its room -/
theorem sl_write {P : Program} {Γ : List HP} {w : World} {b off cap k o : Nat} {cs news : List Value} (q2 : off + cap * k ≤ cs.length)
    (hs : Sat (Cells b cs :: Γ) (hpOf w)) (h1 : ∀ u ∈ news, u.oneCell' = true) (hfit : o + news.length ≤ cap * k) :
    (storeCells ⟨b, off + o, none⟩ news).run P w = .ok () (w.setRow b (cs.take (off + o) ++ news ++ cs.drop (off + o + news.length)).toArray) ∧
    Sat (Cells b (cs.take (off + o) ++ news ++ cs.drop (off + o + news.length)) :: Γ) (hpOf (w.setRow b (cs.take (off + o) ++ news ++ cs.drop (off + o + news.length)).toArray)) := by
  obtain ⟨T, hT⟩ := hs.cells
  have := run_storeCells_at P b (off + o) T news 0 cs.toArray w hT (by simp; omega) h1
  simp only [Nat.add_zero] at this
  exact ⟨this, sat_setRow hs _⟩

theorem size_zeroCells' (z : Array Value) (n : Nat) : (Builtin.zeroCells z n).size = n * z.size := by simp [Builtin.zeroCells]

section ops
variable {P : Program} {ops : Array Oper} {Q : Exit → Act → World → Prop} {w0 : World} {n : Nat} {env : Env} {Γ : List HP} {rest : List Oper}
  {ty : TypeId} {pos : String} {after : Array Edge}

theorem sl_nil {Γ : List HP} (k : Nat) : Ent Γ (Sl (.slice none 0 0) k [] :: Γ) := fun h hs =>
  ⟨fun _ => none, h, (fun _ _ e => by cases e), Hle.refl _, (fun _ => Or.inl rfl), .inl ⟨rfl, rfl⟩, hs⟩

/-- is it the nil slice? -/
def isNil : Value → Bool
  | .slice none _ _ => true
  | _ => false
theorem isNil_iff {v : Value} {k : Nat} {vs : List Value} {h : Hp} (r : Rd v k vs h) : isNil v = true ↔ v = .slice none 0 0 := by
  rcases r.nil_iff with rfl | ⟨a, n, c, rfl⟩ <;> simp [isNil]
theorem run_append {w : World} {Γ : List HP} {t e : TypeId} {k by' : Nat} {z s x : Value} {xs news : List Value} (hu : P.underlying t = some (.slice e)) [el : ElemT P e k by' z] (hz : z.cells.size = k) (hk : 0 < k)
    (hs : Sat (Sl s k xs :: Γ) (hpOf w)) (hr : ∀ h, Sat Γ h → Rd x k news h) (h1 : ∀ u ∈ news, u.oneCell' = true) (hb : (xs.length + news.length) * by' ≤ 140737488355328) (hb' : xs.length + news.length ≤ 9223372036854775807) :
    ∃ s' w', (Builtin.append_ #[t, t] ty #[s, x]).run P w = .ok s' w' ∧ Evo w w' ∧ Sat (Sl s' k (xs ++ news) :: Γ) (hpOf w') ∧ slLen s' = slLen s + slLen x ∧ (s' = .slice none 0 0 ↔ s = .slice none 0 0 ∧ news = []) := by
  obtain ⟨i, hi, hik, hib, hiz⟩ := el.info
  have hru := fun w => run_underlying (P := P) (w := w) hu
  have hrx : Rd x k news (hpOf w) := hr _ hs.tail
  have hlx := run_lenOf (P := P) hrx
  have hfx := run_firstCells (P := P) hrx
  have hnl := hrx.len
  have hsz : ∀ w, (sizeOf e).run P w = .ok k w := fun w => by simp [sizeOf, typeInfo, hi, hik]
  have hti : ∀ w, (typeInfo e).run P w = .ok i w := fun w => by simp [typeInfo, hi]
  have hzv : ∀ w, (zeroValue e).run P w = .ok z w := fun w => by simp [zeroValue, typeInfo, hi, hiz]
  have hlen : slLen s * k = xs.length := by
    obtain ⟨h1, _, hA⟩ := hs.one; exact hA.rd.len
  have hle1 : slLen s ≤ xs.length := by rw [← hlen]; exact Nat.le_mul_of_pos_right _ hk
  have hle2 : slLen x ≤ news.length := by rw [← hnl]; exact Nat.le_mul_of_pos_right _ hk
  -- what is grown
  have grown : ∀ (sa : Option Addr) (old : Nat), old < slLen s + slLen x → (Builtin.firstCells k (slLen s) s).run P w.drew = .ok xs.toArray w.drew →
      s = .slice sa (slLen s) old →
      ∃ s' w', (Builtin.append_ #[t, t] ty #[s, x]).run P w = .ok s' w' ∧ Evo w w' ∧ Sat (Sl s' k (xs ++ news) :: Γ) (hpOf w') ∧ slLen s' = slLen s + slLen x ∧ s' ≠ .slice none 0 0 := by
    intro sa old ho hfs hse
    have hge := Nat.le_add_right (slLen s + slLen x) (w.tape w.drawn (.appendCap (slLen s + slLen x) old e) % (2 ^ 63 - (slLen s + slLen x)))
    have hcap : grownCap w (slLen s + slLen x) old e = slLen s + slLen x + w.tape w.drawn (.appendCap (slLen s + slLen x) old e) % (2 ^ 63 - (slLen s + slLen x)) := rfl
    have hfx' : (Builtin.firstCells k (slLen x) x).run P w.drew = .ok news.toArray w.drew := run_firstCells (P := P) (w := w.drew) hrx
    have hn : ¬ (slLen s + slLen x ≤ old) := by omega
    have hf : ¬ (281474976710656 < Builtin.nextslicecap (slLen s + slLen x) old * by') := by
      have := growslice_fits ho (bytes := by') (Nat.le_trans (Nat.mul_le_mul_right _ (by omega)) hb); omega
    have h63 : ¬ (9223372036854775807 < ((slLen s : Int) + (slLen x : Int))) := by omega
    refine ⟨.slice (some ⟨w.heap.size, 0, none⟩) (slLen s + slLen x) (grownCap w (slLen s + slLen x) old e),
      w.drew.alloc (.cells (xs ++ news ++ (Builtin.zeroCells z.cells (grownCap w (slLen s + slLen x) old e - (slLen s + slLen x))).toList).toArray e), ?_, (evo_drew w).trans (evo_alloc _ _), ?_, by simp [slLen], by simp⟩
    · rw [hse] at hfs
      rw [hse]
      have hcast : IntKind.i64.max = 9223372036854775807 := rfl
      have hsl : slLen (.slice sa (slLen s) old) = slLen s := rfl
      simp only [hsl] at *
      simp [Builtin.append_, hru, hsz, hlx, hn, hcast, h63, hti, hib, hf, Question.forced, hfs, hfx', hzv, newRow]
      refine ⟨rfl, congrArg (fun a => w.drew.alloc (Obj.cells a e)) ?_⟩
      apply Array.toList_inj.1
      simp
      rfl
    · have h0 := sat_alloc_cells (w := w.drew) (xs ++ news ++ (Builtin.zeroCells z.cells (grownCap w (slLen s + slLen x) old e - (slLen s + slLen x))).toList) e hs.tail
      refine h0.imp fun h hc => .inr ⟨_, 0, _, _, _, rfl, by rw [hcap]; exact hge, ?_, ?_, ?_, hc⟩
      · simp only [List.length_append, Array.length_toList, size_zeroCells', hz, ← hlen, ← hnl, ← Nat.add_mul, Nat.zero_add]
        exact Nat.mul_le_mul_right _ (by rw [hcap]; omega)
      · rw [List.length_append, ← hlen, ← hnl, Nat.add_mul]
      · rw [List.drop_zero, Nat.add_mul, hlen, hnl, ← List.length_append]; exact List.take_left
  obtain ⟨h0, hl0, hA⟩ := hs.one
  rcases hA with ⟨rfl, rfl⟩ | ⟨b, off, len, cap, cs, rfl, q1, q2, q3, q4, q5⟩
  · by_cases hx0 : slLen x = 0
    · have hn0 : news = [] := List.eq_nil_of_length_eq_zero (by rw [← hnl, hx0, Nat.zero_mul])
      subst hn0
      rw [hx0] at hlx hfx
      refine ⟨.slice none 0 0, w, ?_, Evo.refl w, by simpa using hs, by rw [hx0]; rfl, by simp⟩
      simp [Builtin.append_, hru, hsz, hlx, hfx]
    · obtain ⟨s', w', a1, a2, a3, a4, a5⟩ := grown none 0 (by omega) (by simp [Builtin.firstCells]) (by simp [slLen])
      exact ⟨s', w', a1, a2, a3, a4, ⟨fun h => absurd h a5, fun h => by
        have : news.length = 0 := by rw [h.2]; rfl
        rw [← hnl] at this
        rcases Nat.mul_eq_zero.1 this with h | h <;> omega⟩⟩
  · by_cases hroom : len + slLen x ≤ cap
    · have hs' : Sat (Cells b cs :: Γ) (hpOf w) := by
        obtain ⟨p1, p2, p3, p4, p5, p6, p7⟩ := hs
        rcases p6 with ⟨e, _⟩ | ⟨b', off', len', cap', cs', e, _, _, _, _, p8⟩
        · cases e
        · cases e
          have e1 : ∃ T, hpOf w b = some (.cells cs.toArray T (0, 0)) := by obtain ⟨T, h⟩ := q5; exact ⟨T, hl0 _ _ h⟩
          have e2 : ∃ T, hpOf w b = some (.cells cs'.toArray T (0, 0)) := by obtain ⟨T, h⟩ := p8; exact ⟨T, p3 _ _ h⟩
          obtain ⟨T1, e1⟩ := e1
          obtain ⟨T2, e2⟩ := e2
          rw [e1] at e2
          have : cs = cs' := by simpa using congrArg (fun o => match o with | some (Obj.cells c _ _) => c.toList | _ => []) e2
          subst this
          exact ⟨p1, p2, p3, p4, p5, p8, p7⟩
      have hk1 : len * k + news.length ≤ cap * k := by rw [← hnl, ← Nat.add_mul]; exact Nat.mul_le_mul_right _ hroom
      obtain ⟨hst, hsat⟩ := sl_write (P := P) (o := len * k) q2 hs' h1 hk1
      refine ⟨.slice (some ⟨b, off, none⟩) (len + slLen x) cap, _, ?_, evo_setRow w _ _, hsat.imp fun h hc => .inr ⟨b, off, len + slLen x, cap, _, rfl, hroom, ?_, ?_, ?_, hc⟩, rfl, by simp⟩
      · simp only [slLen] at *
        simp [Builtin.append_, hru, hsz, hlx, hroom, hfx, add_pos, hst]
      · simp only [List.length_append, List.length_take, List.length_drop]; omega
      · rw [List.length_append, q3, ← hnl, Nat.add_mul]
      · have hpre : (cs.take (off + len * k)).drop off = xs := by
          rw [List.drop_take, Nat.add_sub_cancel_left]; exact q4
        have hcl : off + len * k ≤ cs.length := by omega
        rw [List.append_assoc, List.drop_append_of_le_length (by simp; omega), hpre]
        rw [← List.append_assoc, Nat.add_mul, hnl, ← q3, ← List.length_append]
        exact List.take_left
    · obtain ⟨s', w', a1, a2, a3, a4, a5⟩ := grown (some ⟨b, off, none⟩) cap (by show cap < len + slLen x; omega) (run_firstCells (P := P) (w := w.drew) (Rd.mono hl0 (Sl.rd (.inr ⟨b, off, len, cap, cs, rfl, q1, q2, q3, q4, q5⟩)))) (by simp [slLen])
      exact ⟨s', w', a1, a2, a3, a4, ⟨fun h => absurd h a5, fun h => by cases h.1⟩⟩

theorem wl_append {d : Nat} {t e : TypeId} {y y' : Operand} {k by' : Nat} {z s x : Value} {xs news : List Value} {Γ' : List HP} [u : Und P t (.slice e)] [el : ElemT P e k by' z] (hs : evl env y = some s) (hx : evl env y' = some x) [p : PickS Γ s k xs Γ'] [r : RdIn Γ' x k news]
    [o : OneIn Γ news] (hz : z.cells.size = k) (hk : 0 < k) (hb : (xs.length + news.length) * by' ≤ 140737488355328) (hb' : xs.length + news.length ≤ 9223372036854775807)
    (hd : Nat.blt d n = true) (kk : ∀ s', slLen s' = slLen s + slLen x → (isNil s' = (isNil s && news.isEmpty)) → WL P ops rest Q w0 n ((d, s') :: env) (Sl s' k (xs ++ news) :: Γ')) :
    WL P ops (⟨some d, .call ⟨.builtin .append, #[y, y'], #[t, t]⟩, ty, pos, after, none⟩ :: rest) Q w0 n env Γ := by
  refine wl_gen (X := Value) (vf := fun s' => s') (φ := fun s' => slLen s' = slLen s + slLen x ∧ (isNil s' = (isNil s && news.isEmpty))) (Γf := fun s' => Sl s' k (xs ++ news) :: Γ')
    (fun c w st => ?_) hd (fun s' hs' => kk s' hs'.1 hs'.2)
  obtain ⟨s', w', a1, a2, a3, a4, a5⟩ := run_append (P := P) (ty := ty) (w := w) (t := t) (s := s) (x := x) u.fact hz hk (p.pick _ st.sat) r.rd (o.one _ st.sat) hb hb'
  refine ⟨s', w', by simp [execOp, resolve, invoke, builtin, st.env.evl hs, st.env.evl hx, a1], a2, ⟨a4, ?_⟩, a3⟩
  have n1 : isNil s' = true ↔ s' = .slice none 0 0 := by obtain ⟨h1, _, hA⟩ := a3.one; exact isNil_iff hA.rd
  have n2 : isNil s = true ↔ s = .slice none 0 0 := by obtain ⟨h1, _, hA⟩ := (p.pick _ st.sat).one; exact isNil_iff hA.rd
  rw [Bool.eq_iff_iff, n1, a5, Bool.and_eq_true, n2, List.isEmpty_iff]

theorem run_equalIn_slnil (d : Nat) {t e : TypeId} {v : Value} [u : Und P t (.slice e)] (hv : v = .slice none 0 0 ∨ ∃ a n c, v = .slice (some a) n c) (w : World) : (Op.equalIn (d + 1) t v (.slice none 0 0)).run P w = .ok (isNil v) w := by
  rcases hv with rfl | ⟨a, n, c, rfl⟩ <;> simp [Op.equalIn, u.run, isNil]
theorem yl_eqnil {t e yt : TypeId} {x y : Operand} {v : Value} {k : Nat} {vs : List Value} [u : Und P t (.slice e)] (hx : evl env x = some v) (hy : evl env y = some (.slice none 0 0)) [r : RdIn Γ v k vs] :
    Yl P (.binOp .eql t x y yt) ty w0 n env Γ (.bool (isNil v)) Tt := by
  refine fun _ _ _ _ _ w s => ⟨trivial, fun w' _ => ?_⟩
  have h := (r.rd _ s.sat).nil_iff
  have h1 := run_equalIn_slnil (P := P) (t := t) 9999 h w'
  rcases h with rfl | ⟨a, m, c, rfl⟩ <;> simp [execOp, s.env.evl hx, s.env.evl hy, eqGuard, binOp, Op.equal, Op.maxDepth, h1]
theorem yl_nenil {t e yt : TypeId} {x y : Operand} {v : Value} {k : Nat} {vs : List Value} [u : Und P t (.slice e)] (hx : evl env x = some v) (hy : evl env y = some (.slice none 0 0)) [r : RdIn Γ v k vs] :
    Yl P (.binOp .neq t x y yt) ty w0 n env Γ (.bool (!isNil v)) Tt := by
  refine fun _ _ _ _ _ w s => ⟨trivial, fun w' _ => ?_⟩
  have h := (r.rd _ s.sat).nil_iff
  have h1 := run_equalIn_slnil (P := P) (t := t) 9999 h w'
  rcases h with rfl | ⟨a, m, c, rfl⟩ <;> simp [execOp, s.env.evl hx, s.env.evl hy, eqGuard, binOp, Op.equal, Op.maxDepth, h1]

theorem run_equalIn_ptrnil (d : Nat) {t e : TypeId} {a : Addr} [u : Und P t (.pointer e)] (w : World) : (Op.equalIn (d + 1) t (.pointer (some a)) (.pointer none)).run P w = .ok false w := by
  simp [Op.equalIn, u.run]
theorem yl_eqpnil {t e yt : TypeId} {x y : Operand} {a : Addr} [u : Und P t (.pointer e)] (hx : evl env x = some (.pointer (some a))) (hy : evl env y = some (.pointer none)) :
    Yl P (.binOp .eql t x y yt) ty w0 n env Γ (.bool false) Tt := by
  refine fun _ _ _ _ _ w s => ⟨trivial, fun w' _ => ?_⟩
  have h1 := run_equalIn_ptrnil (P := P) (t := t) (a := a) 9999 w'
  simp [execOp, s.env.evl hx, s.env.evl hy, eqGuard, binOp, Op.equal, Op.maxDepth, h1]
theorem yl_nepnil {t e yt : TypeId} {x y : Operand} {a : Addr} [u : Und P t (.pointer e)] (hx : evl env x = some (.pointer (some a))) (hy : evl env y = some (.pointer none)) :
    Yl P (.binOp .neq t x y yt) ty w0 n env Γ (.bool true) Tt := by
  refine fun _ _ _ _ _ w s => ⟨trivial, fun w' _ => ?_⟩
  have h1 := run_equalIn_ptrnil (P := P) (t := t) (a := a) 9999 w'
  simp [execOp, s.env.evl hx, s.env.evl hy, eqGuard, binOp, Op.equal, Op.maxDepth, h1]

theorem wl_buildSlice {d m : Nat} {t e : TypeId} {k : Nat} {by' : Nat} {z : Value} {parts : Array (Nat × Operand)} {ps : List (Nat × Value)} {cs : List Value} [u : Und P t (.slice e)] [el : ElemT P e k by' z] (hx : evp env parts.toList = some ps)
    (hm : m * k ≤ 16777216)
    (hz : Instr.fill (fun i => some (i * k, k)) ((List.range (m * k)).map fun i => (z.cells[i % z.cells.size]!)).toArray ps = some cs.toArray) (hl : cs.length = m * k)
    (hd : Nat.blt d n = true) (kk : ∀ v, slLen v = m → isNil v = false → WL P ops rest Q w0 n ((d, v) :: env) (Sl v k cs :: Γ)) :
    WL P ops (⟨some d, .buildSlice t m parts, ty, pos, after, none⟩ :: rest) Q w0 n env Γ := by
  refine wl_gen (X := Nat) (φ := fun _ => True) (vf := fun b => .slice (some ⟨b, 0, none⟩) m m) (Γf := fun b => Sl (.slice (some ⟨b, 0, none⟩) m m) k cs :: Γ)
    (fun c w s => ⟨w.heap.size, w.alloc (.cells cs.toArray e), ?_, evo_alloc w _, trivial, ?_⟩) hd fun b _ => kk _ rfl rfl
  · obtain ⟨i, hi, hik, hib, hiz⟩ := el.info
    have hsz : ∀ w, (sizeOf e).run P w = .ok k w := fun w => by simp [sizeOf, typeInfo, hi, hik]
    have hzv : ∀ w, (zeroValue e).run P w = .ok z w := fun w => by simp [zeroValue, typeInfo, hi, hiz]
    have h1 := evp_arr (s.env.evp hx)
    have hn : ¬ (16777216 < m * k) := by omega
    have harr : ∀ (zz : Array Value), (m * k = 0 ∨ zz = z.cells) → (Array.range (m * k)).map (fun i => zz[i % zz.size]!) = ((List.range (m * k)).map fun i => (z.cells[i % z.cells.size]!)).toArray := by
      intro zz hzz
      rcases hzz with h0 | rfl
      · rw [h0]; exact (Array.eq_empty_of_size_eq_zero (by simp)).trans (by simp)
      · apply Array.toList_inj.1; simp
    simp only [execOp, h1, Instr.buildSlice]
    simp [u.run, hsz, hn]
    by_cases h0 : m * k = 0
    · have e1 : Array.map (fun _ => (default : Value)) (Array.range (m * k)) = ((List.range (m * k)).map fun i => (z.cells[i % z.cells.size]!)).toArray := by
        rw [h0]; exact (Array.eq_empty_of_size_eq_zero (by simp)).trans (by simp)
      rw [if_pos h0, e1, hz]
      simp [newRow]
    · rw [if_neg h0, hzv]
      simp only [Result.andThen_ok]
      rw [harr z.cells (.inr rfl), hz]
      simp [newRow]
  · exact (sat_alloc_cells _ e s.sat).imp fun hh hc => .inr ⟨_, 0, m, m, cs, rfl, Nat.le_refl _, by omega, hl, by simp; rw [List.take_of_length_le (by omega)], hc⟩

/-! a slice all of whose elements are given, in order -/
theorem fold_write (u : List Value) : ∀ (i off : Nat) (cs : Array Value), off + i + u.length ≤ cs.size →
    (u.zipIdx i).foldl (fun cs (p : Value × Nat) => cs.setIfInBounds (off + p.2) p.1) cs = (cs.toList.take (off + i) ++ u ++ cs.toList.drop (off + i + u.length)).toArray := by
  induction u with
  | nil => intro i off cs _; simp
  | cons x u ih =>
    intro i off cs h
    simp only [List.length_cons] at h
    rw [List.zipIdx_cons, List.foldl_cons, ih (i + 1) off _ (by simp; omega)]
    apply Array.toList_inj.1
    simp only [Array.toList_setIfInBounds]
    apply List.ext_getElem?
    intro j
    simp only [List.getElem?_append, List.getElem?_take, List.getElem?_drop, List.getElem?_set, List.length_append, List.length_take, List.length_set, List.length_cons, Array.length_toList, List.getElem?_cons]
    have e1 : min (off + (i + 1)) cs.size = off + (i + 1) := by omega
    have e2 : min (off + i) cs.size = off + i := by omega
    rw [e1, e2]
    by_cases h1 : j < off + i
    · rw [if_pos (by omega), if_pos (by omega), if_pos (by omega), if_neg (by omega), if_pos (by omega), if_pos (by omega), if_pos (by omega)]
    · by_cases h2 : j = off + i
      · subst h2
        rw [if_pos (by omega), if_pos (by omega), if_pos (by omega), if_pos (by omega), if_pos (by omega), if_pos (by omega), if_neg (by omega)]
        simp
      · by_cases h3 : j < off + i + u.length + 1
        · rw [if_pos (by omega), if_neg (by omega), if_pos (by omega), if_neg (by omega), if_neg (by omega)]
          congr 1
        · rw [if_neg (by omega), if_neg (by omega), if_neg (by omega)]
          congr 1; omega

theorem fill_seq (k : Nat) : ∀ (ps : List (Nat × Value)) (j : Nat) (don rest : List Value), ps.map (·.1) = List.range' j ps.length → (∀ p ∈ ps, p.2.cells.size = k) →
    don.length = j * k → rest.length = ps.length * k → Instr.fill (fun i => some (i * k, k)) (don ++ rest).toArray ps = some (don ++ ps.flatMap fun p => p.2.cells.toList).toArray
  | [], j, don, rest, _, _, _, h => by
    have : rest = [] := List.eq_nil_of_length_eq_zero (by simpa using h)
    subst this; simp [Instr.fill]
  | (i, v) :: ps, j, don, rest, hi, hc, hd, hr => by
    simp only [List.map_cons, List.length_cons, List.range'_succ, List.cons.injEq] at hi
    obtain ⟨rfl, hi⟩ := hi
    have hv : v.cells.size = k := hc _ (.head _)
    have hlen : rest.length = ps.length * k + k := by rw [hr, List.length_cons, Nat.succ_mul]
    unfold Instr.fill
    simp only
    rw [if_neg (by simp [hv]; omega)]
    have hfold : v.cells.zipIdx.foldl (fun cs (p : Value × Nat) => cs.setIfInBounds (i * k + p.2) p.1) (don ++ rest).toArray = ((don ++ v.cells.toList) ++ rest.drop k).toArray := by
      rw [← Array.foldl_toList, Array.toList_zipIdx]
      have := fold_write v.cells.toList 0 (i * k) (don ++ rest).toArray (by simp [hv]; omega)
      rw [this]
      congr 1
      simp only [Nat.add_zero, Array.length_toList, hv]
      rw [← hd, List.take_left, ← List.drop_drop, List.drop_left]
    have := fill_seq k ps (i + 1) (don ++ v.cells.toList) (rest.drop k) hi (fun p hp => hc p (.tail _ hp)) (by simp [hd, hv, Nat.succ_mul]) (by simp; omega)
    simp only [List.flatMap_cons, ← List.append_assoc]
    rw [← this]
    congr 1

theorem flatMap_one (ps : List (Nat × Value)) (h : ∀ u ∈ ps.map (·.2), u.oneCell' = true) : (ps.flatMap fun p => p.2.cells.toList) = ps.map (·.2) := by
  induction ps with
  | nil => rfl
  | cons p ps ih =>
    have h1 := h p.2 (by simp)
    have : p.2.cells = #[p.2] := by cases p with | mk i v => cases v <;> simp [Value.cells, Value.oneCell'] at h1 ⊢
    simp [this, ih (fun u hu => h u (by simp at hu ⊢; exact .inr hu))]

/-- no element -/
theorem wl_buildNil {d : Nat} {t e : TypeId} {k by' : Nat} {z : Value} [u : Und P t (.slice e)] [el : ElemT P e k by' z]
    (hd : Nat.blt d n = true) (kk : ∀ v, slLen v = 0 → isNil v = false → WL P ops rest Q w0 n ((d, v) :: env) (Sl v k [] :: Γ)) :
    WL P ops (⟨some d, .buildSlice t 0 #[], ty, pos, after, none⟩ :: rest) Q w0 n env Γ :=
  wl_buildSlice (k := k) (ps := []) (cs := []) rfl (by omega) (by simp [Instr.fill]) (by simp) hd kk
/-- elements of one cell each -/
theorem wl_buildSeq {d m : Nat} {t e : TypeId} {by' : Nat} {z : Value} {parts : Array (Nat × Operand)} {ps : List (Nat × Value)} {vs : List Value} [u : Und P t (.slice e)] [el : ElemT P e 1 by' z] (hx : evp env parts.toList = some ps)
    (hm : m ≤ 16777216) (hi : ps.map (·.1) = List.range' 0 ps.length) (hl : ps.length = m) (hv : ps.map (·.2) = vs) [o : OneInP Γ ps]
    (hd : Nat.blt d n = true) (kk : ∀ v, slLen v = m → isNil v = false → WL P ops rest Q w0 n ((d, v) :: env) (Sl v 1 vs :: Γ)) :
    WL P ops (⟨some d, .buildSlice t m parts, ty, pos, after, none⟩ :: rest) Q w0 n env Γ := by
  subst hv
  refine WL.tell (p := ∀ p ∈ ps, p.2.oneCell' = true) (fun x hs => o.one x hs) (fun one => ?_)
  refine wl_buildSlice (k := 1) hx (by omega) ?_ (by simpa using hl) hd kk
  · have := fill_seq 1 ps 0 [] ((List.range (m * 1)).map fun i => (z.cells[i % z.cells.size]!)) hi (fun p hp => by
      have h1 := one p hp
      cases p with | mk i v => cases v <;> simp [Value.cells, Value.oneCell'] at h1 ⊢) rfl (by simp; omega)
    simp only [List.nil_append] at this
    rw [this, flatMap_one ps (fun u hu => by obtain ⟨p, hp, rfl⟩ := List.mem_map.1 hu; exact one p hp)]
/-- 'copy' onto a slice of one's own -/
theorem wl_copy {d : Nat} {t t' e : TypeId} {ag : Bool} {y y' : Operand} {v x : Value} {vs us : List Value} {Γ' : List HP} [u : Und P t (.slice e)] [g : AggT P e ag 1] (hs : evl env y = some v) (hx : evl env y' = some x) [p : PickS Γ v 1 vs Γ'] [r : RdIn Γ' x 1 us]
    [o : OneIn Γ us] (hd : Nat.blt d n = true) (kk : WL P ops rest Q w0 n ((d, vi (min us.length vs.length : Nat)) :: env) (Sl v 1 (us.take vs.length ++ vs.drop us.length) :: Γ')) :
    WL P ops (⟨some d, .call ⟨.builtin .copy, #[y, y'], #[t, t']⟩, ty, pos, after, none⟩ :: rest) Q w0 n env Γ := by
  refine wl_val (fun c w s => ?_) hd kk
  have hrx : Rd x 1 us (hpOf w) := r.rd _ (p.pick _ s.sat).tail
  have hlx := run_lenOf (P := P) hrx
  have hxl : slLen x = us.length := by have := hrx.len; omega
  have hsv := p.pick _ s.sat
  obtain ⟨h1, h2, a, b, cc, hA, hf⟩ := hsv
  have hvl : slLen v = vs.length := by have := hA.rd.len; omega
  have hfc := run_firstCells_take (P := P) hrx (Nat.min us.length vs.length) (by rw [hxl]; exact Nat.min_le_left _ _)
  rw [Nat.mul_one] at hfc
  have hmin : Nat.min us.length vs.length = min us.length vs.length := rfl
  rw [hmin] at hfc
  have htake : us.take (min us.length vs.length) = us.take vs.length := by
    rw [Nat.min_comm, ← List.take_take, List.take_of_length_le (Nat.le_refl _)]
  rw [htake] at hfc
  rcases hA with ⟨rfl, rfl⟩ | ⟨bk, off, len, cap, cs, rfl, q1, q2, q3, q4, q5⟩
  · refine ⟨w, ?_, Evo.refl w, ?_⟩
    · simp at hfc
      simp [execOp, resolve, invoke, builtin, s.env.evl hs, s.env.evl hx, Builtin.copy_, u.run, hlx, g.size, hfc, goInt]
    · have e0 : us.take ([] : List Value).length ++ ([] : List Value).drop us.length = [] := by simp
      rw [e0]; exact ⟨h1, h2, a, b, cc, .inl ⟨rfl, rfl⟩, hf⟩
  · have hcells : Sat (Cells bk cs :: Γ') (hpOf w) := ⟨h1, h2, a, b, cc, q5, hf⟩
    simp only [Nat.mul_one] at q2 q3 q4
    simp only [slLen] at hvl
    have hn : (us.take vs.length).length ≤ cap := by simp; omega
    obtain ⟨r1, r2⟩ := sl_write (P := P) (off := off) (cap := cap) (k := 1) (o := 0) (news := us.take vs.length) (by simpa using q2) hcells (fun z hz => o.one _ s.sat z (List.mem_of_mem_take hz)) (by omega)
    simp only [Nat.add_zero] at r1 r2
    refine ⟨_, ?_, evo_setRow w _ _, r2.imp fun h hc => .inr ⟨bk, off, len, cap, _, rfl, q1, ?_, ?_, ?_, hc⟩⟩
    · have hmm : (slLen x).min len = min us.length vs.length := by rw [hxl, hvl]
      simp [execOp, resolve, invoke, builtin, s.env.evl hs, s.env.evl hx, Builtin.copy_, u.run, hlx, g.size, hmm, hfc, goInt, r1]
    · simp; omega
    · simp; omega
    · have hcl : off ≤ cs.length := by omega
      rw [Nat.mul_one, List.append_assoc, List.drop_append_of_le_length (by simp; omega), List.drop_of_length_le (by simp; omega), List.nil_append]
      have e1 : cs.drop (off + (us.take vs.length).length) = (cs.drop off).drop (us.take vs.length).length := by rw [List.drop_drop]
      rw [e1]
      rw [← q4, List.drop_take]
      have hl1 : ((cs.drop off).take len).length = len := by rw [q4, ← hvl]
      rw [List.take_append, List.take_of_length_le (by rw [q4]; simp; omega)]
      congr 1
      rw [q4]
      by_cases h : us.length ≤ vs.length
      · rw [show (us.take vs.length).length = us.length from by simp; omega]
      · have e2 : (us.take vs.length).length = len := by simp; omega
        rw [e2, show len - len = 0 from by omega, List.take_zero, show len - us.length = 0 from by omega, List.take_zero]
/-- a call that always returns -/
theorem wl_call0 {d : Nat} {cal : Operand} {f : FuncId} {first captured : Array Value} {args : Array Operand} {ts : Array TypeId} {vs us : List Value}
    {rd : Hp → Prop} {pre : List HP → List HP} {X : Type} {φ : X → Prop} {v : X → Value} {post : X → List HP → List HP}
    {R : Ending → World → Prop} {F : List HP} [ct : CallT P f] [th : Thru Q R]
    (hs : Spec0 P f us rd pre φ v post)
    (hc : evl env cal = some (.func (.func f) first captured)) (ha : evls env args.toList = some vs) (hu : first.toList ++ vs ++ captured.toList = us)
    (hd : Nat.blt d n = true) (hg : Ent Γ (pre F)) (hr : ∀ h, Sat F h → rd h)
    (k : ∀ x, φ x → WL P ops rest Q w0 n ((d, v x) :: env) (post x F)) :
    WL P ops (⟨some d, .call ⟨.value cal, args, ts⟩, ty, pos, after, none⟩ :: rest) Q w0 n env Γ :=
  wl_call hs hc ha hu hd hg hr (fun _ h => h.elim) k
theorem wl_call0_ {cal : Operand} {f : FuncId} {first captured : Array Value} {args : Array Operand} {ts : Array TypeId} {vs us : List Value}
    {rd : Hp → Prop} {pre : List HP → List HP} {X : Type} {φ : X → Prop} {v : X → Value} {post : X → List HP → List HP}
    {R : Ending → World → Prop} {F : List HP} [ct : CallT P f] [th : Thru Q R]
    (hs : Spec0 P f us rd pre φ v post)
    (hc : evl env cal = some (.func (.func f) first captured)) (ha : evls env args.toList = some vs) (hu : first.toList ++ vs ++ captured.toList = us)
    (hg : Ent Γ (pre F)) (hr : ∀ h, Sat F h → rd h)
    (k : ∀ x, φ x → WL P ops rest Q w0 n env (post x F)) :
    WL P ops (⟨none, .call ⟨.value cal, args, ts⟩, ty, pos, after, none⟩ :: rest) Q w0 n env Γ :=
  wl_call_ hs hc ha hu hg hr (fun _ h => h.elim) k
end ops
end Go.Sl
