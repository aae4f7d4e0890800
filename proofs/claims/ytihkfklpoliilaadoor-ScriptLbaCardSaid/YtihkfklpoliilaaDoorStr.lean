/- Strings: what they yield; ranging over one; rows of bytes whose type is known. No program. -/
import Derived.Test.YtihkfklpoliilaaDoorEng8
import Derived.Test.YtihkfklpoliilaaDoorYld
import Derived.Lib.UnsafeStr
import Derived.Laws.BytesString
namespace Go.Sl
open Go
/-- a string of these bytes -/
abbrev vs (l : Bytes) : Value := .string ⟨l.toArray⟩
abbrev vr (r : Nat) : Value := .int .i32 (r : Int)
theorem ba_toList (l : Bytes) : (ByteArray.mk l.toArray).toList = l := by rw [ByteArray.toList_eq]
theorem ba_size (l : Bytes) : (ByteArray.mk l.toArray).size = l.length := by show (l.toArray).size = _; simp
section ops
variable {P : Program} {ops : Array Oper} {Q : Exit → Act → World → Prop} {w0 : World} {n : Nat} {env : Env} {Γ : List HP} {rest : List Oper}
  {ty : TypeId} {pos : String} {after : Array Edge}
theorem yl_lenV {x : Operand} {t : TypeId} {l : Bytes} [u : Und P t .string] (hx : evl env x = some (vs l)) : Yl P (.call ⟨.builtin .len, #[x], #[t]⟩) ty w0 n env Γ (vi l.length) Tt := by
  refine fun _ _ _ _ a w s => ⟨trivial, fun w' _ => ?_⟩
  simp [execOp, resolve, invoke, builtin, s.env.evl hx, Builtin.len_, u.run, goInt, ba_size]
theorem yl_idxV {x y : Operand} {t : TypeId} {l : Bytes} {kd : IntKind} {i : Nat} [u : Und P t .string] (hx : evl env x = some (vs l)) (hy : evl env y = some (.int kd (i : Int))) (hi : i < l.length) :
    Yl P (.index t x y) ty w0 n env Γ (vb l[i]) Tt := by
  refine fun _ _ _ _ a w s => ⟨trivial, fun w' _ => ?_⟩
  have h1 : (ByteArray.mk l.toArray)[i]? = some l[i] := by
    rw [getElem?_pos _ _ (by simpa [ba_size] using hi)]
    rfl
  simp [execOp, s.env.evl hx, s.env.evl hy, Instr.index, asIntOf, u.run, h1]
theorem yl_catV {x y : Operand} {t yt : TypeId} {a b : Bytes} (hx : evl env x = some (vs a)) (hy : evl env y = some (vs b)) (hl : a.length + b.length ≤ 9223372036854775807) :
    Yl P (.binOp .add t x y yt) ty w0 n env Γ (vs (a ++ b)) Tt := by
  refine fun _ _ _ _ c w s => ⟨trivial, fun w' _ => ?_⟩
  have h1 : ¬ (9223372036854775807 : Int) < (a.length : Int) + (b.length : Int) := by omega
  have hm : IntKind.i64.max = 9223372036854775807 := rfl
  have h2 : ByteArray.mk a.toArray ++ ByteArray.mk b.toArray = ByteArray.mk (a ++ b).toArray := by
    apply ByteArray.ext
    simp [ByteArray.data_append]
  simp [execOp, s.env.evl hx, s.env.evl hy, eqGuard, binOp, Op.stringOp, ba_size, hm, h1, h2]
theorem yl_eqV {x y : Operand} {t yt : TypeId} {a b : Bytes} (hx : evl env x = some (vs a)) (hy : evl env y = some (vs b)) : Yl P (.binOp .eql t x y yt) ty w0 n env Γ (.bool (decide (a = b))) Tt := by
  refine fun _ _ _ _ c w s => ⟨trivial, fun w' _ => ?_⟩
  have : (a == b) = decide (a = b) := by by_cases h : a = b <;> simp [h]
  simp [execOp, s.env.evl hx, s.env.evl hy, eqGuard, binOp, Op.stringOp, this]
theorem yl_neV {x y : Operand} {t yt : TypeId} {a b : Bytes} (hx : evl env x = some (vs a)) (hy : evl env y = some (vs b)) : Yl P (.binOp .neq t x y yt) ty w0 n env Γ (.bool (decide (a ≠ b))) Tt := by
  refine fun _ _ _ _ c w s => ⟨trivial, fun w' _ => ?_⟩
  have : (!(a == b)) = decide (a ≠ b) := by by_cases h : a = b <;> simp [h]
  simp [execOp, s.env.evl hx, s.env.evl hy, eqGuard, binOp, Op.stringOp, this]
theorem run_bound' (k : IntKind) (i : Nat) (y : Nat) (code : BoundsCode) (h1 : i ≤ y) (w : World) : (Instr.sliceBound (.int k (i : Int)) y code).run P w = .ok i w := by
  simp [Instr.sliceBound, asIntOf, h1]
theorem ba_extract (l : Bytes) (i j : Nat) : (ByteArray.mk l.toArray).extract i j = ByteArray.mk ((l.take j).drop i).toArray := by
  apply ByteArray.ext
  simp [ByteArray.data_extract, List.drop_take]
theorem yl_cutV {x y z : Operand} {t : TypeId} {l : Bytes} {k1 k2 : IntKind} {i j : Nat} [u : Und P t .string] (hx : evl env x = some (vs l)) (hy : evl env y = some (.int k1 (i : Int))) (hz : evl env z = some (.int k2 (j : Int))) (h1 : i ≤ j) (h2 : j ≤ l.length) :
    Yl P (.slice t x (some y) (some z) none) ty w0 n env Γ (vs ((l.take j).drop i)) Tt := by
  refine fun _ _ _ _ a w s => ⟨trivial, fun w' _ => ?_⟩
  simp [execOp, s.env.evl hx, s.env.evl hy, s.env.evl hz, Instr.sliceAt, Instr.slice, Instr.sliceBounds, u.run, ba_size, run_bound' k2 j l.length _ h2, run_bound' k1 i j _ h1, ba_extract]
theorem yl_fromV {x y : Operand} {t : TypeId} {l : Bytes} {k1 : IntKind} {i : Nat} [u : Und P t .string] (hx : evl env x = some (vs l)) (hy : evl env y = some (.int k1 (i : Int))) (h1 : i ≤ l.length) :
    Yl P (.slice t x (some y) none none) ty w0 n env Γ (vs (l.drop i)) Tt := by
  refine fun _ _ _ _ a w s => ⟨trivial, fun w' _ => ?_⟩
  have := ba_extract l i l.length
  rw [List.take_length] at this
  simp [execOp, s.env.evl hx, s.env.evl hy, Instr.sliceAt, Instr.slice, Instr.sliceBounds, u.run, ba_size, run_bound' k1 i l.length _ h1, this]
theorem yl_toV {x y : Operand} {t : TypeId} {l : Bytes} {k1 : IntKind} {i : Nat} [u : Und P t .string] (hx : evl env x = some (vs l)) (hy : evl env y = some (.int k1 (i : Int))) (h1 : i ≤ l.length) :
    Yl P (.slice t x none (some y) none) ty w0 n env Γ (vs (l.take i)) Tt := by
  refine fun _ _ _ _ a w s => ⟨trivial, fun w' _ => ?_⟩
  have := ba_extract l 0 i
  rw [List.drop_zero] at this
  simp [execOp, s.env.evl hx, s.env.evl hy, Instr.sliceAt, Instr.slice, Instr.sliceBounds, u.run, ba_size, run_bound' k1 i l.length _ h1, this]

/-- ranging over a string -/
theorem wl_rangeV {d : Nat} {t : TypeId} {x : Operand} {l : Bytes} [u : Und P t .string] (hx : evl env x = some (vs l)) (hd : Nat.blt d n = true)
    (k : ∀ r, WL P ops rest Q w0 n ((d, vp r) :: env) (Blk r (.stringIter ⟨l.toArray⟩ 0) :: Γ)) :
    WL P ops (⟨some d, .range t x, ty, pos, after, none⟩ :: rest) Q w0 n env Γ := by
  refine wl_gen (X := Nat) (φ := fun _ => True) (vf := fun r => vp r) (Γf := fun r => Blk r (.stringIter ⟨l.toArray⟩ 0) :: Γ)
    (fun c w s => ⟨w.heap.size, w.alloc (.stringIter ⟨l.toArray⟩ 0), ?_, evo_alloc w _, trivial, sat_alloc _ s.sat⟩) hd fun b _ => k b
  simp [execOp, s.env.evl hx, Instr.range, u.run]
theorem wl_nextV {d : Nat} {x : Operand} {r : Nat} {l : Bytes} {p : Nat} {Γ1 : List HP} (hx : evl env x = some (vp r)) (hd : Nat.blt d n = true) [pk : PickB Γ r (.stringIter ⟨l.toArray⟩ p) Γ1]
    (k1 : l.length ≤ p → WL P ops rest Q w0 n ((d, .tuple #[.bool false]) :: env) Γ)
    (k2 : p < l.length → WL P ops rest Q w0 n ((d, .tuple #[.bool true, vi p, vr (Utf8.decode ⟨l.toArray⟩ p).1]) :: env) (Blk r (.stringIter ⟨l.toArray⟩ (p + (Utf8.decode ⟨l.toArray⟩ p).2)) :: Γ1)) :
    WL P ops (⟨some d, .next x true, ty, pos, after, none⟩ :: rest) Q w0 n env Γ := fun a w s => by
  have hs := pk.pick _ s.sat
  have hb : hpOf w r = some (.stringIter ⟨l.toArray⟩ p) := hs.blk
  have hg : (getObj r).run P w = .ok (.stringIter ⟨l.toArray⟩ p) w := by
    unfold hpOf at hb
    simp [getObj, Sem.run, hb]
  refine wpList_plain rfl fun K hK => ?_
  unfold Oper.wp
  by_cases h : p < l.length
  · have hsz : p < (ByteArray.mk l.toArray).size := by simpa [ba_size] using h
    have hset : (setObj r (.stringIter ⟨l.toArray⟩ (p + (Utf8.decode ⟨l.toArray⟩ p).2))).run P w = .ok () (World.putObj w r (.stringIter ⟨l.toArray⟩ (p + (Utf8.decode ⟨l.toArray⟩ p).2))) := by
      unfold hpOf at hb
      simp [setObj, Sem.run, hb, World.putObj]
    simp only [execOp, s.env.evl hx, vp, Instr.next, Sem.run_bind, hg, Result.andThen_ok, hsz, if_true, hset]
    exact hK _ _ (k2 h _ _ ⟨s.env.put hd _, s.defers, s.evo.trans (evo_putObj _ _ _), sat_putObj hs _⟩)
  · have hsz : ¬ p < (ByteArray.mk l.toArray).size := by simpa [ba_size] using h
    simp only [execOp, s.env.evl hx, vp, Instr.next, Sem.run_bind, hg, Result.andThen_ok, hsz, if_false]
    exact hK _ _ (k1 (by omega) _ _ ⟨s.env.put hd _, s.defers, s.evo, s.sat⟩)
end ops

/-- a row of cells of one type, whose type is known -/
def SlT (v : Value) (e : TypeId) (us : List Value) : HP := fun h =>
  (v = .slice none 0 0 ∧ us = []) ∨
  ∃ (b cap : Nat) (cs : List Value), v = .slice (some ⟨b, 0, none⟩) us.length cap ∧ us.length ≤ cap ∧ cap ≠ 0 ∧ cs.length = cap ∧ cs.take us.length = us ∧ h b = some (.cells cs.toArray e (0, 0))
class PickT (Γ : List HP) (v : Value) (e : outParam TypeId) (us : outParam (List Value)) (Γ' : outParam (List HP)) : Prop where
  pick : Ent Γ (SlT v e us :: Γ')
instance (priority := high) PickT.here {v : Value} {e : TypeId} {us : List Value} {Γ : List HP} : PickT (SlT v e us :: Γ) v e us Γ := ⟨Ent.refl⟩
instance (priority := low) PickT.there {v : Value} {e : TypeId} {us : List Value} {B : HP} {Γ Γ' : List HP} [h : PickT Γ v e us Γ'] : PickT (B :: Γ) v e us (B :: Γ') := ⟨(Ent.skip h.pick).trans Ent.swap⟩
theorem slt_nil {Γ : List HP} (e : TypeId) : Ent Γ (SlT (.slice none 0 0) e [] :: Γ) := fun h hs =>
  ⟨fun _ => none, h, (fun _ _ e => by cases e), Hle.refl _, (fun _ => Or.inl rfl), .inl ⟨rfl, rfl⟩, hs⟩
theorem SlT.rd {v : Value} {e : TypeId} {us : List Value} {h : Hp} (r : SlT v e us h) : Rd v 1 us h := by
  rcases r with ⟨rfl, rfl⟩ | ⟨b, cap, cs, rfl, h1, _, _, h4, h5⟩
  · exact .inl ⟨rfl, rfl⟩
  · exact .inr (.inr ⟨b, 0, us.length, cap, cs, e, (0, 0), rfl, h1, by omega, by simpa using h4, h5⟩)
instance (priority := high) RdIn.hereT {v : Value} {e : TypeId} {us : List Value} {Γ : List HP} : RdIn (SlT v e us :: Γ) v 1 us :=
  ⟨fun _ hs => by obtain ⟨h1, hl, hA⟩ := hs.one; exact (SlT.rd hA).mono hl⟩

section app
variable {P : Program} {ops : Array Oper} {Q : Exit → Act → World → Prop} {w0 : World} {n : Nat} {env : Env} {Γ : List HP} {rest : List Oper}
  {ty : TypeId} {pos : String} {after : Array Edge}
theorem run_appendT {w : World} {Γ : List HP} {t t' e e' : TypeId} {by' : Nat} {z s x : Value} {xs news : List Value} (hu : P.underlying t = some (.slice e)) (hu' : P.underlying t' = some (.slice e')) [el : ElemT P e 1 by' z] (hz : z.cells.size = 1)
    (hs : Sat (SlT s e xs :: Γ) (hpOf w)) (hlx : ∀ w', (Builtin.lenOf x).run P w' = .ok news.length w') (hfx : ∀ w', hpOf w' = hpOf w → (Builtin.firstCells 1 news.length x).run P w' = .ok news.toArray w')
    (h1 : ∀ u ∈ news, u.oneCell' = true) (hb : (xs.length + news.length) * by' ≤ 140737488355328) (hb' : xs.length + news.length ≤ 9223372036854775807) :
    ∃ s' w', (Builtin.append_ #[t, t'] ty #[s, x]).run P w = .ok s' w' ∧ Evo w w' ∧ Sat (SlT s' e (xs ++ news) :: Γ) (hpOf w') := by
  obtain ⟨i, hi, hik, hib, hiz⟩ := el.info
  have hru := fun w => run_underlying (P := P) (w := w) hu
  have hru' := fun w => run_underlying (P := P) (w := w) hu'
  have hsz : ∀ w, (sizeOf e).run P w = .ok 1 w := fun w => by simp [sizeOf, typeInfo, hi, hik]
  have hti : ∀ w, (typeInfo e).run P w = .ok i w := fun w => by simp [typeInfo, hi]
  have hzv : ∀ w, (zeroValue e).run P w = .ok z w := fun w => by simp [zeroValue, typeInfo, hi, hiz]
  have grown : ∀ (sa : Option Addr) (old : Nat), old < xs.length + news.length → (Builtin.firstCells 1 xs.length s).run P w.drew = .ok xs.toArray w.drew →
      s = .slice sa xs.length old →
      ∃ s' w', (Builtin.append_ #[t, t'] ty #[s, x]).run P w = .ok s' w' ∧ Evo w w' ∧ Sat (SlT s' e (xs ++ news) :: Γ) (hpOf w') := by
    intro sa old ho hfs hse
    have hge := Nat.le_add_right (xs.length + news.length) (w.tape w.drawn (.appendCap (xs.length + news.length) old e) % (2 ^ 63 - (xs.length + news.length)))
    have hcap : grownCap w (xs.length + news.length) old e = xs.length + news.length + w.tape w.drawn (.appendCap (xs.length + news.length) old e) % (2 ^ 63 - (xs.length + news.length)) := rfl
    have hfx' : (Builtin.firstCells 1 news.length x).run P w.drew = .ok news.toArray w.drew := hfx w.drew rfl
    have hn : ¬ (xs.length + news.length ≤ old) := by omega
    have hf : ¬ (281474976710656 < Builtin.nextslicecap (xs.length + news.length) old * by') := by
      have := growslice_fits ho (bytes := by') hb; omega
    have h63 : ¬ (9223372036854775807 < ((xs.length : Int) + (news.length : Int))) := by omega
    refine ⟨.slice (some ⟨w.heap.size, 0, none⟩) (xs.length + news.length) (grownCap w (xs.length + news.length) old e),
      w.drew.alloc (.cells (xs ++ news ++ (Builtin.zeroCells z.cells (grownCap w (xs.length + news.length) old e - (xs.length + news.length))).toList).toArray e), ?_, (evo_drew w).trans (evo_alloc _ _), ?_⟩
    · rw [hse] at hfs
      rw [hse]
      have hcast : IntKind.i64.max = 9223372036854775807 := rfl
      simp [Builtin.append_, hru, hru', hsz, hlx, hn, hcast, h63, hti, hib, hf, Question.forced, hfs, hfx', hzv, newRow]
      refine ⟨rfl, congrArg (fun a => w.drew.alloc (Obj.cells a e)) ?_⟩
      apply Array.toList_inj.1
      simp
      rfl
    · have h0 : Sat (Blk w.heap.size (.cells (xs ++ news ++ (Builtin.zeroCells z.cells (grownCap w (xs.length + news.length) old e - (xs.length + news.length))).toList).toArray e) :: Γ) (hpOf (w.drew.alloc (.cells (xs ++ news ++ (Builtin.zeroCells z.cells (grownCap w (xs.length + news.length) old e - (xs.length + news.length))).toList).toArray e))) :=
        sat_alloc (w := w.drew) _ hs.tail
      refine h0.imp fun h hc => .inr ⟨_, _, _, by rw [List.length_append], by rw [hcap, List.length_append]; exact hge, by rw [hcap]; omega, ?_, ?_, hc⟩
      · simp only [List.length_append, Array.length_toList, size_zeroCells', hz, Nat.mul_one]
        rw [hcap]; omega
      · exact List.take_left
  obtain ⟨h0, hl0, hA⟩ := hs.one
  rcases hA with ⟨rfl, rfl⟩ | ⟨b, cap, cs, rfl, q1, q2, q3, q4, q5⟩
  · by_cases hx0 : news.length = 0
    · have hn0 : news = [] := List.eq_nil_of_length_eq_zero hx0
      subst hn0
      have hfx0 := hfx w rfl
      refine ⟨.slice none 0 0, w, ?_, Evo.refl w, by simpa using hs⟩
      simp at hlx hfx0
      simp [Builtin.append_, hru, hru', hsz, hlx, hfx0]
    · exact grown none 0 (by simp; omega) (by simp [Builtin.firstCells]) (by simp)
  · by_cases hroom : xs.length + news.length ≤ cap
    · have hs' : Sat (Blk b (.cells cs.toArray e (0, 0)) :: Γ) (hpOf w) := by
        obtain ⟨p1, p2, p3, p4, p5, p6, p7⟩ := hs
        rcases p6 with ⟨e', _⟩ | ⟨b', cap', cs', e', _, _, _, _, p8⟩
        · cases e'
        · cases e'
          have e2 : hpOf w b = some (.cells cs'.toArray e (0, 0)) := p3 _ _ p8
          have e1 : hpOf w b = some (.cells cs.toArray e (0, 0)) := hl0 _ _ q5
          rw [e1] at e2
          have : cs = cs' := by simpa using congrArg (fun o => match o with | some (Obj.cells c _ _) => c.toList | _ => []) e2
          subst this
          exact ⟨p1, p2, p3, p4, p5, p8, p7⟩
      have hT : hpOf w b = some (.cells cs.toArray e (0, 0)) := hs'.blk
      have hst := run_storeCells_at P b xs.length e news 0 cs.toArray w hT (by simp; omega) h1
      simp only [Nat.add_zero] at hst
      refine ⟨.slice (some ⟨b, 0, none⟩) (xs.length + news.length) cap, w.setRow b (cs.take xs.length ++ news ++ cs.drop (xs.length + news.length)).toArray, ?_, evo_setRow w _ _, ?_⟩
      · simp [Builtin.append_, hru, hru', hsz, hlx, hroom, hfx w rfl, add_pos, hst]
      · have hset : ∀ cs' : Array Value, Sat (Blk b (.cells cs' e (0, 0)) :: Γ) (hpOf (w.setRow b cs')) := by
          intro cs'
          have hw : w.heap[b]? = some (.cells cs.toArray e (0, 0)) := hT
          have hlt := hp_lt hT
          refine sat_update hs' ?_ ?_
          · simp only [hpOf, World.setRow, Array.getElem?_modify, if_true, hw, Option.map_some]
          · intro c hc
            simp [hpOf, World.setRow, Array.getElem?_modify, Ne.symm hc]
        refine (hset _).imp fun h hc => .inr ⟨b, cap, cs.take xs.length ++ news ++ cs.drop (xs.length + news.length), by rw [List.length_append], by rw [List.length_append]; exact hroom, q2, ?_, ?_, ?_⟩
        · simp only [List.length_append, List.length_take, List.length_drop]; omega
        · rw [q4]; exact List.take_left
        · exact hc
    · exact grown (some ⟨b, 0, none⟩) cap (by omega) (by
        have := run_firstCells (P := P) (w := w.drew) (Rd.mono hl0 (SlT.rd (.inr ⟨b, cap, cs, rfl, q1, q2, q3, q4, q5⟩)))
        exact this) rfl
theorem run_appendV {w : World} {Γ : List HP} {t t' e : TypeId} {by' : Nat} {z s x : Value} {xs news : List Value} (hu : P.underlying t = some (.slice e)) (hu' : P.underlying t' = some .string) [el : ElemT P e 1 by' z] (hz : z.cells.size = 1)
    (hs : Sat (SlT s e xs :: Γ) (hpOf w)) (hlx : ∀ w', (Builtin.lenOf x).run P w' = .ok news.length w') (hfx : ∀ w', hpOf w' = hpOf w → (Builtin.firstCells 1 news.length x).run P w' = .ok news.toArray w')
    (h1 : ∀ u ∈ news, u.oneCell' = true) (hb : (xs.length + news.length) * by' ≤ 140737488355328) (hb' : xs.length + news.length ≤ 9223372036854775807) :
    ∃ s' w', (Builtin.append_ #[t, t'] ty #[s, x]).run P w = .ok s' w' ∧ Evo w w' ∧ Sat (SlT s' e (xs ++ news) :: Γ) (hpOf w') := by
  obtain ⟨i, hi, hik, hib, hiz⟩ := el.info
  have hru := fun w => run_underlying (P := P) (w := w) hu
  have hru' := fun w => run_underlying (P := P) (w := w) hu'
  have hsz : ∀ w, (sizeOf e).run P w = .ok 1 w := fun w => by simp [sizeOf, typeInfo, hi, hik]
  have hti : ∀ w, (typeInfo e).run P w = .ok i w := fun w => by simp [typeInfo, hi]
  have hzv : ∀ w, (zeroValue e).run P w = .ok z w := fun w => by simp [zeroValue, typeInfo, hi, hiz]
  have grown : ∀ (sa : Option Addr) (old : Nat), old < xs.length + news.length → (Builtin.firstCells 1 xs.length s).run P w.drew = .ok xs.toArray w.drew →
      s = .slice sa xs.length old →
      ∃ s' w', (Builtin.append_ #[t, t'] ty #[s, x]).run P w = .ok s' w' ∧ Evo w w' ∧ Sat (SlT s' e (xs ++ news) :: Γ) (hpOf w') := by
    intro sa old ho hfs hse
    have hge := Nat.le_add_right (xs.length + news.length) (w.tape w.drawn (.appendCap (xs.length + news.length) old e) % (2 ^ 63 - (xs.length + news.length)))
    have hcap : grownCap w (xs.length + news.length) old e = xs.length + news.length + w.tape w.drawn (.appendCap (xs.length + news.length) old e) % (2 ^ 63 - (xs.length + news.length)) := rfl
    have hfx' : (Builtin.firstCells 1 news.length x).run P w.drew = .ok news.toArray w.drew := hfx w.drew rfl
    have hn : ¬ (xs.length + news.length ≤ old) := by omega
    have hf : ¬ (281474976710656 < Builtin.nextslicecap (xs.length + news.length) old * by') := by
      have := growslice_fits ho (bytes := by') hb; omega
    have h63 : ¬ (9223372036854775807 < ((xs.length : Int) + (news.length : Int))) := by omega
    refine ⟨.slice (some ⟨w.heap.size, 0, none⟩) (xs.length + news.length) (grownCap w (xs.length + news.length) old e),
      w.drew.alloc (.cells (xs ++ news ++ (Builtin.zeroCells z.cells (grownCap w (xs.length + news.length) old e - (xs.length + news.length))).toList).toArray e), ?_, (evo_drew w).trans (evo_alloc _ _), ?_⟩
    · rw [hse] at hfs
      rw [hse]
      have hcast : IntKind.i64.max = 9223372036854775807 := rfl
      simp [Builtin.append_, hru, hru', hsz, hlx, hn, hcast, h63, hti, hib, hf, Question.forced, hfs, hfx', hzv, newRow]
      refine ⟨rfl, congrArg (fun a => w.drew.alloc (Obj.cells a e)) ?_⟩
      apply Array.toList_inj.1
      simp
      rfl
    · have h0 : Sat (Blk w.heap.size (.cells (xs ++ news ++ (Builtin.zeroCells z.cells (grownCap w (xs.length + news.length) old e - (xs.length + news.length))).toList).toArray e) :: Γ) (hpOf (w.drew.alloc (.cells (xs ++ news ++ (Builtin.zeroCells z.cells (grownCap w (xs.length + news.length) old e - (xs.length + news.length))).toList).toArray e))) :=
        sat_alloc (w := w.drew) _ hs.tail
      refine h0.imp fun h hc => .inr ⟨_, _, _, by rw [List.length_append], by rw [hcap, List.length_append]; exact hge, by rw [hcap]; omega, ?_, ?_, hc⟩
      · simp only [List.length_append, Array.length_toList, size_zeroCells', hz, Nat.mul_one]
        rw [hcap]; omega
      · exact List.take_left
  obtain ⟨h0, hl0, hA⟩ := hs.one
  rcases hA with ⟨rfl, rfl⟩ | ⟨b, cap, cs, rfl, q1, q2, q3, q4, q5⟩
  · by_cases hx0 : news.length = 0
    · have hn0 : news = [] := List.eq_nil_of_length_eq_zero hx0
      subst hn0
      have hfx0 := hfx w rfl
      refine ⟨.slice none 0 0, w, ?_, Evo.refl w, by simpa using hs⟩
      simp at hlx hfx0
      simp [Builtin.append_, hru, hru', hsz, hlx, hfx0]
    · exact grown none 0 (by simp; omega) (by simp [Builtin.firstCells]) (by simp)
  · by_cases hroom : xs.length + news.length ≤ cap
    · have hs' : Sat (Blk b (.cells cs.toArray e (0, 0)) :: Γ) (hpOf w) := by
        obtain ⟨p1, p2, p3, p4, p5, p6, p7⟩ := hs
        rcases p6 with ⟨e', _⟩ | ⟨b', cap', cs', e', _, _, _, _, p8⟩
        · cases e'
        · cases e'
          have e2 : hpOf w b = some (.cells cs'.toArray e (0, 0)) := p3 _ _ p8
          have e1 : hpOf w b = some (.cells cs.toArray e (0, 0)) := hl0 _ _ q5
          rw [e1] at e2
          have : cs = cs' := by simpa using congrArg (fun o => match o with | some (Obj.cells c _ _) => c.toList | _ => []) e2
          subst this
          exact ⟨p1, p2, p3, p4, p5, p8, p7⟩
      have hT : hpOf w b = some (.cells cs.toArray e (0, 0)) := hs'.blk
      have hst := run_storeCells_at P b xs.length e news 0 cs.toArray w hT (by simp; omega) h1
      simp only [Nat.add_zero] at hst
      refine ⟨.slice (some ⟨b, 0, none⟩) (xs.length + news.length) cap, w.setRow b (cs.take xs.length ++ news ++ cs.drop (xs.length + news.length)).toArray, ?_, evo_setRow w _ _, ?_⟩
      · simp [Builtin.append_, hru, hru', hsz, hlx, hroom, hfx w rfl, add_pos, hst]
      · have hset : ∀ cs' : Array Value, Sat (Blk b (.cells cs' e (0, 0)) :: Γ) (hpOf (w.setRow b cs')) := by
          intro cs'
          have hw : w.heap[b]? = some (.cells cs.toArray e (0, 0)) := hT
          have hlt := hp_lt hT
          refine sat_update hs' ?_ ?_
          · simp only [hpOf, World.setRow, Array.getElem?_modify, if_true, hw, Option.map_some]
          · intro c hc
            simp [hpOf, World.setRow, Array.getElem?_modify, Ne.symm hc]
        refine (hset _).imp fun h hc => .inr ⟨b, cap, cs.take xs.length ++ news ++ cs.drop (xs.length + news.length), by rw [List.length_append], by rw [List.length_append]; exact hroom, q2, ?_, ?_, ?_⟩
        · simp only [List.length_append, List.length_take, List.length_drop]; omega
        · rw [q4]; exact List.take_left
        · exact hc
    · exact grown (some ⟨b, 0, none⟩) cap (by omega) (by
        have := run_firstCells (P := P) (w := w.drew) (Rd.mono hl0 (SlT.rd (.inr ⟨b, cap, cs, rfl, q1, q2, q3, q4, q5⟩)))
        exact this) rfl

theorem wl_appendT {d : Nat} {t e : TypeId} {y y' : Operand} {by' : Nat} {z s x : Value} {xs news : List Value} {Γ' : List HP} [u : Und P t (.slice e)] [el : ElemT P e 1 by' z] (hs : evl env y = some s) (hx : evl env y' = some x) [p : PickT Γ s e xs Γ'] [r : RdIn Γ' x 1 news]
    [o : OneIn Γ news] (hz : z.cells.size = 1) (hb : (xs.length + news.length) * by' ≤ 140737488355328) (hb' : xs.length + news.length ≤ 9223372036854775807)
    (hd : Nat.blt d n = true) (kk : ∀ s', WL P ops rest Q w0 n ((d, s') :: env) (SlT s' e (xs ++ news) :: Γ')) :
    WL P ops (⟨some d, .call ⟨.builtin .append, #[y, y'], #[t, t]⟩, ty, pos, after, none⟩ :: rest) Q w0 n env Γ := by
  refine wl_gen (X := Value) (vf := fun s' => s') (φ := fun _ => True) (Γf := fun s' => SlT s' e (xs ++ news) :: Γ')
    (fun c w st => ?_) hd (fun s' _ => kk s')
  have hrd := r.rd _ (p.pick _ st.sat).tail
  have hl := hrd.len
  rw [Nat.mul_one] at hl
  obtain ⟨s', w', a1, a2, a3⟩ := run_appendT (P := P) (ty := ty) (w := w) (t := t) (s := s) (x := x) u.fact u.fact hz (p.pick _ st.sat) (fun w' => by rw [← hl]; rcases hrd.nil_iff with rfl | ⟨a, m, c', rfl⟩ <;> simp [Builtin.lenOf, slLen])
    (fun w' hw => by rw [← hl]; exact run_firstCells (P := P) (w := w') (by rw [hw]; exact hrd)) (o.one _ st.sat) hb hb'
  exact ⟨s', w', by simp [execOp, resolve, invoke, builtin, st.env.evl hs, st.env.evl hx, a1], a2, trivial, a3⟩
/-- a string's bytes -/
theorem wl_appendV {d : Nat} {t t' e : TypeId} {y y' : Operand} {by' : Nat} {z s : Value} {xs : List Value} {l : Bytes} {Γ' : List HP} [u : Und P t (.slice e)] [u' : Und P t' .string] [el : ElemT P e 1 by' z] (hs : evl env y = some s) (hx : evl env y' = some (vs l)) [p : PickT Γ s e xs Γ']
    (hz : z.cells.size = 1) (hb : (xs.length + l.length) * by' ≤ 140737488355328) (hb' : xs.length + l.length ≤ 9223372036854775807)
    (hd : Nat.blt d n = true) (kk : ∀ s', WL P ops rest Q w0 n ((d, s') :: env) (SlT s' e (xs ++ l.map vb) :: Γ')) :
    WL P ops (⟨some d, .call ⟨.builtin .append, #[y, y'], #[t, t']⟩, ty, pos, after, none⟩ :: rest) Q w0 n env Γ := by
  refine wl_gen (X := Value) (vf := fun s' => s') (φ := fun _ => True) (Γf := fun s' => SlT s' e (xs ++ l.map vb) :: Γ')
    (fun c w st => ?_) hd (fun s' _ => kk s')
  obtain ⟨s', w', a1, a2, a3⟩ := run_appendV (P := P) (ty := ty) (w := w) (t := t) (s := s) (x := vs l) (news := l.map vb) u.fact u'.fact hz (p.pick _ st.sat) (fun w' => by simp [Builtin.lenOf, ba_size])
    (fun w' hw => by simp [Builtin.firstCells, ByteArray.data_extract]) (fun v hv => by obtain ⟨q, _, rfl⟩ := List.mem_map.1 hv; rfl) (by simpa using hb) (by simpa using hb')
  exact ⟨s', w', by simp [execOp, resolve, invoke, builtin, st.env.evl hs, st.env.evl hx, a1], a2, trivial, a3⟩
end app
end Go.Sl
