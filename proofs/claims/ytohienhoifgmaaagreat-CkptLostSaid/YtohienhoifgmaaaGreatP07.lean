/- several texts, one behind the other -/
import Derived.Test.YtohienhoifgmaaaGreatP05
import Derived.Test.YtohienhoifgmaaaGreatP06
import Derived.Lib.UnsafeStr
import Derived.Laws.BytesString

section
/- Strings: what they yield; ranging over one; rows of bytes whose type is known. No program. -/
namespace Go.Sl
open Go
/-- a string of these bytes -/
abbrev vs (l : Bytes) : Value := .string ⟨l.toArray⟩
abbrev vr (r : Nat) : Value := .int .i32 (r : Int)
theorem ba_toList (l : Bytes) : (ByteArray.mk l.toArray).toList = l := by rw [ByteArray.toList_eq]
theorem ba_size (l : Bytes) : (ByteArray.mk l.toArray).size = l.length := by show (l.toArray).size = _; simp
section ops
variable {P : Program} {ops : Array Oper} {Q : Exit → Act → World → Prop} {w0 : World} {n : Nat} {env : Env} {Γ : List HP} {rest : List Oper}
  {ty : TypeId} {pos : String} {after : Array Edge}
theorem yl_lenV {x : Operand} {t : TypeId} {l : Bytes} [u : Und P t .string] (hx : evl env x = some (vs l)) : Yl P (.call ⟨.builtin .len, #[x], #[t]⟩) ty w0 n env Γ (vi l.length) Tt := by
  refine fun _ _ _ _ a w s => ⟨trivial, fun w' _ => ?_⟩
  simp [execOp, resolve, invoke, builtin, s.env.evl hx, Builtin.len_, u.run, goInt, ba_size]
theorem yl_idxV {x y : Operand} {t : TypeId} {l : Bytes} {kd : IntKind} {i : Nat} [u : Und P t .string] (hx : evl env x = some (vs l)) (hy : evl env y = some (.int kd (i : Int))) (hi : i < l.length) :
    Yl P (.index t x y) ty w0 n env Γ (vb l[i]) Tt := by
  refine fun _ _ _ _ a w s => ⟨trivial, fun w' _ => ?_⟩
  have h1 : (ByteArray.mk l.toArray)[i]? = some l[i] := by
    rw [getElem?_pos _ _ (by simpa [ba_size] using hi)]
    rfl
  simp [execOp, s.env.evl hx, s.env.evl hy, Instr.index, asIntOf, u.run, h1]
theorem yl_catV {x y : Operand} {t yt : TypeId} {a b : Bytes} (hx : evl env x = some (vs a)) (hy : evl env y = some (vs b)) (hl : a.length + b.length ≤ 9223372036854775807) :
    Yl P (.binOp .add t x y yt) ty w0 n env Γ (vs (a ++ b)) Tt := by
  refine fun _ _ _ _ c w s => ⟨trivial, fun w' _ => ?_⟩
  have h1 : ¬ (9223372036854775807 : Int) < (a.length : Int) + (b.length : Int) := by omega
  have hm : IntKind.i64.max = 9223372036854775807 := rfl
  have h2 : ByteArray.mk a.toArray ++ ByteArray.mk b.toArray = ByteArray.mk (a ++ b).toArray := by
    apply ByteArray.ext
    simp [ByteArray.data_append]
  simp [execOp, s.env.evl hx, s.env.evl hy, eqGuard, binOp, Op.stringOp, ba_size, hm, h1, h2]
theorem yl_eqV {x y : Operand} {t yt : TypeId} {a b : Bytes} (hx : evl env x = some (vs a)) (hy : evl env y = some (vs b)) : Yl P (.binOp .eql t x y yt) ty w0 n env Γ (.bool (decide (a = b))) Tt := by
  refine fun _ _ _ _ c w s => ⟨trivial, fun w' _ => ?_⟩
  have : (a == b) = decide (a = b) := by by_cases h : a = b <;> simp [h]
  simp [execOp, s.env.evl hx, s.env.evl hy, eqGuard, binOp, Op.stringOp, this]
theorem yl_neV {x y : Operand} {t yt : TypeId} {a b : Bytes} (hx : evl env x = some (vs a)) (hy : evl env y = some (vs b)) : Yl P (.binOp .neq t x y yt) ty w0 n env Γ (.bool (decide (a ≠ b))) Tt := by
  refine fun _ _ _ _ c w s => ⟨trivial, fun w' _ => ?_⟩
  have : (!(a == b)) = decide (a ≠ b) := by by_cases h : a = b <;> simp [h]
  simp [execOp, s.env.evl hx, s.env.evl hy, eqGuard, binOp, Op.stringOp, this]
theorem run_bound' (k : IntKind) (i : Nat) (y : Nat) (code : BoundsCode) (h1 : i ≤ y) (w : World) : (Instr.sliceBound (.int k (i : Int)) y code).run P w = .ok i w := by
  simp [Instr.sliceBound, asIntOf, h1]
theorem ba_extract (l : Bytes) (i j : Nat) : (ByteArray.mk l.toArray).extract i j = ByteArray.mk ((l.take j).drop i).toArray := by
  apply ByteArray.ext
  simp [ByteArray.data_extract, List.drop_take]
theorem yl_cutV {x y z : Operand} {t : TypeId} {l : Bytes} {k1 k2 : IntKind} {i j : Nat} [u : Und P t .string] (hx : evl env x = some (vs l)) (hy : evl env y = some (.int k1 (i : Int))) (hz : evl env z = some (.int k2 (j : Int))) (h1 : i ≤ j) (h2 : j ≤ l.length) :
    Yl P (.slice t x (some y) (some z) none) ty w0 n env Γ (vs ((l.take j).drop i)) Tt := by
  refine fun _ _ _ _ a w s => ⟨trivial, fun w' _ => ?_⟩
  simp [execOp, s.env.evl hx, s.env.evl hy, s.env.evl hz, Instr.sliceAt, Instr.slice, Instr.sliceBounds, u.run, ba_size, run_bound' k2 j l.length _ h2, run_bound' k1 i j _ h1, ba_extract]
theorem yl_fromV {x y : Operand} {t : TypeId} {l : Bytes} {k1 : IntKind} {i : Nat} [u : Und P t .string] (hx : evl env x = some (vs l)) (hy : evl env y = some (.int k1 (i : Int))) (h1 : i ≤ l.length) :
    Yl P (.slice t x (some y) none none) ty w0 n env Γ (vs (l.drop i)) Tt := by
  refine fun _ _ _ _ a w s => ⟨trivial, fun w' _ => ?_⟩
  have := ba_extract l i l.length
  rw [List.take_length] at this
  simp [execOp, s.env.evl hx, s.env.evl hy, Instr.sliceAt, Instr.slice, Instr.sliceBounds, u.run, ba_size, run_bound' k1 i l.length _ h1, this]
theorem yl_toV {x y : Operand} {t : TypeId} {l : Bytes} {k1 : IntKind} {i : Nat} [u : Und P t .string] (hx : evl env x = some (vs l)) (hy : evl env y = some (.int k1 (i : Int))) (h1 : i ≤ l.length) :
    Yl P (.slice t x none (some y) none) ty w0 n env Γ (vs (l.take i)) Tt := by
  refine fun _ _ _ _ a w s => ⟨trivial, fun w' _ => ?_⟩
  have := ba_extract l 0 i
  rw [List.drop_zero] at this
  simp [execOp, s.env.evl hx, s.env.evl hy, Instr.sliceAt, Instr.slice, Instr.sliceBounds, u.run, ba_size, run_bound' k1 i l.length _ h1, this]

/-- ranging over a string -/
theorem wl_rangeV {d : Nat} {t : TypeId} {x : Operand} {l : Bytes} [u : Und P t .string] (hx : evl env x = some (vs l)) (hd : Nat.blt d n = true)
    (k : ∀ r, WL P ops rest Q w0 n ((d, vp r) :: env) (Blk r (.stringIter ⟨l.toArray⟩ 0) :: Γ)) :
    WL P ops (⟨some d, .range t x, ty, pos, after, none⟩ :: rest) Q w0 n env Γ := by
  refine wl_gen (X := Nat) (φ := fun _ => True) (vf := fun r => vp r) (Γf := fun r => Blk r (.stringIter ⟨l.toArray⟩ 0) :: Γ)
    (fun c w s => ⟨w.heap.size, w.alloc (.stringIter ⟨l.toArray⟩ 0), ?_, evo_alloc w _, trivial, sat_alloc _ s.sat⟩) hd fun b _ => k b
  simp [execOp, s.env.evl hx, Instr.range, u.run]
theorem wl_nextV {d : Nat} {x : Operand} {r : Nat} {l : Bytes} {p : Nat} {Γ1 : List HP} (hx : evl env x = some (vp r)) (hd : Nat.blt d n = true) [pk : PickB Γ r (.stringIter ⟨l.toArray⟩ p) Γ1]
    (k1 : l.length ≤ p → WL P ops rest Q w0 n ((d, .tuple #[.bool false]) :: env) Γ)
    (k2 : p < l.length → WL P ops rest Q w0 n ((d, .tuple #[.bool true, vi p, vr (Utf8.decode ⟨l.toArray⟩ p).1]) :: env) (Blk r (.stringIter ⟨l.toArray⟩ (p + (Utf8.decode ⟨l.toArray⟩ p).2)) :: Γ1)) :
    WL P ops (⟨some d, .next x true, ty, pos, after, none⟩ :: rest) Q w0 n env Γ := fun a w s => by
  have hs := pk.pick _ s.sat
  have hb : hpOf w r = some (.stringIter ⟨l.toArray⟩ p) := hs.blk
  have hg : (getObj r).run P w = .ok (.stringIter ⟨l.toArray⟩ p) w := by
    unfold hpOf at hb
    simp [getObj, Sem.run, hb]
  refine wpList_plain rfl fun K hK => ?_
  unfold Oper.wp
  by_cases h : p < l.length
  · have hsz : p < (ByteArray.mk l.toArray).size := by simpa [ba_size] using h
    have hset : (setObj r (.stringIter ⟨l.toArray⟩ (p + (Utf8.decode ⟨l.toArray⟩ p).2))).run P w = .ok () (World.putObj w r (.stringIter ⟨l.toArray⟩ (p + (Utf8.decode ⟨l.toArray⟩ p).2))) := by
      unfold hpOf at hb
      simp [setObj, Sem.run, hb, World.putObj]
    simp only [execOp, s.env.evl hx, vp, Instr.next, Sem.run_bind, hg, Result.andThen_ok, hsz, if_true, hset]
    exact hK _ _ (k2 h _ _ ⟨s.env.put hd _, s.defers, s.evo.trans (evo_putObj _ _ _), sat_putObj hs _⟩)
  · have hsz : ¬ p < (ByteArray.mk l.toArray).size := by simpa [ba_size] using h
    simp only [execOp, s.env.evl hx, vp, Instr.next, Sem.run_bind, hg, Result.andThen_ok, hsz, if_false]
    exact hK _ _ (k1 (by omega) _ _ ⟨s.env.put hd _, s.defers, s.evo, s.sat⟩)
end ops

/-- a row of cells of one type, whose type is known -/
def SlT (v : Value) (e : TypeId) (us : List Value) : HP := fun h =>
  (v = .slice none 0 0 ∧ us = []) ∨
  ∃ (b cap : Nat) (cs : List Value), v = .slice (some ⟨b, 0, none⟩) us.length cap ∧ us.length ≤ cap ∧ cap ≠ 0 ∧ cs.length = cap ∧ cs.take us.length = us ∧ h b = some (.cells cs.toArray e (0, 0))
class PickT (Γ : List HP) (v : Value) (e : outParam TypeId) (us : outParam (List Value)) (Γ' : outParam (List HP)) : Prop where
  pick : Ent Γ (SlT v e us :: Γ')
instance (priority := high) PickT.here {v : Value} {e : TypeId} {us : List Value} {Γ : List HP} : PickT (SlT v e us :: Γ) v e us Γ := ⟨Ent.refl⟩
instance (priority := low) PickT.there {v : Value} {e : TypeId} {us : List Value} {B : HP} {Γ Γ' : List HP} [h : PickT Γ v e us Γ'] : PickT (B :: Γ) v e us (B :: Γ') := ⟨(Ent.skip h.pick).trans Ent.swap⟩
theorem slt_nil {Γ : List HP} (e : TypeId) : Ent Γ (SlT (.slice none 0 0) e [] :: Γ) := fun h hs =>
  ⟨fun _ => none, h, (fun _ _ e => by cases e), Hle.refl _, (fun _ => Or.inl rfl), .inl ⟨rfl, rfl⟩, hs⟩
theorem SlT.rd {v : Value} {e : TypeId} {us : List Value} {h : Hp} (r : SlT v e us h) : Rd v 1 us h := by
  rcases r with ⟨rfl, rfl⟩ | ⟨b, cap, cs, rfl, h1, _, _, h4, h5⟩
  · exact .inl ⟨rfl, rfl⟩
  · exact .inr (.inr ⟨b, 0, us.length, cap, cs, e, (0, 0), rfl, h1, by omega, by simpa using h4, h5⟩)
instance (priority := high) RdIn.hereT {v : Value} {e : TypeId} {us : List Value} {Γ : List HP} : RdIn (SlT v e us :: Γ) v 1 us :=
  ⟨fun _ hs => by obtain ⟨h1, hl, hA⟩ := hs.one; exact (SlT.rd hA).mono hl⟩

section app
variable {P : Program} {ops : Array Oper} {Q : Exit → Act → World → Prop} {w0 : World} {n : Nat} {env : Env} {Γ : List HP} {rest : List Oper}
  {ty : TypeId} {pos : String} {after : Array Edge}
theorem run_appendT {w : World} {Γ : List HP} {t t' e e' : TypeId} {by' : Nat} {z s x : Value} {xs news : List Value} (hu : P.underlying t = some (.slice e)) (hu' : P.underlying t' = some (.slice e')) [el : ElemT P e 1 by' z] (hz : z.cells.size = 1)
    (hs : Sat (SlT s e xs :: Γ) (hpOf w)) (hlx : ∀ w', (Builtin.lenOf x).run P w' = .ok news.length w') (hfx : ∀ w', hpOf w' = hpOf w → (Builtin.firstCells 1 news.length x).run P w' = .ok news.toArray w')
    (h1 : ∀ u ∈ news, u.oneCell' = true) (hb : (xs.length + news.length) * by' ≤ 140737488355328) (hb' : xs.length + news.length ≤ 9223372036854775807) :
    ∃ s' w', (Builtin.append_ #[t, t'] ty #[s, x]).run P w = .ok s' w' ∧ Evo w w' ∧ Sat (SlT s' e (xs ++ news) :: Γ) (hpOf w') := by
  obtain ⟨i, hi, hik, hib, hiz⟩ := el.info
  have hru := fun w => run_underlying (P := P) (w := w) hu
  have hru' := fun w => run_underlying (P := P) (w := w) hu'
  have hsz : ∀ w, (sizeOf e).run P w = .ok 1 w := fun w => by simp [sizeOf, typeInfo, hi, hik]
  have hti : ∀ w, (typeInfo e).run P w = .ok i w := fun w => by simp [typeInfo, hi]
  have hzv : ∀ w, (zeroValue e).run P w = .ok z w := fun w => by simp [zeroValue, typeInfo, hi, hiz]
  have grown : ∀ (sa : Option Addr) (old : Nat), old < xs.length + news.length → (Builtin.firstCells 1 xs.length s).run P w.drew = .ok xs.toArray w.drew →
      s = .slice sa xs.length old →
      ∃ s' w', (Builtin.append_ #[t, t'] ty #[s, x]).run P w = .ok s' w' ∧ Evo w w' ∧ Sat (SlT s' e (xs ++ news) :: Γ) (hpOf w') := by
    intro sa old ho hfs hse
    have hge := Nat.le_add_right (xs.length + news.length) (w.tape w.drawn (.appendCap (xs.length + news.length) old e) % (2 ^ 63 - (xs.length + news.length)))
    have hcap : grownCap w (xs.length + news.length) old e = xs.length + news.length + w.tape w.drawn (.appendCap (xs.length + news.length) old e) % (2 ^ 63 - (xs.length + news.length)) := rfl
    have hfx' : (Builtin.firstCells 1 news.length x).run P w.drew = .ok news.toArray w.drew := hfx w.drew rfl
    have hn : ¬ (xs.length + news.length ≤ old) := by omega
    have hf : ¬ (281474976710656 < Builtin.nextslicecap (xs.length + news.length) old * by') := by
      have := growslice_fits ho (bytes := by') hb; omega
    have h63 : ¬ (9223372036854775807 < ((xs.length : Int) + (news.length : Int))) := by omega
    refine ⟨.slice (some ⟨w.heap.size, 0, none⟩) (xs.length + news.length) (grownCap w (xs.length + news.length) old e),
      w.drew.alloc (.cells (xs ++ news ++ (Builtin.zeroCells z.cells (grownCap w (xs.length + news.length) old e - (xs.length + news.length))).toList).toArray e), ?_, (evo_drew w).trans (evo_alloc _ _), ?_⟩
    · rw [hse] at hfs
      rw [hse]
      have hcast : IntKind.i64.max = 9223372036854775807 := rfl
      simp [Builtin.append_, hru, hru', hsz, hlx, hn, hcast, h63, hti, hib, hf, Question.forced, hfs, hfx', hzv, newRow]
      refine ⟨rfl, congrArg (fun a => w.drew.alloc (Obj.cells a e)) ?_⟩
      apply Array.toList_inj.1
      simp
      rfl
    · have h0 : Sat (Blk w.heap.size (.cells (xs ++ news ++ (Builtin.zeroCells z.cells (grownCap w (xs.length + news.length) old e - (xs.length + news.length))).toList).toArray e) :: Γ) (hpOf (w.drew.alloc (.cells (xs ++ news ++ (Builtin.zeroCells z.cells (grownCap w (xs.length + news.length) old e - (xs.length + news.length))).toList).toArray e))) :=
        sat_alloc (w := w.drew) _ hs.tail
      refine h0.imp fun h hc => .inr ⟨_, _, _, by rw [List.length_append], by rw [hcap, List.length_append]; exact hge, by rw [hcap]; omega, ?_, ?_, hc⟩
      · simp only [List.length_append, Array.length_toList, size_zeroCells', hz, Nat.mul_one]
        rw [hcap]; omega
      · exact List.take_left
  obtain ⟨h0, hl0, hA⟩ := hs.one
  rcases hA with ⟨rfl, rfl⟩ | ⟨b, cap, cs, rfl, q1, q2, q3, q4, q5⟩
  · by_cases hx0 : news.length = 0
    · have hn0 : news = [] := List.eq_nil_of_length_eq_zero hx0
      subst hn0
      have hfx0 := hfx w rfl
      refine ⟨.slice none 0 0, w, ?_, Evo.refl w, by simpa using hs⟩
      simp at hlx hfx0
      simp [Builtin.append_, hru, hru', hsz, hlx, hfx0]
    · exact grown none 0 (by simp; omega) (by simp [Builtin.firstCells]) (by simp)
  · by_cases hroom : xs.length + news.length ≤ cap
    · have hs' : Sat (Blk b (.cells cs.toArray e (0, 0)) :: Γ) (hpOf w) := by
        obtain ⟨p1, p2, p3, p4, p5, p6, p7⟩ := hs
        rcases p6 with ⟨e', _⟩ | ⟨b', cap', cs', e', _, _, _, _, p8⟩
        · cases e'
        · cases e'
          have e2 : hpOf w b = some (.cells cs'.toArray e (0, 0)) := p3 _ _ p8
          have e1 : hpOf w b = some (.cells cs.toArray e (0, 0)) := hl0 _ _ q5
          rw [e1] at e2
          have : cs = cs' := by simpa using congrArg (fun o => match o with | some (Obj.cells c _ _) => c.toList | _ => []) e2
          subst this
          exact ⟨p1, p2, p3, p4, p5, p8, p7⟩
      have hT : hpOf w b = some (.cells cs.toArray e (0, 0)) := hs'.blk
      have hst := run_storeCells_at P b xs.length e news 0 cs.toArray w hT (by simp; omega) h1
      simp only [Nat.add_zero] at hst
      refine ⟨.slice (some ⟨b, 0, none⟩) (xs.length + news.length) cap, w.setRow b (cs.take xs.length ++ news ++ cs.drop (xs.length + news.length)).toArray, ?_, evo_setRow w _ _, ?_⟩
      · simp [Builtin.append_, hru, hru', hsz, hlx, hroom, hfx w rfl, add_pos, hst]
      · have hset : ∀ cs' : Array Value, Sat (Blk b (.cells cs' e (0, 0)) :: Γ) (hpOf (w.setRow b cs')) := by
          intro cs'
          have hw : w.heap[b]? = some (.cells cs.toArray e (0, 0)) := hT
          have hlt := hp_lt hT
          refine sat_update hs' ?_ ?_
          · simp only [hpOf, World.setRow, Array.getElem?_modify, if_true, hw, Option.map_some]
          · intro c hc
            simp [hpOf, World.setRow, Array.getElem?_modify, Ne.symm hc]
        refine (hset _).imp fun h hc => .inr ⟨b, cap, cs.take xs.length ++ news ++ cs.drop (xs.length + news.length), by rw [List.length_append], by rw [List.length_append]; exact hroom, q2, ?_, ?_, ?_⟩
        · simp only [List.length_append, List.length_take, List.length_drop]; omega
        · rw [q4]; exact List.take_left
        · exact hc
    · exact grown (some ⟨b, 0, none⟩) cap (by omega) (by
        have := run_firstCells (P := P) (w := w.drew) (Rd.mono hl0 (SlT.rd (.inr ⟨b, cap, cs, rfl, q1, q2, q3, q4, q5⟩)))
        exact this) rfl
theorem run_appendV {w : World} {Γ : List HP} {t t' e : TypeId} {by' : Nat} {z s x : Value} {xs news : List Value} (hu : P.underlying t = some (.slice e)) (hu' : P.underlying t' = some .string) [el : ElemT P e 1 by' z] (hz : z.cells.size = 1)
    (hs : Sat (SlT s e xs :: Γ) (hpOf w)) (hlx : ∀ w', (Builtin.lenOf x).run P w' = .ok news.length w') (hfx : ∀ w', hpOf w' = hpOf w → (Builtin.firstCells 1 news.length x).run P w' = .ok news.toArray w')
    (h1 : ∀ u ∈ news, u.oneCell' = true) (hb : (xs.length + news.length) * by' ≤ 140737488355328) (hb' : xs.length + news.length ≤ 9223372036854775807) :
    ∃ s' w', (Builtin.append_ #[t, t'] ty #[s, x]).run P w = .ok s' w' ∧ Evo w w' ∧ Sat (SlT s' e (xs ++ news) :: Γ) (hpOf w') := by
  obtain ⟨i, hi, hik, hib, hiz⟩ := el.info
  have hru := fun w => run_underlying (P := P) (w := w) hu
  have hru' := fun w => run_underlying (P := P) (w := w) hu'
  have hsz : ∀ w, (sizeOf e).run P w = .ok 1 w := fun w => by simp [sizeOf, typeInfo, hi, hik]
  have hti : ∀ w, (typeInfo e).run P w = .ok i w := fun w => by simp [typeInfo, hi]
  have hzv : ∀ w, (zeroValue e).run P w = .ok z w := fun w => by simp [zeroValue, typeInfo, hi, hiz]
  have grown : ∀ (sa : Option Addr) (old : Nat), old < xs.length + news.length → (Builtin.firstCells 1 xs.length s).run P w.drew = .ok xs.toArray w.drew →
      s = .slice sa xs.length old →
      ∃ s' w', (Builtin.append_ #[t, t'] ty #[s, x]).run P w = .ok s' w' ∧ Evo w w' ∧ Sat (SlT s' e (xs ++ news) :: Γ) (hpOf w') := by
    intro sa old ho hfs hse
    have hge := Nat.le_add_right (xs.length + news.length) (w.tape w.drawn (.appendCap (xs.length + news.length) old e) % (2 ^ 63 - (xs.length + news.length)))
    have hcap : grownCap w (xs.length + news.length) old e = xs.length + news.length + w.tape w.drawn (.appendCap (xs.length + news.length) old e) % (2 ^ 63 - (xs.length + news.length)) := rfl
    have hfx' : (Builtin.firstCells 1 news.length x).run P w.drew = .ok news.toArray w.drew := hfx w.drew rfl
    have hn : ¬ (xs.length + news.length ≤ old) := by omega
    have hf : ¬ (281474976710656 < Builtin.nextslicecap (xs.length + news.length) old * by') := by
      have := growslice_fits ho (bytes := by') hb; omega
    have h63 : ¬ (9223372036854775807 < ((xs.length : Int) + (news.length : Int))) := by omega
    refine ⟨.slice (some ⟨w.heap.size, 0, none⟩) (xs.length + news.length) (grownCap w (xs.length + news.length) old e),
      w.drew.alloc (.cells (xs ++ news ++ (Builtin.zeroCells z.cells (grownCap w (xs.length + news.length) old e - (xs.length + news.length))).toList).toArray e), ?_, (evo_drew w).trans (evo_alloc _ _), ?_⟩
    · rw [hse] at hfs
      rw [hse]
      have hcast : IntKind.i64.max = 9223372036854775807 := rfl
      simp [Builtin.append_, hru, hru', hsz, hlx, hn, hcast, h63, hti, hib, hf, Question.forced, hfs, hfx', hzv, newRow]
      refine ⟨rfl, congrArg (fun a => w.drew.alloc (Obj.cells a e)) ?_⟩
      apply Array.toList_inj.1
      simp
      rfl
    · have h0 : Sat (Blk w.heap.size (.cells (xs ++ news ++ (Builtin.zeroCells z.cells (grownCap w (xs.length + news.length) old e - (xs.length + news.length))).toList).toArray e) :: Γ) (hpOf (w.drew.alloc (.cells (xs ++ news ++ (Builtin.zeroCells z.cells (grownCap w (xs.length + news.length) old e - (xs.length + news.length))).toList).toArray e))) :=
        sat_alloc (w := w.drew) _ hs.tail
      refine h0.imp fun h hc => .inr ⟨_, _, _, by rw [List.length_append], by rw [hcap, List.length_append]; exact hge, by rw [hcap]; omega, ?_, ?_, hc⟩
      · simp only [List.length_append, Array.length_toList, size_zeroCells', hz, Nat.mul_one]
        rw [hcap]; omega
      · exact List.take_left
  obtain ⟨h0, hl0, hA⟩ := hs.one
  rcases hA with ⟨rfl, rfl⟩ | ⟨b, cap, cs, rfl, q1, q2, q3, q4, q5⟩
  · by_cases hx0 : news.length = 0
    · have hn0 : news = [] := List.eq_nil_of_length_eq_zero hx0
      subst hn0
      have hfx0 := hfx w rfl
      refine ⟨.slice none 0 0, w, ?_, Evo.refl w, by simpa using hs⟩
      simp at hlx hfx0
      simp [Builtin.append_, hru, hru', hsz, hlx, hfx0]
    · exact grown none 0 (by simp; omega) (by simp [Builtin.firstCells]) (by simp)
  · by_cases hroom : xs.length + news.length ≤ cap
    · have hs' : Sat (Blk b (.cells cs.toArray e (0, 0)) :: Γ) (hpOf w) := by
        obtain ⟨p1, p2, p3, p4, p5, p6, p7⟩ := hs
        rcases p6 with ⟨e', _⟩ | ⟨b', cap', cs', e', _, _, _, _, p8⟩
        · cases e'
        · cases e'
          have e2 : hpOf w b = some (.cells cs'.toArray e (0, 0)) := p3 _ _ p8
          have e1 : hpOf w b = some (.cells cs.toArray e (0, 0)) := hl0 _ _ q5
          rw [e1] at e2
          have : cs = cs' := by simpa using congrArg (fun o => match o with | some (Obj.cells c _ _) => c.toList | _ => []) e2
          subst this
          exact ⟨p1, p2, p3, p4, p5, p8, p7⟩
      have hT : hpOf w b = some (.cells cs.toArray e (0, 0)) := hs'.blk
      have hst := run_storeCells_at P b xs.length e news 0 cs.toArray w hT (by simp; omega) h1
      simp only [Nat.add_zero] at hst
      refine ⟨.slice (some ⟨b, 0, none⟩) (xs.length + news.length) cap, w.setRow b (cs.take xs.length ++ news ++ cs.drop (xs.length + news.length)).toArray, ?_, evo_setRow w _ _, ?_⟩
      · simp [Builtin.append_, hru, hru', hsz, hlx, hroom, hfx w rfl, add_pos, hst]
      · have hset : ∀ cs' : Array Value, Sat (Blk b (.cells cs' e (0, 0)) :: Γ) (hpOf (w.setRow b cs')) := by
          intro cs'
          have hw : w.heap[b]? = some (.cells cs.toArray e (0, 0)) := hT
          have hlt := hp_lt hT
          refine sat_update hs' ?_ ?_
          · simp only [hpOf, World.setRow, Array.getElem?_modify, if_true, hw, Option.map_some]
          · intro c hc
            simp [hpOf, World.setRow, Array.getElem?_modify, Ne.symm hc]
        refine (hset _).imp fun h hc => .inr ⟨b, cap, cs.take xs.length ++ news ++ cs.drop (xs.length + news.length), by rw [List.length_append], by rw [List.length_append]; exact hroom, q2, ?_, ?_, ?_⟩
        · simp only [List.length_append, List.length_take, List.length_drop]; omega
        · rw [q4]; exact List.take_left
        · exact hc
    · exact grown (some ⟨b, 0, none⟩) cap (by omega) (by
        have := run_firstCells (P := P) (w := w.drew) (Rd.mono hl0 (SlT.rd (.inr ⟨b, cap, cs, rfl, q1, q2, q3, q4, q5⟩)))
        exact this) rfl

theorem wl_appendT {d : Nat} {t e : TypeId} {y y' : Operand} {by' : Nat} {z s x : Value} {xs news : List Value} {Γ' : List HP} [u : Und P t (.slice e)] [el : ElemT P e 1 by' z] (hs : evl env y = some s) (hx : evl env y' = some x) [p : PickT Γ s e xs Γ'] [r : RdIn Γ' x 1 news]
    [o : OneIn Γ news] (hz : z.cells.size = 1) (hb : (xs.length + news.length) * by' ≤ 140737488355328) (hb' : xs.length + news.length ≤ 9223372036854775807)
    (hd : Nat.blt d n = true) (kk : ∀ s', WL P ops rest Q w0 n ((d, s') :: env) (SlT s' e (xs ++ news) :: Γ')) :
    WL P ops (⟨some d, .call ⟨.builtin .append, #[y, y'], #[t, t]⟩, ty, pos, after, none⟩ :: rest) Q w0 n env Γ := by
  refine wl_gen (X := Value) (vf := fun s' => s') (φ := fun _ => True) (Γf := fun s' => SlT s' e (xs ++ news) :: Γ')
    (fun c w st => ?_) hd (fun s' _ => kk s')
  have hrd := r.rd _ (p.pick _ st.sat).tail
  have hl := hrd.len
  rw [Nat.mul_one] at hl
  obtain ⟨s', w', a1, a2, a3⟩ := run_appendT (P := P) (ty := ty) (w := w) (t := t) (s := s) (x := x) u.fact u.fact hz (p.pick _ st.sat) (fun w' => by rw [← hl]; rcases hrd.nil_iff with rfl | ⟨a, m, c', rfl⟩ <;> simp [Builtin.lenOf, slLen])
    (fun w' hw => by rw [← hl]; exact run_firstCells (P := P) (w := w') (by rw [hw]; exact hrd)) (o.one _ st.sat) hb hb'
  exact ⟨s', w', by simp [execOp, resolve, invoke, builtin, st.env.evl hs, st.env.evl hx, a1], a2, trivial, a3⟩
/-- a string's bytes -/
theorem wl_appendV {d : Nat} {t t' e : TypeId} {y y' : Operand} {by' : Nat} {z s : Value} {xs : List Value} {l : Bytes} {Γ' : List HP} [u : Und P t (.slice e)] [u' : Und P t' .string] [el : ElemT P e 1 by' z] (hs : evl env y = some s) (hx : evl env y' = some (vs l)) [p : PickT Γ s e xs Γ']
    (hz : z.cells.size = 1) (hb : (xs.length + l.length) * by' ≤ 140737488355328) (hb' : xs.length + l.length ≤ 9223372036854775807)
    (hd : Nat.blt d n = true) (kk : ∀ s', WL P ops rest Q w0 n ((d, s') :: env) (SlT s' e (xs ++ l.map vb) :: Γ')) :
    WL P ops (⟨some d, .call ⟨.builtin .append, #[y, y'], #[t, t']⟩, ty, pos, after, none⟩ :: rest) Q w0 n env Γ := by
  refine wl_gen (X := Value) (vf := fun s' => s') (φ := fun _ => True) (Γf := fun s' => SlT s' e (xs ++ l.map vb) :: Γ')
    (fun c w st => ?_) hd (fun s' _ => kk s')
  obtain ⟨s', w', a1, a2, a3⟩ := run_appendV (P := P) (ty := ty) (w := w) (t := t) (s := s) (x := vs l) (news := l.map vb) u.fact u'.fact hz (p.pick _ st.sat) (fun w' => by simp [Builtin.lenOf, ba_size])
    (fun w' hw => by simp [Builtin.firstCells, ByteArray.data_extract]) (fun v hv => by obtain ⟨q, _, rfl⟩ := List.mem_map.1 hv; rfl) (by simpa using hb) (by simpa using hb')
  exact ⟨s', w', by simp [execOp, resolve, invoke, builtin, st.env.evl hs, st.env.evl hx, a1], a2, trivial, a3⟩
end app
end Go.Sl
end

section
/- Strings out of slices; parts of slices; what unsafe gives of a row of bytes; blocks whose type is known. No program. -/
namespace Go.Sl
open Go
/-- a rune's bytes -/
def encB (x : ByteArray) : Bytes := x.data.toList
def enc (r : Nat) : Bytes := encB (Utf8.encode (r : Int))
theorem ba_eta (x : ByteArray) : x = ⟨(encB x).toArray⟩ := by cases x; simp [encB]
theorem enc_eq (r : Nat) : Utf8.encode (r : Int) = ⟨(enc r).toArray⟩ := ba_eta _
theorem fold_bytes : ∀ (l acc : Bytes), (l.map fun b : UInt8 => (b.toNat : Int)).foldl (fun (r : ByteArray) n => r.push (UInt8.ofNat n.toNat)) ⟨acc.toArray⟩ = ⟨(acc ++ l).toArray⟩
  | [], acc => by simp
  | b :: l, acc => by
    have h : (ByteArray.mk acc.toArray).push (UInt8.ofNat ((b.toNat : Int)).toNat) = ⟨(acc ++ [b]).toArray⟩ := by
      apply ByteArray.ext; simp [ByteArray.push]
    simp only [List.map_cons, List.foldl_cons]
    rw [h, fold_bytes l (acc ++ [b])]; simp
theorem run_forIn_runes {P : Program} {w : World} (f : Value → ByteArray → Sem (ForInStep ByteArray))
    (hf : ∀ (n : Int) (r : ByteArray), (f (.int .i32 n) r).run P w = .ok (.yield (r ++ Utf8.encode n)) w) : ∀ (l : List Nat) (acc : Bytes),
    (forIn (l.map vr) (ByteArray.mk acc.toArray) f).run P w = .ok ⟨(acc ++ l.flatMap enc).toArray⟩ w
  | [], acc => by simp
  | r :: l, acc => by
    have h : (ByteArray.mk acc.toArray) ++ Utf8.encode (r : Int) = ⟨(acc ++ enc r).toArray⟩ := by
      rw [enc_eq]; apply ByteArray.ext; simp [ByteArray.data_append]
    have := run_forIn_runes f hf l (acc ++ enc r)
    simp only [List.map_cons, List.forIn_cons, Sem.run_bind, hf, Result.andThen_ok, h]
    rw [this]; simp
section ops
variable {P : Program} {ops : Array Oper} {Q : Exit → Act → World → Prop} {w0 : World} {n : Nat} {env : Env} {Γ : List HP} {rest : List Oper}
  {ty : TypeId} {pos : String} {after : Array Edge}
theorem yl_strB {x : Operand} {src dst e : TypeId} {v : Value} {b : Bytes} [us : Und P src (.slice e)] [ue : Und P e (.int .u8)] [ud : Und P dst .string] (hx : evl env x = some v) [r : RdIn Γ v 1 (b.map vb)] :
    Yl P (.convert src dst x) ty w0 n env Γ (vs b) (HasR v 1 (b.map vb)) := by
  refine fun _ _ _ _ a w s => ⟨r.rd _ s.sat, fun w' hr => ?_⟩
  have hr : Rd v 1 (b.map vb) (hpOf w') := hr
  have hf := run_firstCells (P := P) hr
  have hl := hr.len
  rcases hr.nil_iff with rfl | ⟨a, m, c, rfl⟩
  · have hb : b = [] := by simp [slLen] at hl; exact List.eq_nil_of_length_eq_zero hl.symm
    subst hb
    have hem : ByteArray.empty = ⟨#[]⟩ := rfl
    simp [execOp, s.env.evl hx, convert, us.run, ue.run, ud.run, Conv.bytesToString, hem]
  · simp [Builtin.firstCells, slLen] at hf
    have h2 := run_bytesToString (P := P) w' a m c (b.map fun b : UInt8 => (b.toNat : Int)) (by rw [hf]; simp [List.map_map, Function.comp_def])
    have h3 := fold_bytes b []
    simp only [execOp, s.env.evl hx, convert, us.run, ue.run, ud.run, Sem.run_bind, Result.andThen_ok]
    rw [h2]
    have hem : ByteArray.empty = ⟨([] : Bytes).toArray⟩ := rfl
    rw [hem, h3]; rfl
theorem yl_strR {x : Operand} {src dst e : TypeId} {v : Value} {l : List Nat} [us : Und P src (.slice e)] [ue : Und P e (.int .i32)] [ud : Und P dst .string] (hx : evl env x = some v) [r : RdIn Γ v 1 (l.map vr)] :
    Yl P (.convert src dst x) ty w0 n env Γ (vs (l.flatMap enc)) (HasR v 1 (l.map vr)) := by
  refine fun _ _ _ _ a w s => ⟨r.rd _ s.sat, fun w' hr => ?_⟩
  have hr : Rd v 1 (l.map vr) (hpOf w') := hr
  have hf := run_firstCells (P := P) hr
  have hl := hr.len
  rcases hr.nil_iff with rfl | ⟨a, m, c, rfl⟩
  · have hb : l = [] := by simp [slLen] at hl; exact List.eq_nil_of_length_eq_zero hl.symm
    subst hb
    have hem : ByteArray.empty = ⟨#[]⟩ := rfl
    simp [execOp, s.env.evl hx, convert, us.run, ue.run, ud.run, Conv.runesToString, hem]
  · simp [Builtin.firstCells, slLen] at hf
    have hem : ByteArray.empty = ⟨([] : Bytes).toArray⟩ := rfl
    have h2 : (Conv.runesToString (.slice (some a) m c)).run P w' = .ok (vs (l.flatMap enc)) w' := by
      unfold Conv.runesToString
      simp only [Sem.run_bind, hf, Result.andThen_ok, List.forIn_toArray, hem]
      rw [run_forIn_runes _ (by intro n r; simp [Sem.run_pure])]
      simp
    simp only [execOp, s.env.evl hx, convert, us.run, ue.run, ud.run, Sem.run_bind, Result.andThen_ok]
    rw [h2]; rfl
end ops

/-- a part of a slice -/
def cutSl (v : Value) (i j : Nat) : Value := match v with
  | .slice a _ cap => .slice (if cap = i then a else a.map (·.add i)) (j - i) (cap - i)
  | v => v
theorem Rd.cut {v : Value} {us : List Value} {h : Hp} (r : Rd v 1 us h) {i j : Nat} (h1 : i ≤ j) (h2 : j ≤ us.length) : Rd (cutSl v i j) 1 ((us.take j).drop i) h := by
  rcases r with ⟨rfl, rfl⟩ | ⟨a, cap, rfl, rfl⟩ | ⟨b, off, len, cap, cs, T, fr, rfl, c, d, e, f⟩
  · simp at h2; subst h2
    have : i = 0 := by omega
    subst this
    exact .inl ⟨rfl, rfl⟩
  · simp at h2; subst h2
    have : i = 0 := by omega
    subst this
    refine .inr (.inl ⟨a, cap, ?_, rfl⟩)
    simp [cutSl, add_zero]
  · rw [Nat.mul_one] at d
    by_cases hc : cap = i
    · have hij : j = i := by omega
      subst hij
      refine .inr (.inl ⟨⟨b, off, none⟩, cap - j, ?_, ?_⟩)
      · simp [cutSl, hc]
      · simp
    · refine .inr (.inr ⟨b, off + i, j - i, cap - i, cs, T, fr, ?_, by omega, ?_, ?_, f⟩)
      · simp [cutSl, hc, add_pos]
      · simp; omega
      · rw [Nat.mul_one] at e ⊢
        rw [← e, List.take_take, Nat.min_eq_left (by omega), List.drop_take, List.drop_drop]
theorem wrap_in (k : IntKind) {a : Int} (h1 : k.min ≤ a) (h2 : a ≤ k.max) : k.wrap a = a := by
  cases k <;> simp [IntKind.min, IntKind.max, IntKind.wrap, IntKind.bits, IntKind.signed] at * <;> omega
section nat
variable {P : Program} {w0 : World} {n : Nat} {env : Env} {Γ : List HP} {ty : TypeId}
theorem yl_convk {t t' : TypeId} {x : Operand} {kd k : IntKind} {a : Int} {dsc : TypeDesc} [u : Und P t dsc] [u' : Und P t' (.int k)] (hx : evl env x = some (.int kd a))
    (h1 : k.min ≤ a) (h2 : a ≤ k.max) : Yl P (.convert t t' x) ty w0 n env Γ (.int k a) Tt := by
  have := yl_conv (P := P) (w0 := w0) (n := n) (Γ := Γ) (ty := ty) (t := t) (t' := t') hx; rwa [wrap_in k h1 h2] at this
theorem wrap_byte (a : Nat) : IntKind.u8.wrap (a : Int) = ((a % 256 : Nat) : Int) := by
  simp [IntKind.wrap, IntKind.bits, IntKind.signed]
theorem yl_conv8 {t t' : TypeId} {x : Operand} {kd : IntKind} {a : Nat} {dsc : TypeDesc} [u : Und P t dsc] [u' : Und P t' (.int .u8)] (hx : evl env x = some (.int kd (a : Int))) :
    Yl P (.convert t t' x) ty w0 n env Γ (.int .u8 ((a % 256 : Nat) : Int)) Tt := by
  have := yl_conv (P := P) (w0 := w0) (n := n) (Γ := Γ) (ty := ty) (t := t) (t' := t') hx; rwa [wrap_byte] at this
theorem bv8 (a : Nat) : BitVec.ofInt 8 (a : Int) = BitVec.ofNat 8 a := by
  apply BitVec.eq_of_toNat_eq; simp
theorem yl_or8 {t yt : TypeId} {x y : Operand} {a b : Nat} (hx : evl env x = some (.int .u8 (a : Int))) (hy : evl env y = some (.int .u8 (b : Int))) (ha : a < 256) (hb : b < 256) :
    Yl P (.binOp .or t x y yt) ty w0 n env Γ (.int .u8 ((a ||| b : Nat) : Int)) Tt := by
  refine fun _ _ _ _ _ _ s => ⟨trivial, fun w' _ => ?_⟩
  have h : (BitVec.ofInt 8 (a : Int) ||| BitVec.ofInt 8 (b : Int) : BitVec 8).toNat = a ||| b := by
    rw [bv8, bv8]; simp [Nat.mod_eq_of_lt ha, Nat.mod_eq_of_lt hb]
  have hl : a ||| b < 2 ^ 8 := Nat.or_lt_two_pow (by omega) (by omega)
  have h' : (Op.intBits .or .u8 (a : Int) (b : Int)).run P w' = .ok (.int .u8 ((a ||| b : Nat) : Int)) w' := by
    show Sem.run P (pure (Value.int .u8 (IntKind.u8.wrap ((BitVec.ofInt 8 (a : Int) ||| BitVec.ofInt 8 (b : Int) : BitVec 8).toNat : Nat)))) w' = _
    rw [h, wrap_byte, Nat.mod_eq_of_lt (by omega)]; rfl
  simp only [execOp, s.env.evl hx, s.env.evl hy, eqGuard, binOp]
  simp [h']
theorem yl_and8 {t yt : TypeId} {x y : Operand} {a b : Nat} (hx : evl env x = some (.int .u8 (a : Int))) (hy : evl env y = some (.int .u8 (b : Int))) (ha : a < 256) (hb : b < 256) :
    Yl P (.binOp .and t x y yt) ty w0 n env Γ (.int .u8 ((a &&& b : Nat) : Int)) Tt := by
  refine fun _ _ _ _ _ _ s => ⟨trivial, fun w' _ => ?_⟩
  have h : (BitVec.ofInt 8 (a : Int) &&& BitVec.ofInt 8 (b : Int) : BitVec 8).toNat = a &&& b := by
    rw [bv8, bv8]; simp [Nat.mod_eq_of_lt ha, Nat.mod_eq_of_lt hb]
  have hl : a &&& b < 2 ^ 8 := Nat.and_lt_two_pow _ (by omega)
  have h' : (Op.intBits .and .u8 (a : Int) (b : Int)).run P w' = .ok (.int .u8 ((a &&& b : Nat) : Int)) w' := by
    show Sem.run P (pure (Value.int .u8 (IntKind.u8.wrap ((BitVec.ofInt 8 (a : Int) &&& BitVec.ofInt 8 (b : Int) : BitVec 8).toNat : Nat)))) w' = _
    rw [h, wrap_byte, Nat.mod_eq_of_lt (by omega)]; rfl
  simp only [execOp, s.env.evl hx, s.env.evl hy, eqGuard, binOp]
  simp [h']
theorem yl_shr32 {t yt : TypeId} {x y : Operand} {yk : IntKind} {a s' : Nat} (hx : evl env x = some (.int .i32 (a : Int))) (hy : evl env y = some (.int yk (s' : Int))) (hb : s' ≤ 32) :
    Yl P (.binOp .shr t x y yt) ty w0 n env Γ (.int .i32 ((a / 2 ^ s' : Nat) : Int)) Tt := by
  have h := yl_shr (P := P) (w0 := w0) (n := n) (env := env) (Γ := Γ) (ty := ty) (t := t) (yt := yt) hx hy (by omega)
  have h2 : min ((s' : Int)).toNat IntKind.i32.bits = s' := by simp [IntKind.bits]; omega
  rw [h2] at h
  have h3 : Int.fdiv (a : Int) (2 ^ s') = ((a / 2 ^ s' : Nat) : Int) := by
    rw [Int.fdiv_eq_ediv_of_nonneg _ (by exact Int.le_of_lt (Int.pow_pos (by decide)))]
    simp
  rwa [h3] at h
theorem wrap_64 (a : Nat) : IntKind.u64.wrap (a : Int) = ((a % 18446744073709551616 : Nat) : Int) := by
  simp [IntKind.wrap, IntKind.bits, IntKind.signed]
theorem yl_mul64 {t yt : TypeId} {x y : Operand} {a b : Nat} (hx : evl env x = some (.int .u64 (a : Int))) (hy : evl env y = some (.int .u64 (b : Int))) :
    Yl P (.binOp .mul t x y yt) ty w0 n env Γ (.int .u64 ((a * b % 18446744073709551616 : Nat) : Int)) Tt := by
  refine fun _ _ _ _ _ _ s => ⟨trivial, fun w' _ => ?_⟩
  have h := wrap_64 (a * b)
  rw [Int.natCast_mul] at h
  simp only [execOp, s.env.evl hx, s.env.evl hy, eqGuard, binOp]
  simp [Op.intArith, h]
theorem yl_add64 {t yt : TypeId} {x y : Operand} {a b : Nat} (hx : evl env x = some (.int .u64 (a : Int))) (hy : evl env y = some (.int .u64 (b : Int))) :
    Yl P (.binOp .add t x y yt) ty w0 n env Γ (.int .u64 (((a + b) % 18446744073709551616 : Nat) : Int)) Tt := by
  refine fun _ _ _ _ _ _ s => ⟨trivial, fun w' _ => ?_⟩
  have h := wrap_64 (a + b)
  rw [Int.natCast_add] at h
  simp only [execOp, s.env.evl hx, s.env.evl hy, eqGuard, binOp]
  simp [Op.intArith, h]
theorem yl_eqifn {t yt T : TypeId} {ms : Array (String × TypeId)} {x y : Operand} {v : Value} [u : Und P t (.interface ms)] (hx : evl env x = some (.iface T v)) (hy : evl env y = some .nilIface) :
    Yl P (.binOp .eql t x y yt) ty w0 n env Γ (.bool false) Tt := by
  refine fun _ _ _ _ _ w s => ⟨trivial, fun w' _ => ?_⟩
  have h1 := run_equalIn_ifacenil (P := P) (t := t) (T := T) (v := v) 9999 w'
  simp [execOp, s.env.evl hx, s.env.evl hy, eqGuard, binOp, Op.equal, Op.maxDepth, h1]
end nat
section ops2
variable {P : Program} {ops : Array Oper} {Q : Exit → Act → World → Prop} {w0 : World} {n : Nat} {env : Env} {Γ : List HP} {rest : List Oper}
  {ty : TypeId} {pos : String} {after : Array Edge}
theorem yl_cutR {t e : TypeId} {ag : Bool} {x y z : Operand} {v : Value} {us : List Value} {k1 k2 : IntKind} {i j : Nat} [u : Und P t (.slice e)] [g : AggT P e ag 1] (hx : evl env x = some v) [r : RdIn Γ v 1 us]
    (hy : evl env y = some (.int k1 (i : Int))) (hz : evl env z = some (.int k2 (j : Int))) (h1 : i ≤ j) (h2 : j ≤ us.length) :
    Yl P (.slice t x (some y) (some z) none) ty w0 n env Γ (cutSl v i j) Tt := by
  refine fun _ _ _ _ a w s => ⟨trivial, fun w' _ => ?_⟩
  have hr := r.rd _ s.sat
  have hl := hr.len
  have hcap : ∀ a n c, v = .slice a n c → n ≤ c := by
    intro a n c hv
    rcases hr with ⟨rfl, rfl⟩ | ⟨a, cap, rfl, rfl⟩ | ⟨b, off, len, cap, cs, T, fr, rfl, c, d, e, f⟩ <;> cases hv <;> omega
  rcases hr.nil_iff with rfl | ⟨a, m, c, rfl⟩
  · simp [slLen] at hl
    simp [execOp, s.env.evl hx, s.env.evl hy, s.env.evl hz, Instr.sliceAt, Instr.slice, Instr.sliceBounds, u.run, run_bound' k2 j 0 _ (by omega), run_bound' k1 i j _ h1, g.size, cutSl]
  · have := hcap _ _ _ rfl
    simp [slLen] at hl
    have e1 : (c - i : Nat) = c - i := rfl
    simp only [execOp, s.env.evl hx, s.env.evl hy, s.env.evl hz, Option.map, Instr.sliceAt, Sem.run_bind, u.run, Result.andThen_ok, Instr.slice, Instr.sliceBounds, Sem.run_pure]
    rw [run_bound' k2 j c _ (by omega)]
    simp only [Result.andThen_ok]
    rw [run_bound' k1 i j _ h1]
    simp [g.size, cutSl]
/-- what unsafe gives -/
def slAd : Value → Option Addr
  | .slice a _ _ => a
  | _ => none
theorem yl_sliceData {t yt e : TypeId} {x : Operand} {v : Value} {us : List Value} {Γ' : List HP} (hx : evl env x = some v) [p : PickT Γ v e us Γ'] :
    Yl P (.call ⟨.builtin .unsafeSliceData, #[x], #[t]⟩) yt w0 n env Γ (.pointer (slAd v)) Tt := by
  refine fun _ _ _ _ a w s => ⟨trivial, fun w' _ => ?_⟩
  obtain ⟨h1, hl, hA⟩ := (p.pick _ s.sat).one
  rcases hA with ⟨rfl, rfl⟩ | ⟨b, cap, cs, rfl, q1, q2, q3, q4, q5⟩
  · simp [execOp, resolve, invoke, builtin, s.env.evl hx, Lib.run_unsafeSliceData_nil, slAd]
  · simp [execOp, resolve, invoke, builtin, s.env.evl hx, Lib.run_unsafeSliceData_row _ _ _ _ _ _ q2, slAd]
class CellT (P : Program) (e : TypeId) : Prop where
  one : P.cellsOf e = 1
theorem wl_unsafeString {d : Nat} {pt it e : TypeId} {x y : Operand} {v : Value} {b : Bytes} {Γ' : List HP} [up : Und P pt (.pointer e)] [ce : CellT P e] (hx : evl env x = some (.pointer (slAd v))) (hy : evl env y = some (vi b.length)) [p : PickT Γ v e (b.map vb) Γ']
    (hb : b.length ≤ 9223372036854775807)
    (hd : Nat.blt d n = true) (kk : WL P ops rest Q w0 n ((d, vs b) :: env) Γ') :
    WL P ops (⟨some d, .call ⟨.builtin .unsafeString, #[x, y], #[pt, it]⟩, ty, pos, after, none⟩ :: rest) Q w0 n env Γ := by
  refine wl_val (fun c w s => ?_) hd kk
  obtain ⟨h1, h2, hl, hl2, hdis, hA, hT⟩ := p.pick _ s.sat
  have hS2 : Sat Γ' (hpOf w) := (p.pick _ s.sat).tail
  unfold slAd at hx
  rcases hA with ⟨rfl, hz⟩ | ⟨bk, cap, cs, rfl, q1, q2, q3, q4, q5⟩
  · have : b = [] := by simpa using hz
    subst this
    exact ⟨w, by
      have h0 := Lib.run_unsafeString_none (P := P) w pt it ty none
      simp only [execOp, resolve, invoke, builtin, s.env.evl hx, s.env.evl hy, List.map_toArray, List.map_cons, List.map_nil, List.length_nil, Int.natCast_zero, Sem.run_bind, Result.andThen_ok, Sem.run_pure]
      simp [h0]; rfl, Evo.refl w, hS2⟩
  · by_cases hb0 : b = []
    · subst hb0
      exact ⟨w, by
        have h0 := Lib.run_unsafeString_none (P := P) w pt it ty (some ⟨bk, 0, none⟩)
        simp only [execOp, resolve, invoke, builtin, s.env.evl hx, s.env.evl hy, List.map_toArray, List.map_cons, List.map_nil, List.length_nil, Int.natCast_zero, Sem.run_bind, Result.andThen_ok, Sem.run_pure]
        simp [h0]; rfl, Evo.refl w, hS2⟩
    · have hw : hpOf w bk = some (.cells cs.toArray e (0, 0)) := hl _ _ q5
      have hw' : w.heap[bk]? = some (.cells cs.toArray e (0, 0)) := hw
      rw [List.length_map] at q1 q4
      have hrun := Lib.run_unsafeString_row (P := P) w pt it ty e up.fact ce.one bk cs.length (by simp [World.shape?, hw']) b hb0 (by omega) hb (fun j x hj => by
        have h3 : cs[j]? = some (vb x) := by
          have : (cs.take b.length)[j]? = some (vb x) := by rw [q4]; simp [hj]
          rw [List.getElem?_take] at this
          split at this
          · exact this
          · cases this
        have h4 := cell_of_hp hw j
        by_cases hj0 : j = 0
        · subst hj0; simpa [Addr.add, h3] using h4.trans h3
        · simpa [Addr.add, hj0, h3] using h4.trans h3)
      refine ⟨w.freeze ⟨bk, 0, none⟩ b.length, by simp [execOp, resolve, invoke, builtin, s.env.evl hx, s.env.evl hy, hrun], ⟨by simp [World.freeze, hb0], by simp [World.freeze, hb0], by simp [World.freeze, hb0], by simp [World.freeze, hb0]⟩, ?_⟩
      have hne : ∀ c, c ≠ bk → hpOf (w.freeze ⟨bk, 0, none⟩ b.length) c = hpOf w c := by
        intro c hc
        simp [hpOf, World.freeze, hb0, Array.getElem?_modify, Ne.symm hc]
      refine Sat.mono (h := h2) (fun b' o ho => ?_) hT
      have hb' : b' ≠ bk := by
        rintro rfl
        rcases hdis b' with h | h
        · rw [q5] at h; cases h
        · rw [ho] at h; cases h
      rw [hne _ hb']; exact hl2 _ _ ho
end ops2

/-- blocks of known type -/
class PickK (Γ : List HP) (b : Nat) (cs : outParam (List Value)) (T : outParam TypeId) (Γ' : outParam (List HP)) : Prop where
  pick : Ent Γ (Blk b (.cells cs.toArray T (0, 0)) :: Γ')
instance (priority := high) PickK.here {b : Nat} {cs : List Value} {T : TypeId} {Γ : List HP} : PickK (Blk b (.cells cs.toArray T (0, 0)) :: Γ) b cs T Γ := ⟨Ent.refl⟩
instance (priority := low) PickK.there {b : Nat} {cs : List Value} {T : TypeId} {B : HP} {Γ Γ' : List HP} [h : PickK Γ b cs T Γ'] : PickK (B :: Γ) b cs T (B :: Γ') := ⟨(Ent.skip h.pick).trans Ent.swap⟩
instance (priority := high) PickC.hereK {b : Nat} {cs : List Value} {T : TypeId} {Γ : List HP} : PickC (Blk b (.cells cs.toArray T (0, 0)) :: Γ) b cs Γ := ⟨Ent.imp fun _ e => ⟨T, e⟩⟩
section ops3
variable {P : Program} {ops : Array Oper} {Q : Exit → Act → World → Prop} {w0 : World} {n : Nat} {env : Env} {Γ : List HP} {rest : List Oper}
  {ty : TypeId} {pos : String} {after : Array Edge}
theorem sat_setK {Γ : List HP} {w : World} {b : Nat} {cs : List Value} {T : TypeId} (hs : Sat (Blk b (.cells cs.toArray T (0, 0)) :: Γ) (hpOf w)) (i : Nat) (v : Value) :
    Sat (Blk b (.cells (cs.set i v).toArray T (0, 0)) :: Γ) (hpOf (w.setCell ⟨b, i, none⟩ v)) :=
  sat_update hs (hp_setCell_eq hs.blk i v) (fun c hc => hp_setCell_ne w b i v c hc)
theorem wl_storeK {t T : TypeId} {m : Nat} {x y : Operand} {b o : Nat} {cs : List Value} {v : Value} {Γ' : List HP} [g : AggT P t false m] (hx : evl env x = some (.pointer (some ⟨b, o, none⟩))) (hy : evl env y = some v) [p : PickK Γ b cs T Γ']
    [one : OneIn Γ [v]] (hm : m = 1) (ho : o < cs.length) (k : WL P ops rest Q w0 n env (Blk b (.cells (cs.set o v).toArray T (0, 0)) :: Γ')) :
    WL P ops (⟨none, .store t x y, ty, pos, after, none⟩ :: rest) Q w0 n env Γ := by
  refine wl_do (fun c w s => ⟨.skip, w.setCell ⟨b, o, none⟩ v, ?_, .inl rfl, evo_setCell w _ v, sat_setK (p.pick _ s.sat) o v⟩) k
  have hT := (p.pick _ s.sat).blk
  have hc : w.cell? ⟨b, o, none⟩ = some cs[o] := by rw [cell_of_hp hT]; simp [ho]
  have hf := frozen_of_hp hT o
  have h1 : v.oneCell' = true := one.one _ s.sat v (.head _)
  have hcells : v.cells = #[v] := by cases v <;> simp [Value.cells, Value.oneCell'] at h1 ⊢
  subst hm
  simp [execOp, s.env.evl hx, s.env.evl hy, Instr.storeAt, Instr.sureAddr, storeVar, g.size, hcells, storeCells, Addr.add, run_store _ _ _ _ _ h1, hc, hf]
/-- types whose blocks' type is kept in mind -/
class KeepT (P : Program) (t : TypeId) : Prop where
  keep : True
/-- a new block of known type -/
theorem wl_allocK {d : Nat} {t : TypeId} {cs : List Value} [_kt : KeepT P t] [g : ZeroT P t (.agg cs.toArray)] (hd : Nat.blt d n = true) (k : ∀ b, WL P ops rest Q w0 n ((d, vp b) :: env) (Blk b (.cells cs.toArray t (0, 0)) :: Γ)) :
    WL P ops (⟨some d, .alloc t, ty, pos, after, none⟩ :: rest) Q w0 n env Γ := by
  refine wl_gen (X := Nat) (φ := fun _ => True) (vf := fun b => vp b) (Γf := fun b => Blk b (.cells cs.toArray t (0, 0)) :: Γ) (fun c w s => ⟨w.heap.size, w.alloc (.cells cs.toArray t), ?_, evo_alloc w _, trivial, sat_alloc _ s.sat⟩) hd fun b _ => k b
  simp [execOp, Instr.alloc, g.run, newVar, newRow, Value.cells]
/-- has what lies in an interface the methods of another one? -/
class AssM (P : Program) (t as_ : TypeId) (ok : outParam Bool) : Prop where
  run : ∀ v xt w, (Instr.typeAssert (.iface t v) xt as_ true).run P w = .ok (.tuple #[if ok then .iface t v else .nilIface, .bool ok]) w
theorem yl_assertM {xt t t' : TypeId} {x : Operand} {v : Value} {ok : Bool} [u : AssM P t' t ok] (hx : evl env x = some (.iface t' v)) :
    Yl P (.typeAssert x xt t true) ty w0 n env Γ (.tuple #[if ok then .iface t' v else .nilIface, .bool ok]) Tt :=
  fun _ _ _ _ _ _ s => ⟨trivial, fun w' _ => by simp [execOp, s.env.evl hx, u.run]⟩
end ops3
end Go.Sl
end
