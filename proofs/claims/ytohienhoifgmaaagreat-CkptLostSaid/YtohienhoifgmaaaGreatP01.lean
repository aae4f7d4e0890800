/- several texts, one behind the other -/
import Derived.Tactics
import Derived.Orders
import Derived.Laws.Sem

section
/- The ground of this session's proofs: heaps in parts, and what holds of a world whose heap has such parts. No program. -/
namespace Go.Sl
open Go

abbrev Hp := Nat → Option Obj
abbrev HP := Hp → Prop
abbrev Bytes := List UInt8

def hpOf (w : World) : Hp := fun b => w.heap[b]?
def Hle (h1 h2 : Hp) : Prop := ∀ b o, h1 b = some o → h2 b = some o
def Hdis (h1 h2 : Hp) : Prop := ∀ b, h1 b = none ∨ h2 b = none

theorem Hle.refl (h : Hp) : Hle h h := fun _ _ e => e
theorem Hle.trans {a b c : Hp} (h1 : Hle a b) (h2 : Hle b c) : Hle a c := fun x o e => h2 x o (h1 x o e)
theorem Hdis.symm {a b : Hp} (h : Hdis a b) : Hdis b a := fun x => (h x).symm
theorem Hdis.le {a b a' b' : Hp} (h : Hdis a b) (ha : Hle a' a) (hb : Hle b' b) : Hdis a' b' := by
  intro x
  rcases h x with h | h
  · left
    cases e : a' x with
    | none => rfl
    | some o => rw [ha x o e] at h; cases h
  · right
    cases e : b' x with
    | none => rfl
    | some o => rw [hb x o e] at h; cases h

/-- the join of two heaps, the first ahead -/
def Hjoin (a b : Hp) : Hp := fun x => match a x with | some o => some o | none => b x
theorem Hjoin.left (a b : Hp) : Hle a (Hjoin a b) := fun x o e => by simp [Hjoin, e]
theorem Hjoin.right {a b : Hp} (h : Hdis a b) : Hle b (Hjoin a b) := fun x o e => by
  rcases h x with h | h
  · simp [Hjoin, h, e]
  · rw [e] at h; cases h
theorem Hjoin.le {a b c : Hp} (ha : Hle a c) (hb : Hle b c) : Hle (Hjoin a b) c := fun x o e => by
  unfold Hjoin at e
  cases ea : a x with
  | some o' => rw [ea] at e; exact ha x o (by rw [ea]; exact e)
  | none => rw [ea] at e; exact hb x o e
theorem Hjoin.dis {a b c : Hp} (ha : Hdis a c) (hb : Hdis b c) : Hdis (Hjoin a b) c := fun x => by
  unfold Hjoin
  rcases ha x with h | h
  · rcases hb x with h' | h'
    · left; simp [h, h']
    · right; exact h'
  · right; exact h

def Sat : List HP → Hp → Prop
  | [], _ => True
  | A :: l, h => ∃ h1 h2, Hle h1 h ∧ Hle h2 h ∧ Hdis h1 h2 ∧ A h1 ∧ Sat l h2

theorem Sat.mono {l : List HP} {h h' : Hp} (hl : Hle h h') (hs : Sat l h) : Sat l h' := by
  cases l with
  | nil => trivial
  | cons A l => obtain ⟨h1, h2, a, b, c, d, e⟩ := hs; exact ⟨h1, h2, a.trans hl, b.trans hl, c, d, e⟩

theorem Sat.tail {A : HP} {l : List HP} {h : Hp} (hs : Sat (A :: l) h) : Sat l h := by
  obtain ⟨_, _, _, b, _, _, e⟩ := hs; exact e.mono b

theorem Sat.imp {A B : HP} {l : List HP} {h : Hp} (hab : ∀ h, A h → B h) (hs : Sat (A :: l) h) : Sat (B :: l) h := by
  obtain ⟨h1, h2, a, b, c, d, e⟩ := hs; exact ⟨h1, h2, a, b, c, hab _ d, e⟩

theorem Sat.cons {A : HP} {l l' : List HP} (hl : ∀ h, Sat l h → Sat l' h) {h : Hp} (hs : Sat (A :: l) h) : Sat (A :: l') h := by
  obtain ⟨h1, h2, a, b, c, d, e⟩ := hs; exact ⟨h1, h2, a, b, c, d, hl _ e⟩

theorem Sat.swap {A B : HP} {l : List HP} {h : Hp} (hs : Sat (A :: B :: l) h) : Sat (B :: A :: l) h := by
  obtain ⟨h1, h2, a, b, c, d, h3, h4, p, q, r, s, t⟩ := hs
  refine ⟨h3, Hjoin h1 h4, p.trans b, Hjoin.le a (q.trans b), ?_, s, h1, h4, Hjoin.left _ _, ?_, ?_, d, t⟩
  · exact (Hjoin.dis (c.le (Hle.refl _) p) r.symm).symm
  · exact Hjoin.right (c.le (Hle.refl _) q)
  · exact c.le (Hle.refl _) q

theorem Sat.app {l l' : List HP} {h : Hp} : Sat (l ++ l') h ↔ Sat (Sat l :: l') h := by
  induction l generalizing h with
  | nil =>
    constructor
    · intro hs; exact ⟨fun _ => none, h, (fun _ _ e => by cases e), Hle.refl _, (fun _ => Or.inl rfl), trivial, hs⟩
    · intro hs; exact hs.tail
  | cons A l ih =>
    constructor
    · intro hs
      obtain ⟨h1, h2, a, b, c, d, e⟩ := hs
      obtain ⟨h3, h4, p, q, r, s, t⟩ := ih.1 e
      refine ⟨Hjoin h1 h3, h4, Hjoin.le a (p.trans b), q.trans b, Hjoin.dis (c.le (Hle.refl _) q) r, ?_, t⟩
      exact ⟨h1, h3, Hjoin.left _ _, Hjoin.right (c.le (Hle.refl _) p), c.le (Hle.refl _) p, d, s⟩
    · intro hs
      obtain ⟨h1, h2, a, b, c, ⟨h3, h4, p, q, r, s, t⟩, e⟩ := hs
      refine ⟨h3, Hjoin h4 h2, p.trans a, Hjoin.le (q.trans a) b, ?_, s, ?_⟩
      · exact (Hjoin.dis r.symm (c.le p (Hle.refl _)).symm).symm
      · exact ih.2 ⟨h4, h2, Hjoin.left _ _, Hjoin.right (c.le q (Hle.refl _)), c.le q (Hle.refl _), t, e⟩

theorem Sat.ex {α : Sort _} {A : α → HP} {l : List HP} {h : Hp} : Sat ((fun h => ∃ x, A x h) :: l) h ↔ ∃ x, Sat (A x :: l) h := by
  constructor
  · rintro ⟨h1, h2, a, b, c, ⟨x, d⟩, e⟩; exact ⟨x, h1, h2, a, b, c, d, e⟩
  · rintro ⟨x, h1, h2, a, b, c, d, e⟩; exact ⟨h1, h2, a, b, c, ⟨x, d⟩, e⟩

theorem Sat.pur {p : Prop} {A : HP} {l : List HP} {h : Hp} : Sat ((fun h => p ∧ A h) :: l) h ↔ p ∧ Sat (A :: l) h := by
  constructor
  · rintro ⟨h1, h2, a, b, c, ⟨x, d⟩, e⟩; exact ⟨x, h1, h2, a, b, c, d, e⟩
  · rintro ⟨x, h1, h2, a, b, c, d, e⟩; exact ⟨h1, h2, a, b, c, ⟨x, d⟩, e⟩

theorem Sat.one {A : HP} {l : List HP} {h : Hp} (hs : Sat (A :: l) h) : ∃ h1, Hle h1 h ∧ A h1 := by
  obtain ⟨h1, _, a, _, _, d, _⟩ := hs; exact ⟨h1, a, d⟩

/-- what follows from what -/
def Ent (Γ Γ' : List HP) : Prop := ∀ h, Sat Γ h → Sat Γ' h
theorem Ent.refl {Γ : List HP} : Ent Γ Γ := fun _ h => h
theorem Ent.trans {Γ Γ' Γ'' : List HP} (h : Ent Γ Γ') (h' : Ent Γ' Γ'') : Ent Γ Γ'' := fun _ x => h' _ (h _ x)
theorem Ent.drop {A : HP} {Γ Γ' : List HP} (h : Ent Γ Γ') : Ent (A :: Γ) Γ' := fun _ x => h _ x.tail
theorem Ent.skip {A : HP} {Γ Γ' : List HP} (h : Ent Γ Γ') : Ent (A :: Γ) (A :: Γ') := fun _ x => x.cons h
theorem Ent.swap {A B : HP} {Γ : List HP} : Ent (A :: B :: Γ) (B :: A :: Γ) := fun _ x => x.swap
theorem Ent.imp {A B : HP} {Γ : List HP} (h : ∀ h, A h → B h) : Ent (A :: Γ) (B :: Γ) := fun _ x => x.imp h
theorem Ent.nil {Γ : List HP} : Ent Γ [] := fun _ _ => trivial

/-- a part is taken to the front: what it is of is known -/
class Pick (Γ : List HP) (A : HP) (Γ' : outParam (List HP)) : Prop where
  pick : Ent Γ (A :: Γ')
instance (priority := high) Pick.here {A : HP} {Γ : List HP} : Pick (A :: Γ) A Γ := ⟨Ent.refl⟩
instance (priority := low) Pick.there {A B : HP} {Γ Γ' : List HP} [h : Pick Γ A Γ'] : Pick (B :: Γ) A (B :: Γ') := ⟨(Ent.skip h.pick).trans Ent.swap⟩

theorem Ent.cons {A : HP} {Γ Γ1 Γ' : List HP} [p : Pick Γ A Γ1] (h : Ent Γ1 Γ') : Ent Γ (A :: Γ') := p.pick.trans (Ent.skip h)

/-- the block b is this object -/
def Blk (b : Nat) (o : Obj) : HP := fun h => h b = some o
/-- the block b is a row of cells, none of them frozen -/
def Cells (b : Nat) (cs : List Value) : HP := fun h => ∃ T, h b = some (.cells cs.toArray T (0, 0))

class PickB (Γ : List HP) (b : Nat) (o : outParam Obj) (Γ' : outParam (List HP)) : Prop where
  pick : Ent Γ (Blk b o :: Γ')
instance (priority := high) PickB.here {b : Nat} {o : Obj} {Γ : List HP} : PickB (Blk b o :: Γ) b o Γ := ⟨Ent.refl⟩
instance (priority := low) PickB.there {b : Nat} {o : Obj} {B : HP} {Γ Γ' : List HP} [h : PickB Γ b o Γ'] : PickB (B :: Γ) b o (B :: Γ') := ⟨(Ent.skip h.pick).trans Ent.swap⟩
class PickC (Γ : List HP) (b : Nat) (cs : outParam (List Value)) (Γ' : outParam (List HP)) : Prop where
  pick : Ent Γ (Cells b cs :: Γ')
instance (priority := high) PickC.here {b : Nat} {cs : List Value} {Γ : List HP} : PickC (Cells b cs :: Γ) b cs Γ := ⟨Ent.refl⟩
instance (priority := low) PickC.there {b : Nat} {cs : List Value} {B : HP} {Γ Γ' : List HP} [h : PickC Γ b cs Γ'] : PickC (B :: Γ) b cs (B :: Γ') := ⟨(Ent.skip h.pick).trans Ent.swap⟩

/-- what a call leaves of the world but the heap -/
structure Evo (w w' : World) : Prop where
  os : w'.os = w.os
  tape : w'.tape = w.tape
  output : w'.output = w.output
  size : w.heap.size ≤ w'.heap.size
theorem Evo.refl (w : World) : Evo w w := ⟨rfl, rfl, rfl, Nat.le_refl _⟩
theorem Evo.trans {a b c : World} (h : Evo a b) (h' : Evo b c) : Evo a c :=
  ⟨h'.os.trans h.os, h'.tape.trans h.tape, h'.output.trans h.output, Nat.le_trans h.size h'.size⟩

/-! what the steps of a world do to its heap -/
theorem hp_drew (w : World) : hpOf w.drew = hpOf w := rfl
theorem evo_drew (w : World) : Evo w w.drew := ⟨rfl, rfl, rfl, Nat.le_refl _⟩
theorem evo_alloc (w : World) (o : Obj) : Evo w (w.alloc o) := ⟨rfl, rfl, rfl, by simp⟩

theorem hp_alloc (w : World) (o : Obj) (b : Nat) : hpOf (w.alloc o) b = if b = w.heap.size then some o else hpOf w b := by
  simp only [hpOf, World.alloc]
  rw [Array.getElem?_push]

theorem hp_size (w : World) : hpOf w w.heap.size = none := by simp [hpOf]
theorem hp_lt {w : World} {b : Nat} {o : Obj} (h : hpOf w b = some o) : b < w.heap.size := by
  unfold hpOf at h; exact (Array.getElem?_eq_some_iff.1 h).1

theorem sat_alloc {Γ : List HP} {w : World} (o : Obj) (h : Sat Γ (hpOf w)) : Sat (Blk w.heap.size o :: Γ) (hpOf (w.alloc o)) := by
  refine ⟨fun b => if b = w.heap.size then some o else none, hpOf w, ?_, ?_, ?_, by simp [Blk], h⟩
  · intro b o' e; rw [hp_alloc]; dsimp only at e; split at e <;> simp_all
  · intro b o' e; rw [hp_alloc]; have := hp_lt e; rw [if_neg (by omega)]; exact e
  · intro b; by_cases hb : b = w.heap.size
    · right; rw [hb]; exact hp_size w
    · left; simp [hb]

theorem sat_alloc_cells {Γ : List HP} {w : World} (cs : List Value) (T : TypeId) (h : Sat Γ (hpOf w)) :
    Sat (Cells w.heap.size cs :: Γ) (hpOf (w.alloc (.cells cs.toArray T))) :=
  (sat_alloc _ h).imp fun _ e => ⟨T, e⟩

/-- a block is written: the others stay -/
theorem sat_update {Γ : List HP} {w w' : World} {b : Nat} {o o' : Obj} (h : Sat (Blk b o :: Γ) (hpOf w))
    (hb : hpOf w' b = some o') (hne : ∀ c, c ≠ b → hpOf w' c = hpOf w c) : Sat (Blk b o' :: Γ) (hpOf w') := by
  obtain ⟨h1, h2, a, c, d, e, f⟩ := h
  have h2b : h2 b = none := by
    rcases d b with d | d
    · rw [show h1 b = some o from e] at d; cases d
    · exact d
  refine ⟨fun x => if x = b then some o' else none, h2, ?_, ?_, ?_, by simp [Blk], f⟩
  · intro x y hx; dsimp only at hx; split at hx
    · rename_i hxb; rw [hxb, hb]; exact hx
    · cases hx
  · intro x y hx
    have : x ≠ b := fun hxb => by rw [hxb, h2b] at hx; cases hx
    rw [hne x this]; exact c x y hx
  · intro x; by_cases hx : x = b
    · right; rw [hx]; exact h2b
    · left; simp [hx]

theorem Sat.blk {Γ : List HP} {h : Hp} {b : Nat} {o : Obj} (hs : Sat (Blk b o :: Γ) h) : h b = some o := by
  obtain ⟨h1, a, e⟩ := hs.one; exact a _ _ e
theorem Sat.cells {Γ : List HP} {h : Hp} {b : Nat} {cs : List Value} (hs : Sat (Cells b cs :: Γ) h) : ∃ T, h b = some (.cells cs.toArray T (0, 0)) := by
  obtain ⟨h1, a, T, e⟩ := hs.one; exact ⟨T, a _ _ e⟩

theorem cell_of_hp {w : World} {b : Nat} {cs : List Value} {T : TypeId} {fr : Nat × Nat} (h : hpOf w b = some (.cells cs.toArray T fr)) (i : Nat) :
    w.cell? ⟨b, i, none⟩ = cs[i]? := by
  unfold hpOf at h; simp [World.cell?, h]
theorem frozen_of_hp {w : World} {b : Nat} {cs : List Value} {T : TypeId} (h : hpOf w b = some (.cells cs.toArray T (0, 0))) (i : Nat) :
    w.frozen? ⟨b, i, none⟩ = false := by
  unfold hpOf at h; simp [World.frozen?, h]

theorem evo_setCell (w : World) (a : Addr) (v : Value) : Evo w (w.setCell a v) := ⟨rfl, rfl, rfl, by simp⟩
theorem hp_setCell_ne (w : World) (b i : Nat) (v : Value) (c : Nat) (hc : c ≠ b) : hpOf (w.setCell ⟨b, i, none⟩ v) c = hpOf w c := by
  simp only [hpOf, World.setCell]; rw [Array.getElem?_modify]; simp [Ne.symm hc]
theorem hp_setCell_eq {w : World} {b : Nat} {cs : List Value} {T : TypeId} (h : hpOf w b = some (.cells cs.toArray T (0, 0))) (i : Nat) (v : Value) :
    hpOf (w.setCell ⟨b, i, none⟩ v) b = some (.cells (cs.set i v).toArray T (0, 0)) := by
  unfold hpOf at h ⊢; simp only [World.setCell]; rw [Array.getElem?_modify]; simp [h]

theorem sat_setCell {Γ : List HP} {w : World} {b : Nat} {cs : List Value} (hs : Sat (Cells b cs :: Γ) (hpOf w)) (i : Nat) (v : Value) :
    Sat (Cells b (cs.set i v) :: Γ) (hpOf (w.setCell ⟨b, i, none⟩ v)) := by
  obtain ⟨h1, h2, a, c, d, ⟨T, e⟩, f⟩ := hs
  have hb : hpOf w b = some (.cells cs.toArray T (0, 0)) := a _ _ e
  have h := sat_update (Γ := Γ) (w := w) (w' := w.setCell ⟨b, i, none⟩ v) (b := b) ⟨h1, h2, a, c, d, e, f⟩ (hp_setCell_eq hb i v)
    (fun c hc => hp_setCell_ne w b i v c hc)
  exact h.imp fun _ e => ⟨T, e⟩

/-- an object that is no row of cells is laid anew -/
def World.putObj (w : World) (r : Nat) (o : Obj) : World := { w with heap := w.heap.setIfInBounds r o }
theorem evo_putObj (w : World) (r : Nat) (o : Obj) : Evo w (World.putObj w r o) := ⟨rfl, rfl, rfl, by simp [World.putObj]⟩
theorem sat_putObj {Γ : List HP} {w : World} {b : Nat} {o : Obj} (hs : Sat (Blk b o :: Γ) (hpOf w)) (o' : Obj) :
    Sat (Blk b o' :: Γ) (hpOf (World.putObj w b o')) := by
  have hb := hs.blk
  have hlt := hp_lt hb
  refine sat_update hs ?_ ?_
  · simp only [hpOf, World.putObj]; rw [Array.getElem?_setIfInBounds]; simp [hlt]
  · intro c hc; simp only [hpOf, World.putObj]; rw [Array.getElem?_setIfInBounds]; simp [Ne.symm hc]

end Go.Sl
end

section
/- The judgements of this session's walks: a frame's slots as a list, a heap in parts; one law an operation. No program. -/
namespace Go.Sl
open Go

/-! facts of a program's tables, found by number -/
class Und (P : Program) (t : TypeId) (d : outParam TypeDesc) : Prop where
  run : ∀ w, (underlying t).run P w = .ok d w
  fact : P.underlying t = some d
class AggT (P : Program) (t : TypeId) (b : outParam Bool) (n : outParam Nat) : Prop where
  agg : ∀ w, (isAgg t).run P w = .ok b w
  size : ∀ w, (sizeOf t).run P w = .ok n w
class ZeroT (P : Program) (t : TypeId) (z : outParam Value) : Prop where
  run : ∀ w, (zeroValue t).run P w = .ok z w
class BytesT (P : Program) (t : TypeId) (n : outParam Nat) : Prop where
  run : ∀ w, ∃ i, (typeInfo t).run P w = .ok i w ∧ i.bytes = n
class FOff (P : Program) (t : TypeId) (f : Nat) (off : outParam Nat) : Prop where
  run : ∀ w a, (Instr.fieldAt t (.pointer (some a)) f).run P w = .ok (.pointer (some (a.add off))) w
class CallT (P : Program) (f : FuncId) : Prop where
  run : ∀ args w, (callFunc f args).run P w = .ok (.enter f args) w

abbrev Env := List (Nat × Value)
def Env.get : Env → Nat → Option Value
  | [], _ => none
  | (k, v) :: r, t => bif Nat.beq k t then some v else Env.get r t

def evl (env : Env) : Operand → Option Value
  | .tmp t => env.get t
  | .const v => some v
  | .global g => some (.pointer (some ⟨g, 0, none⟩))
  | .func f => some (.func (.func f) #[] #[])
def evls (env : Env) : List Operand → Option (List Value)
  | [] => some []
  | x :: r => match evl env x with
    | some v => match evls env r with
      | some vs => some (v :: vs)
      | none => none
    | none => none

structure EnvOk (n : Nat) (a : Act) (env : Env) : Prop where
  size : a.tmps.size = n
  get : ∀ t v, env.get t = some v → a.tmps[t]? = some v

theorem EnvOk.evl {n : Nat} {a : Act} {env : Env} (h : EnvOk n a env) {x : Operand} {v : Value} (e : evl env x = some v) : a.eval x = v := by
  cases x with
  | tmp t => have := h.get t v e; simp [Act.eval, this]
  | const c => simp [Sl.evl] at e; exact e
  | global g => simp [Sl.evl] at e; exact e
  | func f => simp [Sl.evl] at e; exact e

theorem EnvOk.evls {n : Nat} {a : Act} {env : Env} (h : EnvOk n a env) : ∀ {l : List Operand} {vs : List Value}, evls env l = some vs → l.map a.eval = vs
  | [], vs, e => by simp [Sl.evls] at e; simpa using e
  | x :: r, vs, e => by
    unfold Sl.evls at e
    split at e
    · rename_i v hv
      split at e
      · rename_i ws hw; cases e; simp [h.evl hv, h.evls hw]
      · cases e
    · cases e

theorem EnvOk.put {n : Nat} {a : Act} {env : Env} (h : EnvOk n a env) {d : Nat} (hd : Nat.blt d n = true) (v : Value) : EnvOk n (a.put (some d) v) ((d, v) :: env) := by
  have hd' : d < n := by have := Nat.le_of_ble_eq_true hd; omega
  refine ⟨by simp [Act.put, h.size], fun t u e => ?_⟩
  unfold Env.get at e
  by_cases hdt : d = t
  · subst hdt; simp at e; subst e; simp [Act.put, h.size, hd']
  · have : Nat.beq d t = false := Bool.eq_false_iff.2 fun h => hdt (Nat.eq_of_beq_eq_true h)
    rw [this] at e; simp only [cond_false] at e
    have := h.get t u e
    simp [Act.put, hdt, this]

theorem EnvOk.sub {n : Nat} {a : Act} {env env' : Env} (h : EnvOk n a env) (hs : ∀ t v, env'.get t = some v → env.get t = some v) : EnvOk n a env' :=
  ⟨h.size, fun t v e => h.get t v (hs t v e)⟩

/-- each slot that the second list names has in the first what it names -/
def EnvSub (env : Env) : Env → Prop
  | [] => True
  | (k, v) :: r => env.get k = some v ∧ EnvSub env r
theorem EnvSub.get {env : Env} : ∀ {env' : Env}, EnvSub env env' → ∀ t v, env'.get t = some v → env.get t = some v
  | [], _, _, _, e => by simp [Env.get] at e
  | (k, u) :: r, h, t, v, e => by
    unfold Env.get at e
    cases hk : Nat.beq k t with
    | true => rw [hk] at e; simp at e; subst e; have : k = t := Nat.eq_of_beq_eq_true hk
              subst this; exact h.1
    | false => rw [hk] at e; exact EnvSub.get h.2 t v e

structure St (w0 : World) (n : Nat) (env : Env) (Γ : List HP) (a : Act) (w : World) : Prop where
  env : EnvOk n a env
  defers : a.defers = []
  evo : Evo w0 w
  sat : Sat Γ (hpOf w)

def WC (P : Program) (c : Code) (Q : Exit → Act → World → Prop) (w0 : World) (n : Nat) (env : Env) (Γ : List HP) : Prop :=
  ∀ a w, St w0 n env Γ a w → c.wp P Q a w
def WL (P : Program) (ops : Array Oper) (l : List Oper) (Q : Exit → Act → World → Prop) (w0 : World) (n : Nat) (env : Env) (Γ : List HP) : Prop :=
  ∀ a w, St w0 n env Γ a w → wpList P ops Q l a w
def WQ (Q : Exit → Act → World → Prop) (e : Exit) (w0 : World) (n : Nat) (env : Env) (Γ : List HP) : Prop :=
  ∀ a w, St w0 n env Γ a w → Q e a w
/-- a test: both ways -/
def WIf (t : Bool) (A B : Prop) : Prop := (t = true → A) ∧ (t = false → B)
theorem WIf.yes {A B : Prop} (h : A) : WIf true A B := ⟨fun _ => h, fun e => by cases e⟩
theorem WIf.no {A B : Prop} (h : B) : WIf false A B := ⟨(fun e => by cases e), fun _ => h⟩
theorem WIf.both {t : Bool} {A B : Prop} (h : t = true → A) (h' : t = false → B) : WIf t A B := ⟨h, h'⟩

section code
variable {P : Program} {Q : Exit → Act → World → Prop} {w0 : World} {n : Nat} {env : Env} {Γ : List HP}

theorem WC.ent {c : Code} {Γ' : List HP} (h : Ent Γ Γ') (k : WC P c Q w0 n env Γ') : WC P c Q w0 n env Γ :=
  fun a w s => k a w ⟨s.env, s.defers, s.evo, h _ s.sat⟩
theorem WL.ent {ops : Array Oper} {l : List Oper} {Γ' : List HP} (h : Ent Γ Γ') (k : WL P ops l Q w0 n env Γ') : WL P ops l Q w0 n env Γ :=
  fun a w s => k a w ⟨s.env, s.defers, s.evo, h _ s.sat⟩
theorem WQ.ent {e : Exit} {Γ' : List HP} (h : Ent Γ Γ') (k : WQ Q e w0 n env Γ') : WQ Q e w0 n env Γ :=
  fun a w s => k a w ⟨s.env, s.defers, s.evo, h _ s.sat⟩
theorem WC.slots {c : Code} {env' : Env} (h : EnvSub env env') (k : WC P c Q w0 n env' Γ) : WC P c Q w0 n env Γ :=
  fun a w s => k a w ⟨s.env.sub h.get, s.defers, s.evo, s.sat⟩
theorem WL.slots {ops : Array Oper} {l : List Oper} {env' : Env} (h : EnvSub env env') (k : WL P ops l Q w0 n env' Γ) : WL P ops l Q w0 n env Γ :=
  fun a w s => k a w ⟨s.env.sub h.get, s.defers, s.evo, s.sat⟩
/-- what the heap tells, of a world -/
theorem WC.tell {c : Code} {p : Prop} (h : ∀ x, Sat Γ x → p) (k : p → WC P c Q w0 n env Γ) : WC P c Q w0 n env Γ :=
  fun a w s => k (h _ s.sat) a w s
theorem WL.tell {ops : Array Oper} {l : List Oper} {p : Prop} (h : ∀ x, Sat Γ x → p) (k : p → WL P ops l Q w0 n env Γ) : WL P ops l Q w0 n env Γ :=
  fun a w s => k (h _ s.sat) a w s
/-- a part that is some one -/
theorem WC.ex {c : Code} {X : Sort _} {φ : X → Prop} {Γ' : X → List HP} (h : ∀ y, Sat Γ y → ∃ x, φ x ∧ Sat (Γ' x) y)
    (k : ∀ x, φ x → WC P c Q w0 n env (Γ' x)) : WC P c Q w0 n env Γ :=
  fun a w s => let ⟨x, hx, hs⟩ := h _ s.sat; k x hx a w ⟨s.env, s.defers, s.evo, hs⟩
theorem WL.ex {ops : Array Oper} {l : List Oper} {X : Sort _} {φ : X → Prop} {Γ' : X → List HP} (h : ∀ y, Sat Γ y → ∃ x, φ x ∧ Sat (Γ' x) y)
    (k : ∀ x, φ x → WL P ops l Q w0 n env (Γ' x)) : WL P ops l Q w0 n env Γ :=
  fun a w s => let ⟨x, hx, hs⟩ := h _ s.sat; k x hx a w ⟨s.env, s.defers, s.evo, hs⟩
theorem WQ.ex {e : Exit} {X : Sort _} {φ : X → Prop} {Γ' : X → List HP} (h : ∀ y, Sat Γ y → ∃ x, φ x ∧ Sat (Γ' x) y)
    (k : ∀ x, φ x → WQ Q e w0 n env (Γ' x)) : WQ Q e w0 n env Γ :=
  fun a w s => let ⟨x, hx, hs⟩ := h _ s.sat; k x hx a w ⟨s.env, s.defers, s.evo, hs⟩

theorem wc_seq {x y : Code} (h : WC P x (Exit.then (y.wp P Q) Q) w0 n env Γ) : WC P (.seq x y) Q w0 n env Γ := fun a w s => wp_seq (h a w s)
theorem wc_block {id : Nat} {c : Code} (h : WC P c (Exit.inBlock id Q) w0 n env Γ) : WC P (.block id c) Q w0 n env Γ := fun a w s => wp_block (h a w s)
theorem wc_skip (h : WQ Q .normal w0 n env Γ) : WC P .skip Q w0 n env Γ := fun a w s => wp_skip (h a w s)
theorem wc_ret (h : WQ Q .ret w0 n env Γ) : WC P .ret Q w0 n env Γ := fun a w s => wp_ret (h a w s)
theorem wc_exit {id : Nat} (h : WQ Q (.exit id) w0 n env Γ) : WC P (.exit id) Q w0 n env Γ := fun a w s => wp_exit (h a w s)
theorem wc_cond {c : Operand} {x y : Code} {t : Bool} (hc : evl env c = some (.bool t)) (h : WIf t (WC P x Q w0 n env Γ) (WC P y Q w0 n env Γ)) :
    WC P (.cond c x y) Q w0 n env Γ :=
  fun a w s => wp_cond_split (s.env.evl hc) (fun e => h.1 e a w s) (fun e => h.2 e a w s)
theorem wc_region {id : Nat} {l : List Oper} (h : WL P l.toArray l Q w0 n env Γ) : WC P (.region id l.toArray false) Q w0 n env Γ :=
  fun a w s => wp_region_lit (h a w s)
theorem wl_nil {ops : Array Oper} (h : WQ Q .normal w0 n env Γ) : WL P ops [] Q w0 n env Γ := fun a w s => wpList_nil (h a w s)

theorem wq_next {y : Code} {Q' : Exit → Act → World → Prop} (h : WC P y Q w0 n env Γ) : WQ (Exit.then (y.wp P Q) Q') .normal w0 n env Γ := h
theorem wq_then_exit {K : Act → World → Prop} {i : Nat} (h : WQ Q (.exit i) w0 n env Γ) : WQ (Exit.then K Q) (.exit i) w0 n env Γ := h
theorem wq_then_ret {K : Act → World → Prop} (h : WQ Q .ret w0 n env Γ) : WQ (Exit.then K Q) .ret w0 n env Γ := h
theorem wq_block_normal {id : Nat} (h : WQ Q .normal w0 n env Γ) : WQ (Exit.inBlock id Q) .normal w0 n env Γ := h
theorem wq_block_ret {id : Nat} (h : WQ Q .ret w0 n env Γ) : WQ (Exit.inBlock id Q) .ret w0 n env Γ := h
theorem wq_block_exit {id : Nat} (h : WQ Q .normal w0 n env Γ) : WQ (Exit.inBlock id Q) (.exit id) w0 n env Γ :=
  fun a w s => by simp only [Exit.inBlock, if_true]; exact h a w s
theorem wq_block_other {id i : Nat} (hi : Nat.beq i id = false) (h : WQ Q (.exit i) w0 n env Γ) : WQ (Exit.inBlock id Q) (.exit i) w0 n env Γ :=
  fun a w s => by
    have : i ≠ id := Nat.ne_of_beq_eq_false hi
    simp only [Exit.inBlock, this, if_false]; exact h a w s

/-- what a round's end must bring about -/
def LoopQ {X : Type} (w0 : World) (n : Nat) (env : X → Env) (Γ : X → List HP) (inv : X → Prop) (μ : X → Nat) (x : X) (Q : Exit → Act → World → Prop) : Exit → Act → World → Prop :=
  Exit.then (fun a w => ∃ y, inv y ∧ μ y < μ x ∧ St w0 n (env y) (Γ y) a w) Q

theorem wc_loop {c : Code} {X : Type} (env' : X → Env) (Γ' : X → List HP) (inv : X → Prop) (μ : X → Nat) (x : X) (h0 : inv x)
    (he : EnvSub env (env' x)) (hg : Ent Γ (Γ' x))
    (h : ∀ x, inv x → WC P c (LoopQ w0 n env' Γ' inv μ x Q) w0 n (env' x) (Γ' x)) : WC P (.loop c) Q w0 n env Γ := by
  intro a w s b k cs
  have key : ∀ m x a w, μ x = m → inv x → St w0 n (env' x) (Γ' x) a w →
      ∃ e a' w', Q e a' w' ∧ Arrives P (lone (b.at a (.code c :: .inLoop c :: k)) cs w) b k cs e a' w' := by
    intro m
    induction m using Nat.strongRecOn with
    | _ m ih =>
      intro x a w hm hi hs
      obtain ⟨e, a₁, w₁, hq, harr⟩ := h x hi a w hs b (.inLoop c :: k) cs
      cases e with
      | normal =>
        obtain ⟨y, hy, hlt, hst⟩ := hq
        obtain ⟨e₂, a₂, w₂, hq₂, harr₂⟩ := ih (μ y) (hm ▸ hlt) y a₁ w₁ rfl hy hst
        exact ⟨e₂, a₂, w₂, hq₂, .of_steps (Steps.trans harr (.one step_inLoop)) harr₂⟩
      | exit id => exact ⟨_, a₁, w₁, hq, .pass (x := .inLoop c) rfl (fun _ _ => .inl (by simp)) harr⟩
      | goto l => exact ⟨_, a₁, w₁, hq, .pass (x := .inLoop c) rfl (fun _ _ => .inl (by simp)) harr⟩
      | ret => exact ⟨_, a₁, w₁, hq, .pass (x := .inLoop c) rfl (fun _ _ => .inl (by simp)) harr⟩
      | panic ch => exact ⟨_, a₁, w₁, hq, .pass (x := .inLoop c) rfl (fun _ _ => .inl (by simp)) harr⟩
      | outgrown => exact ⟨_, a₁, w₁, hq, .pass (x := .inLoop c) rfl (fun _ _ => .inl (by simp)) harr⟩
  obtain ⟨e, a', w', hq, harr⟩ := key _ x a w rfl h0 ⟨s.env.sub he.get, s.defers, s.evo, hg _ s.sat⟩
  exact ⟨e, a', w', hq, .of_steps (.one step_loop) harr⟩

theorem wq_round {X : Type} {env' : X → Env} {Γ' : X → List HP} {inv : X → Prop} {μ : X → Nat} {x : X} (y : X) (hi : inv y) (hm : μ y < μ x)
    (he : EnvSub env (env' y)) (hg : Ent Γ (Γ' y)) : WQ (LoopQ w0 n env' Γ' inv μ x Q) .normal w0 n env Γ :=
  fun _ _ s => ⟨y, hi, hm, s.env.sub he.get, s.defers, s.evo, hg _ s.sat⟩
theorem wq_loop_exit {X : Type} {env' : X → Env} {Γ' : X → List HP} {inv : X → Prop} {μ : X → Nat} {x : X} {i : Nat} (h : WQ Q (.exit i) w0 n env Γ) :
    WQ (LoopQ w0 n env' Γ' inv μ x Q) (.exit i) w0 n env Γ := h
theorem wq_loop_ret {X : Type} {env' : X → Env} {Γ' : X → List HP} {inv : X → Prop} {μ : X → Nat} {x : X} (h : WQ Q .ret w0 n env Γ) :
    WQ (LoopQ w0 n env' Γ' inv μ x Q) .ret w0 n env Γ := h

/-- ways meet: what holds of them all -/
theorem wq_meet {Q' : Exit → Act → World → Prop} {X : Type} (env' : X → Env) (Γ' : X → List HP) (φ : X → Prop)
    (x : X) (hφ : φ x) (he : EnvSub env (env' x)) (hg : Ent Γ (Γ' x)) :
    WQ (Exit.then (fun a w => ∃ x, φ x ∧ St w0 n (env' x) (Γ' x) a w) Q') .normal w0 n env Γ :=
  fun _ _ s => ⟨x, hφ, s.env.sub he.get, s.defers, s.evo, hg _ s.sat⟩
theorem wc_meet {x y : Code} {X : Type} (env' : X → Env) (Γ' : X → List HP) (φ : X → Prop)
    (h : WC P x (Exit.then (fun a w => ∃ x, φ x ∧ St w0 n (env' x) (Γ' x) a w) Q) w0 n env Γ) (k : ∀ x, φ x → WC P y Q w0 n (env' x) (Γ' x)) :
    WC P (.seq x y) Q w0 n env Γ :=
  fun a w s => wp_seq (Code.wp_mono (fun e a w q => by
    cases e with
    | normal => obtain ⟨x, hx, hs⟩ := q; exact k x hx a w hs
    | exit i => exact q
    | goto l => exact q
    | ret => exact q
    | panic c => exact q
    | outgrown => exact q) (h a w s))

end code

/-! the panics that go through -/
class Thru (Q : Exit → Act → World → Prop) (R : outParam (Ending → World → Prop)) : Prop where
  panic : ∀ c a w, a.defers = [] → R (.panicked c) w → Q (.panic c) a w
instance {P : Program} {fn : Func} {R : Ending → World → Prop} : Thru (bodyPost P fn R) R := ⟨fun _ _ _ hd h => ⟨hd, h⟩⟩
instance {K : Act → World → Prop} {Q : Exit → Act → World → Prop} {R : Ending → World → Prop} [t : Thru Q R] : Thru (Exit.then K Q) R := ⟨t.panic⟩
instance {id : Nat} {Q : Exit → Act → World → Prop} {R : Ending → World → Prop} [t : Thru Q R] : Thru (Exit.inBlock id Q) R := ⟨t.panic⟩
instance {X : Type} {w0 : World} {n : Nat} {env : X → Env} {Γ : X → List HP} {inv : X → Prop} {μ : X → Nat} {x : X} {Q : Exit → Act → World → Prop} {R : Ending → World → Prop} [t : Thru Q R] :
    Thru (LoopQ w0 n env Γ inv μ x Q) R := ⟨t.panic⟩

/-! what a call brings about -/
/-- The call returns: some x of which φ holds, with the value v x, the heap post x; or it panics with the chain: some y. The frame F stays. -/
def Spec (P : Program) (f : FuncId) (args : List Value) (rd : Hp → Prop) (pre : List HP → List HP) {X Y : Type} (φ : X → Prop) (v : X → Value) (post : X → List HP → List HP)
    (φc : Y → Prop) (chain : List PanicEntry) (postc : Y → List HP → List HP) : Prop :=
  ∀ F w, (∀ h, Sat F h → rd h) → Sat (pre F) (hpOf w) → Calls P f args.toArray w fun e w' =>
    Evo w w' ∧ ((∃ x, φ x ∧ e = .returned (v x) ∧ Sat (post x F) (hpOf w')) ∨ (∃ y, φc y ∧ e = .panicked chain ∧ Sat (postc y F) (hpOf w')))

/-- a call that always returns -/
def Spec0 (P : Program) (f : FuncId) (args : List Value) (rd : Hp → Prop) (pre : List HP → List HP) {X : Type} (φ : X → Prop) (v : X → Value) (post : X → List HP → List HP) : Prop :=
  Spec P f args rd pre φ v post (fun _ : Unit => False) [] (fun _ F => F)

def SpecR (w0 : World) (F : List HP) {X Y : Type} (φ : X → Prop) (v : X → Value) (post : X → List HP → List HP)
    (φc : Y → Prop) (chain : List PanicEntry) (postc : Y → List HP → List HP) : Ending → World → Prop := fun e w' =>
  Evo w0 w' ∧ ((∃ x, φ x ∧ e = .returned (v x) ∧ Sat (post x F) (hpOf w')) ∨ (∃ y, φc y ∧ e = .panicked chain ∧ Sat (postc y F) (hpOf w')))

def argEnv : Nat → List Value → Env
  | _, [] => []
  | i, v :: r => (i, v) :: argEnv (i + 1) r
theorem argEnv_get : ∀ (l : List Value) (i t : Nat) (v : Value), (argEnv i l).get t = some v → i ≤ t ∧ l[t - i]? = some v
  | [], _, _, _, e => by simp [argEnv, Env.get] at e
  | u :: r, i, t, v, e => by
    unfold argEnv Env.get at e
    cases hk : Nat.beq i t with
    | true =>
      have : i = t := Nat.eq_of_beq_eq_true hk
      rw [hk] at e; simp at e; subst e; subst this; simp
    | false =>
      have hne : i ≠ t := Nat.ne_of_beq_eq_false hk
      rw [hk] at e
      obtain ⟨h1, h2⟩ := argEnv_get r (i + 1) t v e
      refine ⟨by omega, ?_⟩
      rw [show t - i = (t - (i + 1)) + 1 from by omega]; simpa using h2

theorem spec_of {P : Program} {f : FuncId} {fn : Func} {c : Code} {args : List Value} {rd : Hp → Prop} {pre : List HP → List HP} {X Y : Type} {φ : X → Prop} {v : X → Value} {post : X → List HP → List HP}
    {φc : Y → Prop} {chain : List PanicEntry} {postc : Y → List HP → List HP} {n : Nat} (hf : P.funcs[f]? = some fn) (hb : fn.body = some c) (hn : fn.ntmps = n) (ha : Nat.ble args.length n = true)
    (h : ∀ F w0, (∀ h, Sat F h → rd h) → WC P c (bodyPost P fn (SpecR w0 F φ v post φc chain postc)) w0 n (argEnv 0 args) (pre F)) :
    Spec P f args rd pre φ v post φc chain postc := by
  intro F w hr hs
  subst hn
  refine calls_of_wp hf hb (h F w hr _ _ ⟨⟨?_, ?_⟩, rfl, Evo.refl w, hs⟩)
  · have : args.length ≤ fn.ntmps := by simpa using ha
    simp; omega
  · intro t u e
    obtain ⟨_, e⟩ := argEnv_get args 0 t u e
    rw [Nat.sub_zero] at e
    have : t < args.length := (List.getElem?_eq_some_iff.1 e).1
    rw [Array.getElem?_append_left (by simpa using this)]; simpa using e

section ret
variable {P : Program} {fn : Func} {w0 : World} {n : Nat} {env : Env} {Γ F : List HP} {X Y : Type} {φ : X → Prop} {v : X → Value} {post : X → List HP → List HP}
    {φc : Y → Prop} {chain : List PanicEntry} {postc : Y → List HP → List HP}

theorem EnvOk.getD {n : Nat} {a : Act} {env : Env} (h : EnvOk n a env) {t : Nat} {u : Value} (e : env.get t = some u) : a.tmps.getD t undef = u := by
  have := h.get t u e; simp [this]

theorem wq_ret1 {t : Tmp} {u : Value} (hr : fn.results = #[.tmp t]) (hu : env.get t = some u) (x : X) (hv : u = v x) (hφ : φ x) (hg : Ent Γ (post x F)) :
    WQ (bodyPost P fn (SpecR w0 F φ v post φc chain postc)) .ret w0 n env Γ := fun a w s =>
  ⟨s.defers, u, by rw [results_tmp hr, s.env.getD hu], s.evo, .inl ⟨x, hφ, by rw [hv], hg _ s.sat⟩⟩
theorem wq_end0 (hr : fn.results = #[]) (x : X) (hv : .tuple #[] = v x) (hφ : φ x) (hg : Ent Γ (post x F)) :
    WQ (bodyPost P fn (SpecR w0 F φ v post φc chain postc)) .normal w0 n env Γ := fun a w s =>
  ⟨s.defers, .tuple #[], by rw [results_none hr], s.evo, .inl ⟨x, hφ, by rw [hv], hg _ s.sat⟩⟩
theorem wq_ret0 (hr : fn.results = #[]) (x : X) (hv : .tuple #[] = v x) (hφ : φ x) (hg : Ent Γ (post x F)) :
    WQ (bodyPost P fn (SpecR w0 F φ v post φc chain postc)) .ret w0 n env Γ := fun a w s =>
  ⟨s.defers, .tuple #[], by rw [results_none hr], s.evo, .inl ⟨x, hφ, by rw [hv], hg _ s.sat⟩⟩
theorem wq_ret2 {t t' : Tmp} {u u' : Value} (hr : fn.results = #[.tmp t, .tmp t']) (hu : env.get t = some u) (hu' : env.get t' = some u') (x : X) (hv : .tuple #[u, u'] = v x) (hφ : φ x) (hg : Ent Γ (post x F)) :
    WQ (bodyPost P fn (SpecR w0 F φ v post φc chain postc)) .ret w0 n env Γ := fun a w s =>
  ⟨s.defers, .tuple #[u, u'], by rw [results_tmp2 hr, s.env.getD hu, s.env.getD hu'], s.evo, .inl ⟨x, hφ, by rw [hv], hg _ s.sat⟩⟩
theorem results_tmp3 {fn : Func} {t u s : Tmp} (h : fn.results = #[.tmp t, .tmp u, .tmp s]) (tmps : Array Value) (P : Program) (w : World) :
    (results fn tmps).run P w = .ok (.tuple #[tmps.getD t undef, tmps.getD u undef, tmps.getD s undef]) w := by
  simp [results, h]
theorem wq_ret3 {t t' t'' : Tmp} {u u' u'' : Value} (hr : fn.results = #[.tmp t, .tmp t', .tmp t'']) (hu : env.get t = some u) (hu' : env.get t' = some u') (hu'' : env.get t'' = some u'') (x : X) (hv : .tuple #[u, u', u''] = v x) (hφ : φ x) (hg : Ent Γ (post x F)) :
    WQ (bodyPost P fn (SpecR w0 F φ v post φc chain postc)) .ret w0 n env Γ := fun a w s =>
  ⟨s.defers, .tuple #[u, u', u''], by rw [results_tmp3 hr, s.env.getD hu, s.env.getD hu', s.env.getD hu''], s.evo, .inl ⟨x, hφ, by rw [hv], hg _ s.sat⟩⟩
end ret
end Go.Sl
end
