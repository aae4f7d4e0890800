/- The ground of this session's proofs: heaps in parts, and what holds of a world whose heap has such parts. No program. -/
import Derived.Tactics
import Derived.Orders
import Derived.Laws.Sem
namespace Go.Sl
open Go

abbrev Hp := Nat → Option Obj
abbrev HP := Hp → Prop
abbrev Bytes := List UInt8

def hpOf (w : World) : Hp := fun b => w.heap[b]?
def Hle (h1 h2 : Hp) : Prop := ∀ b o, h1 b = some o → h2 b = some o
def Hdis (h1 h2 : Hp) : Prop := ∀ b, h1 b = none ∨ h2 b = none

theorem Hle.refl (h : Hp) : Hle h h := fun _ _ e => e
theorem Hle.trans {a b c : Hp} (h1 : Hle a b) (h2 : Hle b c) : Hle a c := fun x o e => h2 x o (h1 x o e)
theorem Hdis.symm {a b : Hp} (h : Hdis a b) : Hdis b a := fun x => (h x).symm
theorem Hdis.le {a b a' b' : Hp} (h : Hdis a b) (ha : Hle a' a) (hb : Hle b' b) : Hdis a' b' := by
  intro x
  rcases h x with h | h
  · left
    cases e : a' x with
    | none => rfl
    | some o => rw [ha x o e] at h; cases h
  · right
    cases e : b' x with
    | none => rfl
    | some o => rw [hb x o e] at h; cases h

/-- the join of two heaps, the first ahead -/
def Hjoin (a b : Hp) : Hp := fun x => match a x with | some o => some o | none => b x
theorem Hjoin.left (a b : Hp) : Hle a (Hjoin a b) := fun x o e => by simp [Hjoin, e]
theorem Hjoin.right {a b : Hp} (h : Hdis a b) : Hle b (Hjoin a b) := fun x o e => by
  rcases h x with h | h
  · simp [Hjoin, h, e]
  · rw [e] at h; cases h
theorem Hjoin.le {a b c : Hp} (ha : Hle a c) (hb : Hle b c) : Hle (Hjoin a b) c := fun x o e => by
  unfold Hjoin at e
  cases ea : a x with
  | some o' => rw [ea] at e; exact ha x o (by rw [ea]; exact e)
  | none => rw [ea] at e; exact hb x o e
theorem Hjoin.dis {a b c : Hp} (ha : Hdis a c) (hb : Hdis b c) : Hdis (Hjoin a b) c := fun x => by
  unfold Hjoin
  rcases ha x with h | h
  · rcases hb x with h' | h'
    · left; simp [h, h']
    · right; exact h'
  · right; exact h

def Sat : List HP → Hp → Prop
  | [], _ => True
  | A :: l, h => ∃ h1 h2, Hle h1 h ∧ Hle h2 h ∧ Hdis h1 h2 ∧ A h1 ∧ Sat l h2

theorem Sat.mono {l : List HP} {h h' : Hp} (hl : Hle h h') (hs : Sat l h) : Sat l h' := by
  cases l with
  | nil => trivial
  | cons A l => obtain ⟨h1, h2, a, b, c, d, e⟩ := hs; exact ⟨h1, h2, a.trans hl, b.trans hl, c, d, e⟩

theorem Sat.tail {A : HP} {l : List HP} {h : Hp} (hs : Sat (A :: l) h) : Sat l h := by
  obtain ⟨_, _, _, b, _, _, e⟩ := hs; exact e.mono b

theorem Sat.imp {A B : HP} {l : List HP} {h : Hp} (hab : ∀ h, A h → B h) (hs : Sat (A :: l) h) : Sat (B :: l) h := by
  obtain ⟨h1, h2, a, b, c, d, e⟩ := hs; exact ⟨h1, h2, a, b, c, hab _ d, e⟩

theorem Sat.cons {A : HP} {l l' : List HP} (hl : ∀ h, Sat l h → Sat l' h) {h : Hp} (hs : Sat (A :: l) h) : Sat (A :: l') h := by
  obtain ⟨h1, h2, a, b, c, d, e⟩ := hs; exact ⟨h1, h2, a, b, c, d, hl _ e⟩

theorem Sat.swap {A B : HP} {l : List HP} {h : Hp} (hs : Sat (A :: B :: l) h) : Sat (B :: A :: l) h := by
  obtain ⟨h1, h2, a, b, c, d, h3, h4, p, q, r, s, t⟩ := hs
  refine ⟨h3, Hjoin h1 h4, p.trans b, Hjoin.le a (q.trans b), ?_, s, h1, h4, Hjoin.left _ _, ?_, ?_, d, t⟩
  · exact (Hjoin.dis (c.le (Hle.refl _) p) r.symm).symm
  · exact Hjoin.right (c.le (Hle.refl _) q)
  · exact c.le (Hle.refl _) q

theorem Sat.app {l l' : List HP} {h : Hp} : Sat (l ++ l') h ↔ Sat (Sat l :: l') h := by
  induction l generalizing h with
  | nil =>
    constructor
    · intro hs; exact ⟨fun _ => none, h, (fun _ _ e => by cases e), Hle.refl _, (fun _ => Or.inl rfl), trivial, hs⟩
    · intro hs; exact hs.tail
  | cons A l ih =>
    constructor
    · intro hs
      obtain ⟨h1, h2, a, b, c, d, e⟩ := hs
      obtain ⟨h3, h4, p, q, r, s, t⟩ := ih.1 e
      refine ⟨Hjoin h1 h3, h4, Hjoin.le a (p.trans b), q.trans b, Hjoin.dis (c.le (Hle.refl _) q) r, ?_, t⟩
      exact ⟨h1, h3, Hjoin.left _ _, Hjoin.right (c.le (Hle.refl _) p), c.le (Hle.refl _) p, d, s⟩
    · intro hs
      obtain ⟨h1, h2, a, b, c, ⟨h3, h4, p, q, r, s, t⟩, e⟩ := hs
      refine ⟨h3, Hjoin h4 h2, p.trans a, Hjoin.le (q.trans a) b, ?_, s, ?_⟩
      · exact (Hjoin.dis r.symm (c.le p (Hle.refl _)).symm).symm
      · exact ih.2 ⟨h4, h2, Hjoin.left _ _, Hjoin.right (c.le q (Hle.refl _)), c.le q (Hle.refl _), t, e⟩

theorem Sat.ex {α : Sort _} {A : α → HP} {l : List HP} {h : Hp} : Sat ((fun h => ∃ x, A x h) :: l) h ↔ ∃ x, Sat (A x :: l) h := by
  constructor
  · rintro ⟨h1, h2, a, b, c, ⟨x, d⟩, e⟩; exact ⟨x, h1, h2, a, b, c, d, e⟩
  · rintro ⟨x, h1, h2, a, b, c, d, e⟩; exact ⟨h1, h2, a, b, c, ⟨x, d⟩, e⟩

theorem Sat.pur {p : Prop} {A : HP} {l : List HP} {h : Hp} : Sat ((fun h => p ∧ A h) :: l) h ↔ p ∧ Sat (A :: l) h := by
  constructor
  · rintro ⟨h1, h2, a, b, c, ⟨x, d⟩, e⟩; exact ⟨x, h1, h2, a, b, c, d, e⟩
  · rintro ⟨x, h1, h2, a, b, c, d, e⟩; exact ⟨h1, h2, a, b, c, ⟨x, d⟩, e⟩

theorem Sat.one {A : HP} {l : List HP} {h : Hp} (hs : Sat (A :: l) h) : ∃ h1, Hle h1 h ∧ A h1 := by
  obtain ⟨h1, _, a, _, _, d, _⟩ := hs; exact ⟨h1, a, d⟩

/-- what follows from what -/
def Ent (Γ Γ' : List HP) : Prop := ∀ h, Sat Γ h → Sat Γ' h
theorem Ent.refl {Γ : List HP} : Ent Γ Γ := fun _ h => h
theorem Ent.trans {Γ Γ' Γ'' : List HP} (h : Ent Γ Γ') (h' : Ent Γ' Γ'') : Ent Γ Γ'' := fun _ x => h' _ (h _ x)
theorem Ent.drop {A : HP} {Γ Γ' : List HP} (h : Ent Γ Γ') : Ent (A :: Γ) Γ' := fun _ x => h _ x.tail
theorem Ent.skip {A : HP} {Γ Γ' : List HP} (h : Ent Γ Γ') : Ent (A :: Γ) (A :: Γ') := fun _ x => x.cons h
theorem Ent.swap {A B : HP} {Γ : List HP} : Ent (A :: B :: Γ) (B :: A :: Γ) := fun _ x => x.swap
theorem Ent.imp {A B : HP} {Γ : List HP} (h : ∀ h, A h → B h) : Ent (A :: Γ) (B :: Γ) := fun _ x => x.imp h
theorem Ent.nil {Γ : List HP} : Ent Γ [] := fun _ _ => trivial

/-- a part is taken to the front: what it is of is known -/
class Pick (Γ : List HP) (A : HP) (Γ' : outParam (List HP)) : Prop where
  pick : Ent Γ (A :: Γ')
instance (priority := high) Pick.here {A : HP} {Γ : List HP} : Pick (A :: Γ) A Γ := ⟨Ent.refl⟩
instance (priority := low) Pick.there {A B : HP} {Γ Γ' : List HP} [h : Pick Γ A Γ'] : Pick (B :: Γ) A (B :: Γ') := ⟨(Ent.skip h.pick).trans Ent.swap⟩

theorem Ent.cons {A : HP} {Γ Γ1 Γ' : List HP} [p : Pick Γ A Γ1] (h : Ent Γ1 Γ') : Ent Γ (A :: Γ') := p.pick.trans (Ent.skip h)

/-- the block b is this object -/
def Blk (b : Nat) (o : Obj) : HP := fun h => h b = some o
/-- the block b is a row of cells, none of them frozen -/
def Cells (b : Nat) (cs : List Value) : HP := fun h => ∃ T, h b = some (.cells cs.toArray T (0, 0))

class PickB (Γ : List HP) (b : Nat) (o : outParam Obj) (Γ' : outParam (List HP)) : Prop where
  pick : Ent Γ (Blk b o :: Γ')
instance (priority := high) PickB.here {b : Nat} {o : Obj} {Γ : List HP} : PickB (Blk b o :: Γ) b o Γ := ⟨Ent.refl⟩
instance (priority := low) PickB.there {b : Nat} {o : Obj} {B : HP} {Γ Γ' : List HP} [h : PickB Γ b o Γ'] : PickB (B :: Γ) b o (B :: Γ') := ⟨(Ent.skip h.pick).trans Ent.swap⟩
class PickC (Γ : List HP) (b : Nat) (cs : outParam (List Value)) (Γ' : outParam (List HP)) : Prop where
  pick : Ent Γ (Cells b cs :: Γ')
instance (priority := high) PickC.here {b : Nat} {cs : List Value} {Γ : List HP} : PickC (Cells b cs :: Γ) b cs Γ := ⟨Ent.refl⟩
instance (priority := low) PickC.there {b : Nat} {cs : List Value} {B : HP} {Γ Γ' : List HP} [h : PickC Γ b cs Γ'] : PickC (B :: Γ) b cs (B :: Γ') := ⟨(Ent.skip h.pick).trans Ent.swap⟩

/-- what a call leaves of the world but the heap -/
structure Evo (w w' : World) : Prop where
  os : w'.os = w.os
  tape : w'.tape = w.tape
  output : w'.output = w.output
  size : w.heap.size ≤ w'.heap.size
theorem Evo.refl (w : World) : Evo w w := ⟨rfl, rfl, rfl, Nat.le_refl _⟩
theorem Evo.trans {a b c : World} (h : Evo a b) (h' : Evo b c) : Evo a c :=
  ⟨h'.os.trans h.os, h'.tape.trans h.tape, h'.output.trans h.output, Nat.le_trans h.size h'.size⟩

/-! what the steps of a world do to its heap -/
theorem hp_drew (w : World) : hpOf w.drew = hpOf w := rfl
theorem evo_drew (w : World) : Evo w w.drew := ⟨rfl, rfl, rfl, Nat.le_refl _⟩
theorem evo_alloc (w : World) (o : Obj) : Evo w (w.alloc o) := ⟨rfl, rfl, rfl, by simp⟩

theorem hp_alloc (w : World) (o : Obj) (b : Nat) : hpOf (w.alloc o) b = if b = w.heap.size then some o else hpOf w b := by
  simp only [hpOf, World.alloc]
  rw [Array.getElem?_push]

theorem hp_size (w : World) : hpOf w w.heap.size = none := by simp [hpOf]
theorem hp_lt {w : World} {b : Nat} {o : Obj} (h : hpOf w b = some o) : b < w.heap.size := by
  unfold hpOf at h; exact (Array.getElem?_eq_some_iff.1 h).1

theorem sat_alloc {Γ : List HP} {w : World} (o : Obj) (h : Sat Γ (hpOf w)) : Sat (Blk w.heap.size o :: Γ) (hpOf (w.alloc o)) := by
  refine ⟨fun b => if b = w.heap.size then some o else none, hpOf w, ?_, ?_, ?_, by simp [Blk], h⟩
  · intro b o' e; rw [hp_alloc]; dsimp only at e; split at e <;> simp_all
  · intro b o' e; rw [hp_alloc]; have := hp_lt e; rw [if_neg (by omega)]; exact e
  · intro b; by_cases hb : b = w.heap.size
    · right; rw [hb]; exact hp_size w
    · left; simp [hb]

theorem sat_alloc_cells {Γ : List HP} {w : World} (cs : List Value) (T : TypeId) (h : Sat Γ (hpOf w)) :
    Sat (Cells w.heap.size cs :: Γ) (hpOf (w.alloc (.cells cs.toArray T))) :=
  (sat_alloc _ h).imp fun _ e => ⟨T, e⟩

/-- a block is written: the others stay -/
theorem sat_update {Γ : List HP} {w w' : World} {b : Nat} {o o' : Obj} (h : Sat (Blk b o :: Γ) (hpOf w))
    (hb : hpOf w' b = some o') (hne : ∀ c, c ≠ b → hpOf w' c = hpOf w c) : Sat (Blk b o' :: Γ) (hpOf w') := by
  obtain ⟨h1, h2, a, c, d, e, f⟩ := h
  have h2b : h2 b = none := by
    rcases d b with d | d
    · rw [show h1 b = some o from e] at d; cases d
    · exact d
  refine ⟨fun x => if x = b then some o' else none, h2, ?_, ?_, ?_, by simp [Blk], f⟩
  · intro x y hx; dsimp only at hx; split at hx
    · rename_i hxb; rw [hxb, hb]; exact hx
    · cases hx
  · intro x y hx
    have : x ≠ b := fun hxb => by rw [hxb, h2b] at hx; cases hx
    rw [hne x this]; exact c x y hx
  · intro x; by_cases hx : x = b
    · right; rw [hx]; exact h2b
    · left; simp [hx]

theorem Sat.blk {Γ : List HP} {h : Hp} {b : Nat} {o : Obj} (hs : Sat (Blk b o :: Γ) h) : h b = some o := by
  obtain ⟨h1, a, e⟩ := hs.one; exact a _ _ e
theorem Sat.cells {Γ : List HP} {h : Hp} {b : Nat} {cs : List Value} (hs : Sat (Cells b cs :: Γ) h) : ∃ T, h b = some (.cells cs.toArray T (0, 0)) := by
  obtain ⟨h1, a, T, e⟩ := hs.one; exact ⟨T, a _ _ e⟩

theorem cell_of_hp {w : World} {b : Nat} {cs : List Value} {T : TypeId} {fr : Nat × Nat} (h : hpOf w b = some (.cells cs.toArray T fr)) (i : Nat) :
    w.cell? ⟨b, i, none⟩ = cs[i]? := by
  unfold hpOf at h; simp [World.cell?, h]
theorem frozen_of_hp {w : World} {b : Nat} {cs : List Value} {T : TypeId} (h : hpOf w b = some (.cells cs.toArray T (0, 0))) (i : Nat) :
    w.frozen? ⟨b, i, none⟩ = false := by
  unfold hpOf at h; simp [World.frozen?, h]

theorem evo_setCell (w : World) (a : Addr) (v : Value) : Evo w (w.setCell a v) := ⟨rfl, rfl, rfl, by simp⟩
theorem hp_setCell_ne (w : World) (b i : Nat) (v : Value) (c : Nat) (hc : c ≠ b) : hpOf (w.setCell ⟨b, i, none⟩ v) c = hpOf w c := by
  simp only [hpOf, World.setCell]; rw [Array.getElem?_modify]; simp [Ne.symm hc]
theorem hp_setCell_eq {w : World} {b : Nat} {cs : List Value} {T : TypeId} (h : hpOf w b = some (.cells cs.toArray T (0, 0))) (i : Nat) (v : Value) :
    hpOf (w.setCell ⟨b, i, none⟩ v) b = some (.cells (cs.set i v).toArray T (0, 0)) := by
  unfold hpOf at h ⊢; simp only [World.setCell]; rw [Array.getElem?_modify]; simp [h]

theorem sat_setCell {Γ : List HP} {w : World} {b : Nat} {cs : List Value} (hs : Sat (Cells b cs :: Γ) (hpOf w)) (i : Nat) (v : Value) :
    Sat (Cells b (cs.set i v) :: Γ) (hpOf (w.setCell ⟨b, i, none⟩ v)) := by
  obtain ⟨h1, h2, a, c, d, ⟨T, e⟩, f⟩ := hs
  have hb : hpOf w b = some (.cells cs.toArray T (0, 0)) := a _ _ e
  have h := sat_update (Γ := Γ) (w := w) (w' := w.setCell ⟨b, i, none⟩ v) (b := b) ⟨h1, h2, a, c, d, e, f⟩ (hp_setCell_eq hb i v)
    (fun c hc => hp_setCell_ne w b i v c hc)
  exact h.imp fun _ e => ⟨T, e⟩

/-- an object that is no row of cells is laid anew -/
def World.putObj (w : World) (r : Nat) (o : Obj) : World := { w with heap := w.heap.setIfInBounds r o }
theorem evo_putObj (w : World) (r : Nat) (o : Obj) : Evo w (World.putObj w r o) := ⟨rfl, rfl, rfl, by simp [World.putObj]⟩
theorem sat_putObj {Γ : List HP} {w : World} {b : Nat} {o : Obj} (hs : Sat (Blk b o :: Γ) (hpOf w)) (o' : Obj) :
    Sat (Blk b o' :: Γ) (hpOf (World.putObj w b o')) := by
  have hb := hs.blk
  have hlt := hp_lt hb
  refine sat_update hs ?_ ?_
  · simp only [hpOf, World.putObj]; rw [Array.getElem?_setIfInBounds]; simp [hlt]
  · intro c hc; simp only [hpOf, World.putObj]; rw [Array.getElem?_setIfInBounds]; simp [Ne.symm hc]

end Go.Sl
