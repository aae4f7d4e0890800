/- Maps whose elements are slices of one's own; the library's Clone and Equal of bytes are walked elsewhere. No program. -/
import Derived.Test.YtihkfklpoliilaaDoorEng7
namespace Go.Sl
open Go

/-- the bytes of slices, each one's own -/
abbrev SlB (v : Value) (b : Bytes) : HP := Sl v 1 (b.map vb)
/-- the slices that a map holds, with their bytes -/
def Ow : IMap Value → IMap Bytes → List HP
  | (_, v) :: vs, (_, b) :: m => SlB v b :: Ow vs m
  | _, _ => []
/-- a map of bytes, each element its own -/
def MB (c : Nat) (m : IMap Bytes) : HP := fun h => ∃ vs : IMap Value, vs.map (·.1) = m.map (·.1) ∧ Sat (MapI c vs :: Ow vs m) h

theorem Sat.flat {l l' : List HP} {h : Hp} : Sat ((fun h => Sat l h) :: l') h ↔ Sat (l ++ l') h := Sat.app.symm

theorem MB.opened {c : Nat} {m : IMap Bytes} {Γ : List HP} {h : Hp} : Sat (MB c m :: Γ) h ↔ ∃ vs : IMap Value, vs.map (·.1) = m.map (·.1) ∧ Sat (MapI c vs :: (Ow vs m ++ Γ)) h := by
  unfold MB
  rw [Sat.ex]
  constructor
  · rintro ⟨vs, hs⟩
    obtain ⟨hk, hs⟩ := Sat.pur.1 hs
    exact ⟨vs, hk, Sat.flat.1 hs⟩
  · rintro ⟨vs, hk, hs⟩
    exact ⟨vs, Sat.pur.2 ⟨hk, Sat.flat.2 hs⟩⟩

theorem Ent.appR {Γ Γ' F : List HP} (h : Ent Γ Γ') : Ent (Γ ++ F) (Γ' ++ F) := fun _ hs => Sat.app.2 (Sat.imp h (Sat.app.1 hs))
theorem Ent.appL {Γ F F' : List HP} (h : Ent F F') : Ent (Γ ++ F) (Γ ++ F') := fun _ hs => Sat.app.2 (Sat.cons h (Sat.app.1 hs))
theorem Ent.toEnd {A : HP} {Γ : List HP} : Ent (A :: Γ) (Γ ++ [A]) := by
  induction Γ with
  | nil => exact Ent.refl
  | cons B Γ ih => exact Ent.swap.trans (Ent.skip ih)
theorem Ent.sink {A : HP} {Γ F : List HP} : Ent (A :: (Γ ++ F)) (Γ ++ A :: F) := by
  induction Γ with
  | nil => exact Ent.refl
  | cons B Γ ih => exact Ent.swap.trans (Ent.skip ih)
theorem Ent.rise {A : HP} {Γ F : List HP} : Ent (Γ ++ A :: F) (A :: (Γ ++ F)) := by
  induction Γ with
  | nil => exact Ent.refl
  | cons B Γ ih => exact (Ent.skip ih).trans Ent.swap

theorem keys_get {α β : Type} {vs : IMap α} {m : IMap β} (h : vs.map (·.1) = m.map (·.1)) (k : Int) : (mget vs k).isSome = (mget m k).isSome := by
  have h1 := @mget_none _ vs k
  have h2 := @mget_none _ m k
  rw [h] at h1
  cases e1 : mget vs k <;> cases e2 : mget m k <;> simp_all
theorem Ow.look {vs : IMap Value} {m : IMap Bytes} (hk : vs.map (·.1) = m.map (·.1)) {k : Int} {b : Bytes} (hb : mget m k = some b) : ∃ v, mget vs k = some v ∧ ∀ h, Sat (Ow vs m) h → Rd v 1 (b.map vb) h := by
  induction m generalizing vs with
  | nil => simp [mget] at hb
  | cons q m ih =>
    obtain ⟨a, b'⟩ := q
    cases vs with
    | nil => simp at hk
    | cons p vs =>
      obtain ⟨a', v⟩ := p
      simp only [List.map_cons, List.cons.injEq] at hk
      obtain ⟨rfl, hk⟩ := hk
      unfold mget at hb ⊢
      by_cases h : k = a'
      · rw [if_pos h] at hb ⊢; cases hb
        exact ⟨v, rfl, fun h hs => by obtain ⟨h1, x, y⟩ := hs.one; exact y.rd.mono x⟩
      · rw [if_neg h] at hb ⊢
        obtain ⟨u, h1, h2⟩ := ih hk hb
        exact ⟨u, h1, fun h hs => h2 h hs.tail⟩
theorem Ow.put {vs : IMap Value} {m : IMap Bytes} (hk : vs.map (·.1) = m.map (·.1)) (k : Int) (v : Value) (b : Bytes) {F : List HP} :
    Ent (SlB v b :: (Ow vs m ++ F)) (Ow (mset vs k v) (mset m k b) ++ F) ∧ (mset vs k v).map (·.1) = (mset m k b).map (·.1) := by
  induction m generalizing vs with
  | nil =>
    have : vs = [] := by simpa using hk
    subst this
    exact ⟨Ent.refl, rfl⟩
  | cons q m ih =>
    obtain ⟨a, b'⟩ := q
    cases vs with
    | nil => simp at hk
    | cons p vs =>
      obtain ⟨a', v'⟩ := p
      simp only [List.map_cons, List.cons.injEq] at hk
      obtain ⟨rfl, hk⟩ := hk
      unfold mset
      by_cases h : k = a'
      · rw [if_pos h, if_pos h]
        exact ⟨Ent.skip (Ent.drop Ent.refl), by simp [hk]⟩
      · rw [if_neg h, if_neg h]
        obtain ⟨h1, h2⟩ := ih hk
        exact ⟨Ent.swap.trans (Ent.skip h1), by simp [h2]⟩
theorem Ow.del {vs : IMap Value} {m : IMap Bytes} (hk : vs.map (·.1) = m.map (·.1)) (k : Int) {F : List HP} :
    Ent (Ow vs m ++ F) (Ow (mdel vs k) (mdel m k) ++ F) ∧ (mdel vs k).map (·.1) = (mdel m k).map (·.1) := by
  induction m generalizing vs with
  | nil =>
    have : vs = [] := by simpa using hk
    subst this
    exact ⟨Ent.refl, rfl⟩
  | cons q m ih =>
    obtain ⟨a, b'⟩ := q
    cases vs with
    | nil => simp at hk
    | cons p vs =>
      obtain ⟨a', v'⟩ := p
      simp only [List.map_cons, List.cons.injEq] at hk
      obtain ⟨rfl, hk⟩ := hk
      unfold mdel
      by_cases h : k = a'
      · rw [if_pos h, if_pos h]
        exact ⟨Ent.drop Ent.refl, hk⟩
      · rw [if_neg h, if_neg h]
        obtain ⟨h1, h2⟩ := ih hk
        exact ⟨Ent.skip h1, by simp [h2]⟩

/-- read facts of a frame whose parts are a list's, and more -/
instance RdIn.app {v : Value} {k : Nat} {vs : List Value} {Γ Γ' : List HP} [r : RdIn Γ' v k vs] : RdIn (Γ ++ Γ') v k vs :=
  ⟨fun h hs => by
    have := Sat.app.1 hs
    exact r.rd h this.tail⟩
end Go.Sl
