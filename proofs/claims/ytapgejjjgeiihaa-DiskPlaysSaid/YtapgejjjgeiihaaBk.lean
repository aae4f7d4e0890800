/- A disk's book, in plain Lean: six sectors' bytes, those that wait, how often each was written. No program. -/
import Derived.Test.YtapgejjjgeiihaaEng10
namespace Go.Sl
open Go

structure Bk where
  on : Nat → Row
  wait : Nat → Option Row
  writes : Nat → Int
  dead : Bool
  failAt : Int
  used : Int
/-- what waits, as a value -/
def wv : Option Row → Value
  | none => .slice none 0 0
  | some r => r.1
def Bk.cells (b : Bk) : List Value :=
  [(b.on 0).1, (b.on 1).1, (b.on 2).1, (b.on 3).1, (b.on 4).1, (b.on 5).1, wv (b.wait 0), wv (b.wait 1), wv (b.wait 2), wv (b.wait 3), wv (b.wait 4), wv (b.wait 5),
    vi (b.writes 0), vi (b.writes 1), vi (b.writes 2), vi (b.writes 3), vi (b.writes 4), vi (b.writes 5), .bool b.dead, vi b.failAt, vi b.used]
@[simp] theorem Bk.cells_length (b : Bk) : b.cells.length = 21 := rfl
def Bk.setOn (b : Bk) (i : Nat) (r : Row) : Bk := { b with on := fun j => if j = i then r else b.on j }
def Bk.setWait (b : Bk) (i : Nat) (r : Option Row) : Bk := { b with wait := fun j => if j = i then r else b.wait j }
def Bk.setWrites (b : Bk) (i : Nat) (n : Int) : Bk := { b with writes := fun j => if j = i then n else b.writes j }
theorem lt6 {i : Nat} (h : i < 6) : i = 0 ∨ i = 1 ∨ i = 2 ∨ i = 3 ∨ i = 4 ∨ i = 5 := by omega
theorem Bk.get_on (b : Bk) {i : Nat} (h : i < 6) : b.cells[0 + i]? = some (b.on i).1 := by
  rcases lt6 h with rfl | rfl | rfl | rfl | rfl | rfl <;> rfl
theorem Bk.get_wait (b : Bk) {i : Nat} (h : i < 6) : b.cells[6 + i]? = some (wv (b.wait i)) := by
  rcases lt6 h with rfl | rfl | rfl | rfl | rfl | rfl <;> rfl
theorem Bk.get_writes (b : Bk) {i : Nat} (h : i < 6) : b.cells[12 + i]? = some (vi (b.writes i)) := by
  rcases lt6 h with rfl | rfl | rfl | rfl | rfl | rfl <;> rfl
theorem Bk.set_on (b : Bk) {i : Nat} (h : i < 6) (r : Row) : b.cells.set (0 + i) r.1 = (b.setOn i r).cells := by
  rcases lt6 h with rfl | rfl | rfl | rfl | rfl | rfl <;> rfl
theorem Bk.set_wait (b : Bk) {i : Nat} (h : i < 6) (r : Option Row) : b.cells.set (6 + i) (wv r) = (b.setWait i r).cells := by
  rcases lt6 h with rfl | rfl | rfl | rfl | rfl | rfl <;> rfl
theorem Bk.set_writes (b : Bk) {i : Nat} (h : i < 6) (n : Int) : b.cells.set (12 + i) (vi n) = (b.setWrites i n).cells := by
  rcases lt6 h with rfl | rfl | rfl | rfl | rfl | rfl <;> rfl
theorem Bk.set_dead (b : Bk) (x : Bool) : b.cells.set 18 (.bool x) = Bk.cells { b with dead := x } := rfl
theorem Bk.set_failAt (b : Bk) (x : Int) : b.cells.set 19 (vi x) = Bk.cells { b with failAt := x } := rfl
theorem Bk.set_used (b : Bk) (x : Int) : b.cells.set 20 (vi x) = Bk.cells { b with used := x } := rfl
theorem Bk.get_dead (b : Bk) : b.cells[18]? = some (.bool b.dead) := rfl
theorem Bk.get_failAt (b : Bk) : b.cells[19]? = some (vi b.failAt) := rfl
theorem Bk.get_used (b : Bk) : b.cells[20]? = some (vi b.used) := rfl

/-- an operation -/
def Bk.op (b : Bk) : Bk := { b with used := w64 (b.used + 1), dead := b.dead || decide (0 ≤ b.failAt ∧ b.failAt < w64 (b.used + 1)) }
def bitOf (keep k : Nat) : Bool := (keep >>> k) % 2 == 1
/-- of what waits that stays that a bit says: so many sectors of it -/
def Bk.laid (b : Bk) (keep : Nat) : Nat → Bk × Nat
  | 0 => (b, 0)
  | i + 1 => match b.wait i with
    | none => b.laid keep i
    | some r => ((if bitOf keep (b.laid keep i).2 then (b.laid keep i).1.setOn i r else (b.laid keep i).1).setWait i none, (b.laid keep i).2 + 1)
def Bk.settle (b : Bk) (keep : Nat) : Bk := (b.laid keep 6).1
theorem Bk.laid_le (b : Bk) (keep i : Nat) : (b.laid keep i).2 ≤ i := by
  induction i with
  | zero => simp [Bk.laid]
  | succ i ih =>
    unfold Bk.laid
    split
    · omega
    · dsimp only; omega
theorem Bk.laid_wait (b : Bk) (keep i j : Nat) : (b.laid keep i).1.wait j = if j < i then none else b.wait j := by
  induction i with
  | zero => simp [Bk.laid]
  | succ i ih =>
    unfold Bk.laid
    split
    · rename_i h
      rw [ih]
      by_cases h1 : j < i
      · rw [if_pos h1, if_pos (by omega)]
      · rw [if_neg h1]
        by_cases h2 : j = i
        · subst h2; rw [if_pos (by omega), h]
        · rw [if_neg (by omega)]
    · show (if j = i then none else (ite _ _ _ : Bk).wait j) = _
      have e : (if bitOf keep (b.laid keep i).2 = true then (b.laid keep i).1.setOn i (by assumption) else (b.laid keep i).1).wait j = (b.laid keep i).1.wait j := by split <;> rfl
      rw [e, ih]
      by_cases h2 : j = i
      · subst h2; rw [if_pos rfl, if_pos (by omega)]
      · rw [if_neg h2]
        by_cases h1 : j < i
        · rw [if_pos h1, if_pos (by omega)]
        · rw [if_neg h1, if_neg (by omega)]
/-- how many wait ahead of a sector -/
def Bk.rank (b : Bk) : Nat → Nat
  | 0 => 0
  | i + 1 => b.rank i + if (b.wait i).isSome then 1 else 0
theorem Bk.laid_rank (b : Bk) (keep i : Nat) : (b.laid keep i).2 = b.rank i := by
  induction i with
  | zero => rfl
  | succ i ih =>
    unfold Bk.laid Bk.rank
    split
    · rename_i h; simp [ih, h]
    · rename_i h; simp [ih, h]
theorem Bk.laid_on (b : Bk) (keep i j : Nat) : (b.laid keep i).1.on j = if j < i ∧ bitOf keep (b.rank j) = true then (b.wait j).getD (b.on j) else b.on j := by
  induction i with
  | zero => simp [Bk.laid]
  | succ i ih =>
    unfold Bk.laid
    split
    · rename_i h
      rw [ih]
      by_cases h2 : j = i
      · subst h2; rw [h]; simp
      · have : j < i ↔ j < i + 1 := by omega
        simp only [this]
    · rename_i r h
      show (ite _ _ _ : Bk).on j = _
      rw [b.laid_rank]
      by_cases h2 : j = i
      · subst h2
        rw [h]
        by_cases hb : bitOf keep (b.rank j) = true
        · rw [if_pos hb, if_pos ⟨by omega, hb⟩]; simp [Bk.setOn]
        · rw [if_neg hb, if_neg (fun x => hb x.2), ih, if_neg (by omega)]
      · have : j < i ↔ j < i + 1 := by omega
        simp only [← this]
        rw [← ih]
        split
        · simp [Bk.setOn, h2]
        · rfl
theorem Bk.laid_rest (b : Bk) (keep i : Nat) : (b.laid keep i).1.writes = b.writes ∧ (b.laid keep i).1.dead = b.dead ∧ (b.laid keep i).1.failAt = b.failAt ∧ (b.laid keep i).1.used = b.used := by
  induction i with
  | zero => exact ⟨rfl, rfl, rfl, rfl⟩
  | succ i ih =>
    unfold Bk.laid
    split
    · exact ih
    · dsimp only [Bk.setWait]
      split <;> exact ih
/-- a blank one -/
def Bk.blank (f : Nat → Row) : Bk := ⟨f, fun _ => none, fun _ => 0, false, -1, 0⟩
theorem Pool.join {A B : List Row} {Γ : List HP} : Ent (Pool A :: Pool B :: Γ) (Pool (A ++ B) :: Γ) := fun h hs => by
  obtain ⟨h1, h2, a, c, d, e, h3, h4, p, q, r, s, t⟩ := hs
  refine ⟨Hjoin h1 h3, h4, Hjoin.le a (p.trans c), q.trans c, Hjoin.dis (d.le (Hle.refl _) q) r, ?_, t⟩
  have hd : Hdis h1 h3 := d.le (Hle.refl _) p
  intro x hx
  rcases List.mem_append.1 hx with hx | hx
  · exact (e x hx).mono (Hjoin.left _ _)
  · exact (s x hx).mono (Hjoin.right hd)
/-- an act, in the book: the slice that is answered, the error, and the book then; a sector's new bytes, and blank ones, are given -/
def Bk.act (b : Bk) (k : Nat) (i : Int) (long : Bool) (keep : Nat) (data : Row) (f : Nat → Row) : (Option Row × Int) × Bk :=
  if k < 2 then
    if 0 ≤ i ∧ i < 6 then if b.op.dead then ((none, 8), b.op) else ((some ((b.op.wait i.toNat).getD (b.op.on i.toNat)), 0), b.op) else ((none, 1), b)
  else if k < 5 then
    if (0 ≤ i ∧ i < 6) ∧ long = false then if b.op.dead then ((none, 8), b.op) else ((none, 0), (b.op.setWait i.toNat (some data)).setWrites i.toNat (w64 (b.op.writes i.toNat + 1))) else ((none, 1), b)
  else if k = 5 then
    if b.op.dead then ((none, 8), b.op) else ((none, 0), b.op.settle 18446744073709551615)
  else if k = 6 then ((none, 0), b.settle keep)
  else if k = 7 then ((none, 0), { b with failAt := max (w64 (b.used + i)) (-1) })
  else if k = 8 then ((none, 0), { b with dead := true })
  else ((none, 0), { Bk.blank f with used := b.used })
/-- a book whose rows are among those -/
structure Bk.In (P : List Row) (b : Bk) : Prop where
  on : ∀ i, i < 6 → b.on i ∈ P ∧ (∃ a m c, (b.on i).1 = .slice (some a) m c)
  wait : ∀ i r, b.wait i = some r → r ∈ P ∧ ∃ a m c, r.1 = .slice (some a) m c
theorem Bk.In.mono {P Q : List Row} {b : Bk} (h : b.In P) (hq : ∀ r ∈ P, r ∈ Q) : b.In Q :=
  ⟨fun i hi => ⟨hq _ (h.on i hi).1, (h.on i hi).2⟩, fun i r hr => ⟨hq _ (h.wait i r hr).1, (h.wait i r hr).2⟩⟩
theorem Bk.In.op {P : List Row} {b : Bk} (h : b.In P) : b.op.In P := ⟨h.on, h.wait⟩
theorem Bk.In.settle {P : List Row} {b : Bk} (h : b.In P) (keep : Nat) : (b.settle keep).In P := by
  refine ⟨fun i hi => ?_, fun i r hr => ?_⟩
  · unfold Bk.settle
    rw [b.laid_on]
    split
    · cases hw : b.wait i with
      | none => exact h.on i hi
      | some r => exact h.wait i r hw
    · exact h.on i hi
  · unfold Bk.settle at hr
    rw [b.laid_wait] at hr
    split at hr
    · cases hr
    · exact h.wait i r hr
/-- what an act needs of new rows -/
structure Fresh (P : List Row) (k : Nat) (fill : UInt8) (data : Row) (f : Nat → Row) (Q : List Row) : Prop where
  old : ∀ r ∈ P, r ∈ Q
  data : data ∈ Q ∧ data.2 = List.replicate 3 fill ∧ ∃ a m c, data.1 = .slice (some a) m c
  blank : k = 9 → ∀ i, i < 6 → f i ∈ Q ∧ (f i).2 = [0, 0, 0] ∧ ∃ a m c, (f i).1 = .slice (some a) m c
theorem Bk.In.act {P Q : List Row} {b : Bk} (h : b.In P) {k : Nat} (hk : k < 10) {fill : UInt8} {data : Row} {f : Nat → Row} (hf : Fresh P k fill data f Q) (i : Int) (long : Bool) (keep : Nat) :
    (b.act k i long keep data f).2.In Q ∧ ∀ r, (b.act k i long keep data f).1.1 = some r → r ∈ Q := by
  have h' := h.mono hf.old
  unfold Bk.act
  split
  · split
    · split
      · exact ⟨h'.op, fun r hr => by cases hr⟩
      · rename_i hi _
        refine ⟨h'.op, fun r hr => ?_⟩
        cases hr
        cases hw : b.op.wait i.toNat with
        | none => exact (h'.op.on i.toNat (by omega)).1
        | some r => exact (h'.op.wait _ r hw).1
    · exact ⟨h', fun r hr => by cases hr⟩
  split
  · split
    · split
      · exact ⟨h'.op, fun r hr => by cases hr⟩
      · refine ⟨⟨h'.op.on, fun j r hr => ?_⟩, fun r hr => by cases hr⟩
        simp only [Bk.setWait, Bk.setWrites] at hr
        split at hr
        · cases hr; exact ⟨hf.data.1, hf.data.2.2⟩
        · exact h'.op.wait j r hr
    · exact ⟨h', fun r hr => by cases hr⟩
  split
  · split
    · exact ⟨h'.op, fun r hr => by cases hr⟩
    · exact ⟨h'.op.settle _, fun r hr => by cases hr⟩
  split
  · exact ⟨h'.settle _, fun r hr => by cases hr⟩
  split
  · exact ⟨⟨h'.on, h'.wait⟩, fun r hr => by cases hr⟩
  split
  · exact ⟨⟨h'.on, h'.wait⟩, fun r hr => by cases hr⟩
  · refine ⟨⟨fun i hi => ?_, fun i r hr => by cases hr⟩, fun r hr => by cases hr⟩
    have := hf.blank (by omega) i hi
    exact ⟨this.1, this.2.2⟩
end Go.Sl
