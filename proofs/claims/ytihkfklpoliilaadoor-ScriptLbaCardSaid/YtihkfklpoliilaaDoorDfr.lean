/- A function that has deferred a call: its regions are walked as any other's. No program. -/
import Derived.Test.YtihkfklpoliilaaDoorEng8
import Derived.Defers
namespace Go.Sl
open Go
section lift
variable {P : Program} {ops : Array Oper} {Q : Exit → Act → World → Prop}
/-- as Q says, of a frame that has deferred these calls before -/
def liftD (D : List Deferred) (Q : Exit → Act → World → Prop) : Exit → Act → World → Prop
  | .outgrown, a, w => Q .outgrown a w
  | e, a, w => ∃ ds, a.defers = ds ++ D ∧ Q e { a with defers := ds } w
theorem liftD_lets {D : List Deferred} (h : LetsOut Q) : LetsOut (liftD D Q) := by
  obtain ⟨a, w, h⟩ := h
  exact ⟨a, w, h⟩
theorem put_defers (a : Act) (ds : List Deferred) (d : Option Tmp) (v : Value) : ({ a with defers := ds } : Act).put d v = { a.put d v with defers := ds } := by
  cases d <;> rfl
theorem defers_put (a : Act) (d : Option Tmp) (v : Value) : (a.put d v).defers = a.defers := by
  cases d <;> rfl
theorem wpList_lift {D : List Deferred} : ∀ (l : List Oper) (ds : List Deferred) (a : Act) (w : World), a.defers = ds ++ D → wpList P ops Q l { a with defers := ds } w → wpList P ops (liftD D Q) l a w
  | [], ds, a, w, hd, h => ⟨ds, hd, h⟩
  | o :: l, ds, a, w, hd, h => by
    have ih := fun ds a w => wpList_lift (D := D) l ds a w
    unfold wpList at h ⊢
    by_cases hw : Region.wanted o (yielded ops a.tmps) = true
    · have hw' : Region.wanted o (yielded ops ({ a with defers := ds } : Act).tmps) = true := hw
      rw [if_pos hw'] at h
      rw [if_pos hw]
      rcases h with h | ⟨h, hl⟩
      · left
        unfold Oper.wp at h ⊢
        have he : ({ a with defers := ds } : Act).eval = a.eval := rfl
        rw [he] at h
        cases hr : (execOp a.eval o).run P w with
        | halt x w' =>
          rw [hr] at h
          cases x <;> first | exact h.elim | exact ⟨ds, hd, h⟩
        | ok nx w' =>
          rw [hr] at h
          cases nx <;> simp only [Oper.upon] at h ⊢
          case value u => rw [put_defers] at h; exact ih _ _ _ (by rw [defers_put]; exact hd) h
          case skip => rw [put_defers] at h; exact ih _ _ _ (by rw [defers_put]; exact hd) h
          case defer d =>
            refine ih (d :: ds) _ _ (by rw [defers_put]; simp [hd]) ?_
            have : ({ ({ a with defers := d :: a.defers } : Act).put o.dst undef with defers := d :: ds } : Act) = ({ a with defers := d :: ds } : Act).put o.dst undef := by
              cases o.dst <;> rfl
            rw [this]
            exact h
          case enter f args =>
            refine Calls.mono h fun e w'' he => ?_
            cases e with
            | returned u => dsimp only at he ⊢; rw [put_defers] at he; exact ih _ _ _ (by rw [defers_put]; exact hd) he
            | panicked c => exact ⟨ds, hd, he⟩
            | outgrown => exact liftD_lets he
          case row row args => exact Rows.mono h fun u w'' he => by rw [put_defers] at he; exact ih _ _ _ (by rw [defers_put]; exact hd) he
      · right; exact ⟨h, liftD_lets hl⟩
    · have hw' : ¬ Region.wanted o (yielded ops ({ a with defers := ds } : Act).tmps) = true := hw
      rw [if_neg hw'] at h
      rw [if_neg hw]
      rw [put_defers] at h
      exact ih _ _ _ (by rw [defers_put]; exact hd) h

/-- a region, in a frame that has deferred these calls -/
theorem region_lift {D : List Deferred} {id : Nat} {l : List Oper} {a : Act} {w : World} (hd : a.defers = D) {w0 : World} {n : Nat} {env : Env} {Γ : List HP}
    (h : WL P l.toArray l Q w0 n env Γ) (s : St w0 n env Γ { a with defers := [] } w) : (Code.region id l.toArray false).wp P (liftD D Q) a w :=
  wp_region_lit (wpList_lift l [] a w (by simpa using hd) (h _ _ s))
end lift
end Go.Sl
