/- Statements that draw their order: what is owed is forgotten as soon as it may be. No program. -/
import Derived.Test.YtihkfklpoliilaaDoorEng10
namespace Go.Sl
open Go
/-- what is still owed behind an operation -/
inductive Owe (ops : Array Oper) (i : Nat) : Obl → Obl → Prop where
  | nil : Owe ops i [] []
  | tt {j : Nat} {L L' : Obl} (h : Owe ops i L L') : Owe ops i ((j, Tt) :: L) L'
  | dep {j : Nat} {I : World → Prop} {L L' : Obl} (hd : dependsOn ops i j = true) (h : Owe ops i L L') : Owe ops i ((j, I) :: L) L'
  | keep {q : Nat × (World → Prop)} {L L' : Obl} (h : Owe ops i L L') : Owe ops i (q :: L) (q :: L')
theorem Owe.mem {ops : Array Oper} {i : Nat} {L L' : Obl} (h : Owe ops i L L') : ∀ q ∈ (L.filter fun q => !dependsOn ops i q.1), q ∈ L' ∨ q.2 = Tt := by
  induction h with
  | nil => intro q hq; cases hq
  | tt h ih =>
    intro q hq
    rw [List.mem_filter] at hq
    rcases List.mem_cons.1 hq.1 with rfl | h1
    · exact .inr rfl
    · exact ih q (List.mem_filter.2 ⟨h1, hq.2⟩)
  | dep hd h ih =>
    intro q hq
    rw [List.mem_filter] at hq
    rcases List.mem_cons.1 hq.1 with rfl | h1
    · rw [show dependsOn ops i _ = true from hd] at hq; cases hq.2
    · exact ih q (List.mem_filter.2 ⟨h1, hq.2⟩)
  | keep h ih =>
    intro q hq
    rw [List.mem_filter] at hq
    rcases List.mem_cons.1 hq.1 with rfl | h1
    · exact .inl List.mem_cons_self
    · rcases ih q (List.mem_filter.2 ⟨h1, hq.2⟩) with h | h
      · exact .inl (List.mem_cons_of_mem _ h)
      · exact .inr h
section
variable {P : Program} {Q : Exit → Act → World → Prop} {w0 : World} {n : Nat} {env : Env} {Γ : List HP} {ops : Array Oper} {fuel : Nat} {L L' : Obl} {listed : Array Bool}
theorem ddx (i : Nat) {o : Oper} (h : WL P ops [o] (DrawQ P ops fuel L' (listed.setIfInBounds i true) Q) w0 n env Γ) (hi : ops[i]? = some o := by rfl) (hr : Region.ready .any ops listed = [i] := by kernel_rfl)
    (hL : Owe ops i L L' := by repeat (first | exact Owe.nil | (with_reducible apply Owe.tt) | (apply Owe.dep; decide +kernel) | apply Owe.keep)) : WD P ops Q (fuel + 1) L listed w0 n env Γ := fun a w s ho => by
  refine ⟨ho, fun h0 => (by rw [hr] at h0; cases h0), fun j hj => ?_⟩
  rw [hr] at hj
  have : j = i := by simpa using hj
  subst this
  refine wpOp_mono (fun a' w' h' => wpAnyL_mono _ _ _ _ _ _ hL.mem h') (wpOp_of_list hi (h a w s))
end
end Go.Sl
