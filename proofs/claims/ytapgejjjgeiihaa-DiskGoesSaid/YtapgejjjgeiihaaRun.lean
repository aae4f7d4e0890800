/- power.Run: what is done, and whether the power went meanwhile. -/
import Derived.Test.YtapgejjjgeiihaaDsk
import Derived.Defers
import Derived.Recover
import Derived.Tactics
import Derived.Tactics2
import Derived.Laws.Pointers
namespace Go.Proofs.Ytapgejjjgeiihaa
open Go Go.Sl
attribute [local irreducible] Yl WL WC WQ WD

set_option maxHeartbeats 1000000 in
theorem catch_gone (b : Nat) (F : List HP) (w : World) (hs : Sat (Cells b [.bool false] :: F) (hpOf w)) :
    CallsD Try.prog 87 #[vp b] (.panicking ({ v := .iface outage (.agg #[]), recovered := false } :: [])) w fun e u' w' =>
      e = .returned (.tuple #[]) ∧ u' = .panicking ({ v := .iface outage (.agg #[]), recovered := true } :: []) ∧ Evo w w' ∧ Sat (Cells b [.bool true] :: F) (hpOf w') := by
  refine callsD_of_wpS Try.func87 rfl fun c₀ cs hu => ?_
  apply wpS_seq
  apply wpS_region
  simp [wpOpsS, go_sem, recoverD, hu, Try.ntmps87, Exit.thenS]
  refine wpS_of_wp ?_
  have key : ∀ (c : Code), WC Try.prog c (fun e a w' => bodyPostS Try.prog Try.f87 c₀ cs (fun e u' w' => e = .returned (.tuple #[]) ∧ u' = .panicking ({ v := .iface outage (.agg #[]), recovered := true } :: []) ∧ Evo w w' ∧ Sat (Cells b [.bool true] :: F) (hpOf w')) e a ({ c₀ with mode := .panicking [{ v := .iface outage (.agg #[]), recovered := true }] } :: cs) w') w 15 [(0, vp b), (1, .iface outage (.agg #[]))] (Cells b [.bool false] :: F) →
      c.wp Try.prog (fun e a w' => bodyPostS Try.prog Try.f87 c₀ cs (fun e u' w' => e = .returned (.tuple #[]) ∧ u' = .panicking ({ v := .iface outage (.agg #[]), recovered := true } :: []) ∧ Evo w w' ∧ Sat (Cells b [.bool true] :: F) (hpOf w')) e a ({ c₀ with mode := .panicking [{ v := .iface outage (.agg #[]), recovered := true }] } :: cs) w')
        { tmps := #[vp b] ++ Array.setIfInBounds (Array.setIfInBounds (Array.replicate 14 undef) 3 (.iface outage (.agg #[]))) 0 (.iface outage (.agg #[])), defers := [] } w := fun c h =>
    h.run ⟨⟨rfl, fun t v e => by
      unfold Env.get at e
      cases h0 : Nat.beq 0 t with
      | true => rw [h0] at e; obtain rfl : 0 = t := Nat.eq_of_beq_eq_true h0; exact e
      | false =>
        rw [h0] at e
        simp only [cond_false] at e
        unfold Env.get at e
        cases h1 : Nat.beq 1 t with
        | true => rw [h1] at e; obtain rfl : 1 = t := Nat.eq_of_beq_eq_true h1; exact e
        | false => rw [h1] at e; simp [Env.get] at e⟩, rfl, Evo.refl w, hs⟩
  refine key _ ?_
  refine walk ?_
  intro z
  refine walk ?_
  refine WQ.of fun a w' s => ?_
  refine ⟨s.defers, _, rfl, .tuple #[], results_none Try.results87 _ _ _, rfl, rfl, s.evo, ?_⟩
  exact (perm : Ent _ _) _ s.sat

set_option maxHeartbeats 1000000 in
theorem catch_idle (b : Nat) (u0 : Bool) (F : List HP) (w : World) (hs : Sat (Cells b [.bool u0] :: F) (hpOf w)) :
    CallsD Try.prog 87 #[vp b] .returning w fun e u' w' => e = .returned (.tuple #[]) ∧ u' = .returning ∧ Evo w w' ∧ Sat (Cells b [.bool u0] :: F) (hpOf w') := by
  refine callsD_of_wpS Try.func87 rfl fun c₀ cs hu => ?_
  apply wpS_seq
  apply wpS_region
  simp [wpOpsS, go_sem, recoverD, hu, Try.ntmps87, Exit.thenS]
  refine wpS_of_wp ?_
  have hc0 : ({ c₀ with mode := .returning } : Frame) = c₀ := by rw [← hu]
  have key : ∀ (c : Code), WC Try.prog c (fun e a w' => bodyPostS Try.prog Try.f87 c₀ cs (fun e u' w' => e = .returned (.tuple #[]) ∧ u' = .returning ∧ Evo w w' ∧ Sat (Cells b [.bool u0] :: F) (hpOf w')) e a (c₀ :: cs) w') w 15 [(0, vp b), (1, .nilIface)] (Cells b [.bool u0] :: F) →
      c.wp Try.prog (fun e a w' => bodyPostS Try.prog Try.f87 c₀ cs (fun e u' w' => e = .returned (.tuple #[]) ∧ u' = .returning ∧ Evo w w' ∧ Sat (Cells b [.bool u0] :: F) (hpOf w')) e a (c₀ :: cs) w')
        { tmps := #[vp b] ++ Array.setIfInBounds (Array.setIfInBounds (Array.replicate 14 undef) 3 .nilIface) 0 .nilIface, defers := [] } w := fun c h =>
    h.run ⟨⟨rfl, fun t v e => by
      unfold Env.get at e
      cases h0 : Nat.beq 0 t with
      | true => rw [h0] at e; obtain rfl : 0 = t := Nat.eq_of_beq_eq_true h0; exact e
      | false =>
        rw [h0] at e
        simp only [cond_false] at e
        unfold Env.get at e
        cases h1 : Nat.beq 1 t with
        | true => rw [h1] at e; obtain rfl : 1 = t := Nat.eq_of_beq_eq_true h1; exact e
        | false => rw [h1] at e; simp [Env.get] at e⟩, rfl, Evo.refl w, hs⟩
  refine key _ ?_
  refine walk ?_
  refine WQ.of fun a w' s => ?_
  refine ⟨s.defers, .returning, by rw [hc0], .tuple #[], results_none Try.results87 _ _ _, rfl, rfl, s.evo, s.sat⟩
end Go.Proofs.Ytapgejjjgeiihaa
