/- The disk's laws: the fixed fact. -/
import Derived.Test.YtapgejjjgeiihaaCyc
namespace Go.Proofs.Ytapgejjjgeiihaa
open Go Go.Sl
attribute [local irreducible] Yl WL WC WQ WD

abbrev d40 : Dsk := Dsk.blank 3 1
abbrev d41 : Dsk := ⟨1, [[0], [0], [0]], [(0, [7])], [1, 0, 0], false, -1⟩
abbrev d42 : Dsk := ⟨1, [[0], [0], [0]], [(0, [7]), (2, [9])], [1, 0, 1], false, -1⟩
abbrev d43 : Dsk := ⟨1, [[0], [0], [9]], [], [1, 0, 1], false, -1⟩
theorem wait42 : d42.waiting = [0, 2] := List.mergeSort_of_pairwise (by decide)
theorem cyc42 : d42.cycle 2 = d43 := by
  unfold Dsk.cycle
  rw [wait42]
  rfl
set_option maxHeartbeats 1000000 in
theorem awake04_spec :
    Spec0 Try.prog 47 [] (fun _ => True) (fun F => F) (fun _ : Unit => True) (fun _ => .bool true) (fun _ F => F) := by
  (refine spec_of Try.func47 rfl Try.ntmps47 rfl (fun F w0 hrd => ?_))
  refine walk ?_
  refine call (pnew_spec (-1)) ?_
  intro p _
  refine walk ?_
  refine call (dnew_spec p 3 1 (by omega) (by omega)) ?_
  intro d _
  refine walk ?_
  intro v1 h1 h1'
  refine walk ?_
  refine call ((dwrite_spec d p (d40, ⟨0, -1⟩) 0 v1 [7]).sure 0 (d41, ⟨1, -1⟩) (by rfl)) ?_
  intro _ _
  dsimp only
  refine walk ?_
  intro v2 h2 h2'
  refine walk ?_
  refine call ((dwrite_spec d p (d41, ⟨1, -1⟩) 2 v2 [9]).sure 0 (d42, ⟨2, -1⟩) (by rfl)) ?_
  intro _ _
  dsimp only
  refine walk ?_
  refine call (cycle_spec d p d42 2 (by omega)) ?_
  intro _ _
  refine walk ?_
  rw [cyc42]
  refine call ((dread_spec d p (d43, ⟨2, -1⟩) 0).sure ([0], 0) (d43, ⟨3, -1⟩) (by rfl)) ?_
  intro x _
  dsimp only
  refine walk ?_
  refine call ((dread_spec d p (d43, ⟨3, -1⟩) 2).sure ([9], 0) (d43, ⟨4, -1⟩) (by rfl)) ?_
  intro y _
  dsimp only
  refine walk ?_
  intro w1 _ _
  refine walk ?_
  refine call (equal_spec x w1 [0] [0] (by decide)) ?_
  intro _ _
  refine walk ?_
  intro w2 _ _
  refine walk ?_
  refine call (equal_spec y w2 [9] [9] (by decide)) ?_
  intro _ _
  refine walk ?_
  exact wq_ret1 rfl rfl () rfl trivial perm
end Go.Proofs.Ytapgejjjgeiihaa
