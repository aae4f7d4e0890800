/- The document's own example. -/
import Derived.Test.YtihkfklpoliilaaDoorPar
import Derived.Test.YtihkfklpoliilaaDoorLin2
namespace Go.Proofs.YtihkfklpoliilaaDoor
open Go Go.Sl
attribute [local irreducible] Yl WL WC WQ WD
theorem awake1 : psteps [119, 114, 105, 116, 101, 32, 51, 32, 34, 97, 98, 34] = ([.write 3 [97, 98]], 0, 0) := by kernel_rfl
theorem awake2 : psteps [119, 114, 105, 116, 101, 32, 51] = ([], 7, 4) := by kernel_rfl
theorem awake3 : lineB (.write 3 [97, 98]) = [119, 114, 105, 116, 101, 32, 51, 32, 34, 97, 98, 34, 10] := by
  have : Lib.decDigits 3 = [51] := by rw [Lib.decDigits, dif_pos (by decide)]; rfl
  show wWrite ++ 32 :: Lib.decDigits 3 ++ [32, 34] ++ [97, 98] ++ [34, 10] = _
  rw [this]; rfl
set_option maxHeartbeats 2000000 in
theorem awake_spec : Spec0 Tryd.prog 10 [] Tabs (fun F => F) (fun _ : Unit => True) (fun _ => .bool true) (fun _ F => F) := by
  (refine spec_of Tryd.func10 rfl Tryd.ntmps10 rfl (fun F w0 hrd => ?_))
  haveI : ReadIn F Tabs := ⟨hrd⟩
  refine walk ?_
  refine call (parse_spec [119, 114, 105, 116, 101, 32, 51, 32, 34, 97, 98, 34] (by decide)) ?_
  intro v1 _
  rw [awake1]
  refine walk ?_
  refine call (parse_spec [119, 114, 105, 116, 101, 32, 51] (by decide)) ?_
  intro v2 _
  rw [awake2]
  refine WL.ent (Γ' := Sl v1 1 ([Stp.write 3 [97, 98]].map stv) :: F) (Ent.drop Ent.refl) ?_
  refine walk ?_
  refine wl_y (yl_index1n (i := 0) rfl rfl (by decide)) rfl ?_
  refine walk ?_
  refine call (line_spec (.write 3 [97, 98]) ⟨by decide, by decide⟩) ?_
  intro _ _
  rw [awake3]
  refine walk ?_
  exact wq_ret1 rfl rfl () rfl trivial perm
end Go.Proofs.YtihkfklpoliilaaDoor
