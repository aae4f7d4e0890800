/- script.About and Lba: the block that a step is about; of a step that is about none Lba throws, and thrown answers so. -/
import Derived.Test.YtihkfklpoliilaaDoorLinP
import Derived.Test.YtihkfklpoliilaaDoorAct
import Derived.Test.YtihkfklpoliilaaDoorThr
import Derived.Test.YtihkfklpoliilaaDoorDrw
namespace Go.Proofs.YtihkfklpoliilaaDoor
open Go Go.Sl
attribute [local irreducible] Yl WL WC WQ WD

/-- the block that a step is about -/
def blockOfStp : Stp → Option Nat
  | .write n _ => some n
  | .read n => some n
  | .trim n => some n
  | _ => none
set_option maxHeartbeats 2000000 in
theorem about_spec (st : Stp) : Spec0 Tryd.prog 17 [stv st] (fun _ => True) (fun F => F) (fun _ : Unit => True) (fun _ => .bool (blockOfStp st).isSome) (fun _ F => F) := by
  (refine spec_of Tryd.func17 rfl Tryd.ntmps17 rfl (fun F w0 hrd => ?_))
  cases st with
  | write n t => unfold stv
                 refine walk ?_
                 exact wq_ret1 rfl rfl () rfl trivial perm
  | read n => unfold stv
              refine walk ?_
              exact wq_ret1 rfl rfl () rfl trivial perm
  | trim n => unfold stv
              refine walk ?_
              exact wq_ret1 rfl rfl () rfl trivial perm
  | plain w => unfold stv
               refine walk ?_
               exact wq_ret1 rfl rfl () rfl trivial perm
  | clean g n => unfold stv
                 refine walk ?_
                 exact wq_ret1 rfl rfl () rfl trivial perm
  | member w n => unfold stv
                  refine walk ?_
                  exact wq_ret1 rfl rfl () rfl trivial perm
  | failat m o => unfold stv
                  refine walk ?_
                  exact wq_ret1 rfl rfl () rfl trivial perm
  | crash n k => unfold stv
                 refine walk ?_
                 exact wq_ret1 rfl rfl () rfl trivial perm

instance : AssY Tryd.prog 69 85 := ⟨fun v xt w => by kernel_rfl⟩
instance : AssY Tryd.prog 71 85 := ⟨fun v xt w => by kernel_rfl⟩
instance : AssY Tryd.prog 72 85 := ⟨fun v xt w => by kernel_rfl⟩
theorem lba_spec (st : Stp) (b : Nat) (hb : blockOfStp st = some b) : Spec0 Tryd.prog 18 [stv st] (fun _ => True) (fun F => F) (fun _ : Unit => True) (fun _ => vi b) (fun _ F => F) := by
  (refine spec_of Tryd.func18 rfl Tryd.ntmps18 rfl (fun F w0 hrd => ?_))
  cases st with
  | write n t =>
    cases hb
    unfold stv
    refine walk ?_
    refine wl_y (yl_assertY rfl) rfl ?_
    refine walk ?_
    refine icall (blockWrite_spec b t) (fun _ _ => ?_)
    refine walk ?_
    exact wq_ret1 rfl rfl () rfl trivial perm
  | read n =>
    cases hb
    unfold stv
    refine walk ?_
    refine wl_y (yl_assertY rfl) rfl ?_
    refine walk ?_
    refine icall (blockRead_spec b) (fun _ _ => ?_)
    refine walk ?_
    exact wq_ret1 rfl rfl () rfl trivial perm
  | trim n =>
    cases hb
    unfold stv
    refine walk ?_
    refine wl_y (yl_assertY rfl) rfl ?_
    refine walk ?_
    refine icall (blockTrim_spec b) (fun _ _ => ?_)
    refine walk ?_
    exact wq_ret1 rfl rfl () rfl trivial perm
  | plain w => cases hb
  | clean g n => cases hb
  | member w n => cases hb
  | failat m o => cases hb
  | crash n k => cases hb

set_option maxRecDepth 10000 in
instance : AssN Tryd.prog 74 85 := by
  refine assN_of (fun w => by rw [Tryd.typeInfo74]) (fun w => by rw [Tryd.runUnderlying85]) (missing_one (nm := "Block") ?_).choose_spec
  kernel_rfl
set_option maxRecDepth 10000 in
instance : AssN Tryd.prog 76 85 := by
  refine assN_of (fun w => by rw [Tryd.typeInfo76]) (fun w => by rw [Tryd.runUnderlying85]) (missing_one (nm := "Block") ?_).choose_spec
  kernel_rfl
set_option maxRecDepth 10000 in
instance : AssN Tryd.prog 78 85 := by
  refine assN_of (fun w => by rw [Tryd.typeInfo78]) (fun w => by rw [Tryd.runUnderlying85]) (missing_one (nm := "Block") ?_).choose_spec
  kernel_rfl
set_option maxRecDepth 10000 in
instance : AssN Tryd.prog 80 85 := by
  refine assN_of (fun w => by rw [Tryd.typeInfo80]) (fun w => by rw [Tryd.runUnderlying85]) (missing_one (nm := "Block") ?_).choose_spec
  kernel_rfl
set_option maxRecDepth 10000 in
instance : AssN Tryd.prog 82 85 := by
  refine assN_of (fun w => by rw [Tryd.typeInfo82]) (fun w => by rw [Tryd.runUnderlying85]) (missing_one (nm := "Block") ?_).choose_spec
  kernel_rfl
theorem lba_throws (st : Stp) (hb : blockOfStp st = none) : Throws 18 [stv st] (fun F => F) := by
  intro F w hs
  refine calls_any Tryd.func18 rfl Tryd.ntmps18 rfl hs ?_
  cases st with
  | write n t => cases hb
  | read n => cases hb
  | trim n => cases hb
  | plain w =>
    unfold stv
    
    refine walk ?_
    refine wl_assertN rfl (fun r w' he hs => ⟨r, he, rfl, hs⟩)
  | clean g n =>
    unfold stv
    
    refine walk ?_
    refine wl_assertN rfl (fun r w' he hs => ⟨r, he, rfl, hs⟩)
  | member w n =>
    unfold stv
    
    refine walk ?_
    refine wl_assertN rfl (fun r w' he hs => ⟨r, he, rfl, hs⟩)
  | failat m o =>
    unfold stv
    
    refine walk ?_
    refine wl_assertN rfl (fun r w' he hs => ⟨r, he, rfl, hs⟩)
  | crash n k =>
    unfold stv
    
    refine walk ?_
    refine wl_assertN rfl (fun r w' he hs => ⟨r, he, rfl, hs⟩)
theorem lba1_throws (b : Nat) (st : Stp) (hb : blockOfStp st = none) : Throws 20 [vp b] (fun F => Cells b [stv st] :: F) := by
  intro F w hs
  refine calls_any Tryd.func20 rfl Tryd.ntmps20 rfl hs ?_
  
  refine walk ?_
  refine wl_throws (lba_throws st hb (Cells b [stv st] :: F)) rfl rfl Ent.refl (fun r w' he hs => ⟨r, he, rfl, hs⟩)
end Go.Proofs.YtihkfklpoliilaaDoor
