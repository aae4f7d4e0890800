/- Steps' lines, words; are two lists of steps the same? -/
import Derived.Test.YtihkfklpoliilaaDoorSlb
import Derived.Test.YtihkfklpoliilaaDoorIvk
namespace Go.Proofs.YtihkfklpoliilaaDoor
open Go Go.Sl
attribute [local irreducible] Yl WL WC WQ WD
/-- a blank and a number -/
def numB (n : Nat) : Bytes := 32 :: Lib.decDigits n
/-- a step's line -/
def lineB : Stp → Bytes
  | .write n t => wWrite ++ numB n ++ [32, 34] ++ t ++ [34, 10]
  | .read n => wRead ++ numB n ++ [10]
  | .trim n => wTrim ++ numB n ++ [10]
  | .plain w => w ++ [10]
  | .clean true n => wGreedy ++ numB n ++ [10]
  | .clean false n => wWorth ++ numB n ++ [10]
  | .member w n => w ++ numB n ++ [10]
  | .failat m o => wFailat ++ numB m ++ numB o ++ [10]
  | .crash n k => wCrash ++ numB n ++ [32] ++ Lib.decDigits k ++ [10]
/-- a step's word -/
def wordB : Stp → Bytes
  | .write _ _ => wWrite
  | .read _ => wRead
  | .trim _ => wTrim
  | .plain w => w
  | .clean _ _ => [99, 108, 101, 97, 110]
  | .member w _ => w
  | .failat _ _ => wFailat
  | .crash _ _ => wCrash
/-- numbers and texts of a size that there can be -/
def SFit : Stp → Prop
  | .write n t => n ≤ 1073741824 ∧ t.length ≤ 281474976710656
  | .read n => n ≤ 1073741824
  | .trim n => n ≤ 1073741824
  | .plain w => w.length ≤ 65536
  | .clean _ n => n ≤ 1073741824
  | .member w n => n ≤ 1073741824 ∧ w.length ≤ 65536
  | .failat m o => m ≤ 1073741824 ∧ o ≤ 1073741824
  | .crash n k => n ≤ 1073741824 ∧ k < 18446744073709551616
theorem dig_len {n : Nat} (h : n < 18446744073709551616) : (Lib.decDigits n).length ≤ 20 := by rw [Lib.decDigits_length]; exact Lib.nDigits_le20 n h
theorem numB_len {n : Nat} (h : n < 18446744073709551616) : (numB n).length ≤ 21 := by have := dig_len h; unfold numB; simp; omega
theorem lineNum_spec (n : Nat) (hn : n ≤ 1073741824) :
    Spec0 Tryd.prog 33 [vi n] Tabs (fun F => F) (fun _ : Unit => True) (fun _ => vs (numB n)) (fun _ F => F) := by
  have hd := dig_len (n := n) (by omega)
  (refine spec_of Tryd.func33 rfl Tryd.ntmps33 rfl (fun F w0 hrd => ?_))
  haveI : ReadIn F Tabs := ⟨hrd⟩
  refine walk ?_
  refine call (itoa_spec n (by omega)) ?_
  intro _ _
  refine walk ?_
  exact wq_ret1 rfl rfl () rfl trivial Ent.refl
set_option maxHeartbeats 8000000 in
theorem line_spec (st : Stp) (hst : SFit st) :
    Spec0 Tryd.prog 15 [stv st] Tabs (fun F => F) (fun _ : Unit => True) (fun _ => vs (lineB st)) (fun _ F => F) := by
  (refine spec_of Tryd.func15 rfl Tryd.ntmps15 rfl (fun F w0 hrd => ?_))
  haveI : ReadIn F Tabs := ⟨hrd⟩
  cases st with
  | write n t =>
    obtain ⟨h1, h2⟩ := hst
    have hd := numB_len (n := n) (by omega)
    unfold stv
    refine walk ?_
    intro c
    refine walk ?_
    (refine draw ?_; refine dy 0 ?_; refine dy 1 ?_; refine dy 2 ?_; refine dy 6 ?_; refine dy 7 ?_; refine ddo 3 ?_)
    refine call (lineNum_spec n h1) ?_
    intro _ _
    (refine walk ?_; refine dy 4 ?_; refine dy 5 ?_; refine dy 8 ?_; refine dy 9 ?_; refine dy 10 ?_; refine walk ?_)
    exact wq_ret1 rfl rfl () rfl trivial perm
  | read n =>
    have h1 : n ≤ 1073741824 := hst
    have hd := numB_len (n := n) (by omega)
    unfold stv
    refine walk ?_
    intro c
    refine walk ?_
    refine call (lineNum_spec n h1) ?_
    intro _ _
    refine walk ?_
    exact wq_ret1 rfl rfl () rfl trivial perm
  | trim n =>
    have h1 : n ≤ 1073741824 := hst
    have hd := numB_len (n := n) (by omega)
    unfold stv
    refine walk ?_
    intro c
    refine walk ?_
    refine call (lineNum_spec n h1) ?_
    intro _ _
    refine walk ?_
    exact wq_ret1 rfl rfl () rfl trivial perm
  | plain w =>
    have h1 : w.length ≤ 65536 := hst
    unfold stv
    refine walk ?_
    intro c
    refine walk ?_
    exact wq_ret1 rfl rfl () rfl trivial perm
  | clean g n =>
    have h1 : n ≤ 1073741824 := hst
    have hd := numB_len (n := n) (by omega)
    unfold stv
    cases g
    · refine walk ?_
      intro c
      refine walk ?_
      refine call (lineNum_spec n h1) ?_
      intro _ _
      refine walk ?_
      exact wq_ret1 rfl rfl () rfl trivial perm
    · refine walk ?_
      intro c
      refine walk ?_
      refine call (lineNum_spec n h1) ?_
      intro _ _
      refine walk ?_
      exact wq_ret1 rfl rfl () rfl trivial perm
  | member w n =>
    obtain ⟨h1, h2⟩ := hst
    have hd := numB_len (n := n) (by omega)
    unfold stv
    refine walk ?_
    intro c
    refine walk ?_
    (refine draw ?_; refine dy 0 ?_; refine dy 1 ?_; refine dy 2 ?_; refine dy 3 ?_; refine dy 4 ?_; refine ddo 5 ?_)
    refine call (lineNum_spec n h1) ?_
    intro _ _
    (refine walk ?_; refine dy 6 ?_; refine dy 7 ?_; refine dy 8 ?_; refine walk ?_)
    exact wq_ret1 rfl rfl () rfl trivial perm
  | failat m o =>
    obtain ⟨h1, h2⟩ := hst
    have hd := numB_len (n := m) (by omega)
    have hd2 := numB_len (n := o) (by omega)
    unfold stv
    refine walk ?_
    intro c
    refine walk ?_
    (refine draw ?_; refine dy 0 ?_; refine dy 1 ?_; refine dy 2 ?_; refine dy 5 ?_; refine dy 6 ?_; refine dy 7 ?_; refine ddo 3 ?_)
    refine call (lineNum_spec m h1) ?_
    intro _ _
    (refine walk ?_; refine dy 4 ?_; refine ddo 8 ?_)
    refine call (lineNum_spec o h2) ?_
    intro _ _
    (refine walk ?_; refine dy 9 ?_; refine dy 10 ?_; refine dy 11 ?_; refine walk ?_)
    exact wq_ret1 rfl rfl () rfl trivial perm
  | crash n k =>
    obtain ⟨h1, h2⟩ := hst
    have hd := numB_len (n := n) (by omega)
    have hd2 := dig_len h2
    unfold stv
    refine walk ?_
    intro c
    refine walk ?_
    (refine draw ?_; refine dy 0 ?_; refine dy 1 ?_; refine dy 2 ?_; refine dy 6 ?_; refine dy 7 ?_; refine ddo 3 ?_)
    refine call (lineNum_spec n h1) ?_
    intro _ _
    (refine walk ?_; refine dy 4 ?_; refine dy 5 ?_; refine ddo 8 ?_)
    refine call (fmtUint_spec k h2) ?_
    intro _ _
    (refine walk ?_; refine dy 9 ?_; refine dy 10 ?_; refine dy 11 ?_; refine walk ?_)
    exact wq_ret1 rfl rfl () rfl trivial perm
end Go.Proofs.YtihkfklpoliilaaDoor
