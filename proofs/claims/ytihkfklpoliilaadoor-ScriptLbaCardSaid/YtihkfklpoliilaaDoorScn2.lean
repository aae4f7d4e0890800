/- A step, by its word. -/
import Derived.Test.YtihkfklpoliilaaDoorScn
namespace Go.Proofs.YtihkfklpoliilaaDoor
open Go Go.Sl
attribute [local irreducible] Yl WL WC WQ WD
def StepRes (l : List Nat) (m : Scan Stp) (x : Value × Nat × Nat) : Prop := x.2.1 ≤ l.length ∧ x.1.oneCell' = true ∧ match m with
  | .ok (s, r) => x.1 = stv s ∧ l.drop x.2.1 = r ∧ x.2.2 = 0
  | .error (c, r) => x.2.2 = c ∧ l.drop x.2.1 = r ∧ c ≠ 0
set_option maxHeartbeats 8000000 in
theorem step_spec (p : Nat) (lv : Value) (l : List Nat) (i : Nat) (hl : l.length ≤ 65536) (hi : i ≤ l.length) (hok : ∀ r ∈ l, RuneOk r) :
    Spec0 Tryd.prog 27 [vp p] (fun h => Tabs h ∧ Rd lv 1 (l.map vr) h) (fun F => ScanAt p lv i 0 :: F) (StepRes l (stp (l.drop i))) (fun x => x.1) (fun x F => ScanAt p lv x.2.1 x.2.2 :: F) := by
  (refine spec_of Tryd.func27 rfl Tryd.ntmps27 rfl (fun F w0 hrd => ?_))
  haveI : RdIn F lv 1 (l.map vr) := ⟨fun h hs => (hrd h hs).2⟩
  haveI : ReadIn F Tabs := ⟨fun h hs => (hrd h hs).1⟩
  refine walk ?_
  refine call (run_spec p lv l i 97 122 (by omega) hl hi hok) ?_
  intro j hj
  obtain ⟨hj1, hj2, hj3⟩ := hj
  have hA : isA = inR 97 122 := rfl
  unfold stp
  rw [hA, ← hj1]
  generalize bytesOf ((l.drop i).takeWhile (inR 97 122)) = w
  refine walk ?_
  refine wif_dec (p := w = wWrite) (fun h1 => ?_) (fun h1 => ?_)
  · have hst : stpW w (l.drop j) (l.drop i) = wrt (l.drop j) := by unfold stpW; rw [if_pos h1]
    refine walk ?_
    refine call (number_spec p lv l j 1073741824 hl hj3 hok) ?_ (hr := fun h hs => ⟨ReadIn.rd h hs, RdIn.rd h hs⟩)
    intro x hx
    obtain ⟨u, k, e⟩ := x
    unfold NumRes at hx
    cases hm : num bigMost (l.drop j) with
    | error cr =>
      obtain ⟨c, r⟩ := cr
      have hne := num_ne hm
      rw [show num 1073741824 (l.drop j) = .error (c, r) from hm] at hx
      obtain ⟨hx1, hx2, rfl, rfl⟩ := hx
      dsimp only at hx1 hx2 hne ⊢
      refine walk ?_
      refine call (quoted_err p lv k e hne) ?_
      intro _ _
      refine walk ?_
      refine wq_ret1 rfl rfl (_, k, e) rfl ⟨hx1, rfl, ?_⟩ Ent.refl
      rw [hst]; unfold wrt; rw [hm]; exact ⟨rfl, rfl, hne⟩
    | ok nr =>
      obtain ⟨n, r⟩ := nr
      have hnl : n ≤ 1073741824 := num_le hm
      rw [show num 1073741824 (l.drop j) = .ok (n, r) from hm] at hx
      obtain ⟨hx1, hx2, hx3, rfl, hx5⟩ := hx
      dsimp only at hx1 hx2 hx3 hx5 ⊢
      subst hx3 hx5
      refine walk ?_
      refine call (quoted_spec p lv l k hl hx1 hok) ?_
      intro y hy
      obtain ⟨v, q, e⟩ := y
      unfold QuoRes at hy
      cases hn : quo (l.drop k) with
      | error cr =>
        obtain ⟨c, r⟩ := cr
        have hne := quo_ne hn
        rw [hn] at hy
        obtain ⟨hy1, rfl, rfl⟩ := hy
        dsimp only at hy1 hne ⊢
        refine walk ?_
        refine wq_ret1 rfl rfl (_, q, e) rfl ⟨hy1, rfl, ?_⟩ Ent.refl
        rw [hst]; unfold wrt; rw [hm]; dsimp only; rw [hn]; exact ⟨rfl, rfl, hne⟩
      | ok nr =>
        obtain ⟨o, r⟩ := nr
        rw [hn] at hy
        obtain ⟨hy1, hy3, rfl, hy5⟩ := hy
        dsimp only at hy1 hy3 hy5 ⊢
        subst hy3 hy5
        refine walk ?_
        refine wq_ret1 rfl rfl (_, q, 0) rfl ⟨hy1, rfl, ?_⟩ Ent.refl
        rw [hst]; unfold wrt; rw [hm]; dsimp only; rw [hn]; exact ⟨rfl, rfl, rfl⟩
  refine walk ?_
  refine wif_dec (p := w = wRead) (fun h2 => ?_) (fun h2 => ?_)
  · have hst : stpW w (l.drop j) (l.drop i) = one (l.drop j) .read := by unfold stpW; rw [if_neg h1, if_pos h2]
    · refine walk ?_
      refine call (number_spec p lv l j 1073741824 hl hj3 hok) ?_ (hr := fun h hs => ⟨ReadIn.rd h hs, RdIn.rd h hs⟩)
      intro x hx
      obtain ⟨u, k, e⟩ := x
      unfold NumRes at hx
      cases hm : num bigMost (l.drop j) with
      | error cr =>
        obtain ⟨c, r⟩ := cr
        have hne := num_ne hm
        rw [show num 1073741824 (l.drop j) = .error (c, r) from hm] at hx
        obtain ⟨hx1, hx2, rfl, rfl⟩ := hx
        dsimp only at hx1 hx2 hne ⊢
        refine walk ?_
        refine wq_ret1 rfl rfl (_, k, e) rfl ⟨hx1, rfl, ?_⟩ Ent.refl
        rw [hst]; unfold one; rw [hm]; exact ⟨rfl, rfl, hne⟩
      | ok nr =>
        obtain ⟨n, r⟩ := nr
        have hnl : n ≤ 1073741824 := num_le hm
        rw [show num 1073741824 (l.drop j) = .ok (n, r) from hm] at hx
        obtain ⟨hx1, hx2, hx3, rfl, hx5⟩ := hx
        dsimp only at hx1 hx2 hx3 hx5 ⊢
        subst hx3 hx5
        refine walk ?_
        refine wq_ret1 rfl rfl (_, k, 0) rfl ⟨hx1, rfl, ?_⟩ Ent.refl
        rw [hst]; unfold one; rw [hm]; exact ⟨rfl, rfl, rfl⟩
  refine walk ?_
  refine wif_dec (p := w = wTrim) (fun h3 => ?_) (fun h3 => ?_)
  · have hst : stpW w (l.drop j) (l.drop i) = one (l.drop j) .trim := by unfold stpW; rw [if_neg h1, if_neg h2, if_pos h3]
    · refine walk ?_
      refine call (number_spec p lv l j 1073741824 hl hj3 hok) ?_ (hr := fun h hs => ⟨ReadIn.rd h hs, RdIn.rd h hs⟩)
      intro x hx
      obtain ⟨u, k, e⟩ := x
      unfold NumRes at hx
      cases hm : num bigMost (l.drop j) with
      | error cr =>
        obtain ⟨c, r⟩ := cr
        have hne := num_ne hm
        rw [show num 1073741824 (l.drop j) = .error (c, r) from hm] at hx
        obtain ⟨hx1, hx2, rfl, rfl⟩ := hx
        dsimp only at hx1 hx2 hne ⊢
        refine walk ?_
        refine wq_ret1 rfl rfl (_, k, e) rfl ⟨hx1, rfl, ?_⟩ Ent.refl
        rw [hst]; unfold one; rw [hm]; exact ⟨rfl, rfl, hne⟩
      | ok nr =>
        obtain ⟨n, r⟩ := nr
        have hnl : n ≤ 1073741824 := num_le hm
        rw [show num 1073741824 (l.drop j) = .ok (n, r) from hm] at hx
        obtain ⟨hx1, hx2, hx3, rfl, hx5⟩ := hx
        dsimp only at hx1 hx2 hx3 hx5 ⊢
        subst hx3 hx5
        refine walk ?_
        refine wq_ret1 rfl rfl (_, k, 0) rfl ⟨hx1, rfl, ?_⟩ Ent.refl
        rw [hst]; unfold one; rw [hm]; exact ⟨rfl, rfl, rfl⟩
  refine walk ?_
  refine wif_dec (p := w = wFlush) (fun p0 => ?_) (fun p0 => ?_)
  · have hst : stpW w (l.drop j) (l.drop i) = .ok (.plain w, l.drop j) := by unfold stpW; rw [if_neg h1, if_neg h2, if_neg h3, if_pos (by simp [p0])]
    refine walk ?_
    refine ⟨fun _ => ?_, fun hz => absurd p0 (of_decide_eq_false hz)⟩
    · refine walk ?_
      refine wq_ret1 rfl rfl (_, j, 0) rfl ⟨hj3, rfl, ?_⟩ Ent.refl
      rw [hst]; exact ⟨rfl, rfl, rfl⟩
  refine walk ?_
  refine wif_dec (p := w = wCkpt) (fun p1 => ?_) (fun p1 => ?_)
  · have hst : stpW w (l.drop j) (l.drop i) = .ok (.plain w, l.drop j) := by unfold stpW; rw [if_neg h1, if_neg h2, if_neg h3, if_pos (by simp [p1])]
    refine walk ?_
    refine ⟨fun _ => ?_, fun hz => absurd p1 (of_decide_eq_false hz)⟩
    · refine walk ?_
      refine wq_ret1 rfl rfl (_, j, 0) rfl ⟨hj3, rfl, ?_⟩ Ent.refl
      rw [hst]; exact ⟨rfl, rfl, rfl⟩
  refine walk ?_
  refine wif_dec (p := w = wRebuild) (fun p2 => ?_) (fun p2 => ?_)
  · have hst : stpW w (l.drop j) (l.drop i) = .ok (.plain w, l.drop j) := by unfold stpW; rw [if_neg h1, if_neg h2, if_neg h3, if_pos (by simp [p2])]
    refine walk ?_
    refine ⟨fun _ => ?_, fun hz => absurd p2 (of_decide_eq_false hz)⟩
    · refine walk ?_
      refine wq_ret1 rfl rfl (_, j, 0) rfl ⟨hj3, rfl, ?_⟩ Ent.refl
      rw [hst]; exact ⟨rfl, rfl, rfl⟩
  refine walk ?_
  refine wif_dec (p := w = wCheck) (fun p3 => ?_) (fun p3 => ?_)
  · have hst : stpW w (l.drop j) (l.drop i) = .ok (.plain w, l.drop j) := by unfold stpW; rw [if_neg h1, if_neg h2, if_neg h3, if_pos (by simp [p3])]
    · refine walk ?_
      refine wq_ret1 rfl rfl (_, j, 0) rfl ⟨hj3, rfl, ?_⟩ Ent.refl
      rw [hst]; exact ⟨rfl, rfl, rfl⟩
  refine walk ?_
  have hp : ¬ (w = wFlush ∨ w = wCkpt ∨ w = wRebuild ∨ w = wCheck) := by rintro (h | h | h | h) <;> contradiction
  refine wif_dec (p := w = wGreedy) (fun g0 => ?_) (fun g0 => ?_)
  · have hst : stpW w (l.drop j) (l.drop i) = one (l.drop j) (.clean (decide (w = wGreedy))) := by unfold stpW; rw [if_neg h1, if_neg h2, if_neg h3, if_neg hp, if_pos (by simp [g0])]
    refine walk ?_
    refine ⟨fun _ => ?_, fun hz => absurd g0 (of_decide_eq_false hz)⟩
    · refine walk ?_
      refine call (number_spec p lv l j 1073741824 hl hj3 hok) ?_ (hr := fun h hs => ⟨ReadIn.rd h hs, RdIn.rd h hs⟩)
      intro x hx
      obtain ⟨u, k, e⟩ := x
      unfold NumRes at hx
      cases hm : num bigMost (l.drop j) with
      | error cr =>
        obtain ⟨c, r⟩ := cr
        have hne := num_ne hm
        rw [show num 1073741824 (l.drop j) = .error (c, r) from hm] at hx
        obtain ⟨hx1, hx2, rfl, rfl⟩ := hx
        dsimp only at hx1 hx2 hne ⊢
        refine walk ?_
        refine wq_ret1 rfl rfl (_, k, e) rfl ⟨hx1, rfl, ?_⟩ Ent.refl
        rw [hst]; unfold one; rw [hm]; exact ⟨rfl, rfl, hne⟩
      | ok nr =>
        obtain ⟨n, r⟩ := nr
        have hnl : n ≤ 1073741824 := num_le hm
        rw [show num 1073741824 (l.drop j) = .ok (n, r) from hm] at hx
        obtain ⟨hx1, hx2, hx3, rfl, hx5⟩ := hx
        dsimp only at hx1 hx2 hx3 hx5 ⊢
        subst hx3 hx5
        refine walk ?_
        refine wq_ret1 rfl rfl (_, k, 0) rfl ⟨hx1, rfl, ?_⟩ Ent.refl
        rw [hst]; unfold one; rw [hm]; exact ⟨rfl, rfl, rfl⟩
  refine walk ?_
  refine wif_dec (p := w = wWorth) (fun g1 => ?_) (fun g1 => ?_)
  · have hst : stpW w (l.drop j) (l.drop i) = one (l.drop j) (.clean (decide (w = wGreedy))) := by unfold stpW; rw [if_neg h1, if_neg h2, if_neg h3, if_neg hp, if_pos (by simp [g1])]
    · refine walk ?_
      refine call (number_spec p lv l j 1073741824 hl hj3 hok) ?_ (hr := fun h hs => ⟨ReadIn.rd h hs, RdIn.rd h hs⟩)
      intro x hx
      obtain ⟨u, k, e⟩ := x
      unfold NumRes at hx
      cases hm : num bigMost (l.drop j) with
      | error cr =>
        obtain ⟨c, r⟩ := cr
        have hne := num_ne hm
        rw [show num 1073741824 (l.drop j) = .error (c, r) from hm] at hx
        obtain ⟨hx1, hx2, rfl, rfl⟩ := hx
        dsimp only at hx1 hx2 hne ⊢
        refine walk ?_
        refine wq_ret1 rfl rfl (_, k, e) rfl ⟨hx1, rfl, ?_⟩ Ent.refl
        rw [hst]; unfold one; rw [hm]; exact ⟨rfl, rfl, hne⟩
      | ok nr =>
        obtain ⟨n, r⟩ := nr
        have hnl : n ≤ 1073741824 := num_le hm
        rw [show num 1073741824 (l.drop j) = .ok (n, r) from hm] at hx
        obtain ⟨hx1, hx2, hx3, rfl, hx5⟩ := hx
        dsimp only at hx1 hx2 hx3 hx5 ⊢
        subst hx3 hx5
        refine walk ?_
        refine wq_ret1 rfl rfl (_, k, 0) rfl ⟨hx1, rfl, ?_⟩ Ent.refl
        rw [hst]; unfold one; rw [hm]; exact ⟨rfl, rfl, rfl⟩
  refine walk ?_
  have hg : ¬ (w = wGreedy ∨ w = wWorth) := by rintro (h | h) <;> contradiction
  refine wif_dec (p := w = wFail) (fun f0 => ?_) (fun f0 => ?_)
  · have hst : stpW w (l.drop j) (l.drop i) = one (l.drop j) (.member w) := by unfold stpW; rw [if_neg h1, if_neg h2, if_neg h3, if_neg hp, if_neg hg, if_pos (by simp [f0])]
    refine walk ?_
    refine ⟨fun _ => ?_, fun hz => absurd f0 (of_decide_eq_false hz)⟩
    · refine walk ?_
      refine call (number_spec p lv l j 1073741824 hl hj3 hok) ?_ (hr := fun h hs => ⟨ReadIn.rd h hs, RdIn.rd h hs⟩)
      intro x hx
      obtain ⟨u, k, e⟩ := x
      unfold NumRes at hx
      cases hm : num bigMost (l.drop j) with
      | error cr =>
        obtain ⟨c, r⟩ := cr
        have hne := num_ne hm
        rw [show num 1073741824 (l.drop j) = .error (c, r) from hm] at hx
        obtain ⟨hx1, hx2, rfl, rfl⟩ := hx
        dsimp only at hx1 hx2 hne ⊢
        refine walk ?_
        refine wq_ret1 rfl rfl (_, k, e) rfl ⟨hx1, rfl, ?_⟩ Ent.refl
        rw [hst]; unfold one; rw [hm]; exact ⟨rfl, rfl, hne⟩
      | ok nr =>
        obtain ⟨n, r⟩ := nr
        have hnl : n ≤ 1073741824 := num_le hm
        rw [show num 1073741824 (l.drop j) = .ok (n, r) from hm] at hx
        obtain ⟨hx1, hx2, hx3, rfl, hx5⟩ := hx
        dsimp only at hx1 hx2 hx3 hx5 ⊢
        subst hx3 hx5
        refine walk ?_
        refine wq_ret1 rfl rfl (_, k, 0) rfl ⟨hx1, rfl, ?_⟩ Ent.refl
        rw [hst]; unfold one; rw [hm]; exact ⟨rfl, rfl, rfl⟩
  refine walk ?_
  refine wif_dec (p := w = wReplace) (fun f1 => ?_) (fun f1 => ?_)
  · have hst : stpW w (l.drop j) (l.drop i) = one (l.drop j) (.member w) := by unfold stpW; rw [if_neg h1, if_neg h2, if_neg h3, if_neg hp, if_neg hg, if_pos (by simp [f1])]
    · refine walk ?_
      refine call (number_spec p lv l j 1073741824 hl hj3 hok) ?_ (hr := fun h hs => ⟨ReadIn.rd h hs, RdIn.rd h hs⟩)
      intro x hx
      obtain ⟨u, k, e⟩ := x
      unfold NumRes at hx
      cases hm : num bigMost (l.drop j) with
      | error cr =>
        obtain ⟨c, r⟩ := cr
        have hne := num_ne hm
        rw [show num 1073741824 (l.drop j) = .error (c, r) from hm] at hx
        obtain ⟨hx1, hx2, rfl, rfl⟩ := hx
        dsimp only at hx1 hx2 hne ⊢
        refine walk ?_
        refine wq_ret1 rfl rfl (_, k, e) rfl ⟨hx1, rfl, ?_⟩ Ent.refl
        rw [hst]; unfold one; rw [hm]; exact ⟨rfl, rfl, hne⟩
      | ok nr =>
        obtain ⟨n, r⟩ := nr
        have hnl : n ≤ 1073741824 := num_le hm
        rw [show num 1073741824 (l.drop j) = .ok (n, r) from hm] at hx
        obtain ⟨hx1, hx2, hx3, rfl, hx5⟩ := hx
        dsimp only at hx1 hx2 hx3 hx5 ⊢
        subst hx3 hx5
        refine walk ?_
        refine wq_ret1 rfl rfl (_, k, 0) rfl ⟨hx1, rfl, ?_⟩ Ent.refl
        rw [hst]; unfold one; rw [hm]; exact ⟨rfl, rfl, rfl⟩
  refine walk ?_
  have hf : ¬ (w = wFail ∨ w = wReplace) := by rintro (h | h) <;> contradiction
  refine wif_dec (p := w = wFailat) (fun t0 => ?_) (fun t0 => ?_)
  · have hst : stpW w (l.drop j) (l.drop i) = two (l.drop j) bigMost .failat := by unfold stpW; rw [if_neg h1, if_neg h2, if_neg h3, if_neg hp, if_neg hg, if_neg hf, if_pos t0]
    · refine walk ?_
      refine call (number_spec p lv l j 1073741824 hl hj3 hok) ?_ (hr := fun h hs => ⟨ReadIn.rd h hs, RdIn.rd h hs⟩)
      intro x hx
      obtain ⟨u, k, e⟩ := x
      unfold NumRes at hx
      cases hm : num bigMost (l.drop j) with
      | error cr =>
        obtain ⟨c, r⟩ := cr
        have hne := num_ne hm
        rw [show num 1073741824 (l.drop j) = .error (c, r) from hm] at hx
        obtain ⟨hx1, hx2, rfl, rfl⟩ := hx
        dsimp only at hx1 hx2 hne ⊢
        refine walk ?_
        refine call (number_err p lv k e _ hne) ?_
        intro _ _
        refine walk ?_
        refine wq_ret1 rfl rfl (_, k, e) rfl ⟨hx1, rfl, ?_⟩ Ent.refl
        rw [hst]; unfold two; rw [hm]; exact ⟨rfl, rfl, hne⟩
      | ok nr =>
        obtain ⟨n, r⟩ := nr
        have hnl : n ≤ 1073741824 := num_le hm
        rw [show num 1073741824 (l.drop j) = .ok (n, r) from hm] at hx
        obtain ⟨hx1, hx2, hx3, rfl, hx5⟩ := hx
        dsimp only at hx1 hx2 hx3 hx5 ⊢
        subst hx3 hx5
        refine walk ?_
        refine call (number_spec p lv l k 1073741824 hl hx1 hok) ?_ (hr := fun h hs => ⟨ReadIn.rd h hs, RdIn.rd h hs⟩)
        intro y hy
        obtain ⟨v, q, e⟩ := y
        unfold NumRes at hy
        cases hn : num 1073741824 (l.drop k) with
        | error cr =>
          obtain ⟨c, r⟩ := cr
          have hne := num_ne hn
          rw [hn] at hy
          obtain ⟨hy1, hy2, rfl, rfl⟩ := hy
          dsimp only at hy1 hy2 hne ⊢
          refine walk ?_
          refine wq_ret1 rfl rfl (_, q, e) rfl ⟨hy1, rfl, ?_⟩ Ent.refl
          rw [hst]; unfold two; rw [hm]; dsimp only; rw [show num bigMost (l.drop k) = _ from hn]; exact ⟨rfl, rfl, hne⟩
        | ok nr =>
          obtain ⟨o, r⟩ := nr
          have hol : o ≤ 1073741824 := num_le hn
          rw [hn] at hy
          obtain ⟨hy1, hy2, hy3, rfl, hy5⟩ := hy
          dsimp only at hy1 hy2 hy3 hy5 ⊢
          subst hy3 hy5
          refine walk ?_
          refine wq_ret1 rfl rfl (_, q, 0) rfl ⟨hy1, rfl, ?_⟩ Ent.refl
          rw [hst]; unfold two; rw [hm]; dsimp only; rw [show num bigMost (l.drop k) = _ from hn]; exact ⟨rfl, rfl, rfl⟩
  refine walk ?_
  refine wif_dec (p := w = wCrash) (fun c0 => ?_) (fun c0 => ?_)
  · have hst : stpW w (l.drop j) (l.drop i) = two (l.drop j) 18446744073709551615 .crash := by unfold stpW; rw [if_neg h1, if_neg h2, if_neg h3, if_neg hp, if_neg hg, if_neg hf, if_neg t0, if_pos c0]
    · refine walk ?_
      refine call (number_spec p lv l j 1073741824 hl hj3 hok) ?_ (hr := fun h hs => ⟨ReadIn.rd h hs, RdIn.rd h hs⟩)
      intro x hx
      obtain ⟨u, k, e⟩ := x
      unfold NumRes at hx
      cases hm : num bigMost (l.drop j) with
      | error cr =>
        obtain ⟨c, r⟩ := cr
        have hne := num_ne hm
        rw [show num 1073741824 (l.drop j) = .error (c, r) from hm] at hx
        obtain ⟨hx1, hx2, rfl, rfl⟩ := hx
        dsimp only at hx1 hx2 hne ⊢
        refine walk ?_
        refine call (number_err p lv k e _ hne) ?_
        intro _ _
        refine walk ?_
        refine wq_ret1 rfl rfl (_, k, e) rfl ⟨hx1, rfl, ?_⟩ Ent.refl
        rw [hst]; unfold two; rw [hm]; exact ⟨rfl, rfl, hne⟩
      | ok nr =>
        obtain ⟨n, r⟩ := nr
        have hnl : n ≤ 1073741824 := num_le hm
        rw [show num 1073741824 (l.drop j) = .ok (n, r) from hm] at hx
        obtain ⟨hx1, hx2, hx3, rfl, hx5⟩ := hx
        dsimp only at hx1 hx2 hx3 hx5 ⊢
        subst hx3 hx5
        refine walk ?_
        refine call (number_spec p lv l k 18446744073709551615 hl hx1 hok) ?_ (hr := fun h hs => ⟨ReadIn.rd h hs, RdIn.rd h hs⟩)
        intro y hy
        obtain ⟨v, q, e⟩ := y
        unfold NumRes at hy
        cases hn : num 18446744073709551615 (l.drop k) with
        | error cr =>
          obtain ⟨c, r⟩ := cr
          have hne := num_ne hn
          rw [hn] at hy
          obtain ⟨hy1, hy2, rfl, rfl⟩ := hy
          dsimp only at hy1 hy2 hne ⊢
          refine walk ?_
          refine wq_ret1 rfl rfl (_, q, e) rfl ⟨hy1, rfl, ?_⟩ Ent.refl
          rw [hst]; unfold two; rw [hm]; dsimp only; rw [show num 18446744073709551615 (l.drop k) = _ from hn]; exact ⟨rfl, rfl, hne⟩
        | ok nr =>
          obtain ⟨o, r⟩ := nr
          have hol : o ≤ 18446744073709551615 := num_le hn
          rw [hn] at hy
          obtain ⟨hy1, hy2, hy3, rfl, hy5⟩ := hy
          dsimp only at hy1 hy2 hy3 hy5 ⊢
          subst hy3 hy5
          refine walk ?_
          refine wq_ret1 rfl rfl (_, q, 0) rfl ⟨hy1, rfl, ?_⟩ Ent.refl
          rw [hst]; unfold two; rw [hm]; dsimp only; rw [show num 18446744073709551615 (l.drop k) = _ from hn]; exact ⟨rfl, rfl, rfl⟩
  have hst : stpW w (l.drop j) (l.drop i) = .error (11, l.drop i) := by unfold stpW; rw [if_neg h1, if_neg h2, if_neg h3, if_neg hp, if_neg hg, if_neg hf, if_neg t0, if_neg c0]
  refine walk ?_
  refine call (fail_spec p lv i 11) ?_
  intro _ _
  refine walk ?_
  refine wq_ret1 rfl rfl (.nilIface, i, 11) rfl ⟨hi, rfl, ?_⟩ Ent.refl
  rw [hst]; exact ⟨rfl, rfl, by decide⟩
end Go.Proofs.YtihkfklpoliilaaDoor
