/- The law's own step. -/
import Derived.Test.YtihkfklpoliilaaDoorTel
namespace Go.Proofs.YtihkfklpoliilaaDoor
open Go Go.Sl
attribute [local irreducible] Yl WL WC WQ WD
set_option maxHeartbeats 8000000 in
theorem tstep_spec (p : Nat) (lv : Value) (l : List Nat) (i : Nat) (hl : l.length ≤ 65536) (hi : i ≤ l.length) :
    Spec0 Tryd.prog 32 [vp p] (Rd lv 1 (l.map vr)) (fun F => ScanAt p lv i 0 :: F) (StepRes l (stp (l.drop i))) (fun x => x.1) (fun x F => ScanAt p lv x.2.1 x.2.2 :: F) := by
  have h10 : inR 97 122 10 = false := rfl
  have hlm : (l.map vr).length = l.length := List.length_map ..
  (refine spec_of Tryd.func32 rfl Tryd.ntmps32 rfl (fun F w0 hrd => ?_))
  haveI : RdIn F lv 1 (l.map vr) := ⟨hrd⟩
  refine walk ?_
  refine wc_loop (X := Nat) (fun y => [(0, vp p), (3, vi y), (2, .nilIface)]) (fun y => ScanAt p lv i 0 :: F)
    (fun y => i ≤ y ∧ y ≤ l.length ∧ (l.drop i).takeWhile (inR 97 122) = (l.take y).drop i ++ (l.drop y).takeWhile (inR 97 122) ∧ (l.drop y).dropWhile (inR 97 122) = (l.drop i).dropWhile (inR 97 122)) (fun y => l.length - y) i ⟨Nat.le_refl _, hi, by rw [List.drop_take]; simp, rfl⟩ envs Ent.refl (fun j hk => ?_)
  obtain ⟨h0', hj3, g2, g3⟩ := hk
  refine walk ?_
  refine call (tat_spec p lv l i 0 j) ?_
  intro _ _
  refine walk ?_
  refine wif_dec (fun hc1 => ?_) (fun hc1 => ?_)
  · refine walk ?_
    refine call (tat_spec p lv l i 0 j) ?_
    intro _ _
    refine walk ?_
    refine wif_dec (fun hc2 => ?_) (fun hc2 => ?_)
    · have hq : inR 97 122 (peek (l.drop j)) = true := by simp [inR]; omega
      obtain ⟨hlt, e1, e2⟩ := span_go hq h10
      rw [e1] at g2
      rw [e2] at g3
      refine walk ?_
      refine wq_round (j + 1) ⟨by omega, hlt, ?_, g3⟩ (by omega) envs Ent.refl
      rw [g2, List.take_succ_eq_append_getElem hlt, List.drop_append_of_le_length (by rw [List.length_take]; omega), peek_at hlt]; simp
    · skip
      have hq : inR 97 122 (peek (l.drop j)) = false := by simp [inR]; omega
      obtain ⟨e1, e2⟩ := span_end hq
      rw [e1, List.append_nil] at g2
      rw [e2] at g3
      haveI : RdIn F (cutSl lv i j) 1 (((l.take j).drop i).map vr) := ⟨fun h hs => by
        have h4 := (hrd h hs).cut (i := i) (j := j) h0' (by rw [hlm]; exact hj3)
        rwa [← List.map_take, ← List.map_drop] at h4⟩
      have hA : isA = inR 97 122 := rfl
      unfold stp
      rw [hA, ← g3, g2]
      refine walk ?_
      (refine draw ?_; refine dy 0 ?_; refine dy 1 ?_; refine dy 2 ?_; refine dy 3 ?_; refine dy 4 ?_; refine dy 5 ?_; refine dy 6 ?_; refine dy 7 ?_; refine dy 8 ?_; refine dy 9 ?_; refine dy 10 ?_; refine dy 11 ?_; refine dy 12 ?_; refine dy 13 ?_; refine dy 14 ?_; refine dy 15 ?_; refine dy 16 ?_; refine walk ?_)
      have hby : ((l.take j).drop i).flatMap enc = bytesOf ((l.take j).drop i) := rfl
      rw [hby]
      generalize bytesOf ((l.take j).drop i) = w
      refine walk ?_
      refine wif_dec (p := w = wWrite) (fun h1 => ?_) (fun h1 => ?_)
      · have hst : stpW w (l.drop j) (l.drop i) = wrt (l.drop j) := by unfold stpW; rw [if_pos h1]
        refine walk ?_
        refine call (tnumber_spec p lv l j 1073741824 hl hj3 (by omega)) ?_
        intro x hx
        obtain ⟨u, k, e⟩ := x
        unfold NumRes at hx
        cases hm : num bigMost (l.drop j) with
        | error cr =>
          obtain ⟨c, r⟩ := cr
          have hne := num_ne hm
          rw [show num 1073741824 (l.drop j) = .error (c, r) from hm] at hx
          obtain ⟨hx1, hx2, rfl, rfl⟩ := hx
          dsimp only at hx1 hx2 hne ⊢
          refine walk ?_
          refine call (tquoted_err p lv k e hne) ?_
          intro _ _
          refine walk ?_
          refine wq_ret1 rfl rfl (_, k, e) rfl ⟨hx1, rfl, ?_⟩ Ent.refl
          rw [hst]; unfold wrt; rw [hm]; exact ⟨rfl, rfl, hne⟩
        | ok nr =>
          obtain ⟨n, r⟩ := nr
          have hnl : n ≤ 1073741824 := num_le hm
          rw [show num 1073741824 (l.drop j) = .ok (n, r) from hm] at hx
          obtain ⟨hx1, hx2, hx3, rfl, hx5⟩ := hx
          dsimp only at hx1 hx2 hx3 hx5 ⊢
          subst hx3 hx5
          refine walk ?_
          refine call (tquoted_spec p lv l k hl hx1) ?_
          intro y hy
          obtain ⟨v, q, e⟩ := y
          unfold QuoRes at hy
          cases hn : quo (l.drop k) with
          | error cr =>
            obtain ⟨c, r⟩ := cr
            have hne := quo_ne hn
            rw [hn] at hy
            obtain ⟨hy1, rfl, rfl⟩ := hy
            dsimp only at hy1 hne ⊢
            refine walk ?_
            refine wq_ret1 rfl rfl (_, q, e) rfl ⟨hy1, rfl, ?_⟩ Ent.refl
            rw [hst]; unfold wrt; rw [hm]; dsimp only; rw [hn]; exact ⟨rfl, rfl, hne⟩
          | ok nr =>
            obtain ⟨o, r⟩ := nr
            rw [hn] at hy
            obtain ⟨hy1, hy3, rfl, hy5⟩ := hy
            dsimp only at hy1 hy3 hy5 ⊢
            subst hy3 hy5
            refine walk ?_
            refine wq_ret1 rfl rfl (_, q, 0) rfl ⟨hy1, rfl, ?_⟩ Ent.refl
            rw [hst]; unfold wrt; rw [hm]; dsimp only; rw [hn]; exact ⟨rfl, rfl, rfl⟩
      refine walk ?_
      refine wif_dec (p := w = wRead) (fun h2 => ?_) (fun h2 => ?_)
      · have hst : stpW w (l.drop j) (l.drop i) = one (l.drop j) .read := by subst h2; rfl
        · refine walk ?_
          refine call (tnumber_spec p lv l j 1073741824 hl hj3 (by omega)) ?_
          intro x hx
          obtain ⟨u, k, e⟩ := x
          unfold NumRes at hx
          cases hm : num bigMost (l.drop j) with
          | error cr =>
            obtain ⟨c, r⟩ := cr
            have hne := num_ne hm
            rw [show num 1073741824 (l.drop j) = .error (c, r) from hm] at hx
            obtain ⟨hx1, hx2, rfl, rfl⟩ := hx
            dsimp only at hx1 hx2 hne ⊢
            refine walk ?_
            refine wq_ret1 rfl rfl (_, k, e) rfl ⟨hx1, rfl, ?_⟩ Ent.refl
            rw [hst]; unfold one; rw [hm]; exact ⟨rfl, rfl, hne⟩
          | ok nr =>
            obtain ⟨n, r⟩ := nr
            have hnl : n ≤ 1073741824 := num_le hm
            rw [show num 1073741824 (l.drop j) = .ok (n, r) from hm] at hx
            obtain ⟨hx1, hx2, hx3, rfl, hx5⟩ := hx
            dsimp only at hx1 hx2 hx3 hx5 ⊢
            subst hx3 hx5
            refine walk ?_
            refine wq_ret1 rfl rfl (_, k, 0) rfl ⟨hx1, rfl, ?_⟩ Ent.refl
            rw [hst]; unfold one; rw [hm]; exact ⟨rfl, rfl, rfl⟩
      refine walk ?_
      refine wif_dec (p := w = wTrim) (fun h3 => ?_) (fun h3 => ?_)
      · have hst : stpW w (l.drop j) (l.drop i) = one (l.drop j) .trim := by subst h3; rfl
        · refine walk ?_
          refine call (tnumber_spec p lv l j 1073741824 hl hj3 (by omega)) ?_
          intro x hx
          obtain ⟨u, k, e⟩ := x
          unfold NumRes at hx
          cases hm : num bigMost (l.drop j) with
          | error cr =>
            obtain ⟨c, r⟩ := cr
            have hne := num_ne hm
            rw [show num 1073741824 (l.drop j) = .error (c, r) from hm] at hx
            obtain ⟨hx1, hx2, rfl, rfl⟩ := hx
            dsimp only at hx1 hx2 hne ⊢
            refine walk ?_
            refine wq_ret1 rfl rfl (_, k, e) rfl ⟨hx1, rfl, ?_⟩ Ent.refl
            rw [hst]; unfold one; rw [hm]; exact ⟨rfl, rfl, hne⟩
          | ok nr =>
            obtain ⟨n, r⟩ := nr
            have hnl : n ≤ 1073741824 := num_le hm
            rw [show num 1073741824 (l.drop j) = .ok (n, r) from hm] at hx
            obtain ⟨hx1, hx2, hx3, rfl, hx5⟩ := hx
            dsimp only at hx1 hx2 hx3 hx5 ⊢
            subst hx3 hx5
            refine walk ?_
            refine wq_ret1 rfl rfl (_, k, 0) rfl ⟨hx1, rfl, ?_⟩ Ent.refl
            rw [hst]; unfold one; rw [hm]; exact ⟨rfl, rfl, rfl⟩
      refine walk ?_
      refine wif_dec (p := w = wGreedy) (fun g0 => ?_) (fun g0 => ?_)
      · have hst : stpW w (l.drop j) (l.drop i) = one (l.drop j) (.clean (decide (w = wGreedy))) := by subst g0; rfl
        refine walk ?_
        refine ⟨fun _ => ?_, fun hz => absurd g0 (of_decide_eq_false hz)⟩
        · refine walk ?_
          refine call (tnumber_spec p lv l j 1073741824 hl hj3 (by omega)) ?_
          intro x hx
          obtain ⟨u, k, e⟩ := x
          unfold NumRes at hx
          cases hm : num bigMost (l.drop j) with
          | error cr =>
            obtain ⟨c, r⟩ := cr
            have hne := num_ne hm
            rw [show num 1073741824 (l.drop j) = .error (c, r) from hm] at hx
            obtain ⟨hx1, hx2, rfl, rfl⟩ := hx
            dsimp only at hx1 hx2 hne ⊢
            refine walk ?_
            refine wq_ret1 rfl rfl (_, k, e) rfl ⟨hx1, rfl, ?_⟩ Ent.refl
            rw [hst]; unfold one; rw [hm]; exact ⟨rfl, rfl, hne⟩
          | ok nr =>
            obtain ⟨n, r⟩ := nr
            have hnl : n ≤ 1073741824 := num_le hm
            rw [show num 1073741824 (l.drop j) = .ok (n, r) from hm] at hx
            obtain ⟨hx1, hx2, hx3, rfl, hx5⟩ := hx
            dsimp only at hx1 hx2 hx3 hx5 ⊢
            subst hx3 hx5
            refine walk ?_
            refine wq_ret1 rfl rfl (_, k, 0) rfl ⟨hx1, rfl, ?_⟩ Ent.refl
            rw [hst]; unfold one; rw [hm]; exact ⟨rfl, rfl, rfl⟩
      refine walk ?_
      refine wif_dec (p := w = wWorth) (fun g1 => ?_) (fun g1 => ?_)
      · have hst : stpW w (l.drop j) (l.drop i) = one (l.drop j) (.clean (decide (w = wGreedy))) := by subst g1; rfl
        · refine walk ?_
          refine call (tnumber_spec p lv l j 1073741824 hl hj3 (by omega)) ?_
          intro x hx
          obtain ⟨u, k, e⟩ := x
          unfold NumRes at hx
          cases hm : num bigMost (l.drop j) with
          | error cr =>
            obtain ⟨c, r⟩ := cr
            have hne := num_ne hm
            rw [show num 1073741824 (l.drop j) = .error (c, r) from hm] at hx
            obtain ⟨hx1, hx2, rfl, rfl⟩ := hx
            dsimp only at hx1 hx2 hne ⊢
            refine walk ?_
            refine wq_ret1 rfl rfl (_, k, e) rfl ⟨hx1, rfl, ?_⟩ Ent.refl
            rw [hst]; unfold one; rw [hm]; exact ⟨rfl, rfl, hne⟩
          | ok nr =>
            obtain ⟨n, r⟩ := nr
            have hnl : n ≤ 1073741824 := num_le hm
            rw [show num 1073741824 (l.drop j) = .ok (n, r) from hm] at hx
            obtain ⟨hx1, hx2, hx3, rfl, hx5⟩ := hx
            dsimp only at hx1 hx2 hx3 hx5 ⊢
            subst hx3 hx5
            refine walk ?_
            refine wq_ret1 rfl rfl (_, k, 0) rfl ⟨hx1, rfl, ?_⟩ Ent.refl
            rw [hst]; unfold one; rw [hm]; exact ⟨rfl, rfl, rfl⟩
      refine walk ?_
      refine wif_dec (p := w = wFail) (fun f0 => ?_) (fun f0 => ?_)
      · have hst : stpW w (l.drop j) (l.drop i) = one (l.drop j) (.member w) := by subst f0; rfl
        refine walk ?_
        refine ⟨fun _ => ?_, fun hz => absurd f0 (of_decide_eq_false hz)⟩
        · refine walk ?_
          refine call (tnumber_spec p lv l j 1073741824 hl hj3 (by omega)) ?_
          intro x hx
          obtain ⟨u, k, e⟩ := x
          unfold NumRes at hx
          cases hm : num bigMost (l.drop j) with
          | error cr =>
            obtain ⟨c, r⟩ := cr
            have hne := num_ne hm
            rw [show num 1073741824 (l.drop j) = .error (c, r) from hm] at hx
            obtain ⟨hx1, hx2, rfl, rfl⟩ := hx
            dsimp only at hx1 hx2 hne ⊢
            refine walk ?_
            refine wq_ret1 rfl rfl (_, k, e) rfl ⟨hx1, rfl, ?_⟩ Ent.refl
            rw [hst]; unfold one; rw [hm]; exact ⟨rfl, rfl, hne⟩
          | ok nr =>
            obtain ⟨n, r⟩ := nr
            have hnl : n ≤ 1073741824 := num_le hm
            rw [show num 1073741824 (l.drop j) = .ok (n, r) from hm] at hx
            obtain ⟨hx1, hx2, hx3, rfl, hx5⟩ := hx
            dsimp only at hx1 hx2 hx3 hx5 ⊢
            subst hx3 hx5
            refine walk ?_
            refine wq_ret1 rfl rfl (_, k, 0) rfl ⟨hx1, rfl, ?_⟩ Ent.refl
            rw [hst]; unfold one; rw [hm]; exact ⟨rfl, rfl, rfl⟩
      refine walk ?_
      refine wif_dec (p := w = wReplace) (fun f1 => ?_) (fun f1 => ?_)
      · have hst : stpW w (l.drop j) (l.drop i) = one (l.drop j) (.member w) := by subst f1; rfl
        · refine walk ?_
          refine call (tnumber_spec p lv l j 1073741824 hl hj3 (by omega)) ?_
          intro x hx
          obtain ⟨u, k, e⟩ := x
          unfold NumRes at hx
          cases hm : num bigMost (l.drop j) with
          | error cr =>
            obtain ⟨c, r⟩ := cr
            have hne := num_ne hm
            rw [show num 1073741824 (l.drop j) = .error (c, r) from hm] at hx
            obtain ⟨hx1, hx2, rfl, rfl⟩ := hx
            dsimp only at hx1 hx2 hne ⊢
            refine walk ?_
            refine wq_ret1 rfl rfl (_, k, e) rfl ⟨hx1, rfl, ?_⟩ Ent.refl
            rw [hst]; unfold one; rw [hm]; exact ⟨rfl, rfl, hne⟩
          | ok nr =>
            obtain ⟨n, r⟩ := nr
            have hnl : n ≤ 1073741824 := num_le hm
            rw [show num 1073741824 (l.drop j) = .ok (n, r) from hm] at hx
            obtain ⟨hx1, hx2, hx3, rfl, hx5⟩ := hx
            dsimp only at hx1 hx2 hx3 hx5 ⊢
            subst hx3 hx5
            refine walk ?_
            refine wq_ret1 rfl rfl (_, k, 0) rfl ⟨hx1, rfl, ?_⟩ Ent.refl
            rw [hst]; unfold one; rw [hm]; exact ⟨rfl, rfl, rfl⟩
      refine walk ?_
      refine wif_dec (p := w = wFlush) (fun p0 => ?_) (fun p0 => ?_)
      · have hst : stpW w (l.drop j) (l.drop i) = .ok (.plain w, l.drop j) := by subst p0; rfl
        refine walk ?_
        refine ⟨fun _ => ?_, fun hz => absurd p0 (of_decide_eq_false hz)⟩
        · refine walk ?_
          refine wq_ret1 rfl rfl (_, j, 0) rfl ⟨hj3, rfl, ?_⟩ Ent.refl
          rw [hst]; exact ⟨rfl, rfl, rfl⟩
      refine walk ?_
      refine wif_dec (p := w = wCkpt) (fun p1 => ?_) (fun p1 => ?_)
      · have hst : stpW w (l.drop j) (l.drop i) = .ok (.plain w, l.drop j) := by subst p1; rfl
        refine walk ?_
        refine ⟨fun _ => ?_, fun hz => absurd p1 (of_decide_eq_false hz)⟩
        · refine walk ?_
          refine wq_ret1 rfl rfl (_, j, 0) rfl ⟨hj3, rfl, ?_⟩ Ent.refl
          rw [hst]; exact ⟨rfl, rfl, rfl⟩
      refine walk ?_
      refine wif_dec (p := w = wRebuild) (fun p2 => ?_) (fun p2 => ?_)
      · have hst : stpW w (l.drop j) (l.drop i) = .ok (.plain w, l.drop j) := by subst p2; rfl
        refine walk ?_
        refine ⟨fun _ => ?_, fun hz => absurd p2 (of_decide_eq_false hz)⟩
        · refine walk ?_
          refine wq_ret1 rfl rfl (_, j, 0) rfl ⟨hj3, rfl, ?_⟩ Ent.refl
          rw [hst]; exact ⟨rfl, rfl, rfl⟩
      refine walk ?_
      refine wif_dec (p := w = wCheck) (fun p3 => ?_) (fun p3 => ?_)
      · have hst : stpW w (l.drop j) (l.drop i) = .ok (.plain w, l.drop j) := by subst p3; rfl
        · refine walk ?_
          refine wq_ret1 rfl rfl (_, j, 0) rfl ⟨hj3, rfl, ?_⟩ Ent.refl
          rw [hst]; exact ⟨rfl, rfl, rfl⟩
      refine walk ?_
      refine wif_dec (p := w = wFailat) (fun t0 => ?_) (fun t0 => ?_)
      · have hst : stpW w (l.drop j) (l.drop i) = two (l.drop j) bigMost .failat := by subst t0; rfl
        · refine walk ?_
          refine call (tnumber_spec p lv l j 1073741824 hl hj3 (by omega)) ?_
          intro x hx
          obtain ⟨u, k, e⟩ := x
          unfold NumRes at hx
          cases hm : num bigMost (l.drop j) with
          | error cr =>
            obtain ⟨c, r⟩ := cr
            have hne := num_ne hm
            rw [show num 1073741824 (l.drop j) = .error (c, r) from hm] at hx
            obtain ⟨hx1, hx2, rfl, rfl⟩ := hx
            dsimp only at hx1 hx2 hne ⊢
            refine walk ?_
            refine call (tnumber_err p lv k e _ hne) ?_
            intro _ _
            refine walk ?_
            refine wq_ret1 rfl rfl (_, k, e) rfl ⟨hx1, rfl, ?_⟩ Ent.refl
            rw [hst]; unfold two; rw [hm]; exact ⟨rfl, rfl, hne⟩
          | ok nr =>
            obtain ⟨n, r⟩ := nr
            have hnl : n ≤ 1073741824 := num_le hm
            rw [show num 1073741824 (l.drop j) = .ok (n, r) from hm] at hx
            obtain ⟨hx1, hx2, hx3, rfl, hx5⟩ := hx
            dsimp only at hx1 hx2 hx3 hx5 ⊢
            subst hx3 hx5
            refine walk ?_
            refine call (tnumber_spec p lv l k 1073741824 hl hx1 (by omega)) ?_
            intro y hy
            obtain ⟨v, q, e⟩ := y
            unfold NumRes at hy
            cases hn : num 1073741824 (l.drop k) with
            | error cr =>
              obtain ⟨c, r⟩ := cr
              have hne := num_ne hn
              rw [hn] at hy
              obtain ⟨hy1, hy2, rfl, rfl⟩ := hy
              dsimp only at hy1 hy2 hne ⊢
              refine walk ?_
              refine wq_ret1 rfl rfl (_, q, e) rfl ⟨hy1, rfl, ?_⟩ Ent.refl
              rw [hst]; unfold two; rw [hm]; dsimp only; rw [show num bigMost (l.drop k) = _ from hn]; exact ⟨rfl, rfl, hne⟩
            | ok nr =>
              obtain ⟨o, r⟩ := nr
              have hol : o ≤ 1073741824 := num_le hn
              rw [hn] at hy
              obtain ⟨hy1, hy2, hy3, rfl, hy5⟩ := hy
              dsimp only at hy1 hy2 hy3 hy5 ⊢
              subst hy3 hy5
              refine walk ?_
              refine wq_ret1 rfl rfl (_, q, 0) rfl ⟨hy1, rfl, ?_⟩ Ent.refl
              rw [hst]; unfold two; rw [hm]; dsimp only; rw [show num bigMost (l.drop k) = _ from hn]; exact ⟨rfl, rfl, rfl⟩
      refine walk ?_
      refine wif_dec (p := w = wCrash) (fun c0 => ?_) (fun c0 => ?_)
      · have hst : stpW w (l.drop j) (l.drop i) = two (l.drop j) 18446744073709551615 .crash := by subst c0; rfl
        · refine walk ?_
          refine call (tnumber_spec p lv l j 1073741824 hl hj3 (by omega)) ?_
          intro x hx
          obtain ⟨u, k, e⟩ := x
          unfold NumRes at hx
          cases hm : num bigMost (l.drop j) with
          | error cr =>
            obtain ⟨c, r⟩ := cr
            have hne := num_ne hm
            rw [show num 1073741824 (l.drop j) = .error (c, r) from hm] at hx
            obtain ⟨hx1, hx2, rfl, rfl⟩ := hx
            dsimp only at hx1 hx2 hne ⊢
            refine walk ?_
            refine call (tnumber_err p lv k e _ hne) ?_
            intro _ _
            refine walk ?_
            refine wq_ret1 rfl rfl (_, k, e) rfl ⟨hx1, rfl, ?_⟩ Ent.refl
            rw [hst]; unfold two; rw [hm]; exact ⟨rfl, rfl, hne⟩
          | ok nr =>
            obtain ⟨n, r⟩ := nr
            have hnl : n ≤ 1073741824 := num_le hm
            rw [show num 1073741824 (l.drop j) = .ok (n, r) from hm] at hx
            obtain ⟨hx1, hx2, hx3, rfl, hx5⟩ := hx
            dsimp only at hx1 hx2 hx3 hx5 ⊢
            subst hx3 hx5
            refine walk ?_
            refine call (tnumber_spec p lv l k 18446744073709551615 hl hx1 (by omega)) ?_
            intro y hy
            obtain ⟨v, q, e⟩ := y
            unfold NumRes at hy
            cases hn : num 18446744073709551615 (l.drop k) with
            | error cr =>
              obtain ⟨c, r⟩ := cr
              have hne := num_ne hn
              rw [hn] at hy
              obtain ⟨hy1, hy2, rfl, rfl⟩ := hy
              dsimp only at hy1 hy2 hne ⊢
              refine walk ?_
              refine wq_ret1 rfl rfl (_, q, e) rfl ⟨hy1, rfl, ?_⟩ Ent.refl
              rw [hst]; unfold two; rw [hm]; dsimp only; rw [show num 18446744073709551615 (l.drop k) = _ from hn]; exact ⟨rfl, rfl, hne⟩
            | ok nr =>
              obtain ⟨o, r⟩ := nr
              have hol : o ≤ 18446744073709551615 := num_le hn
              rw [hn] at hy
              obtain ⟨hy1, hy2, hy3, rfl, hy5⟩ := hy
              dsimp only at hy1 hy2 hy3 hy5 ⊢
              subst hy3 hy5
              refine walk ?_
              refine wq_ret1 rfl rfl (_, q, 0) rfl ⟨hy1, rfl, ?_⟩ Ent.refl
              rw [hst]; unfold two; rw [hm]; dsimp only; rw [show num 18446744073709551615 (l.drop k) = _ from hn]; exact ⟨rfl, rfl, rfl⟩
      have hp : ¬ (w = wFlush ∨ w = wCkpt ∨ w = wRebuild ∨ w = wCheck) := by rintro (h | h | h | h) <;> contradiction
      have hg : ¬ (w = wGreedy ∨ w = wWorth) := by rintro (h | h) <;> contradiction
      have hf : ¬ (w = wFail ∨ w = wReplace) := by rintro (h | h) <;> contradiction
      have hst : stpW w (l.drop j) (l.drop i) = .error (11, l.drop i) := by unfold stpW; rw [if_neg h1, if_neg h2, if_neg h3, if_neg hp, if_neg hg, if_neg hf, if_neg t0, if_neg c0]
      refine walk ?_
      refine wq_ret1 rfl rfl (.nilIface, i, 11) rfl ⟨hi, rfl, ?_⟩ Ent.refl
      rw [hst]; exact ⟨rfl, rfl, by decide⟩
  · skip
    have hq : inR 97 122 (peek (l.drop j)) = false := by simp [inR]; omega
    obtain ⟨e1, e2⟩ := span_end hq
    rw [e1, List.append_nil] at g2
    rw [e2] at g3
    haveI : RdIn F (cutSl lv i j) 1 (((l.take j).drop i).map vr) := ⟨fun h hs => by
      have h4 := (hrd h hs).cut (i := i) (j := j) h0' (by rw [hlm]; exact hj3)
      rwa [← List.map_take, ← List.map_drop] at h4⟩
    have hA : isA = inR 97 122 := rfl
    unfold stp
    rw [hA, ← g3, g2]
    refine walk ?_
    (refine draw ?_; refine dy 0 ?_; refine dy 1 ?_; refine dy 2 ?_; refine dy 3 ?_; refine dy 4 ?_; refine dy 5 ?_; refine dy 6 ?_; refine dy 7 ?_; refine dy 8 ?_; refine dy 9 ?_; refine dy 10 ?_; refine dy 11 ?_; refine dy 12 ?_; refine dy 13 ?_; refine dy 14 ?_; refine dy 15 ?_; refine dy 16 ?_; refine walk ?_)
    have hby : ((l.take j).drop i).flatMap enc = bytesOf ((l.take j).drop i) := rfl
    rw [hby]
    generalize bytesOf ((l.take j).drop i) = w
    refine walk ?_
    refine wif_dec (p := w = wWrite) (fun h1 => ?_) (fun h1 => ?_)
    · have hst : stpW w (l.drop j) (l.drop i) = wrt (l.drop j) := by unfold stpW; rw [if_pos h1]
      refine walk ?_
      refine call (tnumber_spec p lv l j 1073741824 hl hj3 (by omega)) ?_
      intro x hx
      obtain ⟨u, k, e⟩ := x
      unfold NumRes at hx
      cases hm : num bigMost (l.drop j) with
      | error cr =>
        obtain ⟨c, r⟩ := cr
        have hne := num_ne hm
        rw [show num 1073741824 (l.drop j) = .error (c, r) from hm] at hx
        obtain ⟨hx1, hx2, rfl, rfl⟩ := hx
        dsimp only at hx1 hx2 hne ⊢
        refine walk ?_
        refine call (tquoted_err p lv k e hne) ?_
        intro _ _
        refine walk ?_
        refine wq_ret1 rfl rfl (_, k, e) rfl ⟨hx1, rfl, ?_⟩ Ent.refl
        rw [hst]; unfold wrt; rw [hm]; exact ⟨rfl, rfl, hne⟩
      | ok nr =>
        obtain ⟨n, r⟩ := nr
        have hnl : n ≤ 1073741824 := num_le hm
        rw [show num 1073741824 (l.drop j) = .ok (n, r) from hm] at hx
        obtain ⟨hx1, hx2, hx3, rfl, hx5⟩ := hx
        dsimp only at hx1 hx2 hx3 hx5 ⊢
        subst hx3 hx5
        refine walk ?_
        refine call (tquoted_spec p lv l k hl hx1) ?_
        intro y hy
        obtain ⟨v, q, e⟩ := y
        unfold QuoRes at hy
        cases hn : quo (l.drop k) with
        | error cr =>
          obtain ⟨c, r⟩ := cr
          have hne := quo_ne hn
          rw [hn] at hy
          obtain ⟨hy1, rfl, rfl⟩ := hy
          dsimp only at hy1 hne ⊢
          refine walk ?_
          refine wq_ret1 rfl rfl (_, q, e) rfl ⟨hy1, rfl, ?_⟩ Ent.refl
          rw [hst]; unfold wrt; rw [hm]; dsimp only; rw [hn]; exact ⟨rfl, rfl, hne⟩
        | ok nr =>
          obtain ⟨o, r⟩ := nr
          rw [hn] at hy
          obtain ⟨hy1, hy3, rfl, hy5⟩ := hy
          dsimp only at hy1 hy3 hy5 ⊢
          subst hy3 hy5
          refine walk ?_
          refine wq_ret1 rfl rfl (_, q, 0) rfl ⟨hy1, rfl, ?_⟩ Ent.refl
          rw [hst]; unfold wrt; rw [hm]; dsimp only; rw [hn]; exact ⟨rfl, rfl, rfl⟩
    refine walk ?_
    refine wif_dec (p := w = wRead) (fun h2 => ?_) (fun h2 => ?_)
    · have hst : stpW w (l.drop j) (l.drop i) = one (l.drop j) .read := by subst h2; rfl
      · refine walk ?_
        refine call (tnumber_spec p lv l j 1073741824 hl hj3 (by omega)) ?_
        intro x hx
        obtain ⟨u, k, e⟩ := x
        unfold NumRes at hx
        cases hm : num bigMost (l.drop j) with
        | error cr =>
          obtain ⟨c, r⟩ := cr
          have hne := num_ne hm
          rw [show num 1073741824 (l.drop j) = .error (c, r) from hm] at hx
          obtain ⟨hx1, hx2, rfl, rfl⟩ := hx
          dsimp only at hx1 hx2 hne ⊢
          refine walk ?_
          refine wq_ret1 rfl rfl (_, k, e) rfl ⟨hx1, rfl, ?_⟩ Ent.refl
          rw [hst]; unfold one; rw [hm]; exact ⟨rfl, rfl, hne⟩
        | ok nr =>
          obtain ⟨n, r⟩ := nr
          have hnl : n ≤ 1073741824 := num_le hm
          rw [show num 1073741824 (l.drop j) = .ok (n, r) from hm] at hx
          obtain ⟨hx1, hx2, hx3, rfl, hx5⟩ := hx
          dsimp only at hx1 hx2 hx3 hx5 ⊢
          subst hx3 hx5
          refine walk ?_
          refine wq_ret1 rfl rfl (_, k, 0) rfl ⟨hx1, rfl, ?_⟩ Ent.refl
          rw [hst]; unfold one; rw [hm]; exact ⟨rfl, rfl, rfl⟩
    refine walk ?_
    refine wif_dec (p := w = wTrim) (fun h3 => ?_) (fun h3 => ?_)
    · have hst : stpW w (l.drop j) (l.drop i) = one (l.drop j) .trim := by subst h3; rfl
      · refine walk ?_
        refine call (tnumber_spec p lv l j 1073741824 hl hj3 (by omega)) ?_
        intro x hx
        obtain ⟨u, k, e⟩ := x
        unfold NumRes at hx
        cases hm : num bigMost (l.drop j) with
        | error cr =>
          obtain ⟨c, r⟩ := cr
          have hne := num_ne hm
          rw [show num 1073741824 (l.drop j) = .error (c, r) from hm] at hx
          obtain ⟨hx1, hx2, rfl, rfl⟩ := hx
          dsimp only at hx1 hx2 hne ⊢
          refine walk ?_
          refine wq_ret1 rfl rfl (_, k, e) rfl ⟨hx1, rfl, ?_⟩ Ent.refl
          rw [hst]; unfold one; rw [hm]; exact ⟨rfl, rfl, hne⟩
        | ok nr =>
          obtain ⟨n, r⟩ := nr
          have hnl : n ≤ 1073741824 := num_le hm
          rw [show num 1073741824 (l.drop j) = .ok (n, r) from hm] at hx
          obtain ⟨hx1, hx2, hx3, rfl, hx5⟩ := hx
          dsimp only at hx1 hx2 hx3 hx5 ⊢
          subst hx3 hx5
          refine walk ?_
          refine wq_ret1 rfl rfl (_, k, 0) rfl ⟨hx1, rfl, ?_⟩ Ent.refl
          rw [hst]; unfold one; rw [hm]; exact ⟨rfl, rfl, rfl⟩
    refine walk ?_
    refine wif_dec (p := w = wGreedy) (fun g0 => ?_) (fun g0 => ?_)
    · have hst : stpW w (l.drop j) (l.drop i) = one (l.drop j) (.clean (decide (w = wGreedy))) := by subst g0; rfl
      refine walk ?_
      refine ⟨fun _ => ?_, fun hz => absurd g0 (of_decide_eq_false hz)⟩
      · refine walk ?_
        refine call (tnumber_spec p lv l j 1073741824 hl hj3 (by omega)) ?_
        intro x hx
        obtain ⟨u, k, e⟩ := x
        unfold NumRes at hx
        cases hm : num bigMost (l.drop j) with
        | error cr =>
          obtain ⟨c, r⟩ := cr
          have hne := num_ne hm
          rw [show num 1073741824 (l.drop j) = .error (c, r) from hm] at hx
          obtain ⟨hx1, hx2, rfl, rfl⟩ := hx
          dsimp only at hx1 hx2 hne ⊢
          refine walk ?_
          refine wq_ret1 rfl rfl (_, k, e) rfl ⟨hx1, rfl, ?_⟩ Ent.refl
          rw [hst]; unfold one; rw [hm]; exact ⟨rfl, rfl, hne⟩
        | ok nr =>
          obtain ⟨n, r⟩ := nr
          have hnl : n ≤ 1073741824 := num_le hm
          rw [show num 1073741824 (l.drop j) = .ok (n, r) from hm] at hx
          obtain ⟨hx1, hx2, hx3, rfl, hx5⟩ := hx
          dsimp only at hx1 hx2 hx3 hx5 ⊢
          subst hx3 hx5
          refine walk ?_
          refine wq_ret1 rfl rfl (_, k, 0) rfl ⟨hx1, rfl, ?_⟩ Ent.refl
          rw [hst]; unfold one; rw [hm]; exact ⟨rfl, rfl, rfl⟩
    refine walk ?_
    refine wif_dec (p := w = wWorth) (fun g1 => ?_) (fun g1 => ?_)
    · have hst : stpW w (l.drop j) (l.drop i) = one (l.drop j) (.clean (decide (w = wGreedy))) := by subst g1; rfl
      · refine walk ?_
        refine call (tnumber_spec p lv l j 1073741824 hl hj3 (by omega)) ?_
        intro x hx
        obtain ⟨u, k, e⟩ := x
        unfold NumRes at hx
        cases hm : num bigMost (l.drop j) with
        | error cr =>
          obtain ⟨c, r⟩ := cr
          have hne := num_ne hm
          rw [show num 1073741824 (l.drop j) = .error (c, r) from hm] at hx
          obtain ⟨hx1, hx2, rfl, rfl⟩ := hx
          dsimp only at hx1 hx2 hne ⊢
          refine walk ?_
          refine wq_ret1 rfl rfl (_, k, e) rfl ⟨hx1, rfl, ?_⟩ Ent.refl
          rw [hst]; unfold one; rw [hm]; exact ⟨rfl, rfl, hne⟩
        | ok nr =>
          obtain ⟨n, r⟩ := nr
          have hnl : n ≤ 1073741824 := num_le hm
          rw [show num 1073741824 (l.drop j) = .ok (n, r) from hm] at hx
          obtain ⟨hx1, hx2, hx3, rfl, hx5⟩ := hx
          dsimp only at hx1 hx2 hx3 hx5 ⊢
          subst hx3 hx5
          refine walk ?_
          refine wq_ret1 rfl rfl (_, k, 0) rfl ⟨hx1, rfl, ?_⟩ Ent.refl
          rw [hst]; unfold one; rw [hm]; exact ⟨rfl, rfl, rfl⟩
    refine walk ?_
    refine wif_dec (p := w = wFail) (fun f0 => ?_) (fun f0 => ?_)
    · have hst : stpW w (l.drop j) (l.drop i) = one (l.drop j) (.member w) := by subst f0; rfl
      refine walk ?_
      refine ⟨fun _ => ?_, fun hz => absurd f0 (of_decide_eq_false hz)⟩
      · refine walk ?_
        refine call (tnumber_spec p lv l j 1073741824 hl hj3 (by omega)) ?_
        intro x hx
        obtain ⟨u, k, e⟩ := x
        unfold NumRes at hx
        cases hm : num bigMost (l.drop j) with
        | error cr =>
          obtain ⟨c, r⟩ := cr
          have hne := num_ne hm
          rw [show num 1073741824 (l.drop j) = .error (c, r) from hm] at hx
          obtain ⟨hx1, hx2, rfl, rfl⟩ := hx
          dsimp only at hx1 hx2 hne ⊢
          refine walk ?_
          refine wq_ret1 rfl rfl (_, k, e) rfl ⟨hx1, rfl, ?_⟩ Ent.refl
          rw [hst]; unfold one; rw [hm]; exact ⟨rfl, rfl, hne⟩
        | ok nr =>
          obtain ⟨n, r⟩ := nr
          have hnl : n ≤ 1073741824 := num_le hm
          rw [show num 1073741824 (l.drop j) = .ok (n, r) from hm] at hx
          obtain ⟨hx1, hx2, hx3, rfl, hx5⟩ := hx
          dsimp only at hx1 hx2 hx3 hx5 ⊢
          subst hx3 hx5
          refine walk ?_
          refine wq_ret1 rfl rfl (_, k, 0) rfl ⟨hx1, rfl, ?_⟩ Ent.refl
          rw [hst]; unfold one; rw [hm]; exact ⟨rfl, rfl, rfl⟩
    refine walk ?_
    refine wif_dec (p := w = wReplace) (fun f1 => ?_) (fun f1 => ?_)
    · have hst : stpW w (l.drop j) (l.drop i) = one (l.drop j) (.member w) := by subst f1; rfl
      · refine walk ?_
        refine call (tnumber_spec p lv l j 1073741824 hl hj3 (by omega)) ?_
        intro x hx
        obtain ⟨u, k, e⟩ := x
        unfold NumRes at hx
        cases hm : num bigMost (l.drop j) with
        | error cr =>
          obtain ⟨c, r⟩ := cr
          have hne := num_ne hm
          rw [show num 1073741824 (l.drop j) = .error (c, r) from hm] at hx
          obtain ⟨hx1, hx2, rfl, rfl⟩ := hx
          dsimp only at hx1 hx2 hne ⊢
          refine walk ?_
          refine wq_ret1 rfl rfl (_, k, e) rfl ⟨hx1, rfl, ?_⟩ Ent.refl
          rw [hst]; unfold one; rw [hm]; exact ⟨rfl, rfl, hne⟩
        | ok nr =>
          obtain ⟨n, r⟩ := nr
          have hnl : n ≤ 1073741824 := num_le hm
          rw [show num 1073741824 (l.drop j) = .ok (n, r) from hm] at hx
          obtain ⟨hx1, hx2, hx3, rfl, hx5⟩ := hx
          dsimp only at hx1 hx2 hx3 hx5 ⊢
          subst hx3 hx5
          refine walk ?_
          refine wq_ret1 rfl rfl (_, k, 0) rfl ⟨hx1, rfl, ?_⟩ Ent.refl
          rw [hst]; unfold one; rw [hm]; exact ⟨rfl, rfl, rfl⟩
    refine walk ?_
    refine wif_dec (p := w = wFlush) (fun p0 => ?_) (fun p0 => ?_)
    · have hst : stpW w (l.drop j) (l.drop i) = .ok (.plain w, l.drop j) := by subst p0; rfl
      refine walk ?_
      refine ⟨fun _ => ?_, fun hz => absurd p0 (of_decide_eq_false hz)⟩
      · refine walk ?_
        refine wq_ret1 rfl rfl (_, j, 0) rfl ⟨hj3, rfl, ?_⟩ Ent.refl
        rw [hst]; exact ⟨rfl, rfl, rfl⟩
    refine walk ?_
    refine wif_dec (p := w = wCkpt) (fun p1 => ?_) (fun p1 => ?_)
    · have hst : stpW w (l.drop j) (l.drop i) = .ok (.plain w, l.drop j) := by subst p1; rfl
      refine walk ?_
      refine ⟨fun _ => ?_, fun hz => absurd p1 (of_decide_eq_false hz)⟩
      · refine walk ?_
        refine wq_ret1 rfl rfl (_, j, 0) rfl ⟨hj3, rfl, ?_⟩ Ent.refl
        rw [hst]; exact ⟨rfl, rfl, rfl⟩
    refine walk ?_
    refine wif_dec (p := w = wRebuild) (fun p2 => ?_) (fun p2 => ?_)
    · have hst : stpW w (l.drop j) (l.drop i) = .ok (.plain w, l.drop j) := by subst p2; rfl
      refine walk ?_
      refine ⟨fun _ => ?_, fun hz => absurd p2 (of_decide_eq_false hz)⟩
      · refine walk ?_
        refine wq_ret1 rfl rfl (_, j, 0) rfl ⟨hj3, rfl, ?_⟩ Ent.refl
        rw [hst]; exact ⟨rfl, rfl, rfl⟩
    refine walk ?_
    refine wif_dec (p := w = wCheck) (fun p3 => ?_) (fun p3 => ?_)
    · have hst : stpW w (l.drop j) (l.drop i) = .ok (.plain w, l.drop j) := by subst p3; rfl
      · refine walk ?_
        refine wq_ret1 rfl rfl (_, j, 0) rfl ⟨hj3, rfl, ?_⟩ Ent.refl
        rw [hst]; exact ⟨rfl, rfl, rfl⟩
    refine walk ?_
    refine wif_dec (p := w = wFailat) (fun t0 => ?_) (fun t0 => ?_)
    · have hst : stpW w (l.drop j) (l.drop i) = two (l.drop j) bigMost .failat := by subst t0; rfl
      · refine walk ?_
        refine call (tnumber_spec p lv l j 1073741824 hl hj3 (by omega)) ?_
        intro x hx
        obtain ⟨u, k, e⟩ := x
        unfold NumRes at hx
        cases hm : num bigMost (l.drop j) with
        | error cr =>
          obtain ⟨c, r⟩ := cr
          have hne := num_ne hm
          rw [show num 1073741824 (l.drop j) = .error (c, r) from hm] at hx
          obtain ⟨hx1, hx2, rfl, rfl⟩ := hx
          dsimp only at hx1 hx2 hne ⊢
          refine walk ?_
          refine call (tnumber_err p lv k e _ hne) ?_
          intro _ _
          refine walk ?_
          refine wq_ret1 rfl rfl (_, k, e) rfl ⟨hx1, rfl, ?_⟩ Ent.refl
          rw [hst]; unfold two; rw [hm]; exact ⟨rfl, rfl, hne⟩
        | ok nr =>
          obtain ⟨n, r⟩ := nr
          have hnl : n ≤ 1073741824 := num_le hm
          rw [show num 1073741824 (l.drop j) = .ok (n, r) from hm] at hx
          obtain ⟨hx1, hx2, hx3, rfl, hx5⟩ := hx
          dsimp only at hx1 hx2 hx3 hx5 ⊢
          subst hx3 hx5
          refine walk ?_
          refine call (tnumber_spec p lv l k 1073741824 hl hx1 (by omega)) ?_
          intro y hy
          obtain ⟨v, q, e⟩ := y
          unfold NumRes at hy
          cases hn : num 1073741824 (l.drop k) with
          | error cr =>
            obtain ⟨c, r⟩ := cr
            have hne := num_ne hn
            rw [hn] at hy
            obtain ⟨hy1, hy2, rfl, rfl⟩ := hy
            dsimp only at hy1 hy2 hne ⊢
            refine walk ?_
            refine wq_ret1 rfl rfl (_, q, e) rfl ⟨hy1, rfl, ?_⟩ Ent.refl
            rw [hst]; unfold two; rw [hm]; dsimp only; rw [show num bigMost (l.drop k) = _ from hn]; exact ⟨rfl, rfl, hne⟩
          | ok nr =>
            obtain ⟨o, r⟩ := nr
            have hol : o ≤ 1073741824 := num_le hn
            rw [hn] at hy
            obtain ⟨hy1, hy2, hy3, rfl, hy5⟩ := hy
            dsimp only at hy1 hy2 hy3 hy5 ⊢
            subst hy3 hy5
            refine walk ?_
            refine wq_ret1 rfl rfl (_, q, 0) rfl ⟨hy1, rfl, ?_⟩ Ent.refl
            rw [hst]; unfold two; rw [hm]; dsimp only; rw [show num bigMost (l.drop k) = _ from hn]; exact ⟨rfl, rfl, rfl⟩
    refine walk ?_
    refine wif_dec (p := w = wCrash) (fun c0 => ?_) (fun c0 => ?_)
    · have hst : stpW w (l.drop j) (l.drop i) = two (l.drop j) 18446744073709551615 .crash := by subst c0; rfl
      · refine walk ?_
        refine call (tnumber_spec p lv l j 1073741824 hl hj3 (by omega)) ?_
        intro x hx
        obtain ⟨u, k, e⟩ := x
        unfold NumRes at hx
        cases hm : num bigMost (l.drop j) with
        | error cr =>
          obtain ⟨c, r⟩ := cr
          have hne := num_ne hm
          rw [show num 1073741824 (l.drop j) = .error (c, r) from hm] at hx
          obtain ⟨hx1, hx2, rfl, rfl⟩ := hx
          dsimp only at hx1 hx2 hne ⊢
          refine walk ?_
          refine call (tnumber_err p lv k e _ hne) ?_
          intro _ _
          refine walk ?_
          refine wq_ret1 rfl rfl (_, k, e) rfl ⟨hx1, rfl, ?_⟩ Ent.refl
          rw [hst]; unfold two; rw [hm]; exact ⟨rfl, rfl, hne⟩
        | ok nr =>
          obtain ⟨n, r⟩ := nr
          have hnl : n ≤ 1073741824 := num_le hm
          rw [show num 1073741824 (l.drop j) = .ok (n, r) from hm] at hx
          obtain ⟨hx1, hx2, hx3, rfl, hx5⟩ := hx
          dsimp only at hx1 hx2 hx3 hx5 ⊢
          subst hx3 hx5
          refine walk ?_
          refine call (tnumber_spec p lv l k 18446744073709551615 hl hx1 (by omega)) ?_
          intro y hy
          obtain ⟨v, q, e⟩ := y
          unfold NumRes at hy
          cases hn : num 18446744073709551615 (l.drop k) with
          | error cr =>
            obtain ⟨c, r⟩ := cr
            have hne := num_ne hn
            rw [hn] at hy
            obtain ⟨hy1, hy2, rfl, rfl⟩ := hy
            dsimp only at hy1 hy2 hne ⊢
            refine walk ?_
            refine wq_ret1 rfl rfl (_, q, e) rfl ⟨hy1, rfl, ?_⟩ Ent.refl
            rw [hst]; unfold two; rw [hm]; dsimp only; rw [show num 18446744073709551615 (l.drop k) = _ from hn]; exact ⟨rfl, rfl, hne⟩
          | ok nr =>
            obtain ⟨o, r⟩ := nr
            have hol : o ≤ 18446744073709551615 := num_le hn
            rw [hn] at hy
            obtain ⟨hy1, hy2, hy3, rfl, hy5⟩ := hy
            dsimp only at hy1 hy2 hy3 hy5 ⊢
            subst hy3 hy5
            refine walk ?_
            refine wq_ret1 rfl rfl (_, q, 0) rfl ⟨hy1, rfl, ?_⟩ Ent.refl
            rw [hst]; unfold two; rw [hm]; dsimp only; rw [show num 18446744073709551615 (l.drop k) = _ from hn]; exact ⟨rfl, rfl, rfl⟩
    have hp : ¬ (w = wFlush ∨ w = wCkpt ∨ w = wRebuild ∨ w = wCheck) := by rintro (h | h | h | h) <;> contradiction
    have hg : ¬ (w = wGreedy ∨ w = wWorth) := by rintro (h | h) <;> contradiction
    have hf : ¬ (w = wFail ∨ w = wReplace) := by rintro (h | h) <;> contradiction
    have hst : stpW w (l.drop j) (l.drop i) = .error (11, l.drop i) := by unfold stpW; rw [if_neg h1, if_neg h2, if_neg h3, if_neg hp, if_neg hg, if_neg hf, if_neg t0, if_neg c0]
    refine walk ?_
    refine wq_ret1 rfl rfl (.nilIface, i, 11) rfl ⟨hi, rfl, ?_⟩ Ent.refl
    rw [hst]; exact ⟨rfl, rfl, by decide⟩
end Go.Proofs.YtihkfklpoliilaaDoor
