/- The book's functions, walked. -/
import Derived.Test.YtapgejjjgeiihaaBk
import Derived.Test.YtapgejjjgeiihaaD04
import Derived.Test.YtapgejjjgeiihaaArx
import Derived.Test.YtapgejjjgeiihaaInv
import Derived.Test.YtapgejjjgeiihaaUnx
import Derived.Test.YtapgejjjgeiihaaDrw
namespace Go.Proofs.Ytapgejjjgeiihaa
open Go Go.Sl
attribute [local irreducible] Yl WL WC WQ WD

theorem bop_spec (t : Nat) (b : Bk) :
    Spec0 Try.prog 89 [vp t] (fun _ => True) (fun F => Cells t b.cells :: F) (fun _ : Unit => True) (fun _ => .bool b.op.dead) (fun _ F => Cells t b.op.cells :: F) := by
  (refine spec_of Try.func89 rfl Try.ntmps89 rfl (fun F w0 hrd => ?_))
  obtain ⟨on, wait, writes, dead, failAt, used⟩ := b
  unfold Bk.op
  dsimp only
  have e1 : IntKind.i64.wrap (used + 1) = w64 (used + 1) := rfl
  generalize hu : w64 (used + 1) = u at *
  unfold Bk.cells
  dsimp only
  cases dead
  · refine walk ?_
    (refine draw ?_; refine dy 0 ?_; refine dy 1 ?_; refine dy 2 ?_; refine dy 3 ?_; refine dy 4 ?_; refine dy 5 ?_; refine dwhich 15 ?_)
    refine WIf.no ?_
    (refine dg 6 ?_; refine dg 7 ?_; refine dg 8 ?_; refine dg 9 ?_; refine dg 10 ?_; refine dg 11 ?_; refine dwhich 21 ?_)
    refine wif_dec (fun h1 => ?_) (fun h1 => ?_)
    · have h1' : 0 ≤ failAt := h1
      (refine dg 12 ?_; refine dg 13 ?_; refine dg 14 ?_; refine dg 15 ?_; refine dg 16 ?_; refine dg 17 ?_; refine dg 18 ?_; refine dg 19 ?_; refine dg 20 ?_; refine dg 21 ?_; refine dy 22 ?_; refine dy 23 ?_; refine dy 24 ?_; refine ddx 25 ?_)
      refine walk ?_
      refine wq_ret1 rfl rfl () ?_ trivial ?_
      · simp [h1', e1]
      · simp only [e1, h1', true_and, Bool.false_or]
        exact perm
    · have h1' : ¬ 0 ≤ failAt := h1
      (refine dn 12 ?_; refine dn 13 ?_; refine dn 14 ?_; refine dn 15 ?_; refine dn 16 ?_; refine dn 17 ?_; refine dn 18 ?_; refine dn 19 ?_; refine dn 20 ?_; refine dg 21 ?_; refine dy 22 ?_; refine dy 23 ?_; refine dy 24 ?_; refine ddx 25 ?_)
      refine walk ?_
      refine wq_ret1 rfl rfl () ?_ trivial ?_
      · simp [h1']
      · simp only [e1, h1', false_and, Bool.false_or, decide_false]
        exact perm
  · refine walk ?_
    (refine draw ?_; refine dy 0 ?_; refine dy 1 ?_; refine dy 2 ?_; refine dy 3 ?_; refine dy 4 ?_; refine dy 5 ?_; refine dwhich 15 ?_)
    refine WIf.yes ?_
    (refine dn 6 ?_; refine dn 7 ?_; refine dn 8 ?_; refine dn 9 ?_; refine dn 10 ?_; refine dn 11 ?_; refine du 12 ?_; refine du 13 ?_; refine du 14 ?_; refine du 15 ?_; refine du 16 ?_; refine du 17 ?_; refine du 18 ?_; refine du 19 ?_; refine du 20 ?_; refine dn 21 ?_; refine dy 22 ?_; refine dy 23 ?_; refine dy 24 ?_; refine ddx 25 ?_)
    refine walk ?_
    refine wq_ret1 rfl rfl () ?_ trivial ?_
    · simp
    · simp only [e1, Bool.true_or]
      exact perm

set_option maxHeartbeats 1000000 in
theorem bsettle_spec (t : Nat) (b : Bk) (keep : Nat) (_hkeep : keep < 18446744073709551616) (hw : ∀ i r, b.wait i = some r → Some1 r.1) :
    Spec0 Try.prog 90 [vp t, .int .u64 keep] (fun _ => True) (fun F => Cells t b.cells :: F) (fun _ : Unit => True) (fun _ => .tuple #[]) (fun _ F => Cells t (b.settle keep).cells :: F) := by
  (refine spec_of Try.func90 rfl Try.ntmps90 rfl (fun F w0 hrd => ?_))
  refine walk ?_
  refine wc_loop (X := Nat) (fun i => [(0, vp t), (1, .int .u64 keep), (4, vi (b.laid keep i).2), (6, vi i)]) (fun i => Cells t (b.laid keep i).1.cells :: F) (fun i => i ≤ 6) (fun i => 6 - i) 0 (by omega) envs Ent.refl (fun i hi => ?_)
  refine walk ?_
  refine wif_dec (fun hlt => ?_) (fun hlt => ?_)
  · have hlt : i < 6 := by omega
    have hk := b.laid_le keep i
    have hwi : (b.laid keep i).1.wait i = b.wait i := by rw [b.laid_wait, if_neg (by omega)]
    have hget := (b.laid keep i).1.get_wait hlt
    rw [hwi] at hget
    refine walk ?_
    refine wl_y (yl_indexA1 (m := 6) rfl rfl (by omega)) rfl ?_
    refine wl_y (yl_load (cs := (b.laid keep i).1.cells) (v := wv (b.wait i)) rfl hget) rfl ?_
    cases hb : b.wait i with
    | none =>
      have hnext : b.laid keep (i + 1) = b.laid keep i := by unfold Bk.laid; rw [hb]; cases i <;> rfl
      refine wl_y (yl_nenilv rfl rfl (.inl rfl)) rfl ?_
      rw [show (!isNil (wv none)) = false from rfl]
      refine walk ?_
      exact wq_round (i + 1) (by omega) (by omega) (by rw [hnext]; exact envs) (by rw [hnext]; exact perm)
    | some r =>
      obtain ⟨c, k, hck⟩ : ∃ c k, b.laid keep i = (c, k) := ⟨_, _, rfl⟩
      have hnext : b.laid keep (i + 1) = ((if bitOf keep k then c.setOn i r else c).setWait i none, k + 1) := by rw [Bk.laid, hb, hck]
      rw [hb] at hget
      rw [hck] at hget hk ⊢
      have hr := hw i r hb
      haveI : ∀ Γ, OneIn Γ [r.1] := fun Γ => OneIn.mk' (by obtain ⟨a, m, q, hq⟩ := hr; rw [hq]; rfl)
      haveI : ∀ Γ, OneIn Γ [wv none] := fun Γ => OneIn.mk' rfl
      dsimp only [wv] at hget hk ⊢
      refine wl_y (yl_nenilv rfl rfl (.inr hr)) rfl ?_
      rw [hr.not]
      refine walk ?_
      rw [shr_eq keep k (by omega)]
      have hbo : bitOf keep k = (keep >>> k % 2 == 1) := rfl
      generalize keep >>> k = q at *
      refine walk ?_
      refine wif_dec (fun hq => ?_) (fun hq => ?_)
      · have hq' : bitOf keep k = true := by rw [hbo]; simpa using (by omega : q % 2 = 1)
        rw [if_pos hq'] at hnext
        refine walk ?_
        refine draw ?_; refine dy 0 ?_; refine dy 1 ?_; refine dy 2 ?_; refine dy 3 ?_; refine dy 4 ?_; refine dy 5 ?_
        refine dy 6 ?_ (y := yl_indexA1 (m := 6) rfl rfl (by omega))
        refine dy 7 ?_ (y := yl_load (cs := c.cells) (v := r.1) rfl hget)
        refine dy 8 ?_; refine dy 9 ?_
        refine dy 10 ?_ (y := yl_indexA1 (m := 6) rfl rfl (by omega))
        refine ddx 11 ?_
        refine wl_store (cs := c.cells) (v := r.1) rfl rfl rfl (by simp; omega) ?_
        rw [c.set_on hlt]
        refine walk ?_
        refine wl_y (yl_indexA1 (m := 6) rfl rfl (by omega)) rfl ?_
        refine wl_store (cs := (c.setOn i r).cells) (v := wv none) rfl rfl rfl (by simp; omega) ?_
        rw [(c.setOn i r).set_wait hlt]
        refine walk ?_
        exact wq_round (i + 1) (by omega) (by omega) (by rw [hnext]; exact envs) (by rw [hnext]; exact perm)
      · have hq' : ¬ bitOf keep k = true := by rw [hbo]; simpa using (by omega : q % 2 = 0)
        rw [if_neg hq'] at hnext
        refine walk ?_
        refine wl_y (yl_indexA1 (m := 6) rfl rfl (by omega)) rfl ?_
        refine wl_store (cs := c.cells) (v := wv none) rfl rfl rfl (by simp; omega) ?_
        rw [c.set_wait hlt]
        refine walk ?_
        exact wq_round (i + 1) (by omega) (by omega) (by rw [hnext]; exact envs) (by rw [hnext]; exact perm)
  have hi6 : i = 6 := by omega
  subst hi6
  refine walk ?_
  exact wq_end0 rfl () rfl trivial Ent.refl
end Go.Proofs.Ytapgejjjgeiihaa
