/- What the disk is asked, walked. -/
import Derived.Test.YtapgejjjgeiihaaDpl2
import Derived.Test.YtapgejjjgeiihaaRep
import Derived.Test.YtapgejjjgeiihaaBk2
namespace Go.Proofs.Ytapgejjjgeiihaa
open Go Go.Sl
attribute [local irreducible] Yl WL WC WQ WD

theorem bind_inv {m : Out DP Int} {x : Bytes} {e : Int} {s' : DP} (h : (m.bind fun e s => .ok (([] : Bytes), e) s) = .ok (x, e) s') : x = [] ∧ m = .ok e s' := by
  cases m with
  | ok a s => cases h; exact ⟨rfl, rfl⟩
  | gone s => cases h
set_option maxHeartbeats 4000000 in
theorem ask_spec (d p : Nat) (s s' : DP) (x : Bytes) (e : Int) (dox : UInt8) (i : Int) (hi : -128 ≤ i ∧ i ≤ 127) (fill : UInt8) (long : Bool) (keep : Nat) (hkeep : keep < 18446744073709551616) (hm : dact (dox.toNat % 10) i fill long keep s = .ok (x, e) s') :
    Spec0 Try.prog 59 [vp p, vp d, .agg #[vb dox, .int .i8 i, vb fill, .bool long, .int .u64 keep]] (fun _ => True) (fun F => DiskAt d p s.1 :: PowAt p s.2 :: F)
      (fun _ : Value => True) (fun r => .tuple #[r, vi e]) (fun r F => SlB r x :: DiskAt d p s'.1 :: PowAt p s'.2 :: F) := by
  have hd10 : (dox.toNat : Int) % 10 = ((dox.toNat % 10 : Nat) : Int) := by omega
  have hk : dox.toNat % 10 < 10 := by omega
  obtain ⟨m, hm4⟩ : ∃ m : Nat, m = if long = true then 4 else 3 := ⟨_, rfl⟩
  have hm14 : 1 ≤ m ∧ m ≤ 4 := by rw [hm4]; split <;> omega
  (refine spec_of Try.func59 rfl Try.ntmps59 rfl (fun F w0 hrd => ?_))
  refine walk ?_
  intro b5
  refine walk ?_
  refine wif_meet (X := Unit) (fun _ => [(0, vp p), (1, vp d), (5, vp b5), (8, vi m), (6, .slice none 0 0), (7, vi 0)]) (fun _ => Cells b5 [vb dox, .int .i8 i, vb fill, .bool long, .int .u64 keep] :: DiskAt d p s.1 :: PowAt p s.2 :: F) (fun _ => True) (WIf.both (fun h => ?_) (fun h => ?_)) (fun _ _ => ?_)
  · refine walk ?_
    refine wq_meet _ _ _ () trivial ?_ perm
    rw [hm4, if_pos h]
    exact envs
  · refine walk ?_
    refine wq_meet _ _ _ () trivial ?_ perm
    rw [hm4, if_neg (by rw [h]; decide)]
    exact envs
  refine walk ?_
  rw [hd10]
  generalize dox.toNat % 10 = k at *
  unfold dact at hm
  rw [← hm4] at hm
  by_cases h2 : k < 2
  · rw [if_pos h2] at hm
    rcases (by omega : k = 0 ∨ k = 1) with rfl | rfl
    all_goals
      refine walk ?_
      (repeat (first | (refine wif_dec (fun _ => ?_) (fun hz => by exfalso; omega); refine walk ?_) | (refine wif_dec (fun hz => by exfalso; omega) (fun _ => ?_); refine walk ?_)))
      refine call ((dread_spec d p s i).sure _ _ hm) ?_
      intro r _
      try dsimp only
      refine walk ?_
      exact wq_ret2 rfl rfl rfl r rfl trivial perm
  rw [if_neg h2] at hm
  by_cases h5 : k < 5
  · rw [if_pos h5] at hm
    obtain ⟨rfl, hm2⟩ := bind_inv hm
    rcases (by omega : k = 2 ∨ k = 3 ∨ k = 4) with rfl | rfl | rfl
    all_goals
      refine walk ?_
      (repeat (first | (refine wif_dec (fun _ => ?_) (fun hz => by exfalso; omega); refine walk ?_) | (refine wif_dec (fun hz => by exfalso; omega) (fun _ => ?_); refine walk ?_)))
      (refine draw ?_; refine dy 0 ?_; refine dy 1 ?_; refine dy 2 ?_; refine dy 3 ?_; refine dy 4 ?_; refine dy 5 ?_; refine dy 7 ?_; refine ddo 6 ?_)
      refine walk ?_
      intro v hvl hvn
      (refine walk ?_; refine ddo 8 ?_)
      refine call (repeat_spec v fill m (by omega)) ?_
      intro o _
      (refine walk ?_; refine ddo 9 ?_)
      refine call ((dwrite_spec d p s i o (List.replicate m fill)).sure _ _ hm2) ?_
      intro _ _
      try dsimp only
      (refine walk ?_; refine dy 10 ?_; refine dy 11 ?_; refine walk ?_)
      refine walk ?_
      exact wq_ret2 rfl rfl rfl (.slice none 0 0) rfl trivial (by (try dsimp only); refine Ent.trans ?_ (sl_nil 1); exact perm)
  rw [if_neg h5] at hm
  by_cases h5' : k = 5
  · rw [if_pos h5'] at hm
    obtain ⟨rfl, hm2⟩ := bind_inv hm
    subst h5'
    refine walk ?_
    (repeat (first | (refine wif_dec (fun _ => ?_) (fun hz => by exfalso; omega); refine walk ?_) | (refine wif_dec (fun hz => by exfalso; omega) (fun _ => ?_); refine walk ?_)))
    refine call ((dflush_spec d p s).sure _ _ hm2) ?_
    intro _ _
    try dsimp only
    refine walk ?_
    exact wq_ret2 rfl rfl rfl (.slice none 0 0) rfl trivial (by (try dsimp only); refine Ent.trans ?_ (sl_nil 1); exact perm)
  rw [if_neg h5'] at hm
  by_cases h6 : k = 6
  · rw [if_pos h6] at hm
    cases hm
    subst h6
    refine walk ?_
    (repeat (first | (refine wif_dec (fun _ => ?_) (fun hz => by exfalso; omega); refine walk ?_) | (refine wif_dec (fun hz => by exfalso; omega) (fun _ => ?_); refine walk ?_)))
    refine call (cycle_spec d p s.1 keep hkeep) ?_
    intro _ _
    refine walk ?_
    exact wq_ret2 rfl rfl rfl (.slice none 0 0) rfl trivial (by (try dsimp only); refine Ent.trans ?_ (sl_nil 1); exact perm)
  rw [if_neg h6] at hm
  by_cases h7 : k = 7
  · rw [if_pos h7] at hm
    cases hm
    subst h7
    refine walk ?_
    (repeat (first | (refine wif_dec (fun _ => ?_) (fun hz => by exfalso; omega); refine walk ?_) | (refine wif_dec (fun hz => by exfalso; omega) (fun _ => ?_); refine walk ?_)))
    (refine draw ?_; refine dy 0 ?_; refine dy 1 ?_; refine dy 3 ?_; refine dy 4 ?_; refine dy 5 ?_; refine ddo 2 ?_)
    refine call (used_spec p s.2) ?_
    intro _ _
    (refine walk ?_; refine dy 6 ?_; refine ddo 7 ?_)
    refine call (failAt_spec d p s.1 (w64 (s.2.used + i))) ?_
    intro _ _
    refine walk ?_
    exact wq_ret2 rfl rfl rfl (.slice none 0 0) rfl trivial (by (try dsimp only); refine Ent.trans ?_ (sl_nil 1); exact perm)
  rw [if_neg h7] at hm
  by_cases h8 : k = 8
  · rw [if_pos h8] at hm
    cases hm
    subst h8
    refine walk ?_
    (repeat (first | (refine wif_dec (fun _ => ?_) (fun hz => by exfalso; omega); refine walk ?_) | (refine wif_dec (fun hz => by exfalso; omega) (fun _ => ?_); refine walk ?_)))
    refine call (fail_spec d p s.1) ?_
    intro _ _
    refine walk ?_
    exact wq_ret2 rfl rfl rfl (.slice none 0 0) rfl trivial (by (try dsimp only); refine Ent.trans ?_ (sl_nil 1); exact perm)
  rw [if_neg h8] at hm
  cases hm
  obtain rfl : k = 9 := by omega
  refine walk ?_
  (repeat (first | (refine wif_dec (fun _ => ?_) (fun hz => by exfalso; omega); refine walk ?_) | (refine wif_dec (fun hz => by exfalso; omega) (fun _ => ?_); refine walk ?_)))
  refine call (danew_spec d p s.1) ?_
  intro _ _
  refine walk ?_
  exact wq_ret2 rfl rfl rfl (.slice none 0 0) rfl trivial (by (try dsimp only); refine Ent.trans ?_ (sl_nil 1); exact perm)
end Go.Proofs.Ytapgejjjgeiihaa
