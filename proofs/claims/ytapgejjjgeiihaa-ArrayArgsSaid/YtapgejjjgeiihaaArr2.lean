/- An array over disks: chunks, stripes. -/
import Derived.Test.YtapgejjjgeiihaaArr
namespace Go.Proofs.Ytapgejjjgeiihaa
open Go Go.Sl
attribute [local irreducible] Yl WL WC WQ WD

theorem member_nat (k : Keys) (hk : k.Ok) (t c : Int) : ∃ m : Nat, k.sh.member t c = m ∧ m < k.ps.length := by
  have hmem := hk.mem
  have hmm := hk.sh.members
  have h1 := Int.emod_nonneg (t + 1 + c) (show k.sh.members ≠ 0 by omega)
  have h2 := Int.emod_lt_of_pos (t + 1 + c) (show 0 < k.sh.members by omega)
  exact ⟨(k.sh.member t c).toNat, by unfold Shp.member; omega, by unfold Shp.member; omega⟩
theorem parity_nat (k : Keys) (hk : k.Ok) (t : Int) : ∃ m : Nat, k.sh.parity t = m ∧ m < k.ps.length := by
  have hmem := hk.mem
  have hmm := hk.sh.members
  have h1 := Int.emod_nonneg t (show k.sh.members ≠ 0 by omega)
  have h2 := Int.emod_lt_of_pos t (show 0 < k.sh.members by omega)
  exact ⟨(k.sh.parity t).toNat, by unfold Shp.parity; omega, by unfold Shp.parity; omega⟩
theorem achunk_spec (k : Keys) (hk : k.Ok) (r : Rig) (t c : Int) :
    SpecG Try.prog outage 43 [vp k.a, vi t, vi c] (fun _ => True) (RigAt k) (achunk k.sh t c r) r (fun (_ : Value) _ => True) (fun v a => .tuple #[v, vi a.2]) (fun v a F => SlB v a.1 :: F) := by
  (refine spec_of Try.func43 rfl Try.ntmps43 rfl (fun F w0 hrd => ?_))
  have hmem := hk.mem
  have hmm := hk.sh.members
  have hsl := (bounds hk.sh).slots
  refine walk ?_
  refine call (ahas_spec k hk r t) ?_
  intro _ _
  by_cases ht : 0 ≤ t ∧ t < k.sh.all
  · rw [show decide (0 ≤ t ∧ t < k.sh.all) = true from by simpa using ht]
    refine walk ?_
    refine wif_dec (fun h1 => ?_) (fun h1 => ?_)
    · refine walk ?_
      exact wq_ret2 rfl rfl rfl (_, ([], 1), r) rfl ⟨by unfold achunk; rw [if_pos (.inr (.inl h1))], trivial⟩ (Ent.trans (perm : Ent _ (RigAt k r F)) (sl_nil 1))
    refine walk ?_
    refine call (slots_spec k.sh hk.sh) ?_
    intro _ _
    refine walk ?_
    refine wif_dec (fun h2 => ?_) (fun h2 => ?_)
    · refine walk ?_
      exact wq_ret2 rfl rfl rfl (_, ([], 1), r) rfl ⟨by unfold achunk; rw [if_pos (.inr (.inr h2))], trivial⟩ (Ent.trans (perm : Ent _ (RigAt k r F)) (sl_nil 1))
    have hno : ¬ (¬ (0 ≤ t ∧ t < k.sh.all) ∨ c < 0 ∨ c > k.sh.slots) := by omega
    refine walk ?_
    refine WIf.both (fun hb => ?_) (fun hb => ?_)
    · refine walk ?_
      exact wq_ret2 rfl rfl rfl (_, ([], 3), r) rfl ⟨by unfold achunk; rw [if_neg hno, if_pos hb], trivial⟩ (Ent.trans (perm : Ent _ (RigAt k r F)) (sl_nil 1))
    have hall := (bounds hk.sh).all
    have hall' : k.sh.all ≤ 1024 := hall.2
    obtain ⟨m, hm, hmlt⟩ := member_nat k hk t c
    have hr : achunk k.sh t c r = if (m : Int) ≠ r.stale then
        (r.dev m (dread (k.sh.stripeAt t))).bind fun x r => if x.2 = 0 then .ok (x.1, 0) r else (alost m r).bind fun e r => if e ≠ 0 then .ok ([], e) r else aothers m (k.sh.stripeAt t) r
        else aothers m (k.sh.stripeAt t) r := by
      unfold achunk
      rw [if_neg hno, if_neg (by simp [hb]), hm]
      simp only [Int.toNat_natCast]
    refine walk ?_
    (refine draw ?_; refine dy 0 ?_; refine dy 1 ?_; refine dy 2 ?_; refine dy 3 ?_; refine dy 4 ?_; refine dy 5 ?_; refine dy 7 ?_; refine dy 8 ?_; refine dy 9 ?_; refine dy 10 ?_; refine dy 11 ?_; refine ddx 6 ?_)
    refine call (member_spec k.sh hk.sh t c (by omega) (by omega)) ?_
    intro _ _
    (refine walk ?_; refine ddx 12 ?_)
    refine call (stripeAt_spec k.sh hk.sh t (by omega)) ?_
    intro _ _
    rw [hm]
    (refine walk ?_; refine dy 13 ?_; refine dy 14 ?_; refine walk ?_)
    refine call (stale_spec k r) ?_
    intro _ _
    refine walk ?_
    refine wif_dec (fun h3 => ?_) (fun h3 => ?_)
    · rw [if_pos h3] at hr
      refine walk ?_
      (refine gicall (rread_spec k r m hmlt (k.sh.stripeAt t)) (fun s' hg => ⟨s', ?_, ?_⟩) (fun v x r1 h1 _ => ?_); (rw [hr, hg] <;> rfl); (first | (exact perm) | (exact permL)); (rw [h1] at hr); (try rw [Out.bind_ok] at hr))
      refine walk ?_
      refine wif_dec (fun h4 => ?_) (fun h4 => ?_)
      · rw [if_pos h4] at hr
        refine walk ?_
        exact wq_ret2 rfl rfl rfl (v, (x.1, 0), r1) rfl ⟨hr, trivial⟩ perm
      rw [if_neg h4] at hr
      refine walk ?_
      (refine gcall (lost_spec k r1 m) (fun s' hg => ⟨s', ?_, ?_⟩) (fun x2 e2 r2 h2 _ => ?_); (rw [hr, hg] <;> rfl); (first | (exact perm) | (exact permL)); (rw [h2] at hr); (try rw [Out.bind_ok] at hr))
      refine walk ?_
      refine wif_dec (fun h5 => ?_) (fun h5 => ?_)
      · rw [if_pos h5] at hr
        refine walk ?_
        exact wq_ret2 rfl rfl rfl (_, ([], e2), r2) rfl ⟨hr, trivial⟩ (Ent.trans (perm : Ent _ (RigAt k r2 F)) (sl_nil 1))
      rw [if_neg h5] at hr
      refine walk ?_
      (refine gcall (aothers_spec k hk r2 m (k.sh.stripeAt t)) (fun s' hg => ⟨s', ?_, ?_⟩) (fun v3 x3 r3 h6 _ => ?_); (rw [hr, hg] <;> rfl); (first | (exact perm) | (exact permL)); (rw [h6] at hr); (try rw [Out.bind_ok] at hr))
      refine walk ?_
      exact wq_ret2 rfl rfl rfl (v3, x3, r3) rfl ⟨hr, trivial⟩ perm
    · rw [if_neg h3] at hr
      refine walk ?_
      (refine gcall (aothers_spec k hk r m (k.sh.stripeAt t)) (fun s' hg => ⟨s', ?_, ?_⟩) (fun v3 x3 r3 h6 _ => ?_); (rw [hr, hg] <;> rfl); (first | (exact perm) | (exact permL)); (rw [h6] at hr); (try rw [Out.bind_ok] at hr))
      refine walk ?_
      exact wq_ret2 rfl rfl rfl (v3, x3, r3) rfl ⟨hr, trivial⟩ perm
  · rw [show decide (0 ≤ t ∧ t < k.sh.all) = false from by simpa using ht]
    refine walk ?_
    exact wq_ret2 rfl rfl rfl (_, ([], 1), r) rfl ⟨by unfold achunk; rw [if_pos (.inl ht)], trivial⟩ (Ent.trans (perm : Ent _ (RigAt k r F)) (sl_nil 1))
end Go.Proofs.Ytapgejjjgeiihaa
