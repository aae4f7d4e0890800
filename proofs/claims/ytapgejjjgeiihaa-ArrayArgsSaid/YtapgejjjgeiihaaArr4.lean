/- An array over disks: what all members have; Lose, Replace. -/
import Derived.Test.YtapgejjjgeiihaaArr3
import Derived.Test.YtapgejjjgeiihaaIvk
namespace Go.Proofs.Ytapgejjjgeiihaa
open Go Go.Sl
attribute [local irreducible] Yl WL WC WQ WD

instance : MethT Try.prog 42 "Blank" 88 := ⟨fun v w => by kernel_rfl⟩
instance : AssI Try.prog 42 123 true := ⟨fun v xt w => by kernel_rfl⟩

theorem sameL_skip {sector : Int} {n i : Nat} {r : Rig} (hi : i < n) (h : (i : Int) = r.stale) : sameL sector ((List.range n).drop i) r = sameL sector ((List.range n).drop (i + 1)) r := by
  rw [List.drop_eq_getElem_cons (by simpa using hi)]
  simp [sameL, h]
theorem sameL_step {sector : Int} {n i : Nat} {r : Rig} (hi : i < n) (h : ¬ (i : Int) = r.stale) : sameL sector ((List.range n).drop i) r =
    (r.dev i (dread sector)).bind fun x r => if x.2 = 0 then .ok (x.1, 0) r else (alost i r).bind fun e r => if e ≠ 0 then .ok ([], e) r else sameL sector ((List.range n).drop (i + 1)) r := by
  rw [List.drop_eq_getElem_cons (by simpa using hi)]
  simp only [List.getElem_range]
  rw [sameL, if_neg h]
theorem sameL_end {sector : Int} {n : Nat} {r : Rig} : sameL sector ((List.range n).drop n) r = .ok ([], 3) r := by
  rw [List.drop_of_length_le (by simp)]; rfl
theorem asame_spec (k : Keys) (hk : k.Ok) (r : Rig) (sector : Int) :
    SpecG Try.prog outage 38 [vp k.a, vi sector] (fun _ => True) (RigAt k) (asame k.sh sector r) r (fun (_ : Value) _ => True) (fun v a => .tuple #[v, vi a.2]) (fun v a F => SlB v a.1 :: F) := by
  (refine spec_of Try.func38 rfl Try.ntmps38 rfl (fun F w0 hrd => ?_))
  (first | refine WC.ex (fun y => RigAt.opened) (fun _ hlen => ?_) | refine WL.ex (fun y => RigAt.opened) (fun _ hlen => ?_) | refine WQ.ex (fun y => RigAt.opened) (fun _ hlen => ?_))
  have hmem := hk.mem
  have hmm := hk.sh.members
  refine walk ?_
  refine wif_dec (fun h1 => ?_) (fun h1 => ?_)
  · refine walk ?_
    exact wq_ret2 rfl rfl rfl (_, ([], 1), r) rfl ⟨by unfold asame; rw [if_pos (.inl h1)], trivial⟩ (Ent.trans (perm : Ent _ (RigAt k r F)) (sl_nil 1))
  refine walk ?_
  refine call (gsectors_spec k.sh hk.sh) ?_
  intro _ _
  refine walk ?_
  refine wif_dec (fun h2 => ?_) (fun h2 => ?_)
  · refine walk ?_
    exact wq_ret2 rfl rfl rfl (_, ([], 1), r) rfl ⟨by unfold asame; rw [if_pos (.inr h2)], trivial⟩ (Ent.trans (perm : Ent _ (RigAt k r F)) (sl_nil 1))
  have hno : ¬ (sector < 0 ∨ sector ≥ k.sh.sectors) := by omega
  refine walk ?_
  refine WIf.both (fun hb => ?_) (fun hb => ?_)
  · refine walk ?_
    exact wq_ret2 rfl rfl rfl (_, ([], 3), r) rfl ⟨by unfold asame; rw [if_neg hno, if_pos hb], trivial⟩ (Ent.trans (perm : Ent _ (RigAt k r F)) (sl_nil 1))
  have hm : asame k.sh sector r = sameL sector (List.range k.ps.length) r := by unfold asame; rw [if_neg hno, if_neg (by simp [hb]), hlen]
  refine walk ?_
  refine wc_loop (X := Nat × Rig) (fun y => [(0, vp k.a), (1, vi sector), (30, k.lv), (31, vi k.ps.length), (32, vi y.1)]) (fun y => RigAt k y.2 F)
    (fun y => y.1 ≤ k.ps.length ∧ asame k.sh sector r = sameL sector ((List.range k.ps.length).drop y.1) y.2) (fun y => k.ps.length - y.1) (0, r) ⟨by omega, hm⟩ envs perm (fun y hy => ?_)
  obtain ⟨i, r'⟩ := y
  dsimp only at hy ⊢
  obtain ⟨hi, hm'⟩ := hy
  clear hm
  refine walk ?_
  refine wif_dec (fun hlt => ?_) (fun hlt => ?_)
  · have hlt : i < k.ps.length := by omega
    refine walk ?_
    refine call (stale_spec k r') ?_
    intro _ _
    refine walk ?_
    refine wif_dec (fun hc => ?_) (fun hc => ?_)
    · rw [sameL_skip hlt hc] at hm'
      refine walk ?_
      exact wq_round (i + 1, r') ⟨by dsimp only; omega, hm'⟩ (by dsimp only; omega) envs perm
    rw [sameL_step hlt hc] at hm'
    refine walk ?_
    (refine gicall (rread_spec k r' i hlt sector) (fun s' hg => ⟨s', ?_, ?_⟩) (fun v x r1 h1 _ => ?_); (rw [hm', hg] <;> rfl); (first | (exact perm) | (exact permL)); (rw [h1] at hm'); (try rw [Out.bind_ok] at hm'))
    refine walk ?_
    refine wif_dec (fun h4 => ?_) (fun h4 => ?_)
    · rw [if_pos h4] at hm'
      refine walk ?_
      exact wq_ret2 rfl rfl rfl (v, (x.1, 0), r1) rfl ⟨hm', trivial⟩ perm
    rw [if_neg h4] at hm'
    refine walk ?_
    (refine gcall (lost_spec k r1 i) (fun s' hg => ⟨s', ?_, ?_⟩) (fun x2 e2 r2 h2 _ => ?_); (rw [hm', hg] <;> rfl); (first | (exact perm) | (exact permL)); (rw [h2] at hm'); (try rw [Out.bind_ok] at hm'))
    refine walk ?_
    refine wif_dec (fun h5 => ?_) (fun h5 => ?_)
    · rw [if_pos h5] at hm'
      refine walk ?_
      exact wq_ret2 rfl rfl rfl (_, ([], e2), r2) rfl ⟨hm', trivial⟩ (Ent.trans (perm : Ent _ (RigAt k r2 F)) (sl_nil 1))
    rw [if_neg h5] at hm'
    refine walk ?_
    exact wq_round (i + 1, r2) ⟨by dsimp only; omega, hm'⟩ (by dsimp only; omega) envs perm
  have hi' : i = k.ps.length := by omega
  subst hi'
  rw [sameL_end] at hm'
  refine walk ?_
  exact wq_ret2 rfl rfl rfl (_, ([], 3), r') rfl ⟨hm', trivial⟩ (Ent.trans (perm : Ent _ (RigAt k r' F)) (sl_nil 1))

theorem aputSame_spec (k : Keys) (hk : k.Ok) (r : Rig) (sector : Int) (v : Value) (b : Bytes) :
    SpecG Try.prog outage 35 [vp k.a, vi sector, v] (Rd v 1 (b.map vb)) (RigAt k) (aputSame k.sh sector b r) r (fun (_ : Unit) _ => True) (fun _ e => vi e) (fun _ _ F => F) := by
  (refine spec_of Try.func35 rfl Try.ntmps35 rfl (fun F w0 hrd => ?_))
  haveI : RdIn F v 1 (b.map vb) := ⟨hrd⟩
  (first | refine WC.ex (fun y => RigAt.opened) (fun _ hlen => ?_) | refine WL.ex (fun y => RigAt.opened) (fun _ hlen => ?_) | refine WQ.ex (fun y => RigAt.opened) (fun _ hlen => ?_))
  have hmem := hk.mem
  have hmm := hk.sh.members
  refine walk ?_
  refine wif_dec (fun h1 => ?_) (fun h1 => ?_)
  · refine walk ?_
    exact wq_ret1 rfl rfl ((), 1, r) rfl ⟨by unfold aputSame; rw [if_pos (.inl h1)], trivial⟩ perm
  refine walk ?_
  refine call (gsectors_spec k.sh hk.sh) ?_
  intro _ _
  refine walk ?_
  refine wif_dec (fun h2 => ?_) (fun h2 => ?_)
  · refine walk ?_
    exact wq_ret1 rfl rfl ((), 1, r) rfl ⟨by unfold aputSame; rw [if_pos (.inr (.inl h2))], trivial⟩ perm
  refine walk ?_
  refine wif_dec (fun h3 => ?_) (fun h3 => ?_)
  · refine walk ?_
    exact wq_ret1 rfl rfl ((), 1, r) rfl ⟨by unfold aputSame; rw [if_pos (.inr (.inr h3))], trivial⟩ perm
  have hno : ¬ (sector < 0 ∨ sector ≥ k.sh.sectors ∨ (b.length : Int) ≠ k.sh.block) := by omega
  refine walk ?_
  refine WIf.both (fun hb => ?_) (fun hb => ?_)
  · refine walk ?_
    exact wq_ret1 rfl rfl ((), 3, r) rfl ⟨by unfold aputSame; rw [if_neg hno, if_pos hb], trivial⟩ perm
  have hm : aputSame k.sh sector b r = each (fun m : Nat => awrite m sector b) (List.range k.ps.length) r := by unfold aputSame; rw [if_neg hno, if_neg (by simp [hb]), hlen]
  refine walk ?_
  refine wc_loop (X := Nat × Rig) (fun y => [(0, vp k.a), (1, vi sector), (2, v), (40, vi k.ps.length), (41, vi y.1)]) (fun y => RigAt k y.2 F)
    (fun y => y.1 ≤ k.ps.length ∧ aputSame k.sh sector b r = each (fun m : Nat => awrite m sector b) ((List.range k.ps.length).drop y.1) y.2) (fun y => k.ps.length - y.1) (0, r) ⟨by omega, hm⟩ envs perm (fun y hy => ?_)
  obtain ⟨i, r'⟩ := y
  dsimp only at hy ⊢
  obtain ⟨hi, hm'⟩ := hy
  clear hm
  refine walk ?_
  refine wif_dec (fun hlt => ?_) (fun hlt => ?_)
  · have hlt : i < k.ps.length := by omega
    rw [each_step hlt] at hm'
    refine walk ?_
    (refine gcall (awrite_spec k r' i hlt sector v b) (fun s' hg => ⟨s', ?_, ?_⟩) (fun x e r1 h1 _ => ?_); (rw [hm', hg] <;> rfl); (first | (exact perm) | (exact permL)); (rw [h1] at hm'); (try rw [Out.bind_ok] at hm'))
    refine walk ?_
    refine wif_dec (fun h5 => ?_) (fun h5 => ?_)
    · rw [if_neg h5] at hm'
      refine walk ?_
      exact wq_ret1 rfl rfl ((), e, r1) rfl ⟨hm', trivial⟩ perm
    rw [if_pos (Decidable.not_not.1 h5)] at hm'
    refine walk ?_
    exact wq_round (i + 1, r1) ⟨by dsimp only; omega, hm'⟩ (by dsimp only; omega) envs perm
  have hi' : i = k.ps.length := by omega
  subst hi'
  rw [each_end] at hm'
  refine walk ?_
  exact wq_ret1 rfl rfl ((), 0, r') rfl ⟨hm', trivial⟩ perm

theorem alose_spec (k : Keys) (hk : k.Ok) (r : Rig) (m : Int) :
    SpecG Try.prog outage 39 [vp k.a, vi m] (fun _ => True) (RigAt k) (alose m r) r (fun (_ : Unit) _ => True) (fun _ e => vi e) (fun _ _ F => F) := by
  (refine spec_of Try.func39 rfl Try.ntmps39 rfl (fun F w0 hrd => ?_))
  (first | refine WC.ex (fun y => RigAt.opened) (fun _ hlen => ?_) | refine WL.ex (fun y => RigAt.opened) (fun _ hlen => ?_) | refine WQ.ex (fun y => RigAt.opened) (fun _ hlen => ?_))
  have hmem := hk.mem
  have hmm := hk.sh.members
  refine walk ?_
  refine wif_dec (fun h1 => ?_) (fun h1 => ?_)
  · refine walk ?_
    exact wq_ret1 rfl rfl ((), 1, r) rfl ⟨by unfold alose; rw [if_pos (.inl h1)], trivial⟩ perm
  refine walk ?_
  refine wif_dec (fun h2 => ?_) (fun h2 => ?_)
  · refine walk ?_
    exact wq_ret1 rfl rfl ((), 1, r) rfl ⟨by unfold alose; rw [if_pos (.inr (by omega))], trivial⟩ perm
  have hno : ¬ (m < 0 ∨ m ≥ r.ds.length) := by omega
  refine walk ?_
  refine WIf.both (fun hb => ?_) (fun hb => ?_)
  · refine walk ?_
    exact wq_ret1 rfl rfl ((), 3, r) rfl ⟨by unfold alose; rw [if_neg hno, if_pos hb], trivial⟩ perm
  have hm : alose m r = (alost m r).bind fun e r => .ok e r := by unfold alose; rw [if_neg hno, if_neg (by simp [hb])]; cases alost m r <;> rfl
  refine walk ?_
  (refine gcall (lost_spec k r m) (fun s' hg => ⟨s', ?_, ?_⟩) (fun x e r1 h1 _ => ?_); (rw [hm, hg] <;> rfl); (first | (exact perm) | (exact permL)); (rw [h1] at hm); (try rw [Out.bind_ok] at hm))
  refine walk ?_
  exact wq_ret1 rfl rfl ((), e, r1) rfl ⟨hm, trivial⟩ perm

theorem rblank_spec (k : Keys) (r : Rig) (m : Nat) (hm : m < k.ps.length) :
    Spec0 Try.prog 88 [vp k.ps[m]] (fun _ => True) (fun F => RigAt k r F) (fun _ : Unit => True) (fun _ => .tuple #[]) (fun _ F => RigAt k { r with ds := r.ds.set m (r.at m).anew } F) := by
  intro F w hr hs
  refine (danew_spec k.ps[m] k.pp (r.at m) (PowAt k.pp r.pow :: RigBut k r m F) w (fun _ _ => trivial) (RigAt.take hm _ hs)).mono fun e w' he => ?_
  obtain ⟨hev, he | he⟩ := he
  · obtain ⟨x, hx, rfl, hsat⟩ := he
    exact ⟨hev, .inl ⟨x, hx, rfl, RigAt.give (r := r) hm ((r.at m).anew, r.pow) _ hsat⟩⟩
  · obtain ⟨y, hy, _⟩ := he
    exact hy.elim
theorem areplace_spec (k : Keys) (hk : k.Ok) (r : Rig) (m : Int) :
    SpecG Try.prog outage 42 [vp k.a, vi m] (fun _ => True) (RigAt k) (areplace m r) r (fun (_ : Unit) _ => True) (fun _ e => vi e) (fun _ _ F => F) := by
  (refine spec_of Try.func42 rfl Try.ntmps42 rfl (fun F w0 hrd => ?_))
  (first | refine WC.ex (fun y => RigAt.opened) (fun _ hlen => ?_) | refine WL.ex (fun y => RigAt.opened) (fun _ hlen => ?_) | refine WQ.ex (fun y => RigAt.opened) (fun _ hlen => ?_))
  have hmem := hk.mem
  have hmm := hk.sh.members
  refine walk ?_
  refine WIf.both (fun hb => ?_) (fun hb => ?_)
  · refine walk ?_
    exact wq_ret1 rfl rfl ((), 3, r) rfl ⟨by unfold areplace; rw [if_pos hb], trivial⟩ perm
  refine walk ?_
  refine wif_dec (fun h1 => ?_) (fun h1 => ?_)
  · refine walk ?_
    exact wq_ret1 rfl rfl ((), 1, r) rfl ⟨by unfold areplace; rw [if_neg (by simp [hb]), if_pos (.inl h1)], trivial⟩ perm
  refine walk ?_
  refine wif_dec (fun h2 => ?_) (fun h2 => ?_)
  · refine walk ?_
    exact wq_ret1 rfl rfl ((), 1, r) rfl ⟨by unfold areplace; rw [if_neg (by simp [hb]), if_pos (.inr (.inl (by omega)))], trivial⟩ perm
  refine walk ?_
  refine call (stale_spec k r) ?_
  intro _ _
  refine walk ?_
  refine wif_dec (fun h3 => ?_) (fun h3 => ?_)
  · refine walk ?_
    exact wq_ret1 rfl rfl ((), 1, r) rfl ⟨by unfold areplace; rw [if_neg (by simp [hb]), if_pos (.inr (.inr h3))], trivial⟩ perm
  have hm : areplace m r = .ok 0 { r with ds := r.ds.set m.toNat (r.at m.toNat).anew } := by unfold areplace; rw [if_neg (by simp [hb]), if_neg (by omega)]
  have hmlt : m.toNat < k.ps.length := by omega
  refine walk ?_
  refine wl_y (yl_assertI rfl) rfl ?_
  refine walk ?_
  refine icall (rblank_spec k r m.toNat hmlt) (fun _ _ => ?_)
  refine walk ?_
  exact wq_ret1 rfl rfl ((), 0, _) rfl ⟨hm, trivial⟩ perm
end Go.Proofs.Ytapgejjjgeiihaa
