/- An array over disks: Mend, Finish, a new one. -/
import Derived.Test.YtapgejjjgeiihaaArr4
namespace Go.Proofs.Ytapgejjjgeiihaa
open Go Go.Sl
attribute [local irreducible] Yl WL WC WQ WD

theorem mend1_spec (k : Keys) (hk : k.Ok) (c1 c2 : Nat) (r : Rig) (m : Int) (sector : Int) :
    SpecG Try.prog outage 79 [vi sector, vp c1, vp c2] (fun _ => True) (fun r F => RigAt k r (Cells c1 [vp k.a] :: Cells c2 [vi m] :: F)) (aothers m sector r) r (fun (_ : Value) _ => True) (fun v a => .tuple #[v, vi a.2]) (fun v a F => SlB v a.1 :: F) := by
  obtain ⟨m', hm'⟩ : ∃ m', m' = aothers m sector r := ⟨_, rfl⟩
  have hr : m' = (aothers m sector r).bind fun x r => .ok x r := by rw [hm']; cases aothers m sector r <;> rfl
  rw [← hm']
  clear hm'
  (refine spec_of Try.func79 rfl Try.ntmps79 rfl (fun F w0 hrd => ?_))
  refine walk ?_
  (refine gcall (aothers_spec k hk r m sector) (fun s' hg => ⟨s', ?_, ?_⟩) (fun v x r1 h1 _ => ?_); (rw [hr, hg] <;> rfl); (first | (exact perm) | (exact permL)); (rw [h1] at hr); (try rw [Out.bind_ok] at hr))
  refine walk ?_
  exact wq_ret2 rfl rfl rfl (v, x, r1) rfl ⟨hr, trivial⟩ perm
theorem copied1_spec (k : Keys) (hk : k.Ok) (c1 c2 : Nat) (r : Rig) (m : Nat) (hm : m < k.ps.length) (sector : Int) :
    SpecG Try.prog outage 78 [vp k.a, vi m, vi sector, .func (.func 79) #[] #[vp c1, vp c2]] (fun _ => True) (fun r F => RigAt k r (Cells c1 [vp k.a] :: Cells c2 [vi (m : Int)] :: F)) (acopied m sector (aothers m) r) r (fun (_ : Unit) _ => True) (fun _ e => vi e) (fun _ _ F => F) := by
  obtain ⟨m', hm'⟩ : ∃ m', m' = acopied m sector (aothers m) r := ⟨_, rfl⟩
  have hr : m' = (aothers m sector r).bind fun x r => if x.2 ≠ 0 then .ok x.2 r else r.dev (m : Int).toNat (dwrite sector x.1) := hm'
  rw [← hm']
  clear hm'
  (refine spec_of Try.func78 rfl Try.ntmps78 rfl (fun F w0 hrd => ?_))
  refine walk ?_
  (refine gcall (mend1_spec k hk c1 c2 r m sector) (fun s' hg => ⟨s', ?_, ?_⟩) (fun v x r1 h1 _ => ?_); (rw [hr, hg] <;> rfl); (first | (exact perm) | (exact permL)); (rw [h1] at hr); (try rw [Out.bind_ok] at hr))
  refine walk ?_
  refine wif_dec (fun h2 => ?_) (fun h2 => ?_)
  · rw [if_pos h2] at hr
    refine walk ?_
    exact wq_ret1 rfl rfl ((), x.2, r1) rfl ⟨hr, trivial⟩ perm
  rw [if_neg h2] at hr
  have hr' : m' = (r1.dev m (dwrite sector x.1)).bind fun e r => .ok e r := by rw [hr, Int.toNat_natCast]; cases r1.dev m (dwrite sector x.1) <;> rfl
  clear hr
  refine walk ?_
  (refine gicall (rwrite_spec k r1 m hm sector v x.1) (fun s' hg => ⟨s', ?_, ?_⟩) (fun x3 e3 r3 h3 _ => ?_); (rw [hr', hg] <;> rfl); (first | (exact perm) | (exact permL)); (rw [h3] at hr'); (try rw [Out.bind_ok] at hr'))
  refine walk ?_
  exact wq_ret1 rfl rfl ((), e3, r3) rfl ⟨hr', trivial⟩ perm
theorem copied2_spec (k : Keys) (hk : k.Ok) (r : Rig) (m : Nat) (hm : m < k.ps.length) (sector : Int) :
    SpecG Try.prog outage 78 [vp k.a, vi m, vi sector, .func (.func 38) #[vp k.a] #[]] (fun _ => True) (RigAt k) (acopied m sector (asame k.sh) r) r (fun (_ : Unit) _ => True) (fun _ e => vi e) (fun _ _ F => F) := by
  obtain ⟨m', hm'⟩ : ∃ m', m' = acopied m sector (asame k.sh) r := ⟨_, rfl⟩
  have hr : m' = (asame k.sh sector r).bind fun x r => if x.2 ≠ 0 then .ok x.2 r else r.dev (m : Int).toNat (dwrite sector x.1) := hm'
  rw [← hm']
  clear hm'
  (refine spec_of Try.func78 rfl Try.ntmps78 rfl (fun F w0 hrd => ?_))
  refine walk ?_
  (refine gcall (asame_spec k hk r sector) (fun s' hg => ⟨s', ?_, ?_⟩) (fun v x r1 h1 _ => ?_); (rw [hr, hg] <;> rfl); (first | (exact perm) | (exact permL)); (rw [h1] at hr); (try rw [Out.bind_ok] at hr))
  refine walk ?_
  refine wif_dec (fun h2 => ?_) (fun h2 => ?_)
  · rw [if_pos h2] at hr
    refine walk ?_
    exact wq_ret1 rfl rfl ((), x.2, r1) rfl ⟨hr, trivial⟩ perm
  rw [if_neg h2] at hr
  have hr' : m' = (r1.dev m (dwrite sector x.1)).bind fun e r => .ok e r := by rw [hr, Int.toNat_natCast]; cases r1.dev m (dwrite sector x.1) <;> rfl
  clear hr
  refine walk ?_
  (refine gicall (rwrite_spec k r1 m hm sector v x.1) (fun s' hg => ⟨s', ?_, ?_⟩) (fun x3 e3 r3 h3 _ => ?_); (rw [hr', hg] <;> rfl); (first | (exact perm) | (exact permL)); (rw [h3] at hr'); (try rw [Out.bind_ok] at hr'))
  refine walk ?_
  exact wq_ret1 rfl rfl ((), e3, r3) rfl ⟨hr', trivial⟩ perm

theorem amend_spec (k : Keys) (hk : k.Ok) (r : Rig) (hst : r.stale < k.ps.length) (t : Int) :
    SpecG Try.prog outage 40 [vp k.a, vi t] (fun _ => True) (RigAt k) (amend k.sh t r) r (fun (_ : Unit) _ => True) (fun _ e => vi e) (fun _ _ F => F) := by
  (refine spec_of Try.func40 rfl Try.ntmps40 rfl (fun F w0 hrd => ?_))
  have hmem := hk.mem
  have hmm := hk.sh.members
  have hall := (bounds hk.sh).all
  have hall' : k.sh.all ≤ 1024 := hall.2
  refine walk ?_
  intro c1
  refine walk ?_
  refine call (stale_spec k r) ?_
  intro _ _
  refine walk ?_
  intro c2
  refine walk ?_
  refine call (ahas_spec k hk r t) ?_
  intro _ _
  by_cases ht : 0 ≤ t ∧ t < k.sh.all
  rotate_left
  · rw [show decide (0 ≤ t ∧ t < k.sh.all) = false from by simpa using ht]
    refine walk ?_
    exact wq_ret1 rfl rfl ((), 1, r) rfl ⟨by unfold amend; rw [if_pos ht], trivial⟩ perm
  rw [show decide (0 ≤ t ∧ t < k.sh.all) = true from by simpa using ht]
  refine walk ?_
  refine WIf.both (fun hb => ?_) (fun hb => ?_)
  · refine walk ?_
    exact wq_ret1 rfl rfl ((), 3, r) rfl ⟨by unfold amend; rw [if_neg (not_not_intro ht), if_pos hb], trivial⟩ perm
  refine walk ?_
  refine wif_dec (fun h1 => ?_) (fun h1 => ?_)
  · refine walk ?_
    exact wq_ret1 rfl rfl ((), 10, r) rfl ⟨by unfold amend; rw [if_neg (not_not_intro ht), if_neg (by simp [hb]), if_pos h1], trivial⟩ perm
  obtain ⟨m, hme⟩ : ∃ m : Nat, r.stale = m := ⟨r.stale.toNat, by omega⟩
  have hmlt : m < k.ps.length := by omega
  have hr : amend k.sh t r = (acopied m (k.sh.stripeAt t) (aothers m) r).bind fun e r => .ok e r := by
    unfold amend
    rw [if_neg (not_not_intro ht), if_neg (by simp [hb]), if_neg h1, hme]
    cases acopied m (k.sh.stripeAt t) (aothers m) r <;> rfl
  rw [hme]
  refine walk ?_
  (refine draw ?_; refine dy 0 ?_; refine dy 1 ?_; refine dy 2 ?_; refine dy 3 ?_; refine dy 4 ?_; refine dy 5 ?_; refine dy 6 ?_; refine dy 8 ?_; refine ddx 7 ?_)
  refine call (stripeAt_spec k.sh hk.sh t (by omega)) ?_
  intro _ _
  (refine walk ?_; refine ddx 9 ?_)
  (refine gcall (copied1_spec k hk c1 c2 r m hmlt (k.sh.stripeAt t)) (fun s' hg => ⟨s', ?_, ?_⟩) (fun x e r1 h2 _ => ?_); (rw [hr, hg] <;> rfl); (first | (exact perm) | (exact permL)); (rw [h2] at hr); (try rw [Out.bind_ok] at hr))
  (refine walk ?_; refine dy 10 ?_; refine walk ?_)
  exact wq_ret1 rfl rfl ((), e, r1) rfl ⟨hr, trivial⟩ perm

set_option maxHeartbeats 1000000 in
theorem afinish_spec (k : Keys) (hk : k.Ok) (r : Rig) (hst : r.stale < k.ps.length) (v : Value) (b : Bytes) :
    SpecG Try.prog outage 41 [vp k.a, v] (Rd v 1 (b.map vb)) (RigAt k) (afinish k.sh b r) r (fun (_ : Unit) _ => True) (fun _ e => vi e) (fun _ _ F => F) := by
  (refine spec_of Try.func41 rfl Try.ntmps41 rfl (fun F w0 hrd => ?_))
  haveI : RdIn F v 1 (b.map vb) := ⟨hrd⟩
  have hmem := hk.mem
  have hmm := hk.sh.members
  have hpg := (bounds hk.sh).pages
  refine walk ?_
  refine call (stale_spec k r) ?_
  intro _ _
  refine walk ?_
  refine wif_dec (fun h1 => ?_) (fun h1 => ?_)
  · refine walk ?_
    exact wq_ret1 rfl rfl ((), 1, r) rfl ⟨by unfold afinish; rw [if_pos h1], trivial⟩ perm
  refine walk ?_
  refine WIf.both (fun hb => ?_) (fun hb => ?_)
  · refine walk ?_
    exact wq_ret1 rfl rfl ((), 3, r) rfl ⟨by unfold afinish; rw [if_neg h1, if_pos hb], trivial⟩ perm
  refine walk ?_
  refine wif_dec (fun h2 => ?_) (fun h2 => ?_)
  · refine walk ?_
    exact wq_ret1 rfl rfl ((), 10, r) rfl ⟨by unfold afinish; rw [if_neg h1, if_neg (by simp [hb]), if_pos h2], trivial⟩ perm
  obtain ⟨m, hme⟩ : ∃ m : Nat, r.stale = m := ⟨r.stale.toNat, by omega⟩
  have hmlt : m < k.ps.length := by omega
  obtain ⟨n, hn⟩ : ∃ n : Nat, k.sh.stripeAt 0 = (n : Int) + 1 := ⟨(2 * k.sh.pages).toNat, by unfold Shp.stripeAt; omega⟩
  have hn2 : n ≤ 200000 := by unfold Shp.stripeAt at hn; omega
  obtain ⟨m', hm'⟩ : ∃ m', m' = afinish k.sh b r := ⟨_, rfl⟩
  have hr : m' = (each (fun i : Nat => acopied m (i + 1 : Nat) (asame k.sh)) (List.range n) r).bind fun e r' => if e ≠ 0 then .ok e r'
    else (r'.dev m (dwrite 0 b)).bind fun e r' => if e ≠ 0 then .ok e r'
    else (r'.dev m dflush).bind fun e r' => if e ≠ 0 then .ok e r'
    else (r'.set { r'.nv.root with stale := -1 }).bind fun _ r' => .ok 0 r' := by
    rw [hm']
    unfold afinish
    rw [if_neg h1, if_neg (by simp [hb]), if_neg h2, hme, hn]
    simp only [Int.toNat_natCast, show ((n : Int) + 1 - 1).toNat = n by omega]
  rw [← hm']
  clear hm'
  rw [hme]
  refine walk ?_
  refine wc_loop (X := Nat × Rig) (fun y => [(0, vp k.a), (1, v), (5, vi (m : Int)), (6, vi ((y.1 : Int) + 1))]) (fun y => RigAt k y.2 F)
    (fun y => y.1 ≤ n ∧ each (fun i : Nat => acopied m (i + 1 : Nat) (asame k.sh)) (List.range n) r = each (fun i : Nat => acopied m (i + 1 : Nat) (asame k.sh)) ((List.range n).drop y.1) y.2) (fun y => n - y.1) (0, r) ⟨by omega, rfl⟩ envs perm (fun y hy => ?_)
  obtain ⟨i, r'⟩ := y
  dsimp only at hy ⊢
  obtain ⟨hi, hs⟩ := hy
  refine walk ?_
  refine call (stripeAt_spec k.sh hk.sh 0 (by omega)) ?_
  intro _ _
  rw [hn]
  refine walk ?_
  refine wif_dec (fun hlt => ?_) (fun hlt => ?_)
  · have hlt : i < n := by omega
    rw [each_step hlt] at hs
    rw [hs] at hr
    refine walk ?_
    (refine gcall (copied2_spec k hk r' m hmlt (i + 1 : Nat)) (fun s' hg => ⟨s', ?_, ?_⟩) (fun x e r1 h3 _ => ?_); (rw [hr, hg] <;> rfl); (first | (exact perm) | (exact permL)); (rw [h3] at hr); (try rw [Out.bind_ok] at hr))
    rw [h3, Out.bind_ok] at hs
    refine walk ?_
    refine wif_dec (fun h4 => ?_) (fun h4 => ?_)
    · rw [if_neg h4] at hr
      refine walk ?_
      exact wq_ret1 rfl rfl ((), e, r1) rfl ⟨by rw [hr, Out.bind_ok, if_pos h4], trivial⟩ perm
    rw [if_pos (Decidable.not_not.1 h4)] at hs
    refine walk ?_
    exact wq_round (i + 1, r1) ⟨by dsimp only; omega, hs⟩ (by dsimp only; omega) envs perm
  have hi' : i = n := by omega
  subst hi'
  rw [each_end] at hs
  rw [hs, Out.bind_ok, if_neg (by simp)] at hr
  refine walk ?_
  (refine gicall (rwrite_spec k r' m hmlt 0 v b) (fun s' hg => ⟨s', ?_, ?_⟩) (fun x3 e3 r3 h3 _ => ?_); (rw [hr, hg] <;> rfl); (first | (exact perm) | (exact permL)); (rw [h3] at hr); (try rw [Out.bind_ok] at hr))
  refine walk ?_
  refine wif_dec (fun h4 => ?_) (fun h4 => ?_)
  · rw [if_pos h4] at hr
    refine walk ?_
    exact wq_ret1 rfl rfl ((), e3, r3) rfl ⟨hr, trivial⟩ perm
  rw [if_neg h4] at hr
  refine walk ?_
  (refine gicall (rflush_spec k r3 m hmlt) (fun s' hg => ⟨s', ?_, ?_⟩) (fun x5 e5 r5 h5 _ => ?_); (rw [hr, hg] <;> rfl); (first | (exact perm) | (exact permL)); (rw [h5] at hr); (try rw [Out.bind_ok] at hr))
  refine walk ?_
  refine wif_dec (fun h6 => ?_) (fun h6 => ?_)
  · rw [if_pos h6] at hr
    refine walk ?_
    exact wq_ret1 rfl rfl ((), e5, r5) rfl ⟨hr, trivial⟩ perm
  rw [if_neg h6] at hr
  refine walk ?_
  refine call (nroot_spec k.n k.pp r5.nv) ?_
  intro _ _
  refine walk ?_
  intro c
  refine walk ?_
  (refine draw ?_; refine dy 0 ?_; refine dy 1 ?_; refine dy 2 ?_; refine dy 3 ?_; refine dy 4 ?_; refine ddx 5 ?_)
  (refine gcall (rset_spec k r5 { r5.nv.root with stale := -1 }) (fun s' hg => ⟨s', ?_, ?_⟩) (fun x7 e7 r7 h7 _ => ?_); (rw [hr, hg] <;> rfl); (first | (exact perm) | (exact permL)); (rw [h7] at hr); (try rw [Out.bind_ok] at hr))
  (refine walk ?_)
  exact wq_ret1 rfl rfl ((), 0, r7) rfl ⟨hr, trivial⟩ perm

theorem anewErr_spec (n pp : Nat) (s : Nvm) (hok : s.root.shape.Ok) (lv : Value) (vs : List Value) (hvs : (vs.length : Int) ≠ s.root.shape.members) :
    Spec0 Try.prog 45 [lv, vp n] (Rd lv 1 vs) (fun F => NvAt n pp s :: F) (fun _ : Unit => True) (fun _ => .tuple #[.pointer none, vi 1]) (fun _ F => NvAt n pp s :: F) := by
  (refine spec_of Try.func45 rfl Try.ntmps45 rfl (fun F w0 hrd => ?_))
  haveI : RdIn F lv 1 vs := ⟨hrd⟩
  refine walk ?_
  refine call (nroot_spec n pp s) ?_
  intro _ _
  refine walk ?_
  intro c
  refine walk ?_
  refine call (check_spec s.root.shape hok) ?_
  intro _ _
  refine walk ?_
  refine wif_dec (fun h => ?_) (fun h => ?_)
  · refine walk ?_
    exact wq_ret2 rfl rfl rfl () rfl trivial perm
  · exact absurd (Decidable.not_not.1 h) hvs
theorem sl_form {v : Value} {vs : List Value} {k : Nat} {F : List HP} {h : Hp} (hs : Sat (Sl v k vs :: F) h) : ∃ a n c, v = .slice a n c := by
  obtain ⟨h1, _, hA⟩ := hs.one
  rcases hA with ⟨rfl, _⟩ | ⟨bk, off, len, cap, cs, rfl, _⟩
  · exact ⟨_, _, _, rfl⟩
  · exact ⟨_, _, _, rfl⟩
theorem anew_spec (n pp : Nat) (s : Nvm) (hok : s.root.shape.Ok) (lv : Value) (vs : List Value) (ho : ∀ Γ, OneIn Γ vs) (hvs : (vs.length : Int) = s.root.shape.members) :
    Spec0 Try.prog 45 [lv, vp n] (Rd lv 1 vs) (fun F => NvAt n pp s :: F) (fun x : Nat × Value => True) (fun x => .tuple #[vp x.1, vi 0])
      (fun x F => Cells x.1 [vi s.root.shape.members, vi s.root.shape.block, vi s.root.shape.segments, vi s.root.shape.stripes, vi s.root.shape.nv, vi s.root.shape.logical, x.2, vp n, .bool false] :: Sl x.2 1 vs :: NvAt n pp s :: F) := by
  (refine spec_of Try.func45 rfl Try.ntmps45 rfl (fun F w0 hrd => ?_))
  haveI : RdIn F lv 1 vs := ⟨hrd⟩
  have hmm := hok.members
  refine walk ?_
  refine call (nroot_spec n pp s) ?_
  intro _ _
  refine walk ?_
  intro c
  refine walk ?_
  refine call (check_spec s.root.shape hok) ?_
  intro _ _
  refine walk ?_
  refine wif_dec (fun h => ?_) (fun h => ?_)
  · exact absurd hvs h
  · refine walk ?_
    (refine draw ?_; refine dy 0 ?_; refine dy 2 ?_; refine dy 4 ?_; refine ddx 1 ?_)
    refine walk ?_
    intro v1 hvl hvn
    haveI := ho
    (refine walk ?_; refine ddx 3 ?_)
    refine walk ?_
    intro v2 hsl hsn
    (first | refine WL.ex (fun _ hs => knows (sl_form ((frame : Ent _ _) _ hs)) hs) (fun _ hv => ?_) | refine WC.ex (fun _ hs => knows (sl_form ((frame : Ent _ _) _ hs)) hs) (fun _ hv => ?_) | refine WQ.ex (fun _ hs => knows (sl_form ((frame : Ent _ _) _ hs)) hs) (fun _ hv => ?_))
    obtain ⟨a, m, cap, rfl⟩ := hv
    (refine walk ?_; refine dy 5 ?_; refine ddx 6 ?_)
    refine walk ?_
    intro b
    (refine walk ?_; refine dy 7 ?_; refine dy 8 ?_; refine walk ?_)
    refine wq_ret2 rfl rfl rfl (b, .slice a m cap) rfl trivial ?_
    show Ent _ (Cells b [vi s.root.shape.members, vi s.root.shape.block, vi s.root.shape.segments, vi s.root.shape.stripes, vi s.root.shape.nv, vi s.root.shape.logical, .slice a m cap, vp n, .bool false] :: Sl (.slice a m cap) 1 ([] ++ vs) :: NvAt n pp s :: F)
    exact perm
end Go.Proofs.Ytapgejjjgeiihaa
