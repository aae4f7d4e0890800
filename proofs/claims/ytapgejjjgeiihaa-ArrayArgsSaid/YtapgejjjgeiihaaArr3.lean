/- An array over disks: Put. -/
import Derived.Test.YtapgejjjgeiihaaArr2
namespace Go.Proofs.Ytapgejjjgeiihaa
open Go Go.Sl
attribute [local irreducible] Yl WL WC WQ WD

theorem aputs_step {s : Shp} {t : Int} {l : List Bytes} {i : Nat} {r : Rig} (hi : i < l.length) :
    each (fun x : Bytes × Nat => awrite (s.member t x.2) (s.stripeAt t) x.1) (l.zipIdx.drop i) r = (awrite (s.member t i) (s.stripeAt t) l[i] r).bind fun e r => if e = 0 then each (fun x : Bytes × Nat => awrite (s.member t x.2) (s.stripeAt t) x.1) (l.zipIdx.drop (i + 1)) r else .ok e r := by
  rw [List.drop_eq_getElem_cons (by simpa using hi)]
  simp [each]
theorem aputs_end {s : Shp} {t : Int} {l : List Bytes} {r : Rig} : each (fun x : Bytes × Nat => awrite (s.member t x.2) (s.stripeAt t) x.1) (l.zipIdx.drop l.length) r = .ok 0 r := by
  rw [List.drop_of_length_le (by simp)]; rfl

set_option maxHeartbeats 1000000 in
theorem aput_spec (k : Keys) (hk : k.Ok) (r : Rig) (t : Int) (cv : Value) (rows : List Row) (hn : rows.length ≤ 1048576) (hb : ∀ q ∈ rows, q.2.length ≤ 1099511627776) :
    SpecG Try.prog outage 27 [vp k.a, vi t, cv] (fun h => Rd cv 1 (rows.map (·.1)) h ∧ ∀ r ∈ rows, Rd r.1 1 (r.2.map vb) h) (RigAt k) (aput k.sh t (rows.map (·.2)) r) r (fun (_ : Unit) _ => True) (fun _ e => vi e) (fun _ _ F => F) := by
  (refine spec_of Try.func27 rfl Try.ntmps27 rfl (fun F w0 hrd => ?_))
  haveI : RdIn F cv 1 (rows.map (·.1)) := ⟨fun h hs => (hrd h hs).1⟩
  haveI : ReadIn F (fun h => Rd cv 1 (rows.map (·.1)) h ∧ ∀ r ∈ rows, Rd r.1 1 (r.2.map vb) h) := ⟨hrd⟩
  have hrow : ∀ q ∈ rows, RdIn F q.1 1 (q.2.map vb) := fun q hq => ⟨fun h hs => (hrd h hs).2 q hq⟩
  have hmem := hk.mem
  have hmm := hk.sh.members
  have hl : (rows.map (·.2)).length = rows.length := by simp
  have hall := (bounds hk.sh).all
  have hall' : k.sh.all ≤ 1024 := hall.2
  obtain ⟨A, hA⟩ : ∃ A : Prop, A = ((rows.length : Int) = k.sh.members - 1 ∧ (0 ≤ t ∧ t < k.sh.all)) := ⟨_, rfl⟩
  haveI : Decidable A := by rw [hA]; infer_instance
  refine walk ?_
  refine wif_cut 4 28 (.bool (decide A)) (fun K => ?_) ?_
  · refine wif_dec (fun hc => ?_) (fun hc => ?_)
    · iterate 2 (first | (refine wl_guard_yes rfl rfl rfl ?_; refine wl_ya ?_) | (refine wl_guard_no rfl rfl rfl rfl rfl ?_) | (refine wl_ya ?_))
      refine wl_guard_yes rfl rfl rfl ?_
      refine call (ahas_spec k hk r t) ?_
      intro _ _
      (first | (refine wl_guard_yes rfl rfl rfl ?_; refine wl_ya ?_) | (refine wl_guard_no rfl rfl rfl rfl rfl ?_) | (refine wl_ya ?_))
      exact K true _ _ rfl (by (repeat (first | exact trivial | refine And.intro (by first | exact trivial | rfl) ?_))) (by simp [hc]) (by simp [hA, hc])
    · iterate 4 (first | (refine wl_guard_yes rfl rfl rfl ?_; refine wl_ya ?_) | (refine wl_guard_no rfl rfl rfl rfl rfl ?_) | (refine wl_ya ?_))
      exact K false _ _ rfl (by (repeat (first | exact trivial | refine And.intro (by first | exact trivial | rfl) ?_))) (by simp [hc]) (by simp [hA, hc])
  refine walk ?_
  refine wc_loop (X := Nat) (fun i => [(0, vp k.a), (1, vi t), (2, cv), (7, .bool (decide (A ∧ ∀ b ∈ (rows.take i).map (·.2), (b.length : Int) = k.sh.block))), (29, cv), (30, vi rows.length), (31, vi i)]) (fun _ => RigAt k r F)
    (fun i => i ≤ rows.length) (fun i => rows.length - i) 0 (by omega) (by simp only [List.take_zero, List.map_nil, List.not_mem_nil, false_imp_iff, implies_true, and_true]; exact envs) perm (fun i hi => ?_)
  have htk : ∀ i (hlt : i < rows.length), (A ∧ ∀ b ∈ (rows.take (i + 1)).map (·.2), (b.length : Int) = k.sh.block) ↔ ((A ∧ ∀ b ∈ (rows.take i).map (·.2), (b.length : Int) = k.sh.block) ∧ (rows[i].2.length : Int) = k.sh.block) := fun i hlt => by
    rw [List.take_succ_eq_append_getElem hlt, List.map_append]
    constructor
    · intro h
      exact ⟨⟨h.1, fun b hb => h.2 b (List.mem_append_left _ hb)⟩, h.2 _ (List.mem_append_right _ (by simp))⟩
    · intro h
      refine ⟨h.1.1, fun b hb => ?_⟩
      rcases List.mem_append.1 hb with hb | hb
      · exact h.1.2 b hb
      · rw [List.map_singleton, List.mem_singleton] at hb; rw [hb]; exact h.2
  refine walk ?_
  refine wif_dec (fun hlt => ?_) (fun hlt => ?_)
  · have hlt : i < rows.length := by omega
    have hr := List.getElem_mem hlt
    have hb1 := hb _ hr
    have htk := htk i hlt
    refine walk ?_
    generalize rows[i] = q at *
    haveI := hrow q hr
    refine walk ?_
    refine wif_cut 9 45 (.bool (decide (A ∧ ∀ b ∈ (rows.take (i + 1)).map (·.2), (b.length : Int) = k.sh.block))) (fun K => ?_) ?_
    · refine wif_dec (fun hc => ?_) (fun hc => ?_)
      · iterate 9 (first | (refine wl_guard_yes rfl rfl rfl ?_; refine wl_ya ?_) | (refine wl_guard_no rfl rfl rfl rfl rfl ?_) | (refine wl_ya ?_))
        exact K true _ _ rfl (by (repeat (first | exact trivial | refine And.intro (by first | exact trivial | rfl) ?_))) (decide_eq_true hc).symm (congrArg Value.bool (decide_eq_decide.2 (htk.trans (and_iff_right hc)).symm))
      · iterate 9 (first | (refine wl_guard_yes rfl rfl rfl ?_; refine wl_ya ?_) | (refine wl_guard_no rfl rfl rfl rfl rfl ?_) | (refine wl_ya ?_))
        exact K false _ _ rfl (by (repeat (first | exact trivial | refine And.intro (by first | exact trivial | rfl) ?_))) (decide_eq_false hc).symm (congrArg Value.bool (decide_eq_false (fun h => hc (htk.1 h).1)).symm)
    refine walk ?_
    exact wq_round (i + 1) (by omega) (by omega) envs perm
  have hi' : i = rows.length := by omega
  subst hi'
  rw [List.take_length]
  clear htk
  refine walk ?_
  have hAll : (A ∧ ∀ b ∈ rows.map (·.2), (b.length : Int) = k.sh.block) ↔ (((rows.map (·.2)).length : Int) = k.sh.members - 1 ∧ (0 ≤ t ∧ t < k.sh.all) ∧ ∀ b ∈ rows.map (·.2), (b.length : Int) = k.sh.block) := by rw [hA, hl, and_assoc]
  refine wif_dec (fun hc => ?_) (fun hc => ?_)
  rotate_left
  · refine walk ?_
    exact wq_ret1 rfl rfl ((), 1, r) rfl ⟨by unfold aput; rw [if_pos (by rw [← hAll]; exact hc)], trivial⟩ perm
  refine walk ?_
  refine WIf.both (fun hbr => ?_) (fun hbr => ?_)
  · refine walk ?_
    exact wq_ret1 rfl rfl ((), 3, r) rfl ⟨by unfold aput; rw [if_neg (by rw [← hAll]; exact not_not_intro hc), if_pos hbr], trivial⟩ perm
  have hok := hc
  have hok' := hok.1
  rw [hA] at hok'
  have hm : aput k.sh t (rows.map (·.2)) r = (aputs k.sh t (rows.map (·.2)) r).bind fun e r => if e ≠ 0 then .ok e r
    else (awrite (k.sh.parity t) (k.sh.stripeAt t) (xorOf (rows.map (·.2))) r).bind fun e r => if e ≠ 0 then .ok e r else aflush r := by
    unfold aput
    rw [if_neg (by rw [← hAll]; exact not_not_intro hc), if_neg (by simp [hbr])]
  refine walk ?_
  refine call (stripeAt_spec k.sh hk.sh t (by omega)) ?_
  intro _ _
  refine walk ?_
  refine wc_loop (X := Nat × Rig) (fun y => [(0, vp k.a), (1, vi t), (2, cv), (10, vi (k.sh.stripeAt t)), (61, cv), (62, vi rows.length), (63, vi y.1)]) (fun y => RigAt k y.2 F)
    (fun y => y.1 ≤ rows.length ∧ aputs k.sh t (rows.map (·.2)) r = each (fun x : Bytes × Nat => awrite (k.sh.member t x.2) (k.sh.stripeAt t) x.1) ((rows.map (·.2)).zipIdx.drop y.1) y.2) (fun y => rows.length - y.1) (0, r) ⟨by omega, rfl⟩ envs perm (fun y hy => ?_)
  obtain ⟨i, r'⟩ := y
  dsimp only at hy ⊢
  obtain ⟨hi, hs⟩ := hy
  refine walk ?_
  refine wif_dec (fun hlt => ?_) (fun hlt => ?_)
  · have hlt : i < rows.length := by omega
    have hr := List.getElem_mem hlt
    rw [aputs_step (by omega), List.getElem_map] at hs
    refine walk ?_
    generalize rows[i] = q at *
    haveI := hrow q hr
    obtain ⟨m, hme, hmlt⟩ := member_nat k hk t i
    rw [hme] at hs
    rw [hs] at hm
    refine walk ?_
    refine call (member_spec k.sh hk.sh t i (by omega) (by omega)) ?_
    intro _ _
    rw [hme]
    refine walk ?_
    (refine gcall (awrite_spec k r' m hmlt (k.sh.stripeAt t) q.1 q.2) (fun s' hg => ⟨s', ?_, ?_⟩) (fun x e r1 h1 _ => ?_); (rw [hm, hg] <;> rfl); (first | (exact perm) | (exact permL)); (rw [h1] at hm); (try rw [Out.bind_ok] at hm))
    rw [h1, Out.bind_ok] at hs
    refine walk ?_
    refine wif_dec (fun h2 => ?_) (fun h2 => ?_)
    · rw [if_neg h2] at hm
      refine walk ?_
      exact wq_ret1 rfl rfl ((), e, r1) rfl ⟨by rw [hm, Out.bind_ok, if_pos h2], trivial⟩ perm
    rw [if_pos (Decidable.not_not.1 h2)] at hs
    refine walk ?_
    exact wq_round (i + 1, r1) ⟨by dsimp only; omega, hs⟩ (by dsimp only; omega) envs perm
  have hi' : i = (rows.map (·.2)).length := by omega
  rw [hi', aputs_end] at hs
  rw [hs, Out.bind_ok, if_neg (by simp)] at hm
  obtain ⟨m, hme, hmlt⟩ := parity_nat k hk t
  rw [hme] at hm
  refine walk ?_
  refine call (parity_spec k.sh hk.sh t (by omega)) ?_
  intro _ _
  rw [hme]
  refine walk ?_
  refine call (xorOf_spec cv rows hn hb) ?_
  intro v _
  refine walk ?_
  (refine gcall (awrite_spec k r' m hmlt (k.sh.stripeAt t) v (xorOf (rows.map fun q : Row => q.2))) (fun s' hg => ⟨s', ?_, ?_⟩) (fun x e r1 h1 _ => ?_); (rw [hm, hg] <;> rfl); (first | (exact perm) | (exact permL)); (rw [h1] at hm); (try rw [Out.bind_ok] at hm))
  refine walk ?_
  refine wif_dec (fun h2 => ?_) (fun h2 => ?_)
  · rw [if_pos h2] at hm
    refine walk ?_
    exact wq_ret1 rfl rfl ((), e, r1) rfl ⟨hm, trivial⟩ perm
  rw [if_neg h2] at hm
  refine walk ?_
  (refine gcall (aflush_spec k hk r1) (fun s' hg => ⟨s', ?_, ?_⟩) (fun x3 e3 r3 h3 _ => ?_); (rw [hm, hg] <;> rfl); (first | (exact perm) | (exact permL)); (rw [h3] at hm); (try rw [Out.bind_ok] at hm))
  refine walk ?_
  exact wq_ret1 rfl rfl ((), e3, r3) rfl ⟨hm, trivial⟩ perm
end Go.Proofs.Ytapgejjjgeiihaa
