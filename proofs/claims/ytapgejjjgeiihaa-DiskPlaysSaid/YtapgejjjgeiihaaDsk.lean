/- Power and disks, function by function: each does in memory what the plain text says. -/
import Derived.Test.YtapgejjjgeiihaaByt
import Derived.Test.YtapgejjjgeiihaaEng10
namespace Go.Proofs.Ytapgejjjgeiihaa
open Go Go.Sl
attribute [local irreducible] Yl WL WC WQ WD

/-! power -/
abbrev PowAt (p : Nat) (s : Pow) : HP := Cells p [vi s.used, vi s.limit]
/-- the power goes -/
abbrev outage : TypeId := 133

/-- one more operation, of the plain power -/
def ptick (s : Pow) : Out Pow Unit := match s.tick with
  | none => .gone s
  | some p => .ok () p

theorem pnew_spec (limit : Int) :
    Spec0 Try.prog 49 [vi limit] (fun _ => True) (fun F => F) (fun _ : Nat => True) (fun p => vp p) (fun p F => PowAt p ⟨0, limit⟩ :: F) := by
  (refine spec_of Try.func49 rfl Try.ntmps49 rfl (fun F w0 hrd => ?_))
  refine walk ?_
  intro p
  refine walk ?_
  exact wq_ret1 rfl rfl p rfl trivial ent
theorem used_spec (p : Nat) (s : Pow) :
    Spec0 Try.prog 30 [vp p] (fun _ => True) (fun F => PowAt p s :: F) (fun _ : Unit => True) (fun _ => vi s.used) (fun _ F => PowAt p s :: F) := by
  (refine spec_of Try.func30 rfl Try.ntmps30 rfl (fun F w0 hrd => ?_))
  refine walk ?_
  exact wq_ret1 rfl rfl () rfl trivial ent
theorem limit_spec (p : Nat) (s : Pow) (more : Int) :
    Spec0 Try.prog 63 [vp p, vi more] (fun _ => True) (fun F => PowAt p s :: F) (fun _ : Unit => True) (fun _ => .tuple #[]) (fun _ F => PowAt p (s.may more) :: F) := by
  (refine spec_of Try.func63 rfl Try.ntmps63 rfl (fun F w0 hrd => ?_))
  refine walk ?_
  refine wif_dec (fun hc => ?_) (fun hc => ?_) <;> refine walk ?_
  · refine wq_end0 rfl () rfl trivial ?_
    rw [show s.may more = ⟨s.used, w64 (s.used + more)⟩ from by simp [Pow.may, hc]]
    exact ent
  · refine wq_end0 rfl () rfl trivial ?_
    rw [show s.may more = ⟨s.used, -1⟩ from by simp [Pow.may]; omega]
    exact ent
theorem tick_spec (p : Nat) (s : Pow) :
    SpecG Try.prog outage 82 [vp p] (fun _ => True) (fun s F => PowAt p s :: F) (ptick s) s (fun (_ : Unit) _ => True) (fun _ _ => .tuple #[]) (fun _ _ F => F) := by
  (refine spec_of Try.func82 rfl Try.ntmps82 rfl (fun F w0 hrd => ?_))
  have hgo : 0 ≤ s.limit ∧ s.limit ≤ s.used → ptick s = .gone s := fun h => by unfold ptick Pow.tick; rw [if_pos h]
  have hok : ¬ (0 ≤ s.limit ∧ s.limit ≤ s.used) → ptick s = .ok () ⟨w64 (s.used + 1), s.limit⟩ := fun h => by unfold ptick Pow.tick; rw [if_neg h]
  refine walk ?_
  (refine draw ?_; refine dy 0 ?_; refine dy 1 ?_; refine dy 2 ?_; refine dy 3 ?_; refine dy 4 ?_; refine dy 5 ?_; refine dwhich 7 ?_)
  refine wif_dec (fun h0 => ?_) (fun h0 => ?_)
  · (refine dg 6 ?_; refine dg 7 ?_; refine dg 8 ?_; refine dg 9 ?_; refine dg 10 ?_; refine dg 11 ?_; refine dg 12 ?_; refine dg 13 ?_; refine dg 14 ?_; refine dy 15 ?_; refine walk ?_)
    refine wif_dec (fun h1 => ?_) (fun h1 => ?_)
    · refine walk ?_
      refine wl_panic (by rfl) s ?_ ?_
      · exact hgo (by omega)
      · exact ent
    · refine walk ?_
      exact wq_end0 rfl ((), (), _) rfl ⟨hok (by omega), trivial⟩ ent
  · (refine dn 6 ?_; refine dn 7 ?_; refine dn 8 ?_; refine dn 9 ?_; refine dn 10 ?_; refine dn 11 ?_; refine dn 12 ?_; refine dn 13 ?_; refine dn 14 ?_; refine dy 15 ?_; refine walk ?_)
    exact wq_end0 rfl ((), (), _) rfl ⟨hok (by omega), trivial⟩ ent
/-! a disk, and what of it lies in memory -/
structure DV where
  onv : Value
  wv : Value
  c : Nat
  ons : List Row
  cs : Both
  rows : List Row
structure DFits (x : DV) (s : Dsk) : Prop where
  ok : s.Ok
  on : x.ons.map (·.2) = s.on
  cache : x.cs.data = s.cache
  mem : ∀ r ∈ x.ons, r ∈ x.rows
  mem2 : ∀ e ∈ x.cs, e.2 ∈ x.rows
abbrev DCells (d pp : Nat) (x : DV) (s : Dsk) : HP := Cells d [vp pp, vi s.size, x.onv, .map (some x.c), x.wv, .bool s.dead, vi s.failAt]
abbrev DParts (d pp : Nat) (x : DV) (s : Dsk) (Γ : List HP) : List HP := DCells d pp x s :: Sl x.onv 1 (x.ons.map (·.1)) :: Sl x.wv 1 (s.writes.map vi) :: MapI x.c x.cs.vals :: Pool x.rows :: Γ
def DiskAt (d pp : Nat) (s : Dsk) : HP := fun h => ∃ x : DV, DFits x s ∧ Sat (DParts d pp x s []) h
theorem DiskAt.opened {d pp : Nat} {s : Dsk} {Γ : List HP} {h : Hp} (hs : Sat (DiskAt d pp s :: Γ) h) : ∃ x : DV, DFits x s ∧ Sat (DParts d pp x s Γ) h := by
  obtain ⟨x, hx⟩ := Sat.ex.1 hs
  obtain ⟨hf, hx⟩ := Sat.pur.1 hx
  exact ⟨x, hf, Sat.flat.1 hx⟩
theorem DiskAt.shut {d pp : Nat} {s : Dsk} {Γ : List HP} (x : DV) (hf : DFits x s) : Ent (DParts d pp x s Γ) (DiskAt d pp s :: Γ) := fun _ hs =>
  Sat.ex.2 ⟨x, Sat.pur.2 ⟨hf, Sat.flat.2 hs⟩⟩

theorem has_spec (d pp : Nat) (s : Dsk) (i : Int) :
    Spec0 Try.prog 68 [vp d, vi i] (fun _ => True) (fun F => DiskAt d pp s :: F) (fun _ : Unit => True) (fun _ => .bool (decide (0 ≤ i ∧ i < s.on.length))) (fun _ F => DiskAt d pp s :: F) := by
  (refine spec_of Try.func68 rfl Try.ntmps68 rfl (fun F w0 hrd => ?_))
  refine WC.ex (fun y => DiskAt.opened) (fun x hf => ?_)
  have hl : x.ons.length = s.on.length := by have := congrArg List.length hf.on; simpa using this
  refine walk ?_
  (first | (refine wif_cut 8 15 (.bool (decide (0 ≤ i ∧ i < s.on.length))) (fun K => ?_) ?_; refine wif_dec (fun hc => ?_) (fun hc => ?_); (iterate 8 ((first | (refine wl_guard_yes rfl rfl rfl ?_; refine wl_ya ?_) | (refine wl_guard_no rfl rfl rfl rfl rfl ?_) | (refine wl_ya ?_)))); exact K true _ _ rfl (by (repeat (first | exact trivial | refine And.intro (by first | exact trivial | rfl) ?_))) (by simp [hc]) (by first | rfl | (simp; done) | (simp; omega) | (simp [*]; done) | (simp [*]; omega)); (iterate 8 ((first | (refine wl_guard_yes rfl rfl rfl ?_; refine wl_ya ?_) | (refine wl_guard_no rfl rfl rfl rfl rfl ?_) | (refine wl_ya ?_)))); exact K false _ _ rfl (by (repeat (first | exact trivial | refine And.intro (by first | exact trivial | rfl) ?_))) (by simp [hc]) (by first | rfl | (simp; done) | (simp; omega) | (simp [*]; done) | (simp [*]; omega)); try (refine wl_nil ?_)) | (refine wif_cutn 8 15 (.bool (decide (0 ≤ i ∧ i < s.on.length))) (fun K => ?_) ?_; refine wif_dec (fun hc => ?_) (fun hc => ?_); (iterate 8 ((first | (refine wl_guard_yes rfl rfl rfl ?_; refine wl_ya ?_) | (refine wl_guard_no rfl rfl rfl rfl rfl ?_) | (refine wl_ya ?_)))); exact K false _ _ rfl (by (repeat (first | exact trivial | refine And.intro (by first | exact trivial | rfl) ?_))) (by simp [hc]) (by first | rfl | (simp; done) | (simp; omega) | (simp [*]; done) | (simp [*]; omega)); (iterate 8 ((first | (refine wl_guard_yes rfl rfl rfl ?_; refine wl_ya ?_) | (refine wl_guard_no rfl rfl rfl rfl rfl ?_) | (refine wl_ya ?_)))); exact K true _ _ rfl (by (repeat (first | exact trivial | refine And.intro (by first | exact trivial | rfl) ?_))) (by simp [hc]) (by first | rfl | (simp; done) | (simp; omega) | (simp [*]; done) | (simp [*]; omega)); try (refine wl_nil ?_)))
  refine walk ?_
  exact wq_ret1 rfl rfl () rfl trivial (DiskAt.shut x hf)


theorem sectors_spec (d pp : Nat) (s : Dsk) :
    Spec0 Try.prog 50 [vp d] (fun _ => True) (fun F => DiskAt d pp s :: F) (fun _ : Unit => True) (fun _ => vi s.sectors) (fun _ F => DiskAt d pp s :: F) := by
  (refine spec_of Try.func50 rfl Try.ntmps50 rfl (fun F w0 hrd => ?_))
  refine WC.ex (fun y => DiskAt.opened) (fun x hf => ?_)
  have hl : x.ons.length = s.on.length := by have := congrArg List.length hf.on; simpa using this
  refine walk ?_
  exact wq_ret1 rfl rfl () (by simp [Dsk.sectors, hl]) trivial (DiskAt.shut x hf)


theorem dead_spec (d pp : Nat) (s : Dsk) :
    Spec0 Try.prog 32 [vp d] (fun _ => True) (fun F => DiskAt d pp s :: F) (fun _ : Unit => True) (fun _ => .bool s.dead) (fun _ F => DiskAt d pp s :: F) := by
  (refine spec_of Try.func32 rfl Try.ntmps32 rfl (fun F w0 hrd => ?_))
  refine WC.ex (fun y => DiskAt.opened) (fun x hf => ?_)
  refine walk ?_
  exact wq_ret1 rfl rfl () rfl trivial (DiskAt.shut x hf)


theorem fail_spec (d pp : Nat) (s : Dsk) :
    Spec0 Try.prog 37 [vp d] (fun _ => True) (fun F => DiskAt d pp s :: F) (fun _ : Unit => True) (fun _ => .tuple #[]) (fun _ F => DiskAt d pp s.fail :: F) := by
  (refine spec_of Try.func37 rfl Try.ntmps37 rfl (fun F w0 hrd => ?_))
  refine WC.ex (fun y => DiskAt.opened) (fun x hf => ?_)
  refine walk ?_
  exact wq_end0 rfl () rfl trivial (DiskAt.shut (s := s.fail) x ⟨⟨hf.ok.size0, hf.ok.size, hf.ok.many, hf.ok.writes, hf.ok.on, hf.ok.cache, hf.ok.keys⟩, hf.on, hf.cache, hf.mem, hf.mem2⟩)


theorem failAt_spec (d pp : Nat) (s : Dsk) (ops : Int) :
    Spec0 Try.prog 29 [vp d, vi ops] (fun _ => True) (fun F => DiskAt d pp s :: F) (fun _ : Unit => True) (fun _ => .tuple #[]) (fun _ F => DiskAt d pp (s.failing ops) :: F) := by
  (refine spec_of Try.func29 rfl Try.ntmps29 rfl (fun F w0 hrd => ?_))
  refine WC.ex (fun y => DiskAt.opened) (fun x hf => ?_)
  refine walk ?_
  exact wq_end0 rfl () rfl trivial (DiskAt.shut (s := s.failing ops) x ⟨⟨hf.ok.size0, hf.ok.size, hf.ok.many, hf.ok.writes, hf.ok.on, hf.ok.cache, hf.ok.keys⟩, hf.on, hf.cache, hf.mem, hf.mem2⟩)


theorem writes_spec (d pp : Nat) (s : Dsk) (i : Int) :
    Spec0 Try.prog 61 [vp d, vi i] (fun _ => True) (fun F => DiskAt d pp s :: F) (fun _ : Unit => True) (fun _ => vi (if s.has i then s.writes.getD i.toNat 0 else 0)) (fun _ F => DiskAt d pp s :: F) := by
  (refine spec_of Try.func61 rfl Try.ntmps61 rfl (fun F w0 hrd => ?_))
  refine walk ?_
  refine call (has_spec d pp s i) ?_
  intro _ _
  refine walk ?_
  refine wif_dec (fun hh => ?_) (fun hh => ?_) <;> refine walk ?_
  · (first | refine WC.ex (fun y => DiskAt.opened) (fun x hf => ?_) | refine WL.ex (fun y => DiskAt.opened) (fun x hf => ?_) | refine WQ.ex (fun y => DiskAt.opened) (fun x hf => ?_))
    have hw := hf.ok.writes
    refine walk ?_
    refine wq_ret1 rfl rfl () ?_ trivial (DiskAt.shut x hf)
    have h1 : i.toNat < s.writes.length := by omega
    simp [Dsk.has, hh, List.getD, h1]
  · exact wq_ret1 rfl rfl () (by simp [Dsk.has, hh]) trivial ent


theorem step_spec (d pp : Nat) (s : DP) :
    SpecG Try.prog outage 69 [vp d] (fun _ => True) (fun s F => DiskAt d pp s.1 :: PowAt pp s.2 :: F) (dstep s) s (fun (_ : Unit) _ => True) (fun _ e => vi e) (fun _ _ F => F) := by
  (refine spec_of Try.func69 rfl Try.ntmps69 rfl (fun F w0 hrd => ?_))
  obtain ⟨s, p⟩ := s
  dsimp only
  refine WC.ex (fun y => DiskAt.opened) (fun x hf => ?_)
  refine walk ?_
  refine gcall (tick_spec pp p) (fun s' hg => ⟨(s, s'), ?_, ?_⟩) (fun _ _ p' hp _ => ?_)
  · unfold ptick at hg
    unfold dstep
    dsimp only
    cases hp : p.tick with
    | none => rw [hp] at hg; cases hg; rfl
    | some q => rw [hp] at hg; cases hg
  · exact Ent.trans ent (DiskAt.shut x hf)
  have hp' : p.tick = some p' := by
    unfold ptick at hp
    cases hq : p.tick with
    | none => rw [hq] at hp; cases hp
    | some q => rw [hq] at hp; cases hp; rfl
  have hm : dstep (s, p) = .ok (if (s.begun p').dead then 8 else 0) (s.begun p', p') := by unfold dstep; dsimp only; rw [hp']
  have hd : (s.begun p').dead = (s.dead || decide (0 ≤ s.failAt ∧ s.failAt < p'.used)) := rfl
  have hf' : DFits x (s.begun p') := ⟨⟨hf.ok.size0, hf.ok.size, hf.ok.many, hf.ok.writes, hf.ok.on, hf.ok.cache, hf.ok.keys⟩, hf.on, hf.cache, hf.mem, hf.mem2⟩
  refine walk ?_
  (refine draw ?_; refine dy 0 ?_; refine dy 1 ?_; refine dy 2 ?_; refine dy 3 ?_; refine dy 4 ?_; refine dy 5 ?_; refine dwhich 13 ?_)
  refine wif_dec (fun h0 => ?_) (fun h0 => ?_)
  · (refine dg 6 ?_; refine dg 7 ?_; refine dg 8 ?_; refine dg 9 ?_; refine dg 11 ?_; refine dg 12 ?_; refine dg 13 ?_; refine dg 14 ?_; refine ddo 10 ?_)
    refine walk ?_
    refine call (used_spec pp p') ?_
    intro _ _
    (refine walk ?_; refine dg 15 ?_; refine dy 16 ?_; refine walk ?_)
    refine wif_meet (X := Unit) (fun _ => [(0, vp d)]) (fun _ => DParts d pp x (s.begun p') (PowAt pp p' :: F)) (fun _ => True) (wif_dec (fun h1 => ?_) (fun h1 => ?_)) (fun _ _ => ?_)
    · refine walk ?_
      refine wq_meet _ _ _ () trivial envs ?_
      have h0' : 0 ≤ s.failAt := h0
      have h1' : s.failAt < p'.used := h1
      rw [show s.begun p' = { s with dead := true } from by unfold Dsk.begun; simp [h0', h1']]
      exact ent
    · refine walk ?_
      refine wq_meet _ _ _ () trivial envs ?_
      have h1' : ¬ s.failAt < p'.used := h1
      rw [show s.begun p' = s from by unfold Dsk.begun; simp [h1']]
      exact ent
    refine walk ?_
    refine WIf.both (fun hh => ?_) (fun hh => ?_) <;> refine walk ?_
    · exact wq_ret1 rfl rfl ((), 8, (s.begun p', p')) rfl ⟨by rw [hm, hh]; rfl, trivial⟩ (DiskAt.shut x hf')
    · exact wq_ret1 rfl rfl ((), 0, (s.begun p', p')) rfl ⟨by rw [hm, hh]; rfl, trivial⟩ (DiskAt.shut x hf')
  · (refine dn 6 ?_; refine dn 7 ?_; refine dn 8 ?_; refine dn 9 ?_; refine dn 10 ?_; refine dn 11 ?_; refine dn 12 ?_; refine dn 13 ?_; refine dn 14 ?_; refine dn 15 ?_; refine dy 16 ?_; refine walk ?_)
    have h0' : ¬ 0 ≤ s.failAt := h0
    have e : s.begun p' = s := by unfold Dsk.begun; simp [h0']
    rw [e] at hm hf'
    refine WIf.both (fun hh => ?_) (fun hh => ?_) <;> refine walk ?_
    · exact wq_ret1 rfl rfl ((), 8, (s, p')) rfl ⟨by rw [hm, hh]; rfl, trivial⟩ (Ent.trans ent (DiskAt.shut x hf'))
    · exact wq_ret1 rfl rfl ((), 0, (s, p')) rfl ⟨by rw [hm, hh]; rfl, trivial⟩ (Ent.trans ent (DiskAt.shut x hf'))
end Go.Proofs.Ytapgejjjgeiihaa
