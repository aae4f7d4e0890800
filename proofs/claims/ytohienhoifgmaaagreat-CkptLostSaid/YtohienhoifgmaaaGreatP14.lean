/- several texts, one behind the other -/
import Derived.Test.YtohienhoifgmaaaGreatP13
import Derived.Test.YtohienhoifgmaaaGreatP10

section
/- Power and disks, function by function: each does in memory what the plain text says. -/
namespace Go.Proofs.YtohienhoifgmaaaGreat
open Go Go.Sl
attribute [local irreducible] Yl WL WC WQ WD

/-! power -/
abbrev PowAt (p : Nat) (s : Pow) : HP := Cells p [vi s.used, vi s.limit]
/-- the power goes -/
abbrev outage : TypeId := 159

/-- one more operation, of the plain power -/
def ptick (s : Pow) : Out Pow Unit := match s.tick with
  | none => .gone s
  | some p => .ok () p

theorem pnew_spec (limit : Int) :
    Spec0 Tryz.prog 97 [vi limit] (fun _ => True) (fun F => F) (fun _ : Nat => True) (fun p => vp p) (fun p F => PowAt p ⟨0, limit⟩ :: F) := by
  (refine spec_of Tryz.func97 rfl Tryz.ntmps97 rfl (fun F w0 hrd => ?_))
  refine walk ?_
  intro p
  refine walk ?_
  exact wq_ret1 rfl rfl p rfl trivial ent
theorem used_spec (p : Nat) (s : Pow) :
    Spec0 Tryz.prog 39 [vp p] (fun _ => True) (fun F => PowAt p s :: F) (fun _ : Unit => True) (fun _ => vi s.used) (fun _ F => PowAt p s :: F) := by
  (refine spec_of Tryz.func39 rfl Tryz.ntmps39 rfl (fun F w0 hrd => ?_))
  refine walk ?_
  exact wq_ret1 rfl rfl () rfl trivial ent
theorem limit_spec (p : Nat) (s : Pow) (more : Int) :
    Spec0 Tryz.prog 40 [vp p, vi more] (fun _ => True) (fun F => PowAt p s :: F) (fun _ : Unit => True) (fun _ => .tuple #[]) (fun _ F => PowAt p (s.may more) :: F) := by
  (refine spec_of Tryz.func40 rfl Tryz.ntmps40 rfl (fun F w0 hrd => ?_))
  refine walk ?_
  refine wif_dec (fun hc => ?_) (fun hc => ?_) <;> refine walk ?_
  · refine wq_end0 rfl () rfl trivial ?_
    rw [show s.may more = ⟨s.used, w64 (s.used + more)⟩ from by simp [Pow.may, hc]]
    exact ent
  · refine wq_end0 rfl () rfl trivial ?_
    rw [show s.may more = ⟨s.used, -1⟩ from by simp [Pow.may]; omega]
    exact ent
theorem tick_spec (p : Nat) (s : Pow) :
    SpecG Tryz.prog outage 60 [vp p] (fun _ => True) (fun s F => PowAt p s :: F) (ptick s) s (fun (_ : Unit) _ => True) (fun _ _ => .tuple #[]) (fun _ _ F => F) := by
  (refine spec_of Tryz.func60 rfl Tryz.ntmps60 rfl (fun F w0 hrd => ?_))
  have hgo : 0 ≤ s.limit ∧ s.limit ≤ s.used → ptick s = .gone s := fun h => by unfold ptick Pow.tick; rw [if_pos h]
  have hok : ¬ (0 ≤ s.limit ∧ s.limit ≤ s.used) → ptick s = .ok () ⟨w64 (s.used + 1), s.limit⟩ := fun h => by unfold ptick Pow.tick; rw [if_neg h]
  refine walk ?_
  (refine draw ?_; refine dy 0 ?_; refine dy 1 ?_; refine dy 2 ?_; refine dy 3 ?_; refine dy 4 ?_; refine dy 5 ?_; refine dwhich 7 ?_)
  refine wif_dec (fun h0 => ?_) (fun h0 => ?_)
  · (refine dg 6 ?_; refine dg 7 ?_; refine dg 8 ?_; refine dg 9 ?_; refine dg 10 ?_; refine dg 11 ?_; refine dg 12 ?_; refine dg 13 ?_; refine dg 14 ?_; refine dy 15 ?_; refine walk ?_)
    refine wif_dec (fun h1 => ?_) (fun h1 => ?_)
    · refine walk ?_
      refine wl_panic (by rfl) s ?_ ?_
      · exact hgo (by omega)
      · exact ent
    · refine walk ?_
      exact wq_end0 rfl ((), (), _) rfl ⟨hok (by omega), trivial⟩ ent
  · (refine dn 6 ?_; refine dn 7 ?_; refine dn 8 ?_; refine dn 9 ?_; refine dn 10 ?_; refine dn 11 ?_; refine dn 12 ?_; refine dn 13 ?_; refine dn 14 ?_; refine dy 15 ?_; refine walk ?_)
    exact wq_end0 rfl ((), (), _) rfl ⟨hok (by omega), trivial⟩ ent
/-! a disk, and what of it lies in memory -/
structure DV where
  onv : Value
  wv : Value
  c : Nat
  ons : List Row
  cs : Both
  rows : List Row
structure DFits (x : DV) (s : Dsk) : Prop where
  ok : s.Ok
  on : x.ons.map (·.2) = s.on
  cache : x.cs.data = s.cache
  mem : ∀ r ∈ x.ons, r ∈ x.rows
  mem2 : ∀ e ∈ x.cs, e.2 ∈ x.rows
abbrev DCells (d pp : Nat) (x : DV) (s : Dsk) : HP := Cells d [vp pp, vi s.size, x.onv, .map (some x.c), x.wv, .bool s.dead, vi s.failAt]
abbrev DParts (d pp : Nat) (x : DV) (s : Dsk) (Γ : List HP) : List HP := DCells d pp x s :: Sl x.onv 1 (x.ons.map (·.1)) :: Sl x.wv 1 (s.writes.map vi) :: MapI x.c x.cs.vals :: Pool x.rows :: Γ
def DiskAt (d pp : Nat) (s : Dsk) : HP := fun h => ∃ x : DV, DFits x s ∧ Sat (DParts d pp x s []) h
theorem DiskAt.opened {d pp : Nat} {s : Dsk} {Γ : List HP} {h : Hp} (hs : Sat (DiskAt d pp s :: Γ) h) : ∃ x : DV, DFits x s ∧ Sat (DParts d pp x s Γ) h := by
  obtain ⟨x, hx⟩ := Sat.ex.1 hs
  obtain ⟨hf, hx⟩ := Sat.pur.1 hx
  exact ⟨x, hf, Sat.flat.1 hx⟩
theorem DiskAt.shut {d pp : Nat} {s : Dsk} {Γ : List HP} (x : DV) (hf : DFits x s) : Ent (DParts d pp x s Γ) (DiskAt d pp s :: Γ) := fun _ hs =>
  Sat.ex.2 ⟨x, Sat.pur.2 ⟨hf, Sat.flat.2 hs⟩⟩

theorem has_spec (d pp : Nat) (s : Dsk) (i : Int) :
    Spec0 Tryz.prog 200 [vp d, vi i] (fun _ => True) (fun F => DiskAt d pp s :: F) (fun _ : Unit => True) (fun _ => .bool (decide (0 ≤ i ∧ i < s.on.length))) (fun _ F => DiskAt d pp s :: F) := by
  (refine spec_of Tryz.func200 rfl Tryz.ntmps200 rfl (fun F w0 hrd => ?_))
  refine WC.ex (fun y => DiskAt.opened) (fun x hf => ?_)
  have hl : x.ons.length = s.on.length := by have := congrArg List.length hf.on; simpa using this
  refine walk ?_
  (first | (refine wif_cut 8 15 (.bool (decide (0 ≤ i ∧ i < s.on.length))) (fun K => ?_) ?_; refine wif_dec (fun hc => ?_) (fun hc => ?_); (iterate 8 ((first | (refine wl_guard_yes rfl rfl rfl ?_; refine wl_ya ?_) | (refine wl_guard_no rfl rfl rfl rfl rfl ?_) | (refine wl_ya ?_)))); exact K true _ _ rfl (by (repeat (first | exact trivial | refine And.intro (by first | exact trivial | rfl) ?_))) (by simp [hc]) (by first | rfl | (simp; done) | (simp; omega) | (simp [*]; done) | (simp [*]; omega)); (iterate 8 ((first | (refine wl_guard_yes rfl rfl rfl ?_; refine wl_ya ?_) | (refine wl_guard_no rfl rfl rfl rfl rfl ?_) | (refine wl_ya ?_)))); exact K false _ _ rfl (by (repeat (first | exact trivial | refine And.intro (by first | exact trivial | rfl) ?_))) (by simp [hc]) (by first | rfl | (simp; done) | (simp; omega) | (simp [*]; done) | (simp [*]; omega)); try (refine wl_nil ?_)) | (refine wif_cutn 8 15 (.bool (decide (0 ≤ i ∧ i < s.on.length))) (fun K => ?_) ?_; refine wif_dec (fun hc => ?_) (fun hc => ?_); (iterate 8 ((first | (refine wl_guard_yes rfl rfl rfl ?_; refine wl_ya ?_) | (refine wl_guard_no rfl rfl rfl rfl rfl ?_) | (refine wl_ya ?_)))); exact K false _ _ rfl (by (repeat (first | exact trivial | refine And.intro (by first | exact trivial | rfl) ?_))) (by simp [hc]) (by first | rfl | (simp; done) | (simp; omega) | (simp [*]; done) | (simp [*]; omega)); (iterate 8 ((first | (refine wl_guard_yes rfl rfl rfl ?_; refine wl_ya ?_) | (refine wl_guard_no rfl rfl rfl rfl rfl ?_) | (refine wl_ya ?_)))); exact K true _ _ rfl (by (repeat (first | exact trivial | refine And.intro (by first | exact trivial | rfl) ?_))) (by simp [hc]) (by first | rfl | (simp; done) | (simp; omega) | (simp [*]; done) | (simp [*]; omega)); try (refine wl_nil ?_)))
  refine walk ?_
  exact wq_ret1 rfl rfl () rfl trivial (DiskAt.shut x hf)






theorem fail_spec (d pp : Nat) (s : Dsk) :
    Spec0 Tryz.prog 37 [vp d] (fun _ => True) (fun F => DiskAt d pp s :: F) (fun _ : Unit => True) (fun _ => .tuple #[]) (fun _ F => DiskAt d pp s.fail :: F) := by
  (refine spec_of Tryz.func37 rfl Tryz.ntmps37 rfl (fun F w0 hrd => ?_))
  refine WC.ex (fun y => DiskAt.opened) (fun x hf => ?_)
  refine walk ?_
  exact wq_end0 rfl () rfl trivial (DiskAt.shut (s := s.fail) x ⟨⟨hf.ok.size0, hf.ok.size, hf.ok.many, hf.ok.writes, hf.ok.on, hf.ok.cache, hf.ok.keys⟩, hf.on, hf.cache, hf.mem, hf.mem2⟩)


theorem failAt_spec (d pp : Nat) (s : Dsk) (ops : Int) :
    Spec0 Tryz.prog 38 [vp d, vi ops] (fun _ => True) (fun F => DiskAt d pp s :: F) (fun _ : Unit => True) (fun _ => .tuple #[]) (fun _ F => DiskAt d pp (s.failing ops) :: F) := by
  (refine spec_of Tryz.func38 rfl Tryz.ntmps38 rfl (fun F w0 hrd => ?_))
  refine WC.ex (fun y => DiskAt.opened) (fun x hf => ?_)
  refine walk ?_
  exact wq_end0 rfl () rfl trivial (DiskAt.shut (s := s.failing ops) x ⟨⟨hf.ok.size0, hf.ok.size, hf.ok.many, hf.ok.writes, hf.ok.on, hf.ok.cache, hf.ok.keys⟩, hf.on, hf.cache, hf.mem, hf.mem2⟩)




theorem step_spec (d pp : Nat) (s : DP) :
    SpecG Tryz.prog outage 199 [vp d] (fun _ => True) (fun s F => DiskAt d pp s.1 :: PowAt pp s.2 :: F) (dstep s) s (fun (_ : Unit) _ => True) (fun _ e => vi e) (fun _ _ F => F) := by
  (refine spec_of Tryz.func199 rfl Tryz.ntmps199 rfl (fun F w0 hrd => ?_))
  obtain ⟨s, p⟩ := s
  dsimp only
  refine WC.ex (fun y => DiskAt.opened) (fun x hf => ?_)
  refine walk ?_
  refine gcall (tick_spec pp p) (fun s' hg => ⟨(s, s'), ?_, ?_⟩) (fun _ _ p' hp _ => ?_)
  · unfold ptick at hg
    unfold dstep
    dsimp only
    cases hp : p.tick with
    | none => rw [hp] at hg; cases hg; rfl
    | some q => rw [hp] at hg; cases hg
  · exact Ent.trans ent (DiskAt.shut x hf)
  have hp' : p.tick = some p' := by
    unfold ptick at hp
    cases hq : p.tick with
    | none => rw [hq] at hp; cases hp
    | some q => rw [hq] at hp; cases hp; rfl
  have hm : dstep (s, p) = .ok (if (s.begun p').dead then 8 else 0) (s.begun p', p') := by unfold dstep; dsimp only; rw [hp']
  have hd : (s.begun p').dead = (s.dead || decide (0 ≤ s.failAt ∧ s.failAt < p'.used)) := rfl
  have hf' : DFits x (s.begun p') := ⟨⟨hf.ok.size0, hf.ok.size, hf.ok.many, hf.ok.writes, hf.ok.on, hf.ok.cache, hf.ok.keys⟩, hf.on, hf.cache, hf.mem, hf.mem2⟩
  refine walk ?_
  (refine draw ?_; refine dy 0 ?_; refine dy 1 ?_; refine dy 2 ?_; refine dy 3 ?_; refine dy 4 ?_; refine dy 5 ?_; refine dwhich 13 ?_)
  refine wif_dec (fun h0 => ?_) (fun h0 => ?_)
  · (refine dg 6 ?_; refine dg 7 ?_; refine dg 8 ?_; refine dg 9 ?_; refine dg 11 ?_; refine dg 12 ?_; refine dg 13 ?_; refine dg 14 ?_; refine ddo 10 ?_)
    refine walk ?_
    refine call (used_spec pp p') ?_
    intro _ _
    (refine walk ?_; refine dg 15 ?_; refine dy 16 ?_; refine walk ?_)
    refine wif_meet (X := Unit) (fun _ => [(0, vp d)]) (fun _ => DParts d pp x (s.begun p') (PowAt pp p' :: F)) (fun _ => True) (wif_dec (fun h1 => ?_) (fun h1 => ?_)) (fun _ _ => ?_)
    · refine walk ?_
      refine wq_meet _ _ _ () trivial envs ?_
      have h0' : 0 ≤ s.failAt := h0
      have h1' : s.failAt < p'.used := h1
      rw [show s.begun p' = { s with dead := true } from by unfold Dsk.begun; simp [h0', h1']]
      exact ent
    · refine walk ?_
      refine wq_meet _ _ _ () trivial envs ?_
      have h1' : ¬ s.failAt < p'.used := h1
      rw [show s.begun p' = s from by unfold Dsk.begun; simp [h1']]
      exact ent
    refine walk ?_
    refine WIf.both (fun hh => ?_) (fun hh => ?_) <;> refine walk ?_
    · exact wq_ret1 rfl rfl ((), 8, (s.begun p', p')) rfl ⟨by rw [hm, hh]; rfl, trivial⟩ (DiskAt.shut x hf')
    · exact wq_ret1 rfl rfl ((), 0, (s.begun p', p')) rfl ⟨by rw [hm, hh]; rfl, trivial⟩ (DiskAt.shut x hf')
  · (refine dn 6 ?_; refine dn 7 ?_; refine dn 8 ?_; refine dn 9 ?_; refine dn 10 ?_; refine dn 11 ?_; refine dn 12 ?_; refine dn 13 ?_; refine dn 14 ?_; refine dn 15 ?_; refine dy 16 ?_; refine walk ?_)
    have h0' : ¬ 0 ≤ s.failAt := h0
    have e : s.begun p' = s := by unfold Dsk.begun; simp [h0']
    rw [e] at hm hf'
    refine WIf.both (fun hh => ?_) (fun hh => ?_) <;> refine walk ?_
    · exact wq_ret1 rfl rfl ((), 8, (s, p')) rfl ⟨by rw [hm, hh]; rfl, trivial⟩ (Ent.trans ent (DiskAt.shut x hf'))
    · exact wq_ret1 rfl rfl ((), 0, (s, p')) rfl ⟨by rw [hm, hh]; rfl, trivial⟩ (Ent.trans ent (DiskAt.shut x hf'))
end Go.Proofs.YtohienhoifgmaaaGreat
end

section
/- Calls by method, of an interface's value. No program. -/
namespace Go.Sl
open Go
/-- the method of a type's values, where the receiver is the value itself -/
class MethT (P : Program) (t : TypeId) (name : String) (f : outParam FuncId) : Prop where
  run : ∀ v w, (method (P.types.size + Made.depth) t v name).run P w = .ok (f, v) w
section call
variable {P : Program} {ops : Array Oper} {Q : Exit → Act → World → Prop} {w0 : World} {n : Nat} {env : Env} {Γ : List HP} {rest : List Oper}
  {ty : TypeId} {pos : String} {after : Array Edge}
theorem run_invoke {recv : Operand} {name : String} {args : Array Operand} {ts : Array TypeId} {t : TypeId} {v : Value} {vs : List Value} {f : FuncId} {dst : Option Tmp} [mt : MethT P t name f] [ct : CallT P f] {a : Act} {w : World} (he : EnvOk n a env)
    (hc : evl env recv = some (.iface t v)) (ha : evls env args.toList = some vs) :
    (execOp a.eval ⟨dst, .call ⟨.invoke recv name, args, ts⟩, ty, pos, after, none⟩).run P w = .ok (.enter f (v :: vs).toArray) w := by
  have h1 := he.evl hc
  have h2 := he.evls ha
  have h3 : args.map a.eval = vs.toArray := by apply Array.toList_inj.1; rw [Array.toList_map, h2]
  have h4 : (#[.iface t v] ++ vs.toArray : Array Value).extract 1 (#[.iface t v] ++ vs.toArray : Array Value).size = vs.toArray := by
    apply Array.toList_inj.1
    simp
  have h5 : (#[.iface t v] ++ vs.toArray : Array Value)[0]? = some (.iface t v) := by simp
  have h6 : (callMethod (.iface t v) name vs.toArray).run P w = .ok (.enter f (v :: vs).toArray) w := by
    have h7 : (#[v] ++ vs.toArray : Array Value) = (v :: vs).toArray := by simp
    simp only [callMethod, Sem.run_bind, run_program, Result.andThen_ok, mt.run, ct.run, h7]
  have h8 : (resolve a.eval ⟨.invoke recv name, args, ts⟩ ty).run P w = .ok { target := .fn (.method name) #[], args := #[.iface t v] ++ vs.toArray } w := by
    simp [resolve, h1, h3]
  simp only [execOp, Sem.run_bind, h8, Result.andThen_ok]
  simp only [invoke]
  rw [h5]
  dsimp only
  rw [h4]
  exact h6
theorem gicall {d : Nat} {recv : Operand} {name : String} {f : FuncId} {args : Array Operand} {ts : Array TypeId} {tt : TypeId} {rv : Value} {vs : List Value}
    {rd : Hp → Prop} {σ α X : Type} {part : σ → List HP → List HP} {m : Out σ α} {s : σ} {φ : X → α → Prop} {v : X → α → Value} {res : X → α → List HP → List HP} {F : List HP} {t : TypeId}
    {X' Y' : Type} {F' : List HP} {φ' : X' → Prop} {v' : X' → Value} {post' : X' → List HP → List HP} {φc' : Y' → Prop} {postc' : Y' → List HP → List HP}
    [mt : MethT P tt name f] [ct : CallT P f] [th : Thru Q (SpecR w0 F' φ' v' post' φc' (goneChain t) postc')]
    (hs : SpecG P t f (rv :: vs) rd part m s φ v res)
    (kc : ∀ s', m = .gone s' → ∃ y, φc' y ∧ Ent (part s' F) (postc' y F'))
    (k : ∀ x a s', m = .ok a s' → φ x a → WL P ops rest Q w0 n ((d, v x a) :: env) (res x a (part s' F)))
    (hc : evl env recv = some (.iface tt rv) := by rfl) (ha : evls env args.toList = some vs := by rfl)
    (hd : Nat.blt d n = true := by rfl) (hg : Ent Γ (part s F) := by (first | (with_reducible exact Ent.refl) | exact Ent.take (by (first | (with_reducible exact Ent.refl) | (with_reducible exact Ent.there Ent.refl) | (with_reducible exact tE (Ent.there Ent.refl)) | (with_reducible exact tE (tE (Ent.there Ent.refl))) | (with_reducible exact tE (tE (tE (Ent.there Ent.refl)))) | (with_reducible exact tE (tE (tE (tE (Ent.there Ent.refl))))) | (with_reducible exact tE (tE (tE (tE (tE (Ent.there Ent.refl)))))) | (with_reducible exact tE (tE (tE (tE (tE (tE (Ent.there Ent.refl))))))) | (with_reducible exact tE (tE (tE (tE (tE (tE (tE (Ent.there Ent.refl)))))))) | (with_reducible exact tE (tE (tE (tE (tE (tE (tE (tE (Ent.there Ent.refl))))))))) | (with_reducible exact tE (tE (tE (tE (tE (tE (tE (tE (tE (Ent.there Ent.refl)))))))))) | (with_reducible exact tE (tE (tE (tE (tE (tE (tE (tE (tE (tE (Ent.there Ent.refl))))))))))) | (with_reducible exact tE (tE (tE (tE (tE (tE (tE (tE (tE (tE (tE (Ent.there Ent.refl)))))))))))) | (with_reducible exact tE (tE (tE (tE (tE (tE (tE (tE (tE (tE (tE (tE (Ent.there Ent.refl))))))))))))))) (by (first | (with_reducible exact Ent.refl) | exact Ent.take (by (first | (with_reducible exact Ent.refl) | (with_reducible exact Ent.there Ent.refl) | (with_reducible exact tE (Ent.there Ent.refl)) | (with_reducible exact tE (tE (Ent.there Ent.refl))) | (with_reducible exact tE (tE (tE (Ent.there Ent.refl)))) | (with_reducible exact tE (tE (tE (tE (Ent.there Ent.refl))))) | (with_reducible exact tE (tE (tE (tE (tE (Ent.there Ent.refl)))))) | (with_reducible exact tE (tE (tE (tE (tE (tE (Ent.there Ent.refl))))))) | (with_reducible exact tE (tE (tE (tE (tE (tE (tE (Ent.there Ent.refl)))))))) | (with_reducible exact tE (tE (tE (tE (tE (tE (tE (tE (Ent.there Ent.refl))))))))) | (with_reducible exact tE (tE (tE (tE (tE (tE (tE (tE (tE (Ent.there Ent.refl)))))))))) | (with_reducible exact tE (tE (tE (tE (tE (tE (tE (tE (tE (tE (Ent.there Ent.refl))))))))))) | (with_reducible exact tE (tE (tE (tE (tE (tE (tE (tE (tE (tE (tE (Ent.there Ent.refl)))))))))))) | (with_reducible exact tE (tE (tE (tE (tE (tE (tE (tE (tE (tE (tE (tE (Ent.there Ent.refl))))))))))))))) (by (first | (with_reducible exact Ent.refl) | exact Ent.take (by (first | (with_reducible exact Ent.refl) | (with_reducible exact Ent.there Ent.refl) | (with_reducible exact tE (Ent.there Ent.refl)) | (with_reducible exact tE (tE (Ent.there Ent.refl))) | (with_reducible exact tE (tE (tE (Ent.there Ent.refl)))) | (with_reducible exact tE (tE (tE (tE (Ent.there Ent.refl))))) | (with_reducible exact tE (tE (tE (tE (tE (Ent.there Ent.refl)))))) | (with_reducible exact tE (tE (tE (tE (tE (tE (Ent.there Ent.refl))))))) | (with_reducible exact tE (tE (tE (tE (tE (tE (tE (Ent.there Ent.refl)))))))) | (with_reducible exact tE (tE (tE (tE (tE (tE (tE (tE (Ent.there Ent.refl))))))))) | (with_reducible exact tE (tE (tE (tE (tE (tE (tE (tE (tE (Ent.there Ent.refl)))))))))) | (with_reducible exact tE (tE (tE (tE (tE (tE (tE (tE (tE (tE (Ent.there Ent.refl))))))))))) | (with_reducible exact tE (tE (tE (tE (tE (tE (tE (tE (tE (tE (tE (Ent.there Ent.refl)))))))))))) | (with_reducible exact tE (tE (tE (tE (tE (tE (tE (tE (tE (tE (tE (tE (Ent.there Ent.refl))))))))))))))) (by (first | (with_reducible exact Ent.refl) | exact Ent.take (by (first | (with_reducible exact Ent.refl) | (with_reducible exact Ent.there Ent.refl) | (with_reducible exact tE (Ent.there Ent.refl)) | (with_reducible exact tE (tE (Ent.there Ent.refl))) | (with_reducible exact tE (tE (tE (Ent.there Ent.refl)))) | (with_reducible exact tE (tE (tE (tE (Ent.there Ent.refl))))) | (with_reducible exact tE (tE (tE (tE (tE (Ent.there Ent.refl)))))) | (with_reducible exact tE (tE (tE (tE (tE (tE (Ent.there Ent.refl))))))) | (with_reducible exact tE (tE (tE (tE (tE (tE (tE (Ent.there Ent.refl)))))))) | (with_reducible exact tE (tE (tE (tE (tE (tE (tE (tE (Ent.there Ent.refl))))))))) | (with_reducible exact tE (tE (tE (tE (tE (tE (tE (tE (tE (Ent.there Ent.refl)))))))))) | (with_reducible exact tE (tE (tE (tE (tE (tE (tE (tE (tE (tE (Ent.there Ent.refl))))))))))) | (with_reducible exact tE (tE (tE (tE (tE (tE (tE (tE (tE (tE (tE (Ent.there Ent.refl)))))))))))) | (with_reducible exact tE (tE (tE (tE (tE (tE (tE (tE (tE (tE (tE (tE (Ent.there Ent.refl))))))))))))))) (by (first | (with_reducible exact Ent.refl) | exact Ent.take (by (first | (with_reducible exact Ent.refl) | (with_reducible exact Ent.there Ent.refl) | (with_reducible exact tE (Ent.there Ent.refl)) | (with_reducible exact tE (tE (Ent.there Ent.refl))) | (with_reducible exact tE (tE (tE (Ent.there Ent.refl)))) | (with_reducible exact tE (tE (tE (tE (Ent.there Ent.refl))))) | (with_reducible exact tE (tE (tE (tE (tE (Ent.there Ent.refl)))))) | (with_reducible exact tE (tE (tE (tE (tE (tE (Ent.there Ent.refl))))))) | (with_reducible exact tE (tE (tE (tE (tE (tE (tE (Ent.there Ent.refl)))))))) | (with_reducible exact tE (tE (tE (tE (tE (tE (tE (tE (Ent.there Ent.refl))))))))) | (with_reducible exact tE (tE (tE (tE (tE (tE (tE (tE (tE (Ent.there Ent.refl)))))))))) | (with_reducible exact tE (tE (tE (tE (tE (tE (tE (tE (tE (tE (Ent.there Ent.refl))))))))))) | (with_reducible exact tE (tE (tE (tE (tE (tE (tE (tE (tE (tE (tE (Ent.there Ent.refl)))))))))))) | (with_reducible exact tE (tE (tE (tE (tE (tE (tE (tE (tE (tE (tE (tE (Ent.there Ent.refl))))))))))))))) (by (first | (with_reducible exact Ent.refl) | exact Ent.take (by (first | (with_reducible exact Ent.refl) | (with_reducible exact Ent.there Ent.refl) | (with_reducible exact tE (Ent.there Ent.refl)) | (with_reducible exact tE (tE (Ent.there Ent.refl))) | (with_reducible exact tE (tE (tE (Ent.there Ent.refl)))) | (with_reducible exact tE (tE (tE (tE (Ent.there Ent.refl))))) | (with_reducible exact tE (tE (tE (tE (tE (Ent.there Ent.refl)))))) | (with_reducible exact tE (tE (tE (tE (tE (tE (Ent.there Ent.refl))))))) | (with_reducible exact tE (tE (tE (tE (tE (tE (tE (Ent.there Ent.refl)))))))) | (with_reducible exact tE (tE (tE (tE (tE (tE (tE (tE (Ent.there Ent.refl))))))))) | (with_reducible exact tE (tE (tE (tE (tE (tE (tE (tE (tE (Ent.there Ent.refl)))))))))) | (with_reducible exact tE (tE (tE (tE (tE (tE (tE (tE (tE (tE (Ent.there Ent.refl))))))))))) | (with_reducible exact tE (tE (tE (tE (tE (tE (tE (tE (tE (tE (tE (Ent.there Ent.refl)))))))))))) | (with_reducible exact tE (tE (tE (tE (tE (tE (tE (tE (tE (tE (tE (tE (Ent.there Ent.refl))))))))))))))) (by (first | (with_reducible exact Ent.refl) | exact Ent.take (by (first | (with_reducible exact Ent.refl) | (with_reducible exact Ent.there Ent.refl) | (with_reducible exact tE (Ent.there Ent.refl)) | (with_reducible exact tE (tE (Ent.there Ent.refl))) | (with_reducible exact tE (tE (tE (Ent.there Ent.refl)))) | (with_reducible exact tE (tE (tE (tE (Ent.there Ent.refl))))) | (with_reducible exact tE (tE (tE (tE (tE (Ent.there Ent.refl)))))) | (with_reducible exact tE (tE (tE (tE (tE (tE (Ent.there Ent.refl))))))) | (with_reducible exact tE (tE (tE (tE (tE (tE (tE (Ent.there Ent.refl)))))))) | (with_reducible exact tE (tE (tE (tE (tE (tE (tE (tE (Ent.there Ent.refl))))))))) | (with_reducible exact tE (tE (tE (tE (tE (tE (tE (tE (tE (Ent.there Ent.refl)))))))))) | (with_reducible exact tE (tE (tE (tE (tE (tE (tE (tE (tE (tE (Ent.there Ent.refl))))))))))) | (with_reducible exact tE (tE (tE (tE (tE (tE (tE (tE (tE (tE (tE (Ent.there Ent.refl)))))))))))) | (with_reducible exact tE (tE (tE (tE (tE (tE (tE (tE (tE (tE (tE (tE (Ent.there Ent.refl))))))))))))))) (by (first | (with_reducible exact Ent.refl) | exact Ent.take (by (first | (with_reducible exact Ent.refl) | (with_reducible exact Ent.there Ent.refl) | (with_reducible exact tE (Ent.there Ent.refl)) | (with_reducible exact tE (tE (Ent.there Ent.refl))) | (with_reducible exact tE (tE (tE (Ent.there Ent.refl)))) | (with_reducible exact tE (tE (tE (tE (Ent.there Ent.refl))))) | (with_reducible exact tE (tE (tE (tE (tE (Ent.there Ent.refl)))))) | (with_reducible exact tE (tE (tE (tE (tE (tE (Ent.there Ent.refl))))))) | (with_reducible exact tE (tE (tE (tE (tE (tE (tE (Ent.there Ent.refl)))))))) | (with_reducible exact tE (tE (tE (tE (tE (tE (tE (tE (Ent.there Ent.refl))))))))) | (with_reducible exact tE (tE (tE (tE (tE (tE (tE (tE (tE (Ent.there Ent.refl)))))))))) | (with_reducible exact tE (tE (tE (tE (tE (tE (tE (tE (tE (tE (Ent.there Ent.refl))))))))))) | (with_reducible exact tE (tE (tE (tE (tE (tE (tE (tE (tE (tE (tE (Ent.there Ent.refl)))))))))))) | (with_reducible exact tE (tE (tE (tE (tE (tE (tE (tE (tE (tE (tE (tE (Ent.there Ent.refl))))))))))))))) (by (first | (with_reducible exact Ent.refl) | exact Ent.take (by (first | (with_reducible exact Ent.refl) | (with_reducible exact Ent.there Ent.refl) | (with_reducible exact tE (Ent.there Ent.refl)) | (with_reducible exact tE (tE (Ent.there Ent.refl))) | (with_reducible exact tE (tE (tE (Ent.there Ent.refl)))) | (with_reducible exact tE (tE (tE (tE (Ent.there Ent.refl))))) | (with_reducible exact tE (tE (tE (tE (tE (Ent.there Ent.refl)))))) | (with_reducible exact tE (tE (tE (tE (tE (tE (Ent.there Ent.refl))))))) | (with_reducible exact tE (tE (tE (tE (tE (tE (tE (Ent.there Ent.refl)))))))) | (with_reducible exact tE (tE (tE (tE (tE (tE (tE (tE (Ent.there Ent.refl))))))))) | (with_reducible exact tE (tE (tE (tE (tE (tE (tE (tE (tE (Ent.there Ent.refl)))))))))) | (with_reducible exact tE (tE (tE (tE (tE (tE (tE (tE (tE (tE (Ent.there Ent.refl))))))))))) | (with_reducible exact tE (tE (tE (tE (tE (tE (tE (tE (tE (tE (tE (Ent.there Ent.refl)))))))))))) | (with_reducible exact tE (tE (tE (tE (tE (tE (tE (tE (tE (tE (tE (tE (Ent.there Ent.refl))))))))))))))) (by (with_reducible exact Ent.refl)))))))))))))))))))) (hr : ∀ h, Sat F h → rd h := by first | exact fun _ _ => trivial | exact RdIn.rd | exact fun h hs => ⟨RdIn.rd h hs, RdIn.rd h hs⟩ | exact ReadIn.rd) :
    WL P ops (⟨some d, .call ⟨.invoke recv name, args, ts⟩, ty, pos, after, none⟩ :: rest) Q w0 n env Γ := fun a w s => by
  refine wpList_plain rfl fun K hK => ?_
  unfold Oper.wp
  rw [run_invoke s.env hc ha, Oper.upon_enter]
  refine (hs F w hr (hg _ s.sat)).mono fun e w' he => ?_
  obtain ⟨hev, he | he⟩ := he
  · obtain ⟨x, hx, rfl, hsat⟩ := he
    exact hK _ _ (k x.1 x.2.1 x.2.2 hx.1 hx.2 _ _ ⟨s.env.put hd _, s.defers, s.evo.trans hev, hsat⟩)
  · obtain ⟨y, hy, rfl, hsat⟩ := he
    obtain ⟨y', h1, h2⟩ := kc y hy
    exact th.panic _ _ _ s.defers ⟨s.evo.trans hev, .inr ⟨y', h1, rfl, h2 _ hsat⟩⟩
/-- the result lies in a variable of its own: a struct -/
theorem wq_retc {fn : Func} {F : List HP} {X Y : Type} {φ : X → Prop} {v : X → Value} {post : X → List HP → List HP} {φc : Y → Prop} {chain : List PanicEntry} {postc : Y → List HP → List HP}
    {t : Tmp} {T : TypeId} {m b : Nat} {cs : List Value} {Γ' : List HP} [g : AggT P T true m] [p : PickC Γ b cs Γ'] (hr : fn.results = #[.cell t T]) (hb : env.get t = some (vp b)) (hm : cs.length = m) (x : X) (hv : .agg cs.toArray = v x) (hφ : φ x) (hg : Ent Γ' (post x F)) :
    WQ (bodyPost P fn (SpecR w0 F φ v post φc chain postc)) .ret w0 n env Γ := fun a w s => by
  obtain ⟨T', hT⟩ := (p.pick _ s.sat).cells
  refine ⟨s.defers, .agg cs.toArray, ?_, s.evo, .inl ⟨x, hφ, by rw [hv], hg _ (p.pick _ s.sat).tail⟩⟩
  have ht := s.env.get _ _ hb
  have hc : (loadCells ⟨b, 0, none⟩ m).run P w = .ok cs.toArray w := by
    rw [← hm]
    refine run_loadCells w b 0 cs fun i hi => ?_
    rw [cell_of_hp hT]; simp
  simp [results, hr, ht, asAddr, loadVar, g.agg, g.size, hc]
end call
end Go.Sl
end
