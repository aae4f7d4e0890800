/- The small memory: a new one; its root. -/
import Derived.Test.YtapgejjjgeiihaaDsk
import Derived.Test.YtapgejjjgeiihaaGeo
import Derived.Test.YtapgejjjgeiihaaInv
namespace Go.Proofs.Ytapgejjjgeiihaa
open Go Go.Sl
attribute [local irreducible] Yl WL WC WQ WD

abbrev Root.val (x : Root) : Value := .agg [vi x.shape.members, vi x.shape.block, vi x.shape.segments, vi x.shape.stripes, vi x.shape.nv, vi x.shape.logical, .int .u64 x.gen, .int .u64 x.durable, vi x.stale].toArray
abbrev recCells (e : Rec × Value) : List Value := [.int .u64 e.1.seq, vi e.1.kind, vi e.1.lba, e.2]
structure NV where
  lv : Value
  rs : List (Rec × Value)
  rows : List Row
structure NFits (x : NV) (s : Nvm) : Prop where
  recs : x.rs.map (·.1) = s.recs
  mem : ∀ e ∈ x.rs, (e.2, e.1.data) ∈ x.rows
abbrev NParts (n pp : Nat) (x : NV) (s : Nvm) (Γ : List HP) : List HP :=
  Cells n [vp pp, x.lv, .int .u64 s.next, vi s.root.shape.members, vi s.root.shape.block, vi s.root.shape.segments, vi s.root.shape.stripes, vi s.root.shape.nv, vi s.root.shape.logical, .int .u64 s.root.gen, .int .u64 s.root.durable, vi s.root.stale]
    :: Sl x.lv 4 (x.rs.flatMap recCells) :: Pool x.rows :: Γ
def NvAt (n pp : Nat) (s : Nvm) : HP := fun h => ∃ x : NV, NFits x s ∧ Sat (NParts n pp x s []) h
theorem NvAt.opened {n pp : Nat} {s : Nvm} {Γ : List HP} {h : Hp} (hs : Sat (NvAt n pp s :: Γ) h) : ∃ x : NV, NFits x s ∧ Sat (NParts n pp x s Γ) h := by
  obtain ⟨x, hx⟩ := Sat.ex.1 hs
  obtain ⟨hf, hx⟩ := Sat.pur.1 hx
  exact ⟨x, hf, Sat.flat.1 hx⟩
theorem NvAt.shut {n pp : Nat} {s : Nvm} {Γ : List HP} (x : NV) (hf : NFits x s) : Ent (NParts n pp x s Γ) (NvAt n pp s :: Γ) := fun _ hs =>
  Sat.ex.2 ⟨x, Sat.pur.2 ⟨hf, Sat.flat.2 hs⟩⟩

theorem nroot_spec (n pp : Nat) (s : Nvm) :
    Spec0 Try.prog 75 [vp n] (fun _ => True) (fun F => NvAt n pp s :: F) (fun _ : Unit => True) (fun _ => Root.val s.root) (fun _ F => NvAt n pp s :: F) := by
  (refine spec_of Try.func75 rfl Try.ntmps75 rfl (fun F w0 hrd => ?_))
  (first | refine WC.ex (fun y => NvAt.opened) (fun x hf => ?_) | refine WL.ex (fun y => NvAt.opened) (fun x hf => ?_) | refine WQ.ex (fun y => NvAt.opened) (fun x hf => ?_))
  refine walk ?_
  intro b
  refine walk ?_
  refine wq_retc rfl rfl rfl () rfl trivial ?_
  exact NvAt.shut x hf

theorem nset_spec (n pp : Nat) (s : Nvm × Pow) (x : Root) :
    SpecG Try.prog outage 44 [vp n, Root.val x] (fun _ => True) (fun s F => NvAt n pp s.1 :: PowAt pp s.2 :: F)
      (match s.2.tick with | none => .gone s | some p => .ok () ({ s.1 with root := x }, p)) s (fun (_ : Unit) _ => True) (fun _ _ => .tuple #[]) (fun _ _ F => F) := by
  (refine spec_of Try.func44 rfl Try.ntmps44 rfl (fun F w0 hrd => ?_))
  obtain ⟨s, p⟩ := s
  dsimp only
  (first | refine WC.ex (fun y => NvAt.opened) (fun y hf => ?_) | refine WL.ex (fun y => NvAt.opened) (fun y hf => ?_) | refine WQ.ex (fun y => NvAt.opened) (fun y hf => ?_))
  refine walk ?_
  intro b
  refine walk ?_
  refine gcall (tick_spec pp p) (fun s' hg => ⟨(s, s'), ?_, ?_⟩) (fun _ _ p' hp _ => ?_)
  · unfold ptick at hg
    cases hp : p.tick with
    | none => rw [hp] at hg; cases hg; rfl
    | some q => rw [hp] at hg; cases hg
  · exact Ent.trans perm (NvAt.shut y hf)
  have hp' : p.tick = some p' := by
    unfold ptick at hp
    cases hq : p.tick with
    | none => rw [hq] at hp; cases hp
    | some q => rw [hq] at hp; cases hp; rfl
  refine walk ?_
  refine wq_end0 rfl ((), (), ({ s with root := x }, p')) rfl ⟨by rw [hp'], trivial⟩ ?_
  exact Ent.trans perm (NvAt.shut (s := { s with root := x }) y ⟨hf.recs, hf.mem⟩)

set_option maxHeartbeats 1000000 in
theorem nnew_spec (pp : Nat) :
    Spec0 Try.prog 66 [vp pp] (fun _ => True) (fun F => F) (fun _ : Nat => True) (fun n => vp n) (fun n F => NvAt n pp ⟨[], 1, ⟨⟨0, 0, 0, 0, 0, 0⟩, 0, 0, -1⟩⟩ :: F) := by
  (refine spec_of Try.func66 rfl Try.ntmps66 rfl (fun F w0 hrd => ?_))
  refine walk ?_
  intro b
  refine walk ?_
  refine wq_ret1 rfl rfl b rfl trivial ?_
  refine Ent.trans ?_ (NvAt.shut (s := ⟨[], 1, ⟨⟨0, 0, 0, 0, 0, 0⟩, 0, 0, -1⟩⟩) ⟨.slice none 0 0, [], []⟩ ⟨rfl, fun e he => by cases he⟩)
  exact Ent.skip ((sl_nil 4).trans (Ent.skip Pool.nil))
end Go.Proofs.Ytapgejjjgeiihaa
