/- The arrays' laws: the fixed fact. -/
import Derived.Test.YtapgejjjgeiihaaLrg2
import Derived.Test.YtapgejjjgeiihaaShp5
import Derived.Test.YtapgejjjgeiihaaDrw
namespace Go.Proofs.Ytapgejjjgeiihaa
open Go Go.Sl
attribute [local irreducible] Yl WL WC WQ WD

def _root_.Go.Sl.Out.last {σ α : Type} : Out σ α → σ | .ok _ s => s | .gone s => s
def _root_.Go.Sl.Out.ans {σ α : Type} : Out σ α → Option α | .ok a _ => some a | .gone _ => none
theorem ans_ok {σ α : Type} {m : Out σ α} {a : α} (h : m.ans = some a) : m = .ok a m.last := by
  cases m with
  | ok b s => cases h; rfl
  | gone s => cases h

def s00 : Shp := shapeOf ⟨0, 0, 0, 0, 0, 0⟩
theorem s00_ok : s00.Ok := shapeOf_ok _
def rigA1 : Rig := (aput s00 0 (chunksOf s00 1) (Rig.fresh s00)).last
def rigA2 : Rig := { rigA1 with ds := rigA1.ds.set 2 (rigA1.at 2).fail }
def rigA3 : Rig := (achunk s00 0 1 rigA2).last
set_option maxRecDepth 100000 in
theorem putA1 : aput s00 0 (chunksOf s00 1) (Rig.fresh s00) = .ok 0 rigA1 := ans_ok (by decide +kernel)
set_option maxRecDepth 100000 in
theorem chunkA3 : achunk s00 0 1 rigA2 = .ok (blockOf s00 38, 0) rigA3 := ans_ok (by decide +kernel)
set_option maxRecDepth 100000 in
theorem staleA3 : rigA3.stale = 2 := by decide +kernel
set_option maxRecDepth 100000 in
theorem lenA1 : rigA1.ds.length = 3 := by decide +kernel

theorem rfail_spec (k : Keys) (r : Rig) (m : Nat) (hm : m < k.ps.length) :
    Spec0 Try.prog 37 [vp k.ps[m]] (fun _ => True) (fun F => RigAt k r F) (fun _ : Unit => True) (fun _ => .tuple #[]) (fun _ F => RigAt k { r with ds := r.ds.set m (r.at m).fail } F) := by
  intro F w hr hs
  refine (fail_spec k.ps[m] k.pp (r.at m) (PowAt k.pp r.pow :: RigBut k r m F) w (fun _ _ => trivial) (RigAt.take hm _ hs)).mono fun e w' he => ?_
  obtain ⟨hev, he | he⟩ := he
  · obtain ⟨x, hx, rfl, hsat⟩ := he
    exact ⟨hev, .inl ⟨x, hx, rfl, RigAt.give (r := r) hm ((r.at m).fail, r.pow) _ hsat⟩⟩
  · obtain ⟨y, hy, _⟩ := he
    exact hy.elim
theorem rfailAt_spec (k : Keys) (r : Rig) (m : Nat) (hm : m < k.ps.length) (ops : Int) :
    Spec0 Try.prog 29 [vp k.ps[m], vi ops] (fun _ => True) (fun F => RigAt k r F) (fun _ : Unit => True) (fun _ => .tuple #[]) (fun _ F => RigAt k { r with ds := r.ds.set m ((r.at m).failing ops) } F) := by
  intro F w hr hs
  refine (failAt_spec k.ps[m] k.pp (r.at m) ops (PowAt k.pp r.pow :: RigBut k r m F) w (fun _ _ => trivial) (RigAt.take hm _ hs)).mono fun e w' he => ?_
  obtain ⟨hev, he | he⟩ := he
  · obtain ⟨x, hx, rfl, hsat⟩ := he
    exact ⟨hev, .inl ⟨x, hx, rfl, RigAt.give (r := r) hm ((r.at m).failing ops, r.pow) _ hsat⟩⟩
  · obtain ⟨y, hy, _⟩ := he
    exact hy.elim
theorem rdead_spec (k : Keys) (r : Rig) (m : Nat) (hm : m < k.ps.length) :
    Spec0 Try.prog 32 [vp k.ps[m]] (fun _ => True) (fun F => RigAt k r F) (fun _ : Unit => True) (fun _ => .bool (r.at m).dead) (fun _ F => RigAt k r F) := by
  intro F w hr hs
  refine (dead_spec k.ps[m] k.pp (r.at m) (PowAt k.pp r.pow :: RigBut k r m F) w (fun _ _ => trivial) (RigAt.take hm _ hs)).mono fun e w' he => ?_
  obtain ⟨hev, he | he⟩ := he
  · obtain ⟨x, hx, rfl, hsat⟩ := he
    refine ⟨hev, .inl ⟨x, hx, rfl, ?_⟩⟩
    obtain ⟨hl, _⟩ := rig_ok k r hs
    have := RigAt.give (r := r) hm (r.at m, r.pow) _ hsat
    have e : r.ds.set m (r.at m) = r.ds := by
      unfold Rig.at
      apply List.ext_getElem? ; intro i
      rw [List.getElem?_set]
      split
      · rename_i h; subst h
        by_cases h2 : m < r.ds.length
        · simp [h2, List.getD]
        · simp [h2]
      · rfl
    rwa [show ({ r with pow := r.pow, ds := r.ds.set m (r.at m) } : Rig) = r from by rw [e]] at this
  · obtain ⟨y, hy, _⟩ := he
    exact hy.elim
set_option maxHeartbeats 2000000 in
theorem awake11_spec :
    Spec0 Try.prog 17 [] (fun _ => True) (fun F => F) (fun _ : Unit => True) (fun _ => .bool true) (fun _ F => F) := by
  (refine spec_of Try.func17 rfl Try.ntmps17 rfl (fun F w0 hrd => ?_))
  have h := s00_ok
  have hmm := h.members
  have hbl := h.block
  refine walk ?_
  refine call (shape5_spec ⟨0, 0, 0, 0, 0, 0⟩) ?_
  intro _ _
  rw [show shapeOf ⟨0, 0, 0, 0, 0, 0⟩ = s00 from rfl]
  refine walk ?_
  intro c
  refine walk ?_
  refine call (new11_spec s00 h) ?_
  intro l hl
  obtain ⟨g, dv, ⟨a, nv, pp, ps, lv, sh⟩⟩ := l
  obtain ⟨hk, hsh⟩ := hl
  dsimp only at hk hsh
  subst hsh
  have hps : ps.length = 3 := by have h1 := hk.mem; have h2 : s00.members = 3 := by decide +kernel
                                 dsimp only at h1; omega
  refine walk ?_
  refine call (awake05_spec) ?_
  intro _ _
  refine walk ?_
  (refine draw ?_; refine dy 0 ?_; refine dy 1 ?_; refine dy 2 ?_; refine dy 3 ?_; refine dy 4 ?_; refine ddx 5 ?_)
  refine call (chunks_spec s00 (by omega) (by omega) 1) ?_
  intro y hy
  obtain ⟨cv, rows⟩ := y
  dsimp only at hy ⊢
  (refine walk ?_; refine ddx 6 ?_)
  have hrl : rows.length ≤ 1048576 := by have := congrArg List.length hy; simp [chunksOf] at this; omega
  have hrb : ∀ q ∈ rows, q.2.length ≤ 1099511627776 := fun q hq => by
    have h1 : q.2 ∈ chunksOf s00 1 := by rw [← hy]; exact List.mem_map.2 ⟨q, hq, rfl⟩
    have := (chunksOf_chunks h 1).each _ h1
    omega
  refine call ((aput_spec _ hk (Rig.fresh s00) 0 cv rows hrl hrb).sure 0 rigA1 (by rw [← putA1, ← hy])) ?_
  intro _ _
  dsimp only
  (refine walk ?_; refine dy 7 ?_; refine walk ?_)
  (refine draw ?_; refine dy 0 ?_; refine dy 1 ?_; refine dy 2 ?_; refine dy 3 ?_; refine dy 4 ?_; refine ddx 5 ?_)
  refine call (member_spec s00 h 0 1 (by omega) (by omega)) ?_
  intro _ _
  rw [show s00.member 0 1 = 2 from by decide +kernel]
  (refine walk ?_; refine dy 6 ?_; refine dy 7 ?_; refine ddx 8 ?_)
  refine call (rfail_spec ⟨a, nv, pp, ps, lv, s00⟩ rigA1 2 (by dsimp only; omega)) ?_
  intro _ _
  rw [show ({ rigA1 with ds := rigA1.ds.set 2 (rigA1.at 2).fail } : Rig) = rigA2 from rfl]
  refine walk ?_
  refine call ((achunk_spec _ hk rigA2 0 1).sure (blockOf s00 38, 0) rigA3 chunkA3) ?_
  intro v _
  refine walk ?_
  (refine draw ?_; refine dy 0 ?_; refine dy 1 ?_; refine dy 2 ?_; refine dg 3 ?_; refine dg 4 ?_; refine dy 5 ?_; refine dy 6 ?_; refine dg 7 ?_; refine dg 8 ?_; refine ddx 9 ?_)
  refine walk ?_
  refine call (block_spec s00 (by omega) 38) ?_
  intro w _
  (refine walk ?_; refine ddx 10 ?_)
  refine walk ?_
  refine call (equal_spec v w (blockOf s00 38) (blockOf s00 38) (by have := blockOf_len s00 (by omega) 38; omega)) ?_
  intro _ _
  rw [decide_eq_true rfl]
  (refine walk ?_; refine dy 11 ?_; refine dy 12 ?_; refine dg 13 ?_; refine dg 14 ?_; refine dg 15 ?_; refine dg 16 ?_; refine dg 18 ?_; refine ddx 17 ?_)
  refine walk ?_
  refine call (stale_spec ⟨a, nv, pp, ps, lv, s00⟩ rigA3) ?_
  intro _ _
  rw [staleA3]
  (refine walk ?_; refine ddx 19 ?_)
  refine walk ?_
  refine call (member_spec s00 h 0 1 (by omega) (by omega)) ?_
  intro _ _
  rw [show s00.member 0 1 = 2 from by decide +kernel]
  (refine walk ?_; refine dg 20 ?_; refine dy 21 ?_; refine dy 22 ?_; refine walk ?_)
  refine walk ?_
  exact wq_ret1 rfl rfl () rfl trivial perm
end Go.Proofs.Ytapgejjjgeiihaa
