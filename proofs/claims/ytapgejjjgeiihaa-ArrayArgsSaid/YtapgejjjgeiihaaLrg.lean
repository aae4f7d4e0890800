/- The statements' rig: members, a memory, an array of them; stripes put, and read. -/
import Derived.Test.YtapgejjjgeiihaaLib11
import Derived.Test.YtapgejjjgeiihaaDrw
import Derived.Test.YtapgejjjgeiihaaZpl
namespace Go.Proofs.Ytapgejjjgeiihaa
open Go Go.Sl
attribute [local irreducible] Yl WL WC WQ WD

/-- where the statements' rig lies -/
structure LK where
  g : Nat
  dv : Value
  k : Keys
abbrev shCells (s : Shp) : List Value := [vi s.members, vi s.block, vi s.segments, vi s.stripes, vi s.nv, vi s.logical]
abbrev LRigAt (l : LK) (r : Rig) (F : List HP) : List HP :=
  Cells l.g [vi l.k.sh.members, vi l.k.sh.block, vi l.k.sh.segments, vi l.k.sh.stripes, vi l.k.sh.nv, vi l.k.sh.logical, vp l.k.pp, l.dv, vp l.k.n, vp l.k.a] :: Sl l.dv 1 (l.k.ps.map vp) :: RigAt l.k r F

theorem devices_spec (l : LK) (av : Value) (hn : l.k.ps.length ≤ 1024) :
    Spec0 Try.prog 67 [vp l.g] (fun _ => True)
      (fun F => Cells l.g [vi l.k.sh.members, vi l.k.sh.block, vi l.k.sh.segments, vi l.k.sh.stripes, vi l.k.sh.nv, vi l.k.sh.logical, vp l.k.pp, l.dv, vp l.k.n, av] :: Sl l.dv 1 (l.k.ps.map vp) :: F)
      (fun _ : Value => True) (fun v => v)
      (fun v F => Sl v 1 (l.k.ps.map dev) :: Cells l.g [vi l.k.sh.members, vi l.k.sh.block, vi l.k.sh.segments, vi l.k.sh.stripes, vi l.k.sh.nv, vi l.k.sh.logical, vp l.k.pp, l.dv, vp l.k.n, av] :: Sl l.dv 1 (l.k.ps.map vp) :: F) := by
  (refine spec_of Try.func67 rfl Try.ntmps67 rfl (fun F w0 hrd => ?_))
  refine walk ?_
  refine wc_loop (X := Nat × Value) (fun y => [(0, vp l.g), (3, y.2), (9, l.dv), (10, vi l.k.ps.length), (11, vi y.1)])
    (fun y => Sl y.2 1 ((l.k.ps.take y.1).map dev) :: Cells l.g [vi l.k.sh.members, vi l.k.sh.block, vi l.k.sh.segments, vi l.k.sh.stripes, vi l.k.sh.nv, vi l.k.sh.logical, vp l.k.pp, l.dv, vp l.k.n, av] :: Sl l.dv 1 (l.k.ps.map vp) :: F)
    (fun y => y.1 ≤ l.k.ps.length) (fun y => l.k.ps.length - y.1) (0, .slice none 0 0) (by simp) envs (sl_nil 1) (fun y hy => ?_)
  obtain ⟨i, v⟩ := y
  dsimp only at hy ⊢
  have hlen : ((l.k.ps.take i).map dev).length = i := by simp; omega
  refine walk ?_
  refine wif_dec (fun hlt => ?_) (fun hlt => ?_)
  · have hlt : i < l.k.ps.length := by omega
    have htk := List.take_succ_eq_append_getElem hlt
    refine walk ?_
    intro u _ _
    refine walk ?_
    intro s' _ _
    refine walk ?_
    refine wq_round (i + 1, s') (by dsimp only; omega) (by dsimp only; omega) envs ?_
    dsimp only
    rw [htk, List.map_append, List.map_singleton]
    exact perm
  · have hi : i = l.k.ps.length := by omega
    subst hi
    rw [List.take_length]
    refine walk ?_
    exact wq_ret1 rfl rfl v rfl trivial perm
theorem broken_spec (k : Keys) (r : Rig) :
    Spec0 Try.prog 33 [vp k.a] (fun _ => True) (fun F => RigAt k r F) (fun _ : Unit => True) (fun _ => .bool r.broken) (fun _ F => RigAt k r F) := by
  (refine spec_of Try.func33 rfl Try.ntmps33 rfl (fun F w0 hrd => ?_))
  refine walk ?_
  exact wq_ret1 rfl rfl () rfl trivial perm
theorem awake05_spec :
    Spec0 Try.prog 65 [] (fun _ => True) (fun F => F) (fun _ : Unit => True) (fun _ => .bool true) (fun _ F => F) := by
  (refine spec_of Try.func65 rfl Try.ntmps65 rfl (fun F w0 hrd => ?_))
  have h : Shp.Ok ⟨3, 32, 4, 2, 2, 1⟩ := ⟨by decide, by decide, by decide, by decide, by decide, by decide, by decide⟩
  refine walk ?_
  intro b
  refine walk ?_
  refine call (check_spec ⟨3, 32, 4, 2, 2, 1⟩ h) ?_
  intro _ _
  refine walk ?_
  refine call (parity_spec ⟨3, 32, 4, 2, 2, 1⟩ h 1 (by omega)) ?_
  intro _ _
  rw [show Shp.parity ⟨3, 32, 4, 2, 2, 1⟩ 1 = 1 from rfl]
  refine walk ?_
  refine call (member_spec ⟨3, 32, 4, 2, 2, 1⟩ h 1 0 (by omega) (by omega)) ?_
  intro _ _
  rw [show Shp.member ⟨3, 32, 4, 2, 2, 1⟩ 1 0 = 2 from rfl]
  refine walk ?_
  refine call (member_spec ⟨3, 32, 4, 2, 2, 1⟩ h 1 1 (by omega) (by omega)) ?_
  intro _ _
  rw [show Shp.member ⟨3, 32, 4, 2, 2, 1⟩ 1 1 = 0 from rfl]
  refine walk ?_
  exact wq_ret1 rfl rfl () rfl trivial perm

/-- a new rig -/
def Rig.fresh (s : Shp) : Rig := ⟨⟨1, -1⟩, List.replicate s.members.toNat (Dsk.blank s.sectors.toNat s.block), ⟨[], 1, ⟨s, 0, 0, -1⟩⟩, false⟩
theorem Dks.nil {pp : Nat} {Γ : List HP} : Ent Γ (Dks pp [] [] :: Γ) := fun _ hs => Sat.pur.2 ⟨rfl, Sat.flat.2 hs⟩
theorem Disks.snoc {pp p : Nat} {d : Dsk} : ∀ {ps : List Nat} {ds : List Dsk} {Γ : List HP}, ds.length = ps.length → Ent (DiskAt p pp d :: (Disks pp ps ds ++ Γ)) (Disks pp (ps ++ [p]) (ds ++ [d]) ++ Γ)
  | [], [], _, _ => Ent.refl
  | [], _ :: _, _, h => by cases h
  | _ :: _, [], _, h => by cases h
  | _ :: ps, _ :: ds, _, h => Ent.swap.trans (Ent.skip (Disks.snoc (by simpa using h)))
theorem Dks.snoc {pp p : Nat} {d : Dsk} {ps : List Nat} {ds : List Dsk} {Γ : List HP} : Ent (DiskAt p pp d :: Dks pp ps ds :: Γ) (Dks pp (ps ++ [p]) (ds ++ [d]) :: Γ) := fun _ hs => by
  obtain ⟨hl, hs⟩ := Sat.pur.1 hs.swap
  exact Sat.pur.2 ⟨by simpa using hl, Sat.flat.2 (Disks.snoc hl _ (hs.swap.cons (fun _ x => Sat.flat.1 x)))⟩
set_option maxHeartbeats 2000000 in
theorem new11_spec (s : Shp) (h : s.Ok) :
    Spec0 Try.prog 18 [Shp.val s] (fun _ => True) (fun F => F) (fun l : LK => l.k.Ok ∧ l.k.sh = s) (fun l => .tuple #[vp l.g, .bool true])
      (fun l F => LRigAt l (Rig.fresh s) F) := by
  (refine spec_of Try.func18 rfl Try.ntmps18 rfl (fun F w0 hrd => ?_))
  have hm := h.members
  have hb := bounds h
  obtain ⟨n, hn⟩ : ∃ n : Nat, s.members = n := ⟨s.members.toNat, by omega⟩
  refine walk ?_
  intro c
  refine walk ?_
  (refine draw ?_; refine dy 0 ?_; refine ddx 1 ?_)
  refine call (pnew_spec (-1)) ?_
  intro pp _
  (refine walk ?_; refine dy 2 ?_; refine ddx 3 ?_)
  refine walk ?_
  intro g
  (refine walk ?_; refine dy 4 ?_; refine walk ?_)
  refine walk ?_
  refine call (nnew_spec pp) ?_
  intro nv _
  refine walk ?_
  (refine draw ?_; refine dy 0 ?_; refine dy 1 ?_; refine dy 2 ?_; refine dy 3 ?_; refine dy 4 ?_; refine dy 5 ?_; refine ddx 6 ?_)
  refine call ((nset_spec nv pp (⟨[], 1, ⟨⟨0, 0, 0, 0, 0, 0⟩, 0, 0, -1⟩⟩, ⟨0, -1⟩) ⟨s, 0, 0, -1⟩).sure () (⟨[], 1, ⟨s, 0, 0, -1⟩⟩, ⟨1, -1⟩) (by rfl)) ?_
  intro _ _
  dsimp only
  refine walk ?_
  have hsec : 0 ≤ s.sectors ∧ s.sectors ≤ 1073741824 := by have h1 := hb.pages; have h2 := hb.all; unfold Shp.sectors Shp.all; omega
  refine wc_loop (X := Nat × Value × List Nat) (fun y => [(4, vp g), (1, vp c), (27, vi s.members), (28, vi y.1)])
    (fun y => NvAt nv pp ⟨[], 1, ⟨s, 0, 0, -1⟩⟩ :: PowAt pp ⟨1, -1⟩ :: Cells g [vi s.members, vi s.block, vi s.segments, vi s.stripes, vi s.nv, vi s.logical, vp pp, y.2.1, vp nv, .pointer none] ::
      Sl y.2.1 1 (y.2.2.map vp) :: Dks pp y.2.2 (List.replicate y.1 (Dsk.blank s.sectors.toNat s.block)) :: Cells c [vi s.members, vi s.block, vi s.segments, vi s.stripes, vi s.nv, vi s.logical] :: F)
    (fun y => y.1 ≤ n ∧ y.2.2.length = y.1) (fun y => n - y.1) (0, .slice none 0 0, []) (by simp) envs (by dsimp only [List.map_nil, List.replicate_zero]; exact (sl_nil 1).trans (Dks.nil.trans perm)) (fun y hy => ?_)
  obtain ⟨i, dv, ps⟩ := y
  dsimp only at hy ⊢
  obtain ⟨hi, hpl⟩ := hy
  refine walk ?_
  refine wif_dec (fun hlt => ?_) (fun hlt => ?_)
  · have hlt : i < n := by omega
    refine walk ?_
    (refine draw ?_; refine dy 0 ?_; refine dy 1 ?_; refine dy 2 ?_; refine dy 3 ?_; refine dy 4 ?_; refine dy 5 ?_; refine dy 6 ?_; refine dy 7 ?_; refine dy 8 ?_; refine dy 9 ?_; refine dy 11 ?_; refine dy 12 ?_; refine ddx 10 ?_)
    refine call (gsectors_spec s h) ?_
    intro _ _
    (refine walk ?_; refine ddx 13 ?_)
    refine call (dnew_spec pp s.sectors s.block (by omega) (by have := h.block; omega)) ?_
    intro d _
    rw [show max s.sectors 0 = s.sectors from by omega, show max s.block 0 = s.block from by have := h.block; omega]
    (refine walk ?_; refine ddx 14 ?_)
    refine walk ?_
    intro u _ _
    (refine walk ?_; refine ddx 15 ?_)
    refine walk ?_
    intro dv' _ _
    (refine walk ?_; refine dy 16 ?_; refine dy 17 ?_; refine ddx 18 ?_)
    refine walk ?_
    refine wq_round (i + 1, dv', ps ++ [d]) ⟨by dsimp only; omega, by simp [hpl]⟩ (by dsimp only; omega) envs ?_
    dsimp only
    rw [List.map_append, List.map_singleton, List.replicate_succ']
    refine Ent.trans (Γ' := DiskAt d pp (Dsk.blank s.sectors.toNat s.block) :: Dks pp ps (List.replicate i (Dsk.blank s.sectors.toNat s.block)) :: _) perm (Ent.trans Dks.snoc ?_)
    exact perm
  have hi : i = n := by omega
  subst hi
  refine walk ?_
  (refine draw ?_; refine dy 0 ?_; refine dy 2 ?_; refine dy 3 ?_; refine dy 4 ?_; refine dy 5 ?_; refine ddx 1 ?_)
  obtain ⟨l, hl⟩ : ∃ l : LK, l = ⟨g, dv, ⟨0, nv, pp, ps, dv, s⟩⟩ := ⟨_, rfl⟩
  have hds := devices_spec l (.pointer none) (by rw [hl]; dsimp only; omega)
  rw [hl] at hds
  dsimp only at hds
  refine call (hds) ?_
  intro da _
  (refine walk ?_; refine ddx 6 ?_)
  refine call (anew_spec nv pp ⟨[], 1, ⟨s, 0, 0, -1⟩⟩ h da (ps.map dev) (fun Γ => ⟨fun _ _ u hu => by obtain ⟨p, _, rfl⟩ := List.mem_map.1 hu; rfl⟩) (by rw [List.length_map]; dsimp only; omega)) ?_
  intro x _
  obtain ⟨a, lv⟩ := x
  dsimp only
  (refine walk ?_; refine dy 7 ?_; refine dy 8 ?_; refine dy 9 ?_; refine dy 10 ?_; refine dy 11 ?_; refine walk ?_)
  refine wq_ret2 rfl rfl rfl ⟨g, dv, ⟨a, nv, pp, ps, lv, s⟩⟩ rfl ⟨⟨h, by dsimp only; omega⟩, rfl⟩ ?_
  rw [show Rig.fresh s = ⟨⟨1, -1⟩, List.replicate i (Dsk.blank s.sectors.toNat s.block), ⟨[], 1, ⟨s, 0, 0, -1⟩⟩, false⟩ from by unfold Rig.fresh; congr 2; omega]
  dsimp only [LRigAt, RigAt]
  exact perm
end Go.Proofs.Ytapgejjjgeiihaa
