/- CkptImages: whatever a log holds: the image of it, dead segments free. -/
import Derived.Test.YtohienhoifgmaaaGreatP51
import Derived.Test.YtohienhoifgmaaaGreatP52
import Derived.Test.YtohienhoifgmaaaGreatP53
import Derived.Test.YtohienhoifgmaaaGreatP54
import Derived.Test.YtohienhoifgmaaaGreatP17

namespace Go.Proofs.YtohienhoifgmaaaGreat
open Go Go.Sl
attribute [local irreducible] Yl WL WC WQ WD

set_option maxHeartbeats 8000000 in
theorem cimages_spec (x : Small) (v : Value) (l : List (A15 × UInt8)) (hb : l.length ≤ 9223372036854775807) :
    Spec0 Tryz.prog 4 [Small.val x, v] (Rd v 4 (l.flatMap a16Cells)) (fun F => F) (fun _ : Unit => True) (fun _ => .bool true) (fun _ F => F) := by
  (refine spec_of Tryz.func4 rfl Tryz.ntmps4 rfl (fun F w0 hrd => ?_))
  haveI : RdIn F v 4 (l.flatMap a16Cells) := ⟨hrd⟩
  refine walk ?_
  intro c2
  refine walk ?_
  refine call awake16_spec ?_ (hg := frameL)
  intro _ _
  refine walk ?_
  refine wif_dec (fun hc => ?_) (fun hc => ?_)
  · refine walk ?_
    exact wq_ret1 rfl rfl () rfl trivial permL
  refine walk ?_
  refine call (full5_spec x) ?_ (hg := frameL)
  intro _ _
  have hs := fullOf_ok x
  generalize fullOf x = s at *
  refine walk ?_
  intro c5
  refine walk ?_
  refine call (start_spec s hs) ?_ (hg := frameL)
  intro y hy
  obtain ⟨lk, K⟩ := y
  obtain ⟨hlk, hls, hKl⟩ := hy
  dsimp only at hlk hls hKl ⊢
  have hk : K.k.Ok := by rw [hKl]; exact hlk
  have hKs : K.k.sh = s := by rw [hKl]; exact hls
  refine walk ?_
  refine call (bempty_spec s hs) ?_ (hg := frameL)
  intro bp _
  refine walk ?_
  refine wc_loop (X := Nat × Bok × Lg × List Row) (fun y => [(5, vp c5), (6, vp K.lp), (9, vp bp), (32, v), (33, vi l.length), (34, vi y.1)])
    (fun y => BkAt bp y.2.2.2 y.2.1 :: Pool y.2.2.2 :: Cells c5 [vi s.members, vi s.block, vi s.segments, vi s.stripes, vi s.nv, vi s.logical] :: LogAt K y.2.2.1 F)
    (fun y => y.1 ≤ l.length ∧ Play y.2.1 y.2.2.1 ∧ y.2.2.1.sh = K.k.sh) (fun y => l.length - y.1) (0, Bok.empty s, Lg.fresh (Rig.fresh s), []) ⟨Nat.zero_le _, play_fresh hs, hKs.symm⟩ envs (Ent.trans Pool.nil permL) (fun y hy => ?_)
  obtain ⟨i, b, g, rows⟩ := y
  dsimp only at hy ⊢
  obtain ⟨hil, hp, hsh⟩ := hy
  refine walk ?_
  refine wif_dec (fun hlt => ?_) (fun hlt => ?_)
  · have hlt : i < l.length := by omega
    refine walk ?_
    intro c12
    generalize l[i] = a
    obtain ⟨⟨d, lb, f⟩, c⟩ := a
    dsimp only [a16Cells]
    obtain ⟨hp2, hsh2, hgen⟩ := play_act2 hp (⟨d, lb, f⟩, c)
    have hsh2 := hsh2.trans hsh
    refine walk ?_
    refine call (do2_spec bp rows K hk hp hsh (⟨d, lb, f⟩, c)) ?_ (hg := frameL)
    intro rows' _
    refine walk ?_
    refine wq_round (i + 1, actB2 (⟨d, lb, f⟩, c) b, actG2 (⟨d, lb, f⟩, c) g, rows') ⟨by dsimp only; omega, hp2, hsh2⟩ (by dsimp only; omega) envs ?_
    show Ent _ (BkAt bp rows' (actB2 (⟨d, lb, f⟩, c) b) :: Pool rows' :: Cells c5 [vi s.members, vi s.block, vi s.segments, vi s.stripes, vi s.nv, vi s.logical] :: LogAt K (actG2 (⟨d, lb, f⟩, c) g) F)
    exact permL
  · refine walk ?_
    have hr := hp.rel
    have hsm := small_of hp.inv hsh
    have hml : g.map.length ≤ 1048576 := hsm.map
    refine call (image_spec' K g hp.inv hsm (play_born hp).1 (play_born hp).2) ?_ (hg := frameL)
    intro y _
    obtain ⟨sv, mv⟩ := y
    dsimp only
    refine walk ?_
    intro c12
    refine walk ?_
    (refine draw ?_; refine dy 0 ?_; refine dy 1 ?_; refine ddx 2 ?_)
    refine call (bis_spec bp rows K hp hsh) ?_ (hg := frameL)
    intro _ _
    (first | refine WC.ex (fun y => BkAt.opened) (fun x hx => ?_) | refine WL.ex (fun y => BkAt.opened) (fun x hx => ?_) | refine WQ.ex (fun y => BkAt.opened) (fun x hx => ?_))
    dsimp only [BParts, bcells]
    have hq1 : ((g.image.seq : Nat) : Int) = b.durable := by
      have := (play_born hp).2
      rw [hr.durable]
      show ((g.rig.nv.root.durable.toNat : Nat) : Int) = _
      omega
    have hq2 : g.image.seg = b.seg := hr.seg.symm
    have hq3 : g.image.idx = b.idx := hr.idx.symm
    have hq4 : (g.image.segs.length : Int) = s.segments := by
      show ((g.tbl.map _).length : Int) = _
      rw [List.length_map, ← hKs, ← hsh]
      exact hp.inv.tlen
    (refine walk ?_; refine dy 3 ?_; refine dy 4 ?_; refine dg 5 ?_; refine dg 6 ?_; refine dg 7 ?_; refine dg 8 ?_; refine dg 9 ?_; refine dg 10 ?_; refine dg 11 ?_; refine dy 12 ?_; refine dy 13 ?_; refine dwhich 59 ?_)
    refine ⟨fun hz => absurd hz (by simp [hq1]), fun _ => ?_⟩
    (refine dg 14 ?_; refine dg 15 ?_; refine dg 16 ?_; refine dg 17 ?_; refine dg 18 ?_; refine dg 19 ?_; refine dg 20 ?_; refine dy 21 ?_; refine dy 22 ?_; refine dwhich 68 ?_)
    refine ⟨fun hz => absurd hz (by simp [hq2]), fun _ => ?_⟩
    (refine dg 23 ?_; refine dg 24 ?_; refine dg 25 ?_; refine dg 26 ?_; refine dg 27 ?_; refine dg 28 ?_; refine dg 29 ?_; refine dy 30 ?_; refine dy 31 ?_; refine dwhich 77 ?_)
    refine ⟨fun hz => absurd hz (by simp [hq3]), fun _ => ?_⟩
    (refine dg 32 ?_; refine dg 33 ?_; refine dg 34 ?_; refine dg 35 ?_; refine dg 36 ?_; refine dg 37 ?_; refine ddx 38 ?_)
    refine walk ?_
    refine call (eqints_spec mv x.mv g.map b.map hml (by rw [hr.map]; exact hml)) ?_ (hr := fun h hs => ⟨RdIn.rd h hs, RdIn.rd h hs⟩) (hg := frameL)
    intro _ _
    rw [show decide (g.map = b.map) = true from decide_eq_true hr.map.symm]
    (refine walk ?_; refine dg 39 ?_; refine dy 40 ?_; refine dy 41 ?_; refine dg 42 ?_; refine dg 43 ?_; refine dg 44 ?_; refine dg 45 ?_; refine dg 46 ?_; refine dg 47 ?_; refine dy 48 ?_; refine walk ?_)
    refine wif_dec (fun hne => absurd hq4 hne) (fun _ => ?_)
    have hsg64 := hs.segments
    have hfr := (freed hr hp.inv (r := g.rig) rfl rfl rfl rfl).1
    have hcl := (Tbl.clear_spec g.tbl.dead g.tbl).1
    have hst : b.free.state = (g.tbl.clear g.tbl.dead).map (·.state) := hfr.state
    have hbo : b.free.born = (g.tbl.clear g.tbl.dead).map (·.born) := hfr.born
    have hsl : b.free.state.length = g.tbl.length := by rw [hst, List.length_map, hcl]
    have hbl : b.free.born.length = g.tbl.length := by rw [hbo, List.length_map, hcl]
    have hgl : g.image.segs.length = g.tbl.length := by show (g.tbl.map _).length = _; rw [List.length_map]
    have e1 : ∀ (i : Nat) (h1 : i < b.free.state.length) (h2 : i < g.image.segs.length), b.free.state[i] = (g.image.segs[i]).1 := fun i h1 h2 => by
      have h3 : i < g.tbl.length := by rw [hsl] at h1; exact h1
      simp only [hst, List.getElem_map]
      rw [Tbl.clear_get (by rw [hcl]; exact h3) h3]
      have : g.image.segs[i] = if g.tbl[i].state = 2 ∧ g.tbl[i].live = 0 then (0, 0) else (g.tbl[i].state, g.tbl[i].born.toNat) := List.getElem_map _
      rw [this]
      split <;> rfl
    have e2 : ∀ (i : Nat) (h1 : i < b.free.born.length) (h2 : i < g.image.segs.length), b.free.born[i] = (((g.image.segs[i]).2 : Nat) : Int) := fun i h1 h2 => by
      have h3 : i < g.tbl.length := by rw [hbl] at h1; exact h1
      simp only [hbo, List.getElem_map]
      rw [Tbl.clear_get (by rw [hcl]; exact h3) h3]
      have : g.image.segs[i] = if g.tbl[i].state = 2 ∧ g.tbl[i].live = 0 then (0, 0) else (g.tbl[i].state, g.tbl[i].born.toNat) := List.getElem_map _
      rw [this]
      have h4 := (play_born hp).1 _ (List.getElem_mem h3)
      split
      · rfl
      · show g.tbl[i].born = ((g.tbl[i].born.toNat : Nat) : Int)
        omega
    refine WC.ent (Γ' := BkAt bp rows b :: Sl sv 2 (g.image.segs.flatMap isegCells) :: Cells c12 [.int .u64 (g.image.seq : Int), vi g.image.seg, vi g.image.idx, sv, mv] :: F) (Ent.trans (Γ' := BParts bp x b (Sl sv 2 (g.image.segs.flatMap isegCells) :: Cells c12 [.int .u64 (g.image.seq : Int), vi g.image.seg, vi g.image.idx, sv, mv] :: F)) permL (BkAt.shut x hx)) ?_
    refine WC.slots (env' := [(9, vp bp), (12, vp c12)]) envs ?_
    refine walk ?_
    refine call (bfreed_spec bp rows b hp.bk) ?_ (hg := frameL)
    intro _ _
    (first | refine WC.ex (fun y => BkAt.opened) (fun x2 hx2 => ?_) | refine WL.ex (fun y => BkAt.opened) (fun x2 hx2 => ?_) | refine WQ.ex (fun y => BkAt.opened) (fun x2 hx2 => ?_))
    dsimp only [BParts, bcells]
    refine walk ?_
    refine wc_loop (X := Nat) (fun i => [(9, vp bp), (98, sv), (99, vi g.image.segs.length), (100, vi i)]) (fun _ => Sl sv 2 (g.image.segs.flatMap isegCells) :: BParts bp x2 b.free F)
      (fun i => i ≤ g.image.segs.length) (fun i => g.image.segs.length - i) 0 (Nat.zero_le _) envs permL (fun i hi => ?_)
    refine walk ?_
    refine wif_dec (fun hlt => ?_) (fun hlt => ?_)
    · have hlt : i < g.image.segs.length := by omega
      have hl1 : i < b.free.state.length := by omega
      have hl2 : i < b.free.born.length := by omega
      have f1 := e1 i hl1 hlt
      have f2 := e2 i hl2 hlt
      refine walk ?_
      intro c14
      generalize g.image.segs[i] = q at f1 f2 ⊢
      obtain ⟨qa, qc⟩ := q
      dsimp only [isegCells] at f1 f2 ⊢
      refine walk ?_
      (refine draw ?_; refine dy 0 ?_; refine dy 1 ?_; refine dy 2 ?_; refine dy 3 ?_; refine dy 4 ?_; refine dy 5 ?_; refine dy 6 ?_; refine dy 7 ?_; refine dy 8 ?_; refine dy 9 ?_; refine dy 10 ?_; refine dy 11 ?_; refine dy 12 ?_; refine dy 13 ?_; refine dy 14 ?_; refine dy 15 ?_)
      rw [f1, f2]
      refine dy 16 (y := by exact yl_neqA (cs := [vi qa, .int .u64 (qc : Int)]) rfl rfl) ?_
      refine walk ?_
      refine wq_round (i + 1) (by omega) (by omega) envs permL
    · refine walk ?_
      exact wq_ret1 rfl rfl () rfl trivial permL

set_option maxRecDepth 100000 in
open Go.RowKit Go.ChangeShapes Go.WideShapes in
theorem ckptImages_lifted (os : Os) (started : os.Started) (H : Type) (enc : TypeId × Value → H) :
    ReturnsInHanded {} Tryz.checked os 4 .any (Rows.ckptImagesSpec.pre6 enc Tryz.prog Tryz.f4 Rows.ckptImagesRow.domain false) (Rows.ckptImagesSpec.post enc Tryz.prog Tryz.f4 false true false false) := by
  refine returnsInHanded_of_change (C := Tryz.checked) Tryz.own started (by kernel_rfl) Tryz.func4
    (ChangeSpec.witness6 (enc := enc) (C := Tryz.checked) false ⟨#[], #[.agg #[.int .u8 0, .int .u8 0, .int .u8 0, .int .u8 0, .int .u8 0, .int .u8 0], .slice none 0 0], []⟩ 8 (by kernel_rfl) (by kernel_rfl) (by kernel_rfl) (by kernel_rfl)) ?_
  intro W base args ds gs before hval0 hW hcnd _
  rw [Tryz.same] at hval0 hW hcnd ⊢
  have hval : ∀ (j : Nat) t v, Tryz.f4.params[j]? = some t → args[j]? = some v → Value.okWide Tryz.prog W .any base t v := hval0
  have hW' := hW
  obtain ⟨p, q, hA, hV, rfl, hfz, hnd⟩ := hW
  have hA : DataW.TrodAll enc Tryz.prog W 0 (fun _ => true) true [23, 24] args.toList ds p := hA
  obtain ⟨v0, vs0, d0, ds0, q0, m0, y0, e0, rfl, t0, h0⟩ := trodAll_split1 hA
  obtain ⟨v1, vs1, d1, ds1, q1, m1, y1, e1, rfl, t1, h1⟩ := trodAll_split1 h0
  obtain ⟨e2, rfl⟩ := trodAll_split0 h1
  have ea : args = [v0, v1].toArray := by apply Array.toList_inj.1; rw [e0, e1, e2]
  subst ea
  obtain ⟨b0, c0, rfl, rfl, hx0⟩ := arg_struct Tryz.underlying23 @rdr_small (hval 0 23 v0 rfl rfl) t0
  obtain ⟨b1, w1, f1, hr1, hb1, hx1⟩ := arg_slice (@rdr_slicef Tryz.prog 24 39 4 (A15×UInt8) a16Cells _ _ (by kernel_rfl) (by decide) @rdr_a16) (hval 1 24 v1 rfl rfl) t1
  obtain rfl : v1 = w1 := by simpa using f1
  refine (cimages_spec b0 v1 b1 hb1 [Old W] W (fun h hs => (Old.rd hr1).rd h hs) (sat_old W)).mono fun e W' he => ?_
  obtain ⟨hev, ⟨_, _, rfl, hs⟩ | ⟨_, hf, _⟩⟩ := he
  · exact ⟨_, rfl, law_post Tryz.laidOut rfl hW' rfl Tryz.underlying4 (by decide +kernel) (by cases gs <;> first | rfl | exact False.elim hV) (Sat.below hev hs)⟩
  · exact hf.elim

set_option maxRecDepth 100000 in
theorem ckptImages_holds : Rows.CkptImagesSaid :=
  OpenClaim.holds_of_wide 4 Tryz.f4 rfl rfl rfl rfl rfl rfl rfl ⟨rfl, rfl, rfl, rfl, rfl⟩ rfl rfl rfl rfl rfl (by kernel_rfl) Tryz.func4 (Tryz.joined (by kernel_rfl))
    (of_decide_eq_true (by kernel_rfl)) (by unfold Func.isWrapper; first | (rw [if_pos (by decide +kernel)]; kernel_rfl) | (rw [if_neg (by decide +kernel)]; exact ⟨rfl, rfl⟩))
    (fun os started H enc _ => ckptImages_lifted os started H enc)
#print axioms ckptImages_holds
end Go.Proofs.YtohienhoifgmaaaGreat
