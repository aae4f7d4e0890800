/- A log's fixed facts. -/
import Derived.Test.YtohienhoifgmaaaGreatP42
import Derived.Test.YtohienhoifgmaaaGreatP48
import Derived.Test.YtohienhoifgmaaaGreatP50
import Derived.Test.YtohienhoifgmaaaGreatP17

namespace Go.Proofs.YtohienhoifgmaaaGreat
open Go Go.Sl
attribute [local irreducible] Yl WL WC WQ WD
def gA0 : Lg := Lg.fresh (Rig.fresh s00)
def rB : Rig := (nappend 1 0 (blockOf s00 7) gA0.rig).last
def gB : Lg := gA0.up rB
def gC : Lg := gB.dst.last
def gD : Lg := (gC.readB 0).last
theorem appB : nappend 1 0 (blockOf s00 7) gA0.rig = .ok 0 rB := ans_ok (by decide +kernel)
theorem dstC : gB.dst = .ok 0 gC := ans_ok (by decide +kernel)
theorem readD : gC.readB 0 = .ok (blockOf s00 7, 0) gD := ans_ok (by decide +kernel)
theorem lookD : gD.map.look 0 = 0 := by decide +kernel
theorem mapD : gD.map = [0] := by kernel_rfl
theorem bigD : ∀ (k : Nat) (h : k < gD.map.length), gD.map[k] ≤ 1099511627776 := by
  rw [mapD]
  intro k h
  have h : k < 1 := h
  obtain rfl : k = 0 := by omega
  exact (by decide : (0 : Int) ≤ 1099511627776)
theorem usableA : gA0.usable = 7 := by decide +kernel
theorem stripeA : gA0.stripe = 0 := by decide +kernel
theorem playA : Play (Bok.empty s00) gA0 := play_fresh s00_ok
theorem shB : gB.sh = s00 := by kernel_rfl
theorem shC : gC.sh = s00 := by kernel_rfl
theorem playB : Play ((Bok.empty s00).append 1 0 (blockOf s00 7)).2 gB := by
  have hr : RecOk gA0.sh ⟨(Bok.empty s00).next, 1, 0, blockOf s00 7⟩ := ⟨.inl rfl, by decide +kernel, by decide +kernel⟩
  obtain ⟨c, r', h1, _, h2, _⟩ := play_append playA hr
  rw [appB] at h1
  cases h1
  exact h2
theorem playC : Play ((Bok.empty s00).append 1 0 (blockOf s00 7)).2.destage.2 gC := by
  obtain ⟨c, g', h1, _, h2, _⟩ := play_dst playB
  rw [dstC] at h1
  cases h1
  exact h2
set_option maxHeartbeats 4000000 in
theorem awake15_spec :
    Spec0 Tryz.prog 45 [] (fun _ => True) (fun F => F) (fun _ : Unit => True) (fun _ => .bool true) (fun _ F => F) := by
  (refine spec_of Tryz.func45 rfl Tryz.ntmps45 rfl (fun F w0 hrd => ?_))
  have h := s00_ok
  have hbl := h.block
  refine walk ?_
  refine call (shape5_spec ⟨0, 0, 0, 0, 0, 0⟩) ?_ (hg := frameL)
  intro _ _
  rw [show shapeOf ⟨0, 0, 0, 0, 0, 0⟩ = s00 from rfl]
  refine walk ?_
  refine call (start_spec s00 h) ?_ (hg := frameL)
  intro y hy
  obtain ⟨l, K⟩ := y
  obtain ⟨hlk, hls, hKl⟩ := hy
  dsimp only at hlk hls hKl ⊢
  have hk : K.k.Ok := by rw [hKl]; exact hlk
  have hKs : K.k.sh = s00 := by rw [hKl]; exact hls
  rw [show Lg.fresh (Rig.fresh s00) = gA0 from rfl]
  have hA : gA0.sh = K.k.sh := hKs.symm
  have hB : gB.sh = K.k.sh := shB.trans hKs.symm
  have hC : gC.sh = K.k.sh := shC.trans hKs.symm
  refine walk ?_
  refine call (lusable_spec K gA0 (small_of playA.inv hA)) ?_ (hg := frameL)
  intro _ _
  rw [usableA]
  refine walk ?_
  refine call (lstripe_spec K gA0 (small_of playA.inv hA)) ?_ (hg := frameL)
  intro _ _
  rw [stripeA]
  refine walk ?_
  refine call awake11_spec ?_ (hg := frameL)
  intro _ _
  refine walk ?_
  obtain ⟨lp, ⟨ka, kn, kpp, kps, klv, ksh⟩, mp, tp⟩ := K
  have hKs : ksh = s00 := hKs
  subst hKs
  have hbB := playB.recs
  have hbC := playC.recs
  (refine draw ?_; refine dy 0 ?_; refine dy 1 ?_; refine dy 2 ?_; refine dy 3 ?_; refine dy 4 ?_; refine dy 5 ?_; refine dy 6 ?_; refine dy 7 ?_; refine dy 10 ?_; refine ddx 8 ?_)
  refine call (block_spec s00 (by omega) 7) ?_ (hg := frameL)
  intro bv _
  (refine walk ?_; refine ddx 9 ?_)
  refine call ((rappend_spec _ gA0.rig 1 0 bv (blockOf s00 7) (by rw [show (blockOf s00 7).length = 32 from by kernel_rfl]; omega) (by rw [show gA0.rig.nv.recs.length = 0 from by kernel_rfl]; omega)).sure 0 rB appB) ?_ (hg := frameL)
  intro _ _
  refine WL.ent (Γ' := LogAt ⟨lp, ⟨ka, kn, kpp, kps, klv, s00⟩, mp, tp⟩ gB (RgC l F)) ?_ ?_
  · show Ent _ (LCells ⟨lp, ⟨ka, kn, kpp, kps, klv, s00⟩, mp, tp⟩ gA0.seg gA0.idx :: MapAt mp gA0.map :: TblAt tp gA0.tbl :: RigAt ⟨ka, kn, kpp, kps, klv, s00⟩ rB (RgC l F))
    exact permL
  (refine walk ?_; refine ddx 11 ?_)
  refine call ((ldestage_spec _ hk gB playB.inv playB.fits hB (by omega)).sure 0 gC dstC) ?_ (hg := frameL)
  intro _ _
  (refine walk ?_; refine dy 12 ?_; refine dy 13 ?_; refine walk ?_)
  refine walk ?_
  refine call ((lread_spec _ hk gC playC.inv hC (by omega) 0).sure (blockOf s00 7, 0) gD readD) ?_ (hg := frameL)
  intro v _
  refine walk ?_
  refine call (block_spec s00 (by omega) 7) ?_ (hg := frameL)
  intro w _
  refine walk ?_
  refine call (equal_spec v w (blockOf s00 7) (blockOf s00 7) (by have := blockOf_len s00 (by omega) 7; omega)) ?_ (hg := frameL) (hr := fun h hs => ⟨RdIn.rd h hs, RdIn.rd h hs⟩)
  intro _ _
  rw [decide_eq_true rfl]
  refine walk ?_
  refine call (mget_spec mp gD.map 0 (by rw [mapD]; decide) bigD) ?_ (hg := frameL)
  intro _ _
  rw [lookD]
  refine walk ?_
  exact wq_ret1 rfl rfl () rfl trivial permL
set_option maxHeartbeats 4000000 in
theorem awake16_spec :
    Spec0 Tryz.prog 10 [] (fun _ => True) (fun F => F) (fun _ : Unit => True) (fun _ => .bool true) (fun _ F => F) := by
  (refine spec_of Tryz.func10 rfl Tryz.ntmps10 rfl (fun F w0 hrd => ?_))
  have h := s00_ok
  refine walk ?_
  refine call (shape5_spec ⟨0, 0, 0, 0, 0, 0⟩) ?_ (hg := frameL)
  intro _ _
  rw [show shapeOf ⟨0, 0, 0, 0, 0, 0⟩ = s00 from rfl]
  refine walk ?_
  refine call (start_spec s00 h) ?_ (hg := frameL)
  intro y hy
  obtain ⟨l, K⟩ := y
  obtain ⟨hlk, hls, hKl⟩ := hy
  dsimp only at hlk hls hKl ⊢
  have hk : K.k.Ok := by rw [hKl]; exact hlk
  have hKs : K.k.sh = s00 := by rw [hKl]; exact hls
  rw [show Lg.fresh (Rig.fresh s00) = gA0 from rfl]
  have hA : gA0.sh = K.k.sh := hKs.symm
  refine walk ?_
  refine call awake15_spec ?_ (hg := frameL)
  intro _ _
  refine walk ?_
  refine call awake10_spec ?_ (hg := frameL)
  intro _ _
  refine walk ?_
  refine call (ckpt_calm K hk playA hA) ?_ (hg := frameL)
  intro _ _
  obtain ⟨g', h1, _, _, h4, _⟩ := play_ckpt playA rfl
  rw [h1]
  have h4 : g'.rig.nv.root.gen = 1 := h4
  rw [show (Out.ok (0 : Int) g').last = g' from rfl]
  refine walk ?_
  refine call (nroot_spec K.k.n K.k.pp g'.rig.nv) ?_ (hg := frameL)
  intro _ _
  refine walk ?_
  rw [h4]
  exact wq_ret1 rfl rfl () rfl trivial permL
end Go.Proofs.YtohienhoifgmaaaGreat
