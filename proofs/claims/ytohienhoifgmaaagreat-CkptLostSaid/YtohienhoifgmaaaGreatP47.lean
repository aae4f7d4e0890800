/- A checkpoint, as the program writes it. -/
import Derived.Test.YtohienhoifgmaaaGreatP46
import Derived.Test.YtohienhoifgmaaaGreatP19

namespace Go.Proofs.YtohienhoifgmaaaGreat
open Go Go.Sl
attribute [local irreducible] Yl WL WC WQ WD
instance cks3fld : Fld1 Tryz.prog 43 1 6 := ⟨fun cs v w h => by simp [Instr.field, Tryz.runUnderlying43, part, asAgg, Tryz.isAgg35, h]⟩
theorem encode_spec' (s : Shp) (h : s.Ok) (gen : Int) (h0 : 0 ≤ gen) (x : Img) (sv mv : Value) {places : Nat} (hx : x.Fits s.segments.toNat s.stripes.toNat s.logical.toNat places) (hpl : places ≤ 1048576) :
    Spec0 Tryz.prog 57 [Shp.val s, .int .u64 gen, Img.val x sv mv] (fun h => Rd sv 2 (x.segs.flatMap isegCells) h ∧ Rd mv 1 (x.map.map vi) h) (fun F => F)
      (fun r : Value × List Row => r.2.map (·.2) = pagesB s.block.toNat gen.toNat s.pages.toNat x.bytes) (fun r => r.1) (fun r F => Sl r.1 1 (r.2.map (·.1)) :: Pool r.2 :: F) := by
  have := encode_spec s h gen.toNat x sv mv hx hpl
  rwa [Int.toNat_of_nonneg h0] at this
def putF (s : Shp) (reg : Int) (x : Bytes × Nat) (r : Rig) : Out Rig Int := aputSame s (s.pageAt reg x.2) x.1 r
theorem putF_step {s : Shp} {reg : Int} {l : List Bytes} {i : Nat} (h : i < l.length) (r : Rig) : each (putF s reg) (l.zipIdx.drop i) r = (aputSame s (s.pageAt reg i) l[i] r).bind fun e r => if e = 0 then each (putF s reg) (l.zipIdx.drop (i + 1)) r else .ok e r := by
  rw [List.drop_eq_getElem_cons (by simpa using h)]
  simp [each, putF]
theorem putF_end {s : Shp} {reg : Int} {l : List Bytes} {r : Rig} : each (putF s reg) (l.zipIdx.drop l.length) r = .ok 0 r := by
  rw [List.drop_of_length_le (by simp)]; rfl
def ckK (g : Lg) (W : Int) : Int → Lg → Out Lg Int := fun e g1 => if e ≠ 0 then .ok e g1
  else ((aflush g1.rig).lift g1.up).bind fun e g2 => if e ≠ 0 then .ok e g2
  else ((g2.rig.set { g2.rig.nv.root with gen := W }).lift g2.up).bind fun _ g3 => .ok 0 { g3 with tbl := g3.tbl.clear g.tbl.dead }
theorem ckpt_eq (g : Lg) {W : Int} (hW : W = IntKind.u64.wrap (g.rig.nv.root.gen + 1)) : g.ckpt = ((each (putF g.sh (W % 2)) (g.pages W.toNat).zipIdx g.rig).lift g.up).bind (ckK g W) := by subst hW; rfl
set_option maxHeartbeats 8000000 in
theorem cwrite_spec (K : GK) (hk : K.k.Ok) (g : Lg) (hi : g.Inv) (hsh : g.sh = K.k.sh) (h : Lsm K g) (hborn : ∀ s ∈ g.tbl, 0 ≤ s.born) (hdur : 0 ≤ g.rig.nv.root.durable) {places : Nat}
    (hx : g.image.Fits K.k.sh.segments.toNat K.k.sh.stripes.toNat K.k.sh.logical.toNat places) (hpl : places ≤ 1048576) :
    SpecG Tryz.prog outage 21 [vp K.lp] (fun _ => True) (LogAt K) g.ckpt g (fun (_ : Unit) _ => True) (fun _ e => vi e) (fun _ _ F => F) := by
  (refine spec_of Tryz.func21 rfl Tryz.ntmps21 rfl (fun F w0 hrd => ?_))
  have hok := h.ok
  have hw := wrap64_range (g.rig.nv.root.gen + 1)
  obtain ⟨W, hW⟩ : ∃ W, W = IntKind.u64.wrap (g.rig.nv.root.gen + 1) := ⟨_, rfl⟩
  rw [← hW] at hw
  have hdl : g.tbl.dead.length ≤ 65536 := by
    unfold Tbl.dead
    rw [List.length_map]
    exact Nat.le_trans (List.length_filter_le _ _) (by rw [List.length_range]; exact h.tbl)
  obtain ⟨d, hd⟩ : ∃ d, g.ckpt = d := ⟨_, rfl⟩
  rw [hd]
  rw [ckpt_eq g hW, hsh] at hd
  refine walk ?_
  (refine draw ?_; refine dy 0 ?_; refine dy 1 ?_; refine dy 2 ?_; refine dy 3 ?_; refine dy 5 ?_; refine dy 6 ?_; refine dy 7 ?_; refine dy 8 ?_; refine ddx 4 ?_)
  refine call (tdead_spec K.tp g.tbl h.tbl) ?_ (hg := frameL)
  intro dv _
  (refine walk ?_; refine ddx 9 ?_)
  refine call (nroot_spec K.k.n K.k.pp g.rig.nv) ?_ (hg := frameL)
  intro _ _
  (refine walk ?_; refine dy 10 ?_; refine dy 11 ?_; refine dy 12 ?_; refine dy 13 ?_; refine walk ?_)
  rw [← hW]
  (refine draw ?_; refine dy 0 ?_; refine dy 1 ?_; refine dy 2 ?_; refine dy 3 ?_; refine dy 4 ?_; refine dy 5 ?_; refine dy 9 ?_; refine ddx 6 ?_)
  refine call (image_spec' K g hi h hborn hdur) ?_ (hg := frameL)
  intro y _
  obtain ⟨sv, mv⟩ := y
  dsimp only
  (refine walk ?_; refine ddx 7 ?_)
  refine call (encode_spec' K.k.sh hok W hw.1 g.image sv mv hx hpl) ?_ (hg := frameL) (hr := fun h hs => ⟨RdIn.rd h hs, (RdIn.rd h hs : Rd mv 1 (g.map.map vi) h)⟩)
  intro y hy
  obtain ⟨pv, rows⟩ := y
  dsimp only at hy ⊢
  have hpg : rows.map (·.2) = g.pages W.toNat := by unfold Lg.pages; rw [hsh]; exact hy
  rw [← hpg] at hd
  have hpn := (Lg.pages_len (g := g) (by rw [hsh]; exact hok) W.toNat).1
  rw [← hpg, hsh, List.length_map] at hpn
  have hpb := (bounds hok).pages
  have hrowl : (rows.map (·.1)).length = rows.length := List.length_map ..
  (refine walk ?_; refine dy 8 ?_; refine walk ?_)
  refine wc_loop (X := Nat × Rig) (fun y => [(0, vp K.lp), (3, dv), (4, .int .u64 W), (29, pv), (30, vi rows.length), (31, vi y.1)]) (fun y => Sl pv 1 (rows.map (·.1)) :: Pool rows :: Sl dv 1 (g.tbl.dead.map vi) :: LogB K g (RigAt K.k y.2 F))
    (fun y => y.1 ≤ rows.length ∧ each (putF K.k.sh (W % 2)) ((rows.map (·.2)).zipIdx.drop y.1) y.2 = each (putF K.k.sh (W % 2)) (rows.map (·.2)).zipIdx g.rig) (fun y => rows.length - y.1) (0, g.rig) ⟨Nat.zero_le _, rfl⟩ envs permL (fun y hy => ?_)
  obtain ⟨i, r⟩ := y
  dsimp only at hy ⊢
  obtain ⟨hib, hea⟩ := hy
  rw [← hea] at hd
  refine walk ?_
  refine wif_dec (fun hlt => ?_) (fun hlt => ?_)
  · have hlt : i < rows.length := by omega
    have hlt2 : i < (rows.map (·.2)).length := by simpa using hlt
    rw [putF_step hlt2, List.getElem_map] at hd hea
    haveI : ∀ Γ : List HP, RdIn (Pool rows :: Γ) rows[i].1 1 (rows[i].2.map vb) := fun Γ => Pool.rdIn' (List.getElem_mem hlt)
    refine walk ?_
    generalize rows[i] = q at this hd hea ⊢
    (refine draw ?_; refine dy 0 ?_; refine dy 1 ?_; refine dy 2 ?_; refine dy 3 ?_; refine dy 4 ?_; refine dy 5 ?_; refine dy 6 ?_; refine dy 7 ?_; refine dy 8 ?_; refine dy 9 ?_; refine dy 10 ?_; refine dy 11 ?_; refine dy 13 ?_; refine ddx 12 ?_)
    refine call (pageAt_spec K.k.sh hok (W % 2) i (by omega) (by omega)) ?_ (hg := frameL)
    intro _ _
    (refine walk ?_; refine ddx 14 ?_)
    refine gcall (aputSame_spec K.k hk r (K.k.sh.pageAt (W % 2) i) q.1 q.2) (fun s' hg => ⟨g.up s', ?_, ?_⟩) (fun _ c r1 h1 _ => ?_) (hg := frameL)
    · rw [hg] at hd; exact hd.symm
    · show Ent _ (LCells K g.seg g.idx :: MapAt K.mp g.map :: TblAt K.tp g.tbl :: RigAt K.k s' F)
      exact permL
    rw [h1] at hd hea
    (refine walk ?_; refine dy 15 ?_; refine walk ?_)
    refine wif_dec (fun hc => ?_) (fun hc => ?_)
    · have hd : ((if c = 0 then each (putF K.k.sh (W % 2)) ((rows.map (·.2)).zipIdx.drop (i + 1)) r1 else Out.ok c r1).lift g.up).bind (ckK g W) = d := hd
      rw [if_neg hc] at hd
      have hd : ckK g W c (g.up r1) = d := hd
      unfold ckK at hd
      rw [if_pos hc] at hd
      refine walk ?_
      refine wq_ret1 rfl rfl ((), c, g.up r1) rfl ⟨hd.symm, trivial⟩ ?_
      show Ent _ (LCells K g.seg g.idx :: MapAt K.mp g.map :: TblAt K.tp g.tbl :: RigAt K.k r1 F)
      exact permL
    · have hc : c = 0 := Classical.not_not.1 hc
      have hea : (if c = 0 then each (putF K.k.sh (W % 2)) ((rows.map (·.2)).zipIdx.drop (i + 1)) r1 else .ok c r1) = each (putF K.k.sh (W % 2)) (rows.map (·.2)).zipIdx g.rig := hea
      rw [if_pos hc] at hea
      refine walk ?_
      refine wq_round (i + 1, r1) ⟨by dsimp only; omega, hea⟩ (by dsimp only; omega) envs permL
  · obtain rfl : i = rows.length := by omega
    have hend := putF_end (s := K.k.sh) (reg := W % 2) (l := rows.map (·.2)) (r := r)
    rw [List.length_map] at hend
    rw [hend] at hd
    have hd : (((aflush r).lift g.up).bind fun e g2 => if e ≠ 0 then .ok e g2 else ((g2.rig.set { g2.rig.nv.root with gen := W }).lift g2.up).bind fun _ g3 => .ok 0 { g3 with tbl := g3.tbl.clear g.tbl.dead }) = d := hd
    refine walk ?_
    refine gcall (aflush_spec K.k hk r) (fun s' hg => ⟨g.up s', ?_, ?_⟩) (fun _ c r1 h1 _ => ?_) (hg := frameL)
    · rw [hg] at hd; exact hd.symm
    · show Ent _ (LCells K g.seg g.idx :: MapAt K.mp g.map :: TblAt K.tp g.tbl :: RigAt K.k s' F)
      exact permL
    rw [h1] at hd
    have hd : (if c ≠ 0 then Out.ok c (g.up r1) else ((r1.set { r1.nv.root with gen := W }).lift g.up).bind fun _ g3 => .ok 0 { g3 with tbl := g3.tbl.clear g.tbl.dead }) = d := hd
    refine walk ?_
    refine wif_dec (fun hc => ?_) (fun hc => ?_)
    · rw [if_pos hc] at hd
      refine walk ?_
      refine wq_ret1 rfl rfl ((), c, g.up r1) rfl ⟨hd.symm, trivial⟩ ?_
      show Ent _ (LCells K g.seg g.idx :: MapAt K.mp g.map :: TblAt K.tp g.tbl :: RigAt K.k r1 F)
      exact permL
    · rw [if_neg hc] at hd
      refine walk ?_
      refine call (nroot_spec K.k.n K.k.pp r1.nv) ?_ (hg := frameL)
      intro _ _
      refine walk ?_
      intro c9
      refine walk ?_
      (refine draw ?_; refine dy 0 ?_; refine dy 1 ?_; refine dy 2 ?_; refine dy 3 ?_; refine dy 4 ?_; refine ddx 5 ?_)
      refine gcall (rset_spec K.k r1 { r1.nv.root with gen := W }) (fun s' hg => ⟨g.up s', ?_, ?_⟩) (fun _ _ r2 h2 _ => ?_) (hg := frameL)
      · rw [hg] at hd; exact hd.symm
      · show Ent _ (LCells K g.seg g.idx :: MapAt K.mp g.map :: TblAt K.tp g.tbl :: RigAt K.k s' F)
        exact permL
      rw [h2] at hd
      have hd : Out.ok 0 { g.up r2 with tbl := g.tbl.clear g.tbl.dead } = d := hd
      refine walk ?_
      refine call (tclear_spec K.tp g.tbl dv g.tbl.dead h.tbl hdl) ?_ (hg := frameL)
      intro _ _
      refine walk ?_
      refine wq_ret1 rfl rfl ((), 0, { g.up r2 with tbl := g.tbl.clear g.tbl.dead }) rfl ⟨hd.symm, trivial⟩ ?_
      show Ent _ (LCells K g.seg g.idx :: MapAt K.mp g.map :: TblAt K.tp (g.tbl.clear g.tbl.dead) :: RigAt K.k r2 F)
      exact permL
end Go.Proofs.YtohienhoifgmaaaGreat
