/- CkptPlays: whatever is staged, goes into stripes, and is covered by checkpoints, one behind the other: what each segment is, where all lies; the generation is one more each time. -/
import Derived.Test.YtohienhoifgmaaaGreatP51
import Derived.Test.YtohienhoifgmaaaGreatP52
import Derived.Test.YtohienhoifgmaaaGreatP53
import Derived.Test.YtohienhoifgmaaaGreatP54

namespace Go.Proofs.YtohienhoifgmaaaGreat
open Go Go.Sl
attribute [local irreducible] Yl WL WC WQ WD

set_option maxHeartbeats 8000000 in
theorem cplays_spec (x : Small) (v : Value) (l : List (A15 × UInt8)) (hb : l.length ≤ 9223372036854775807) :
    Spec0 Tryz.prog 3 [Small.val x, v] (Rd v 4 (l.flatMap a16Cells)) (fun F => F) (fun _ : Unit => True) (fun _ => .bool true) (fun _ F => F) := by
  (refine spec_of Tryz.func3 rfl Tryz.ntmps3 rfl (fun F w0 hrd => ?_))
  haveI : RdIn F v 4 (l.flatMap a16Cells) := ⟨hrd⟩
  refine walk ?_
  intro c2
  refine walk ?_
  refine call awake16_spec ?_ (hg := frameL)
  intro _ _
  refine walk ?_
  refine wif_dec (fun hc => ?_) (fun hc => ?_)
  · refine walk ?_
    exact wq_ret1 rfl rfl () rfl trivial permL
  refine walk ?_
  refine call (full5_spec x) ?_ (hg := frameL)
  intro _ _
  have hs := fullOf_ok x
  generalize fullOf x = s at *
  refine walk ?_
  intro c5
  refine walk ?_
  refine call (start_spec s hs) ?_ (hg := frameL)
  intro y hy
  obtain ⟨lk, K⟩ := y
  obtain ⟨hlk, hls, hKl⟩ := hy
  dsimp only at hlk hls hKl ⊢
  have hk : K.k.Ok := by rw [hKl]; exact hlk
  have hKs : K.k.sh = s := by rw [hKl]; exact hls
  refine walk ?_
  refine call (bempty_spec s hs) ?_ (hg := frameL)
  intro bp _
  refine walk ?_
  refine wc_loop (X := Nat × Bok × Lg × List Row) (fun y => [(6, vp K.lp), (9, vp bp), (10, .int .u64 y.2.2.1.rig.nv.root.gen), (30, v), (31, vi l.length), (32, vi y.1)])
    (fun y => BkAt bp y.2.2.2 y.2.1 :: Pool y.2.2.2 :: LogAt K y.2.2.1 F)
    (fun y => y.1 ≤ l.length ∧ Play y.2.1 y.2.2.1 ∧ y.2.2.1.sh = K.k.sh) (fun y => l.length - y.1) (0, Bok.empty s, Lg.fresh (Rig.fresh s), []) ⟨Nat.zero_le _, play_fresh hs, hKs.symm⟩ envs (Ent.trans Pool.nil permL) (fun y hy => ?_)
  obtain ⟨i, b, g, rows⟩ := y
  dsimp only at hy ⊢
  obtain ⟨hil, hp, hsh⟩ := hy
  refine walk ?_
  refine wif_dec (fun hlt => ?_) (fun hlt => ?_)
  · have hlt : i < l.length := by omega
    refine walk ?_
    intro c12
    generalize l[i] = a
    obtain ⟨⟨d, lb, f⟩, c⟩ := a
    dsimp only [a16Cells]
    have hc8 := c.toNat_lt
    obtain ⟨hp2, hsh2, hgen⟩ := play_act2 hp (⟨d, lb, f⟩, c)
    have hsh2 := hsh2.trans hsh
    refine walk ?_
    refine wif_meet (X := Unit) (fun _ => [(6, vp K.lp), (9, vp bp), (10, .int .u64 (actG2 (⟨d, lb, f⟩, c) g).rig.nv.root.gen), (12, vp c12), (30, v), (31, vi l.length), (32, vi i)]) (fun _ => Cells c12 [vb d, vb lb, vb f, vb c] :: BkAt bp rows b :: Pool rows :: LogAt K g F) (fun _ => True) (wif_dec (fun hz => ?_) (fun hz => ?_)) (fun _ _ => ?_)
    · have hz' : c.toNat % 5 = 0 := by omega
      rw [if_pos hz'] at hgen
      rw [hgen]
      refine walk ?_
      exact wq_meet _ _ _ () trivial envs permL
    · have hz' : ¬ c.toNat % 5 = 0 := by omega
      rw [if_neg hz'] at hgen
      rw [hgen]
      refine walk ?_
      exact wq_meet _ _ _ () trivial envs permL
    refine walk ?_
    refine call (do2_spec bp rows K hk hp hsh (⟨d, lb, f⟩, c)) ?_ (hg := frameL)
    intro rows' _
    refine walk ?_
    refine call (bis_spec bp rows' K hp2 hsh2) ?_ (hg := frameL)
    intro _ _
    refine walk ?_
    refine call (nroot_spec K.k.n K.k.pp (actG2 (⟨d, lb, f⟩, c) g).rig.nv) ?_ (hg := frameL)
    intro _ _
    refine walk ?_
    refine wif_dec (fun hne => absurd rfl hne) (fun _ => ?_)
    refine walk ?_
    refine wq_round (i + 1, actB2 (⟨d, lb, f⟩, c) b, actG2 (⟨d, lb, f⟩, c) g, rows') ⟨by dsimp only; omega, hp2, hsh2⟩ (by dsimp only; omega) envs ?_
    show Ent _ (BkAt bp rows' (actB2 (⟨d, lb, f⟩, c) b) :: Pool rows' :: LogAt K (actG2 (⟨d, lb, f⟩, c) g) F)
    exact permL
  · refine walk ?_
    exact wq_ret1 rfl rfl () rfl trivial permL

set_option maxRecDepth 100000 in
open Go.RowKit Go.ChangeShapes Go.WideShapes in
theorem ckptPlays_lifted (os : Os) (started : os.Started) (H : Type) (enc : TypeId × Value → H) :
    ReturnsInHanded {} Tryz.checked os 3 .any (Rows.ckptPlaysSpec.pre6 enc Tryz.prog Tryz.f3 Rows.ckptPlaysRow.domain false) (Rows.ckptPlaysSpec.post enc Tryz.prog Tryz.f3 false true false false) := by
  refine returnsInHanded_of_change (C := Tryz.checked) Tryz.own started (by kernel_rfl) Tryz.func3
    (ChangeSpec.witness6 (enc := enc) (C := Tryz.checked) false ⟨#[], #[.agg #[.int .u8 0, .int .u8 0, .int .u8 0, .int .u8 0, .int .u8 0, .int .u8 0], .slice none 0 0], []⟩ 8 (by kernel_rfl) (by kernel_rfl) (by kernel_rfl) (by kernel_rfl)) ?_
  intro W base args ds gs before hval0 hW hcnd _
  rw [Tryz.same] at hval0 hW hcnd ⊢
  have hval : ∀ (j : Nat) t v, Tryz.f3.params[j]? = some t → args[j]? = some v → Value.okWide Tryz.prog W .any base t v := hval0
  have hW' := hW
  obtain ⟨p, q, hA, hV, rfl, hfz, hnd⟩ := hW
  have hA : DataW.TrodAll enc Tryz.prog W 0 (fun _ => true) true [23, 24] args.toList ds p := hA
  obtain ⟨v0, vs0, d0, ds0, q0, m0, y0, e0, rfl, t0, h0⟩ := trodAll_split1 hA
  obtain ⟨v1, vs1, d1, ds1, q1, m1, y1, e1, rfl, t1, h1⟩ := trodAll_split1 h0
  obtain ⟨e2, rfl⟩ := trodAll_split0 h1
  have ea : args = [v0, v1].toArray := by apply Array.toList_inj.1; rw [e0, e1, e2]
  subst ea
  obtain ⟨b0, c0, rfl, rfl, hx0⟩ := arg_struct Tryz.underlying23 @rdr_small (hval 0 23 v0 rfl rfl) t0
  obtain ⟨b1, w1, f1, hr1, hb1, hx1⟩ := arg_slice (@rdr_slicef Tryz.prog 24 39 4 (A15×UInt8) a16Cells _ _ (by kernel_rfl) (by decide) @rdr_a16) (hval 1 24 v1 rfl rfl) t1
  obtain rfl : v1 = w1 := by simpa using f1
  refine (cplays_spec b0 v1 b1 hb1 [Old W] W (fun h hs => (Old.rd hr1).rd h hs) (sat_old W)).mono fun e W' he => ?_
  obtain ⟨hev, ⟨_, _, rfl, hs⟩ | ⟨_, hf, _⟩⟩ := he
  · exact ⟨_, rfl, law_post Tryz.laidOut rfl hW' rfl Tryz.underlying4 (by decide +kernel) (by cases gs <;> first | rfl | exact False.elim hV) (Sat.below hev hs)⟩
  · exact hf.elim

set_option maxRecDepth 100000 in
theorem ckptPlays_holds : Rows.CkptPlaysSaid :=
  OpenClaim.holds_of_wide 3 Tryz.f3 rfl rfl rfl rfl rfl rfl rfl ⟨rfl, rfl, rfl, rfl, rfl⟩ rfl rfl rfl rfl rfl (by kernel_rfl) Tryz.func3 (Tryz.joined (by kernel_rfl))
    (of_decide_eq_true (by kernel_rfl)) (by unfold Func.isWrapper; first | (rw [if_pos (by decide +kernel)]; kernel_rfl) | (rw [if_neg (by decide +kernel)]; exact ⟨rfl, rfl⟩))
    (fun os started H enc _ => ckptPlays_lifted os started H enc)
#print axioms ckptPlays_holds
end Go.Proofs.YtohienhoifgmaaaGreat
