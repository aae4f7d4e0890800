/- ArrayDead: a member that failed can't be made anew, till it is replaced; nothing else is hurt. -/
import Derived.Test.YtapgejjjgeiihaaJm
import Derived.Test.YtapgejjjgeiihaaDrw
import Derived.Test.YtapgejjjgeiihaaUnd
namespace Go.Proofs.Ytapgejjjgeiihaa
open Go Go.Sl
attribute [local irreducible] Yl WL WC WQ WD

theorem dead_finish {s : Shp} {k : Nat} {C : Int → Bytes} {m : IMap UInt8} {r : Rig} (hj : JM s k C (fun _ => False) m r) (hs : s.Ok) (hk : (k : Int) < s.members) (hst : r.stale = k) (hd : (r.at k).dead = true) {first : Bytes} (hfi : (first.length : Int) = s.block) :
    ∃ r', afinish s first r = .ok 8 r' ∧ JM s k C (fun _ => False) m r' ∧ r'.stale = k := by
  have hkl : k < r.ds.length := by have := hj.base.fits.many; omega
  have hmm := hs.members
  have hm := hj.base.fits.many
  obtain ⟨e, r', he, h1⟩ := sat_ok ((afinish_sat hs hj.base.fits hkl hst hj.whole hfi (C := C) (fun q q1 q2 => hj.comm q q1 q2)).mono (fun _ _ h => h) (fun r' h => no_gone hj.base.lim h))
  rcases h1 with ⟨_, _, _, r2, t2, _, _, _, _, _, _, _, h2⟩ | ⟨t1, h2⟩
  · rw [t2.dead k hd] at h2; cases h2
  rcases h2 with ⟨rfl, _, _⟩ | ⟨_, h2 | h2⟩
  · exact ⟨r', he, hj.low hs hk t1, by rw [t1.stale_is (by rw [hst]; omega), hst]⟩
  · rw [(hj.kept t1).2.1] at h2; cases h2
  · have h3 := h2 0 (by omega); have h4 := h2 1 (by omega); omega
theorem dead_mend {s : Shp} {k : Nat} {C : Int → Bytes} {m : IMap UInt8} {r : Rig} (hj : JM s k C (fun _ => False) m r) (hs : s.Ok) (hk : (k : Int) < s.members) (hst : r.stale = k) (hd : (r.at k).dead = true) {t : Int} (ht : 0 ≤ t ∧ t < s.all) :
    ∃ r', amend s t r = .ok 8 r' ∧ JM s k C (fun _ => False) m r' ∧ r'.stale = k ∧ (r'.at k).dead = true := by
  obtain ⟨e, r', he, h1, h2, h3⟩ := sat_ok (hj.mend hs hk hst ht)
  rcases h2 with ⟨_, _, h2, _⟩ | ⟨rfl, _, h2⟩
  · rw [h3 hd] at h2; cases h2
  · exact ⟨r', he, h2 (fun ⟨_, x⟩ => x), h1, h3 hd⟩
theorem live_mend {s : Shp} {k : Nat} {C : Int → Bytes} {D : Int → Prop} {m : IMap UInt8} {r : Rig} (hj : JM s k C D m r) (hs : s.Ok) (hk : (k : Int) < s.members) (hst : r.stale = k) (hl : Live (r.at k)) {t : Int} (ht : 0 ≤ t ∧ t < s.all) :
    ∃ r', amend s t r = .ok 0 r' ∧ JM s k C (fun t' => D t' ∨ t' = t) m r' ∧ r'.stale = k := by
  obtain ⟨e, r', he, h1, h2, h3⟩ := sat_ok (hj.mend hs hk hst ht)
  rcases h2 with ⟨rfl, h2, _⟩ | ⟨rfl, h2, _⟩
  · exact ⟨r', he, h2 hl, h1⟩
  · exact absurd hl h2
theorem lose_again {s : Shp} {k : Nat} {C : Int → Bytes} {m : IMap UInt8} {r : Rig} {D : Int → Prop} (hj : JM s k C D m r) (hk : (k : Int) < s.members) (hst : r.stale = k) : alose k r = .ok 0 r := by
  have hkl : k < r.ds.length := by have := hj.base.fits.many; omega
  unfold alose
  rw [if_neg (by omega), if_neg (by simp [hj.whole])]
  unfold alost
  rw [if_pos hst]
set_option maxHeartbeats 4000000 in
theorem adead_spec (x : Small) (v1 : Value) (xs : List (UInt8 × UInt8)) (m : UInt8) (hb1 : xs.length ≤ 9223372036854775807) :
    Spec0 Try.prog 7 [Small.val x, v1, vb m] (Rd v1 2 (xs.flatMap strCells)) (fun F => F) (fun _ : Unit => True) (fun _ => .bool true) (fun _ F => F) := by
  (refine spec_of Try.func7 rfl Try.ntmps7 rfl (fun F w0 hrd => ?_))
  haveI : RdIn F v1 2 (xs.flatMap strCells) := ⟨hrd⟩
  refine walk ?_
  intro c
  refine walk ?_
  refine call (awake11_spec) ?_
  intro _ _
  refine walk ?_
  refine wif_dec (fun hc => ?_) (fun hc => ?_) <;> refine walk ?_
  · exact wq_ret1 rfl rfl () rfl trivial perm
  have h1 : xs.length ≤ 10 := by omega
  refine call (shape5_spec x) ?_
  intro _ _
  have hs := shapeOf_ok x
  generalize shapeOf x = s at *
  have hmm := hs.members
  have hbl := hs.block
  refine walk ?_
  refine call (new11_spec s hs) ?_
  intro l hl
  obtain ⟨g, dv, ⟨a, nv, pp, ps, lv, sh⟩⟩ := l
  obtain ⟨hk, hsh⟩ := hl
  dsimp only [LRigAt] at hk hsh ⊢
  subst hsh
  have hps := hk.mem
  dsimp only at hps
  have hall := (bounds hs).all
  have hall0 : 8 ≤ sh.all := hall.1
  have hm8 := m.toNat_lt
  obtain ⟨kk, hkk⟩ : ∃ kk : Nat, (m.toNat : Int) % sh.members = kk := ⟨((m.toNat : Int) % sh.members).toNat, by have := Int.emod_nonneg (m.toNat : Int) (show sh.members ≠ 0 by omega); omega⟩
  have hkl : kk < ps.length := by have := Int.emod_lt_of_pos (m.toNat : Int) (show 0 < sh.members by omega); omega
  have hkm : (kk : Int) < sh.members := by omega
  refine walk ?_
  intro hb
  refine walk ?_
  rw [show (MapI hb [] : HP) = MapB hb [] from rfl]
  refine call (rput_spec ⟨g, dv, ⟨a, nv, pp, ps, lv, sh⟩⟩ hk (JM sh kk (fun _ => List.replicate sh.block.toNat 0) (fun _ => False)) false (JM.puts hs hkm) v1 xs (by omega) [] (Rig.fresh sh) (fresh_jm hs hkm) hb) ?_
  intro y1 hj1
  obtain ⟨m1, r1⟩ := y1
  dsimp only [LRigAt] at hj1 ⊢
  generalize (fun _ : Int => List.replicate sh.block.toNat (0 : UInt8)) = C at *
  obtain ⟨e2, r2, he2, rfl, hj2, hst2, hd2⟩ := sat_ok (hj1.lose hs hkm (r1.at kk).fail rfl rfl rfl)
  have hdead2 : (r2.at kk).dead = true := by rw [hd2]; rfl
  have he2' := lose_again hj2 hkm hst2
  obtain ⟨r3, he3, hj3, hst3, hdead3⟩ := dead_mend hj2 hs hkm hst2 hdead2 (t := 0) (by omega)
  have hbf : ((blockOf sh 1).length : Int) = sh.block := blockOf_len sh (by omega) 1
  obtain ⟨r4, he4, hj4, hst4⟩ := dead_finish hj3 hs hkm hst3 hdead3 hbf
  have hlt2 : r2.stale < ps.length := by omega
  have hlt3 : r3.stale < ps.length := by omega
  refine walk ?_
  simp only [hkk, Int.toNat_natCast]
  refine walk ?_
  refine call (rfail_spec ⟨a, nv, pp, ps, lv, sh⟩ r1 kk (by dsimp only; omega)) ?_
  intro _ _
  refine walk ?_
  (refine draw ?_; refine dy 0 ?_; refine dy 1 ?_; refine dy 2 ?_; refine dy 3 ?_; refine dy 4 ?_; refine ddx 5 ?_)
  refine call ((alose_spec ⟨a, nv, pp, ps, lv, sh⟩ hk _ kk).sure 0 r2 he2) ?_
  intro _ _
  (refine walk ?_; refine dy 6 ?_; refine dy 7 ?_; refine dg 8 ?_; refine dg 9 ?_; refine dg 10 ?_; refine dg 11 ?_; refine dg 12 ?_; refine ddx 13 ?_)
  refine walk ?_
  refine call ((alose_spec ⟨a, nv, pp, ps, lv, sh⟩ hk r2 kk).sure 0 r2 he2') ?_
  intro _ _
  (refine walk ?_; refine dg 14 ?_; refine dy 15 ?_; refine dy 16 ?_; refine dg 17 ?_; refine dg 18 ?_; refine dg 19 ?_; refine dg 20 ?_; refine ddx 21 ?_)
  refine walk ?_
  refine call ((amend_spec ⟨a, nv, pp, ps, lv, sh⟩ hk r2 hlt2 0).sure 8 r3 he3) ?_
  intro _ _
  (refine walk ?_; refine dg 22 ?_; refine dy 23 ?_; refine dy 24 ?_; refine dg 25 ?_; refine dg 26 ?_; refine dg 27 ?_; refine dg 28 ?_; refine dg 29 ?_; refine dg 30 ?_; refine dg 31 ?_; refine dg 32 ?_; refine ddx 33 ?_)
  refine walk ?_
  refine call (block_spec sh (by omega) 1) ?_
  intro bv _
  (refine walk ?_; refine ddx 34 ?_)
  refine walk ?_
  refine call ((afinish_spec ⟨a, nv, pp, ps, lv, sh⟩ hk r3 hlt3 bv (blockOf sh 1)).sure 8 r4 he4) ?_
  intro _ _
  (refine walk ?_; refine dg 35 ?_; refine dy 36 ?_; refine dy 37 ?_; refine dg 38 ?_; refine dg 39 ?_; refine dg 40 ?_; refine dg 41 ?_; refine dg 43 ?_; refine ddx 42 ?_)
  refine walk ?_
  refine call (stale_spec ⟨a, nv, pp, ps, lv, sh⟩ r4) ?_
  intro _ _
  rw [hst4]
  (refine walk ?_; refine dg 44 ?_; refine dy 45 ?_; refine walk ?_)
  refine walk ?_
  refine wif_dec (fun h => (h rfl).elim) (fun _ => ?_)
  refine walk ?_
  refine call (rholds_spec ⟨g, dv, ⟨a, nv, pp, ps, lv, sh⟩⟩ hk m1 (fun r => JM sh kk C (fun _ => False) m1 r ∧ r.stale = kk) false (JM.gets' hs hkm m1) r4 ⟨hj4, hst4⟩ hb) ?_
  intro r5 hj5
  dsimp only [LRigAt]
  obtain ⟨hj5, hst5⟩ := hj5
  obtain ⟨he6, hj6, hl6⟩ := hj5.replace hkm hst5
  have hst6 : ({ r5 with ds := r5.ds.set kk (r5.at kk).anew } : Rig).stale = kk := hst5
  generalize ({ r5 with ds := r5.ds.set kk (r5.at kk).anew } : Rig) = r6 at *
  obtain ⟨r7, he7, hj7, hst7⟩ := live_mend hj6 hs hkm hst6 hl6 (t := 0) (by omega)
  have hlt6 : r6.stale < ps.length := by omega
  refine walk ?_
  refine call ((areplace_spec ⟨a, nv, pp, ps, lv, sh⟩ hk r5 kk).sure 0 r6 he6) ?_
  intro _ _
  refine walk ?_
  refine call ((amend_spec ⟨a, nv, pp, ps, lv, sh⟩ hk r6 hlt6 0).sure 0 r7 he7) ?_
  intro _ _
  refine walk ?_
  refine call (rholds_spec ⟨g, dv, ⟨a, nv, pp, ps, lv, sh⟩⟩ hk m1 (JM sh kk C _ m1) false (JM.gets hs hkm m1) r7 hj7 hb) ?_
  intro r8 hj8
  refine walk ?_
  exact wq_ret1 rfl rfl () rfl trivial perm

set_option maxRecDepth 100000 in
open Go.RowKit Go.ChangeShapes Go.WideShapes in
theorem arrayDead_lifted (os : Os) (started : os.Started) (H : Type) (enc : TypeId × Value → H) :
    ReturnsInHanded {} Try.checked os 7 .any (Rows.arrayDeadSpec.pre6 enc Try.prog Try.f7 Rows.arrayDeadRow.domain false) (Rows.arrayDeadSpec.post enc Try.prog Try.f7 false true false false) := by
  refine returnsInHanded_of_change (C := Try.checked) Try.own started (by kernel_rfl) Try.func7
    (ChangeSpec.witness6 (enc := enc) (C := Try.checked) false ⟨#[], #[.agg #[.int .u8 0, .int .u8 0, .int .u8 0, .int .u8 0, .int .u8 0, .int .u8 0], .slice none 0 0, .int .u8 0], []⟩ 8 (by kernel_rfl) (by kernel_rfl) (by kernel_rfl) (by kernel_rfl)) ?_
  intro W base args ds gs before hval0 hW hcnd _
  rw [Try.same] at hval0 hW hcnd ⊢
  have hval : ∀ (j : Nat) t v, Try.f7.params[j]? = some t → args[j]? = some v → Value.okWide Try.prog W .any base t v := hval0
  have hW' := hW
  obtain ⟨p, q, hA, hV, rfl, hfz, hnd⟩ := hW
  have hA : DataW.TrodAll enc Try.prog W 0 (fun _ => true) true [23, 24, 5] args.toList ds p := hA
  obtain ⟨v0, vs0, d0, ds0, q0, m0, y0, e0, rfl, t0, h0⟩ := trodAll_split1 hA
  obtain ⟨v1, vs1, d1, ds1, q1, m1, y1, e1, rfl, t1, h1⟩ := trodAll_split1 h0
  obtain ⟨v2, vs2, d2, ds2, q2, m2, y2, e2, rfl, t2, h2⟩ := trodAll_split1 h1
  obtain ⟨e3, rfl⟩ := trodAll_split0 h2
  have ea : args = [v0, v1, v2].toArray := by apply Array.toList_inj.1; rw [e0, e1, e2, e3]
  subst ea
  obtain ⟨b0, c0, rfl, rfl, hx0⟩ := arg_struct Try.underlying23 @rdr_small (hval 0 23 v0 rfl rfl) t0
  obtain ⟨b1, w1, f1, hr1, hb1, hx1⟩ := arg_slice (@rdr_slicef Try.prog 24 102 2 (UInt8×UInt8) strCells _ _ (by kernel_rfl) (by decide) @rdr_stripe) (hval 1 24 v1 rfl rfl) t1
  obtain rfl : v1 = w1 := by simpa using f1
  obtain ⟨x2, rfl⟩ := arg_u8 (hval 2 5 v2 rfl rfl) t2
  refine (adead_spec b0 v1 b1 x2 hb1 [Old W] W (fun h hs => (Old.rd hr1).rd h hs) (sat_old W)).mono fun e W' he => ?_
  obtain ⟨hev, ⟨_, _, rfl, hs⟩ | ⟨_, hf, _⟩⟩ := he
  · exact ⟨_, rfl, law_post Try.laidOut rfl hW' rfl Try.underlying4 (by decide +kernel) (by cases gs <;> first | rfl | exact False.elim hV) (Sat.below hev hs)⟩
  · exact hf.elim

set_option maxRecDepth 100000 in
theorem arrayDead_holds : Rows.ArrayDeadSaid :=
  OpenClaim.holds_of_wide 7 Try.f7 rfl rfl rfl rfl rfl rfl rfl ⟨rfl, rfl, rfl, rfl, rfl⟩ rfl rfl rfl rfl rfl (by kernel_rfl) Try.func7 (Try.joined (by kernel_rfl))
    (of_decide_eq_true (by kernel_rfl)) (by unfold Func.isWrapper; first | (rw [if_pos (by decide +kernel)]; kernel_rfl) | (rw [if_neg (by decide +kernel)]; exact ⟨rfl, rfl⟩))
    (fun os started H enc _ => arrayDead_lifted os started H enc)
#print axioms arrayDead_holds
end Go.Proofs.Ytapgejjjgeiihaa
