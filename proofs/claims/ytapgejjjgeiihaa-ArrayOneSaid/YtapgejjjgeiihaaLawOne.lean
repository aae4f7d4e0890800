/- ArrayOne: any stripes, put and read, while any one member fails at any operation: all are put, and read as they were put; that member isn't current, or none isn't. -/
import Derived.Test.YtapgejjjgeiihaaJrg
import Derived.Test.YtapgejjjgeiihaaDrw
import Derived.Test.YtapgejjjgeiihaaUnd
namespace Go.Proofs.Ytapgejjjgeiihaa
open Go Go.Sl
attribute [local irreducible] Yl WL WC WQ WD

set_option maxHeartbeats 4000000 in
theorem one_spec (x : Small) (v1 v2 : Value) (xs ys : List (UInt8 × UInt8)) (m ops : UInt8) (hb1 : xs.length ≤ 9223372036854775807) (hb2 : ys.length ≤ 9223372036854775807) :
    Spec0 Try.prog 5 [Small.val x, v1, v2, vb m, vb ops] (fun h => Rd v1 2 (xs.flatMap strCells) h ∧ Rd v2 2 (ys.flatMap strCells) h) (fun F => F) (fun _ : Unit => True) (fun _ => .bool true) (fun _ F => F) := by
  (refine spec_of Try.func5 rfl Try.ntmps5 rfl (fun F w0 hrd => ?_))
  haveI : RdIn F v1 2 (xs.flatMap strCells) := ⟨fun h hs => (hrd h hs).1⟩
  haveI : RdIn F v2 2 (ys.flatMap strCells) := ⟨fun h hs => (hrd h hs).2⟩
  refine walk ?_
  intro c
  refine walk ?_
  refine call (awake11_spec) ?_
  intro _ _
  refine walk ?_
  (first | (refine wif_cut 4 24 (.bool (decide ((xs.length : Int) > 10 ∨ (ys.length : Int) > 10))) (fun K => ?_) ?_; refine wif_dec (fun hc => ?_) (fun hc => ?_); (iterate 4 ((first | (refine wl_guard_yes rfl rfl rfl ?_; refine wl_ya ?_) | (refine wl_guard_no rfl rfl rfl rfl rfl ?_) | (refine wl_ya ?_)))); exact K true _ _ rfl (by (repeat (first | exact trivial | refine And.intro (by first | exact trivial | rfl) ?_))) (by simp [hc]) (by first | rfl | (simp; done) | (simp; omega) | (simp [*]; done) | (simp [*]; omega)); (iterate 4 ((first | (refine wl_guard_yes rfl rfl rfl ?_; refine wl_ya ?_) | (refine wl_guard_no rfl rfl rfl rfl rfl ?_) | (refine wl_ya ?_)))); exact K false _ _ rfl (by (repeat (first | exact trivial | refine And.intro (by first | exact trivial | rfl) ?_))) (by simp [hc]) (by first | rfl | (simp; done) | (simp; omega) | (simp [*]; done) | (simp [*]; omega)); try (refine wl_nil ?_)) | (refine wif_cutn 4 24 (.bool (decide ((xs.length : Int) > 10 ∨ (ys.length : Int) > 10))) (fun K => ?_) ?_; refine wif_dec (fun hc => ?_) (fun hc => ?_); (iterate 4 ((first | (refine wl_guard_yes rfl rfl rfl ?_; refine wl_ya ?_) | (refine wl_guard_no rfl rfl rfl rfl rfl ?_) | (refine wl_ya ?_)))); exact K false _ _ rfl (by (repeat (first | exact trivial | refine And.intro (by first | exact trivial | rfl) ?_))) (by simp [hc]) (by first | rfl | (simp; done) | (simp; omega) | (simp [*]; done) | (simp [*]; omega)); (iterate 4 ((first | (refine wl_guard_yes rfl rfl rfl ?_; refine wl_ya ?_) | (refine wl_guard_no rfl rfl rfl rfl rfl ?_) | (refine wl_ya ?_)))); exact K true _ _ rfl (by (repeat (first | exact trivial | refine And.intro (by first | exact trivial | rfl) ?_))) (by simp [hc]) (by first | rfl | (simp; done) | (simp; omega) | (simp [*]; done) | (simp [*]; omega)); try (refine wl_nil ?_)))
  refine walk ?_
  refine wif_dec (fun hc => ?_) (fun hc => ?_) <;> refine walk ?_
  · exact wq_ret1 rfl rfl () rfl trivial perm
  have h1 : xs.length ≤ 10 := by omega
  have h2 : ys.length ≤ 10 := by omega
  refine call (shape5_spec x) ?_
  intro _ _
  have hs := shapeOf_ok x
  generalize shapeOf x = s at *
  have hmm := hs.members
  refine walk ?_
  refine call (new11_spec s hs) ?_
  intro l hl
  obtain ⟨g, dv, ⟨a, nv, pp, ps, lv, sh⟩⟩ := l
  obtain ⟨hk, hsh⟩ := hl
  dsimp only [LRigAt] at hk hsh ⊢
  subst hsh
  have hps := hk.mem
  dsimp only at hps
  have hm8 := m.toNat_lt
  have ho8 := ops.toNat_lt
  refine walk ?_
  intro hb
  refine walk ?_
  rw [show (MapI hb [] : HP) = MapB hb [] from rfl]
  obtain ⟨kk, hkk⟩ : ∃ kk : Nat, (m.toNat : Int) % sh.members = kk := ⟨((m.toNat : Int) % sh.members).toNat, by have := Int.emod_nonneg (m.toNat : Int) (show sh.members ≠ 0 by omega); omega⟩
  have hkl : kk < ps.length := by have := Int.emod_lt_of_pos (m.toNat : Int) (show 0 < sh.members by omega); omega
  rw [hkk]
  (refine draw ?_; refine dy 0 ?_; refine dy 1 ?_; refine dy 2 ?_; refine dy 3 ?_; refine dy 4 ?_; refine dy 5 ?_; refine dy 6 ?_; refine dy 7 ?_; refine dy 8 ?_; refine dy 9 ?_; refine dy 10 ?_; refine dy 12 ?_; refine dy 13 ?_; refine ddx 11 ?_)
  refine call (used_spec pp (Rig.fresh sh).pow) ?_
  intro _ _
  (refine walk ?_; refine dy 14 ?_; refine ddx 15 ?_)
  refine call (rfailAt_spec ⟨a, nv, pp, ps, lv, sh⟩ (Rig.fresh sh) kk (by dsimp only; omega) (w64 ((Rig.fresh sh).pow.used + ops.toNat))) ?_
  intro _ _
  have hlen : kk < (Rig.fresh sh).ds.length := by have := (fresh_base hs (· = kk)).fits.many; omega
  obtain ⟨hB, hS⟩ := failing_tr (fresh_base hs (· = kk)) hlen rfl (((Rig.fresh sh).at kk).failing (w64 ((Rig.fresh sh).pow.used + ops.toNat))) rfl rfl rfl
  have hj0 : JOne sh kk [] { Rig.fresh sh with ds := (Rig.fresh sh).ds.set kk (((Rig.fresh sh).at kk).failing (w64 ((Rig.fresh sh).pow.used + ops.toNat))) } := by
    refine ⟨hB, hS [] (Stripes.nil _ _), rfl, fun hd => ?_⟩
    rw [at_set (r := Rig.fresh sh) rfl hlen rfl kk, if_pos rfl, fresh_at hlen] at hd
    cases hd
  generalize ({ Rig.fresh sh with ds := (Rig.fresh sh).ds.set kk (((Rig.fresh sh).at kk).failing (w64 ((Rig.fresh sh).pow.used + ops.toNat))) } : Rig) = r0 at *
  clear hB hS
  refine walk ?_
  refine call (rput_spec ⟨g, dv, ⟨a, nv, pp, ps, lv, sh⟩⟩ hk (JOne sh kk) false (JOne.puts hs kk) v1 xs (by omega) [] r0 hj0 hb) ?_
  intro y1 hj1
  obtain ⟨m1, r1⟩ := y1
  dsimp only [LRigAt] at hj1 ⊢
  refine walk ?_
  refine call (rholds_spec ⟨g, dv, ⟨a, nv, pp, ps, lv, sh⟩⟩ hk m1 (JOne sh kk m1) false (JOne.gets hs kk m1) r1 hj1 hb) ?_
  intro r2 hj2
  dsimp only [LRigAt]
  refine walk ?_
  refine call (rput_spec ⟨g, dv, ⟨a, nv, pp, ps, lv, sh⟩⟩ hk (JOne sh kk) false (JOne.puts hs kk) v2 ys (by omega) m1 r2 hj2 hb) ?_
  intro y3 hj3
  obtain ⟨m3, r3⟩ := y3
  dsimp only [LRigAt] at hj3 ⊢
  refine walk ?_
  refine call (rholds_spec ⟨g, dv, ⟨a, nv, pp, ps, lv, sh⟩⟩ hk m3 (JOne sh kk m3) false (JOne.gets hs kk m3) r3 hj3 hb) ?_
  intro r4 hj4
  dsimp only [LRigAt]
  refine walk ?_
  refine call (stale_spec ⟨a, nv, pp, ps, lv, sh⟩ r4) ?_
  intro _ _
  by_cases hst : r4.stale = kk
  · rw [hst]
    refine walk ?_
    refine wif_dec (fun _ => ?_) (fun h => absurd rfl h)
    refine walk ?_
    (repeat (refine wl_guard_un rfl rfl rfl rfl ?_))
    refine walk ?_
    refine call (broken_spec ⟨a, nv, pp, ps, lv, sh⟩ r4) ?_
    intro _ _
    rw [hj4.whole]
    refine walk ?_
    exact wq_ret1 rfl rfl () rfl trivial perm
  · have hst1 : r4.stale = -1 := by
      rcases hj4.base.stale with h | ⟨i, _, h, h'⟩
      · exact h
      · exact absurd (by rw [h, h']) hst
    have hd : (r4.at kk).dead = false := by
      cases hd : (r4.at kk).dead with
      | false => rfl
      | true => exact absurd (hj4.told hd) hst
    rw [hst1]
    refine walk ?_
    refine call (stale_spec ⟨a, nv, pp, ps, lv, sh⟩ r4) ?_
    intro _ _
    rw [hst1]
    refine walk ?_
    refine call (rdead_spec ⟨a, nv, pp, ps, lv, sh⟩ r4 kk (by dsimp only; omega)) ?_
    intro _ _
    rw [hd]
    refine walk ?_
    refine call (broken_spec ⟨a, nv, pp, ps, lv, sh⟩ r4) ?_
    intro _ _
    rw [hj4.whole]
    refine walk ?_
    exact wq_ret1 rfl rfl () rfl trivial perm

set_option maxRecDepth 100000 in
open Go.RowKit Go.ChangeShapes Go.WideShapes in
theorem arrayOne_lifted (os : Os) (started : os.Started) (H : Type) (enc : TypeId × Value → H) :
    ReturnsInHanded {} Try.checked os 5 .any (Rows.arrayOneSpec.pre6 enc Try.prog Try.f5 Rows.arrayOneRow.domain false) (Rows.arrayOneSpec.post enc Try.prog Try.f5 false true false false) := by
  refine returnsInHanded_of_change (C := Try.checked) Try.own started (by kernel_rfl) Try.func5
    (ChangeSpec.witness6 (enc := enc) (C := Try.checked) false ⟨#[], #[.agg #[.int .u8 0, .int .u8 0, .int .u8 0, .int .u8 0, .int .u8 0, .int .u8 0], .slice none 0 0, .slice none 0 0, .int .u8 0, .int .u8 0], []⟩ 8 (by kernel_rfl) (by kernel_rfl) (by kernel_rfl) (by kernel_rfl)) ?_
  intro W base args ds gs before hval0 hW hcnd _
  rw [Try.same] at hval0 hW hcnd ⊢
  have hval : ∀ (j : Nat) t v, Try.f5.params[j]? = some t → args[j]? = some v → Value.okWide Try.prog W .any base t v := hval0
  have hW' := hW
  obtain ⟨p, q, hA, hV, rfl, hfz, hnd⟩ := hW
  have hA : DataW.TrodAll enc Try.prog W 0 (fun _ => true) true [23, 24, 24, 5, 5] args.toList ds p := hA
  obtain ⟨v0, vs0, d0, ds0, q0, m0, y0, e0, rfl, t0, h0⟩ := trodAll_split1 hA
  obtain ⟨v1, vs1, d1, ds1, q1, m1, y1, e1, rfl, t1, h1⟩ := trodAll_split1 h0
  obtain ⟨v2, vs2, d2, ds2, q2, m2, y2, e2, rfl, t2, h2⟩ := trodAll_split1 h1
  obtain ⟨v3, vs3, d3, ds3, q3, m3, y3, e3, rfl, t3, h3⟩ := trodAll_split1 h2
  obtain ⟨v4, vs4, d4, ds4, q4, m4, y4, e4, rfl, t4, h4⟩ := trodAll_split1 h3
  obtain ⟨e5, rfl⟩ := trodAll_split0 h4
  have ea : args = [v0, v1, v2, v3, v4].toArray := by apply Array.toList_inj.1; rw [e0, e1, e2, e3, e4, e5]
  subst ea
  obtain ⟨b0, c0, rfl, rfl, hx0⟩ := arg_struct Try.underlying23 @rdr_small (hval 0 23 v0 rfl rfl) t0
  obtain ⟨b1, w1, f1, hr1, hb1, hx1⟩ := arg_slice (@rdr_slicef Try.prog 24 102 2 (UInt8×UInt8) strCells _ _ (by kernel_rfl) (by decide) @rdr_stripe) (hval 1 24 v1 rfl rfl) t1
  obtain rfl : v1 = w1 := by simpa using f1
  obtain ⟨b2, w2, f2, hr2, hb2, hx2⟩ := arg_slice (@rdr_slicef Try.prog 24 102 2 (UInt8×UInt8) strCells _ _ (by kernel_rfl) (by decide) @rdr_stripe) (hval 2 24 v2 rfl rfl) t2
  obtain rfl : v2 = w2 := by simpa using f2
  obtain ⟨x3, rfl⟩ := arg_u8 (hval 3 5 v3 rfl rfl) t3
  obtain ⟨x4, rfl⟩ := arg_u8 (hval 4 5 v4 rfl rfl) t4
  refine (one_spec b0 v1 v2 b1 b2 x3 x4 hb1 hb2 [Old W] W (fun h hs => ⟨(Old.rd hr1).rd h hs, (Old.rd hr2).rd h hs⟩) (sat_old W)).mono fun e W' he => ?_
  obtain ⟨hev, ⟨_, _, rfl, hs⟩ | ⟨_, hf, _⟩⟩ := he
  · exact ⟨_, rfl, law_post Try.laidOut rfl hW' rfl Try.underlying4 (by decide +kernel) (by cases gs <;> first | rfl | exact False.elim hV) (Sat.below hev hs)⟩
  · exact hf.elim

set_option maxRecDepth 100000 in
theorem arrayOne_holds : Rows.ArrayOneSaid :=
  OpenClaim.holds_of_wide 5 Try.f5 rfl rfl rfl rfl rfl rfl rfl ⟨rfl, rfl, rfl, rfl, rfl⟩ rfl rfl rfl rfl rfl (by kernel_rfl) Try.func5 (Try.joined (by kernel_rfl))
    (of_decide_eq_true (by kernel_rfl)) (by unfold Func.isWrapper; first | (rw [if_pos (by decide +kernel)]; kernel_rfl) | (rw [if_neg (by decide +kernel)]; exact ⟨rfl, rfl⟩))
    (fun os started H enc _ => arrayOne_lifted os started H enc)
#print axioms arrayOne_holds
end Go.Proofs.Ytapgejjjgeiihaa
