/- ArrayAgain: put again, a stripe reads as it was put last; what other stripes hold doesn't change. -/
import Derived.Test.YtapgejjjgeiihaaJrg
import Derived.Test.YtapgejjjgeiihaaDrw
import Derived.Test.YtapgejjjgeiihaaUnd
namespace Go.Proofs.Ytapgejjjgeiihaa
open Go Go.Sl
attribute [local irreducible] Yl WL WC WQ WD

set_option maxHeartbeats 4000000 in
theorem again_spec (x : Small) (v1 : Value) (xs : List (UInt8 × UInt8)) (f : UInt8) (hb1 : xs.length ≤ 9223372036854775807) :
    Spec0 Try.prog 4 [Small.val x, v1, vb f] (Rd v1 2 (xs.flatMap strCells)) (fun F => F) (fun _ : Unit => True) (fun _ => .bool true) (fun _ F => F) := by
  (refine spec_of Try.func4 rfl Try.ntmps4 rfl (fun F w0 hrd => ?_))
  haveI : RdIn F v1 2 (xs.flatMap strCells) := ⟨hrd⟩
  refine walk ?_
  intro c
  refine walk ?_
  refine call (awake11_spec) ?_
  intro _ _
  refine walk ?_
  refine wif_dec (fun hc => ?_) (fun hc => ?_) <;> refine walk ?_
  · exact wq_ret1 rfl rfl () rfl trivial perm
  have h1 : xs.length ≤ 12 := by omega
  refine call (shape5_spec x) ?_
  intro _ _
  have hs := shapeOf_ok x
  generalize shapeOf x = s at *
  have hmm := hs.members
  have hbl := hs.block
  refine walk ?_
  refine call (new11_spec s hs) ?_
  intro l hl
  obtain ⟨g, dv, ⟨a, nv, pp, ps, lv, sh⟩⟩ := l
  obtain ⟨hk, hsh⟩ := hl
  dsimp only [LRigAt] at hk hsh ⊢
  subst hsh
  have hps := hk.mem
  dsimp only at hps
  have hall := (bounds hs).all
  have hall0 : 8 ≤ sh.all := hall.1
  have hall' : sh.all ≤ 1024 := hall.2
  refine walk ?_
  intro hb
  refine walk ?_
  rw [show (MapI hb [] : HP) = MapB hb [] from rfl]
  refine call (rput_spec ⟨g, dv, ⟨a, nv, pp, ps, lv, sh⟩⟩ hk (JOne sh 0) false (JOne.puts hs 0) v1 xs (by omega) [] (Rig.fresh sh) (fresh_one hs (by omega)) hb) ?_
  intro y1 hj1
  obtain ⟨m1, r1⟩ := y1
  dsimp only [LRigAt] at hj1 ⊢
  refine walk ?_
  refine call (all_spec sh hs) ?_
  intro _ _
  refine walk ?_
  refine wc_loop (X := Nat) (fun y => [(0, Small.val x), (1, v1), (2, vb f), (7, vp g), (9, .map (some hb)), (38, vi sh.all), (39, vi y)]) (fun _ => LRigAt ⟨g, dv, ⟨a, nv, pp, ps, lv, sh⟩⟩ r1 (MapB hb m1 :: F))
    (fun y => (y : Int) ≤ sh.all) (fun y => sh.all.toNat - y) 0 (by omega) envs perm (fun i hi => ?_)
  dsimp only [LRigAt]
  refine walk ?_
  refine wif_dec (fun hlt => ?_) (fun hlt => ?_)
  rotate_left
  · obtain ⟨m2, r2, hj2, e1, e2⟩ : ∃ m2 r2, JOne sh 0 m2 r2 ∧ m2 = m1 ∧ r2 = r1 := ⟨m1, r1, hj1, rfl, rfl⟩
    rw [← e1, ← e2]
    refine walk ?_
    refine call (rholds_spec ⟨g, dv, ⟨a, nv, pp, ps, lv, sh⟩⟩ hk m2 (JOne sh 0 m2) false (JOne.gets hs 0 m2) r2 hj2 hb) ?_
    intro r3 hj3
    refine walk ?_
    exact wq_ret1 rfl rfl () rfl trivial perm
  refine walk ?_
  rw [mget_map vb]
  cases hg : mget m1 i with
  | none =>
    simp only [Option.map_none, Option.isSome_none, Option.getD_none]
    refine walk ?_
    exact wq_round (i + 1) (by omega) (by omega) envs perm
  | some f0 =>
  simp only [Option.map_some, Option.isSome_some, Option.getD_some]
  refine walk ?_
  (refine draw ?_; refine dy 0 ?_; refine dy 1 ?_; refine dy 2 ?_; refine dy 3 ?_; refine dy 4 ?_; refine dy 5 ?_; refine dy 6 ?_; refine dy 7 ?_; refine dy 8 ?_; refine dy 9 ?_; refine ddx 10 ?_)
  refine call (chunks_spec sh (by omega) (by omega) f) ?_
  intro y hy
  obtain ⟨cv, rows⟩ := y
  dsimp only at hy ⊢
  have hrl : rows.length ≤ 1048576 := by have := congrArg List.length hy; simp [chunksOf] at this; omega
  have hrb : ∀ q ∈ rows, q.2.length ≤ 1099511627776 := fun q hq => by
    have h1 : q.2 ∈ chunksOf sh f := by rw [← hy]; exact List.mem_map.2 ⟨q, hq, rfl⟩
    have := (chunksOf_chunks hs f).each _ h1
    omega
  obtain ⟨e, r2, hm, hq⟩ := sat_ok (JOne.puts hs 0 m1 r1 i f ⟨by omega, by omega⟩ hj1)
  rw [← hy] at hm
  (refine walk ?_; refine ddx 11 ?_)
  refine call ((aput_spec ⟨a, nv, pp, ps, lv, sh⟩ hk r1 i cv rows hrl hrb).sure e r2 hm) ?_
  intro _ _
  rcases hq with ⟨rfl, hj2⟩ | ⟨hq, _⟩
  rotate_left
  · cases hq
  (refine walk ?_; refine dy 12 ?_; refine walk ?_)
  refine wif_dec (fun h => (h rfl).elim) (fun _ => ?_)
  refine walk ?_
  rw [mset_map vb]
  generalize mset m1 i f = m2 at *
  refine walk ?_
  refine call (rholds_spec ⟨g, dv, ⟨a, nv, pp, ps, lv, sh⟩⟩ hk m2 (JOne sh 0 m2) false (JOne.gets hs 0 m2) r2 hj2 hb) ?_
  intro r3 hj3
  refine walk ?_
  exact wq_ret1 rfl rfl () rfl trivial perm

set_option maxRecDepth 100000 in
open Go.RowKit Go.ChangeShapes Go.WideShapes in
theorem arrayAgain_lifted (os : Os) (started : os.Started) (H : Type) (enc : TypeId × Value → H) :
    ReturnsInHanded {} Try.checked os 4 .any (Rows.arrayAgainSpec.pre6 enc Try.prog Try.f4 Rows.arrayAgainRow.domain false) (Rows.arrayAgainSpec.post enc Try.prog Try.f4 false true false false) := by
  refine returnsInHanded_of_change (C := Try.checked) Try.own started (by kernel_rfl) Try.func4
    (ChangeSpec.witness6 (enc := enc) (C := Try.checked) false ⟨#[], #[.agg #[.int .u8 0, .int .u8 0, .int .u8 0, .int .u8 0, .int .u8 0, .int .u8 0], .slice none 0 0, .int .u8 0], []⟩ 8 (by kernel_rfl) (by kernel_rfl) (by kernel_rfl) (by kernel_rfl)) ?_
  intro W base args ds gs before hval0 hW hcnd _
  rw [Try.same] at hval0 hW hcnd ⊢
  have hval : ∀ (j : Nat) t v, Try.f4.params[j]? = some t → args[j]? = some v → Value.okWide Try.prog W .any base t v := hval0
  have hW' := hW
  obtain ⟨p, q, hA, hV, rfl, hfz, hnd⟩ := hW
  have hA : DataW.TrodAll enc Try.prog W 0 (fun _ => true) true [23, 24, 5] args.toList ds p := hA
  obtain ⟨v0, vs0, d0, ds0, q0, m0, y0, e0, rfl, t0, h0⟩ := trodAll_split1 hA
  obtain ⟨v1, vs1, d1, ds1, q1, m1, y1, e1, rfl, t1, h1⟩ := trodAll_split1 h0
  obtain ⟨v2, vs2, d2, ds2, q2, m2, y2, e2, rfl, t2, h2⟩ := trodAll_split1 h1
  obtain ⟨e3, rfl⟩ := trodAll_split0 h2
  have ea : args = [v0, v1, v2].toArray := by apply Array.toList_inj.1; rw [e0, e1, e2, e3]
  subst ea
  obtain ⟨b0, c0, rfl, rfl, hx0⟩ := arg_struct Try.underlying23 @rdr_small (hval 0 23 v0 rfl rfl) t0
  obtain ⟨b1, w1, f1, hr1, hb1, hx1⟩ := arg_slice (@rdr_slicef Try.prog 24 102 2 (UInt8×UInt8) strCells _ _ (by kernel_rfl) (by decide) @rdr_stripe) (hval 1 24 v1 rfl rfl) t1
  obtain rfl : v1 = w1 := by simpa using f1
  obtain ⟨x2, rfl⟩ := arg_u8 (hval 2 5 v2 rfl rfl) t2
  refine (again_spec b0 v1 b1 x2 hb1 [Old W] W (fun h hs => (Old.rd hr1).rd h hs) (sat_old W)).mono fun e W' he => ?_
  obtain ⟨hev, ⟨_, _, rfl, hs⟩ | ⟨_, hf, _⟩⟩ := he
  · exact ⟨_, rfl, law_post Try.laidOut rfl hW' rfl Try.underlying4 (by decide +kernel) (by cases gs <;> first | rfl | exact False.elim hV) (Sat.below hev hs)⟩
  · exact hf.elim

set_option maxRecDepth 100000 in
theorem arrayAgain_holds : Rows.ArrayAgainSaid :=
  OpenClaim.holds_of_wide 4 Try.f4 rfl rfl rfl rfl rfl rfl rfl ⟨rfl, rfl, rfl, rfl, rfl⟩ rfl rfl rfl rfl rfl (by kernel_rfl) Try.func4 (Try.joined (by kernel_rfl))
    (of_decide_eq_true (by kernel_rfl)) (by unfold Func.isWrapper; first | (rw [if_pos (by decide +kernel)]; kernel_rfl) | (rw [if_neg (by decide +kernel)]; exact ⟨rfl, rfl⟩))
    (fun os started H enc _ => arrayAgain_lifted os started H enc)
#print axioms arrayAgain_holds
end Go.Proofs.Ytapgejjjgeiihaa
