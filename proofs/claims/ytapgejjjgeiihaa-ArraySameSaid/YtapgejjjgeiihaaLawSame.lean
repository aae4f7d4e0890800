/- ArraySame: what all members have is read from the first one that is current, whichever one fails. -/
import Derived.Test.YtapgejjjgeiihaaJrg
import Derived.Test.YtapgejjjgeiihaaDrw
import Derived.Test.YtapgejjjgeiihaaUnd
namespace Go.Proofs.Ytapgejjjgeiihaa
open Go Go.Sl
attribute [local irreducible] Yl WL WC WQ WD

/-- all members have a sector; one fails; it is read -/
theorem same_law {s : Shp} (hs : s.Ok) {r1 : Rig} (hB : Base s (fun _ => False) r1) (hst : r1.stale = -1) (hb : r1.broken = false) {q : Int} (hq : 0 ≤ q ∧ q < s.sectors) {b : Bytes} (h : ∀ i, i < r1.ds.length → (r1.at i).see q = b) {k : Nat} (hk : k < r1.ds.length) :
    ∃ r3, asame s q { r1 with ds := r1.ds.set k (r1.at k).fail } = .ok (b, 0) r3 ∧ r3.stale = if k = 0 then 0 else -1 := by
  obtain ⟨hB2, _⟩ := failing_tr (hB.weak (bad' := (· = k)) (fun _ x => x.elim)) hk rfl (r1.at k).fail rfl rfl rfl
  have hat := fun i => at_set (r := r1) (m := k) (d := (r1.at k).fail) rfl hk (r' := { r1 with ds := r1.ds.set k (r1.at k).fail }) rfl i
  have hlen : ({ r1 with ds := r1.ds.set k (r1.at k).fail } : Rig).ds.length = r1.ds.length := by simp
  have hst2 : ({ r1 with ds := r1.ds.set k (r1.at k).fail } : Rig).stale = -1 := hst
  have hb2 : ({ r1 with ds := r1.ds.set k (r1.at k).fail } : Rig).broken = false := hb
  have hsee : ∀ i, i < r1.ds.length → (({ r1 with ds := r1.ds.set k (r1.at k).fail } : Rig).at i).see q = b := fun i hi => by
    rw [hat]; split
    · rename_i e; subst e; exact h i hi
    · exact h i hi
  generalize ({ r1 with ds := r1.ds.set k (r1.at k).fail } : Rig) = r2 at *
  have hmm := hs.members
  have hm := hB2.fits.many
  by_cases hk0 : k = 0
  · subst hk0
    rw [if_pos rfl]
    have hd : (r2.at 0).dead = true := by rw [hat, if_pos rfl]; rfl
    obtain ⟨x, r3, e, t3, h1, h2⟩ := sat_ok (asame_dead0 hB2.fits hB2.lim hq (by omega) hst2 hd hb2 (fun i hi _ => hsee i (by omega)))
    refine ⟨r3, ?_, h1⟩
    rw [e]
    rcases h2 with h2 | h2 | h2
    · rw [h2]
    · rw [hB2.whole hb2 t3] at h2; cases h2
    · have := h2 1 (by omega); omega
  · rw [if_neg hk0]
    have hl : Live (r2.at 0) := hB2.live 0 (by omega) (fun e => hk0 e.symm)
    obtain ⟨x, r3, e, h1, h2, _⟩ := sat_ok (asame_first hB2.fits hB2.lim hq (by omega) (by omega) hl hb2)
    refine ⟨r3, ?_, ?_⟩
    · rw [e, h1, hsee 0 (by omega)]
    · unfold Rig.stale at hst2 ⊢; rw [h2]; exact hst2
set_option maxHeartbeats 4000000 in
theorem same_spec (x : Small) (i f m : UInt8) :
    Spec0 Try.prog 6 [Small.val x, vb i, vb f, vb m] (fun _ => True) (fun F => F) (fun _ : Unit => True) (fun _ => .bool true) (fun _ F => F) := by
  (refine spec_of Try.func6 rfl Try.ntmps6 rfl (fun F w0 hrd => ?_))
  refine walk ?_
  intro c
  refine walk ?_
  refine call (awake11_spec) ?_
  intro _ _
  refine walk ?_
  refine call (shape5_spec x) ?_
  intro _ _
  have hs := shapeOf_ok x
  generalize shapeOf x = s at *
  have hmm := hs.members
  have hbl := hs.block
  refine walk ?_
  refine call (new11_spec s hs) ?_
  intro l hl
  obtain ⟨g, dv, ⟨a, nv, pp, ps, lv, sh⟩⟩ := l
  obtain ⟨hk, hsh⟩ := hl
  dsimp only [LRigAt] at hk hsh ⊢
  subst hsh
  have hps := hk.mem
  dsimp only at hps
  have hall := (bounds hs).all
  have hpg := (bounds hs).pages
  have hse : sh.sectors = 1 + 2 * sh.pages + sh.segments * sh.stripes := rfl
  have hi8 := i.toNat_lt
  have hm8 := m.toNat_lt
  refine walk ?_
  refine call (gsectors_spec sh hs) ?_
  intro _ _
  refine walk ?_
  obtain ⟨q, hq⟩ : ∃ q, q = (i.toNat : Int) % sh.sectors := ⟨_, rfl⟩
  have hq1 : 0 ≤ q ∧ q < sh.sectors := by
    have h1 := Int.emod_nonneg (i.toNat : Int) (show sh.sectors ≠ 0 by omega)
    have h2 := Int.emod_lt_of_pos (i.toNat : Int) (show 0 < sh.sectors by omega)
    omega
  rw [← hq]
  (refine draw ?_; refine dy 0 ?_; refine dy 1 ?_; refine dy 2 ?_; refine dy 3 ?_; refine dy 4 ?_; refine dy 5 ?_; refine dy 6 ?_; refine dy 7 ?_; refine dy 8 ?_; refine dy 9 ?_; refine ddx 10 ?_)
  refine call (block_spec sh (by omega) f) ?_
  intro bv _
  have hbf : ((blockOf sh f).length : Int) = sh.block := blockOf_len sh (by omega) f
  have hB0 := fresh_base hs (fun _ => False)
  obtain ⟨e, r1, hm1, t1, h1⟩ := sat_ok ((aputSame_sat hB0.fits hq1 hbf).mono (fun _ _ h => h) (fun r' h => no_gone hB0.lim h))
  obtain ⟨hst1, hbr1⟩ := hB0.calm rfl t1.toTr0
  have hB1 := hB0.tr t1.toTr0
  rcases h1 with ⟨rfl, _, h1⟩ | ⟨_, h1⟩
  rotate_left
  · rw [hbr1] at h1; cases h1
  have hsee : ∀ j, j < r1.ds.length → (r1.at j).see q = blockOf sh f := fun j hj => by
    have hj' : j < (Rig.fresh sh).ds.length := by rw [← t1.len]; exact hj
    exact (h1 j hj').2 (hB0.live j hj' (fun x => x))
  (refine walk ?_; refine ddx 11 ?_)
  refine call ((aputSame_spec ⟨a, nv, pp, ps, lv, sh⟩ hk (Rig.fresh sh) q bv (blockOf sh f)).sure 0 r1 hm1) ?_
  intro _ _
  (refine walk ?_; refine dy 12 ?_; refine walk ?_)
  refine wif_dec (fun h => (h rfl).elim) (fun _ => ?_)
  obtain ⟨kk, hkk⟩ : ∃ kk : Nat, (m.toNat : Int) % sh.members = kk := ⟨((m.toNat : Int) % sh.members).toNat, by have := Int.emod_nonneg (m.toNat : Int) (show sh.members ≠ 0 by omega); omega⟩
  have hkl : kk < ps.length := by have := Int.emod_lt_of_pos (m.toNat : Int) (show 0 < sh.members by omega); omega
  have hk1 : kk < r1.ds.length := by have := hB1.fits.many; omega
  obtain ⟨r3, hm3, hst3⟩ := same_law hs hB1 hst1 hbr1 hq1 hsee hk1
  refine walk ?_
  (refine draw ?_; refine dy 0 ?_; refine dy 1 ?_; refine dy 2 ?_; refine dy 3 ?_; refine dy 4 ?_; refine dy 5 ?_; refine dy 6 ?_; refine dy 7 ?_; refine dy 8 ?_; refine dy 9 ?_; refine dy 10 ?_; refine dy 11 ?_; refine dy 12 ?_; refine dy 13 ?_; refine ddx 14 ?_)
  simp only [hkk, Int.toNat_natCast]
  refine call (rfail_spec ⟨a, nv, pp, ps, lv, sh⟩ r1 kk (by dsimp only; omega)) ?_
  intro _ _
  refine walk ?_
  refine call ((asame_spec ⟨a, nv, pp, ps, lv, sh⟩ hk _ q).sure (blockOf sh f, 0) r3 hm3) ?_
  intro v _
  refine walk ?_
  refine call (block_spec sh (by omega) f) ?_
  intro w _
  refine walk ?_
  refine call (equal_spec v w (blockOf sh f) (blockOf sh f) (by omega)) ?_
  intro _ _
  rw [decide_eq_true rfl]
  refine walk ?_
  by_cases hk0 : kk = 0
  · refine wif_dec (fun _ => ?_) (fun h => absurd (by omega) h)
    refine walk ?_
    refine call (stale_spec ⟨a, nv, pp, ps, lv, sh⟩ r3) ?_
    intro _ _
    rw [hst3]
    refine walk ?_
    refine wq_ret1 rfl rfl () ?_ trivial perm
    simp [hk0]
  · refine wif_dec (fun h => absurd h (by omega)) (fun _ => ?_)
    refine walk ?_
    refine call (stale_spec ⟨a, nv, pp, ps, lv, sh⟩ r3) ?_
    intro _ _
    rw [hst3]
    refine walk ?_
    refine wq_ret1 rfl rfl () ?_ trivial perm
    simp [hk0]

set_option maxRecDepth 100000 in
open Go.RowKit Go.ChangeShapes Go.WideShapes in
theorem arraySame_lifted (os : Os) (started : os.Started) (H : Type) (enc : TypeId × Value → H) :
    ReturnsInHanded {} Try.checked os 6 .any (Rows.arraySameSpec.pre6 enc Try.prog Try.f6 Rows.arraySameRow.domain false) (Rows.arraySameSpec.post enc Try.prog Try.f6 false true false false) := by
  refine returnsInHanded_of_change (C := Try.checked) Try.own started (by kernel_rfl) Try.func6
    (ChangeSpec.witness6 (enc := enc) (C := Try.checked) false ⟨#[], #[.agg #[.int .u8 0, .int .u8 0, .int .u8 0, .int .u8 0, .int .u8 0, .int .u8 0], .int .u8 0, .int .u8 0, .int .u8 0], []⟩ 8 (by kernel_rfl) (by kernel_rfl) (by kernel_rfl) (by kernel_rfl)) ?_
  intro W base args ds gs before hval0 hW hcnd _
  rw [Try.same] at hval0 hW hcnd ⊢
  have hval : ∀ (j : Nat) t v, Try.f6.params[j]? = some t → args[j]? = some v → Value.okWide Try.prog W .any base t v := hval0
  have hW' := hW
  obtain ⟨p, q, hA, hV, rfl, hfz, hnd⟩ := hW
  have hA : DataW.TrodAll enc Try.prog W 0 (fun _ => true) true [23, 5, 5, 5] args.toList ds p := hA
  obtain ⟨v0, vs0, d0, ds0, q0, m0, y0, e0, rfl, t0, h0⟩ := trodAll_split1 hA
  obtain ⟨v1, vs1, d1, ds1, q1, m1, y1, e1, rfl, t1, h1⟩ := trodAll_split1 h0
  obtain ⟨v2, vs2, d2, ds2, q2, m2, y2, e2, rfl, t2, h2⟩ := trodAll_split1 h1
  obtain ⟨v3, vs3, d3, ds3, q3, m3, y3, e3, rfl, t3, h3⟩ := trodAll_split1 h2
  obtain ⟨e4, rfl⟩ := trodAll_split0 h3
  have ea : args = [v0, v1, v2, v3].toArray := by apply Array.toList_inj.1; rw [e0, e1, e2, e3, e4]
  subst ea
  obtain ⟨b0, c0, rfl, rfl, hx0⟩ := arg_struct Try.underlying23 @rdr_small (hval 0 23 v0 rfl rfl) t0
  obtain ⟨x1, rfl⟩ := arg_u8 (hval 1 5 v1 rfl rfl) t1
  obtain ⟨x2, rfl⟩ := arg_u8 (hval 2 5 v2 rfl rfl) t2
  obtain ⟨x3, rfl⟩ := arg_u8 (hval 3 5 v3 rfl rfl) t3
  refine (same_spec b0 x1 x2 x3 [Old W] W (fun _ _ => trivial) (sat_old W)).mono fun e W' he => ?_
  obtain ⟨hev, ⟨_, _, rfl, hs⟩ | ⟨_, hf, _⟩⟩ := he
  · exact ⟨_, rfl, law_post Try.laidOut rfl hW' rfl Try.underlying4 (by decide +kernel) (by cases gs <;> first | rfl | exact False.elim hV) (Sat.below hev hs)⟩
  · exact hf.elim

set_option maxRecDepth 100000 in
theorem arraySame_holds : Rows.ArraySameSaid :=
  OpenClaim.holds_of_wide 6 Try.f6 rfl rfl rfl rfl rfl rfl rfl ⟨rfl, rfl, rfl, rfl, rfl⟩ rfl rfl rfl rfl rfl (by kernel_rfl) Try.func6 (Try.joined (by kernel_rfl))
    (of_decide_eq_true (by kernel_rfl)) (by unfold Func.isWrapper; first | (rw [if_pos (by decide +kernel)]; kernel_rfl) | (rw [if_neg (by decide +kernel)]; exact ⟨rfl, rfl⟩))
    (fun os started H enc _ => arraySame_lifted os started H enc)
#print axioms arraySame_holds
end Go.Proofs.Ytapgejjjgeiihaa
