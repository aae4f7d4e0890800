/- DiskOwn: a sector shares nothing with what was handed in, or answered. -/
import Derived.Test.YtapgejjjgeiihaaD04
import Derived.Test.YtapgejjjgeiihaaFin
namespace Go.Proofs.Ytapgejjjgeiihaa
open Go Go.Sl
attribute [local irreducible] Yl WL WC WQ WD

theorem see_put {d : Dsk} (i : Int) (b : Bytes) : (d.put i b).see i = b := by
  simp [Dsk.see, Dsk.put, mget_mset]
theorem on_put (d : Dsk) (i : Int) (b : Bytes) : (d.put i b).on = d.on := rfl
theorem settle_len (d : Dsk) (k : Int → Bool) : (d.settle k).on.length = d.on.length := by simp [Dsk.settle]
theorem see_settle {d : Dsk} {i : Int} (h : 0 ≤ i ∧ i < d.on.length) : (d.settle (fun _ => true)).see i = d.see i := by
  have h1 : i.toNat < d.on.length := by omega
  have h2 : ((i.toNat : Nat) : Int) = i := by omega
  simp [Dsk.see, Dsk.settle, mget, List.getD, h1, h2]

set_option maxHeartbeats 2000000 in
theorem down_spec (v : Value) (b : Bytes) (x : UInt8) (fl : Bool) (hb : b.length ≤ 9223372036854775807) :
    Spec0 Try.prog 13 [v, vb x, .bool fl] (Rd v 1 (b.map vb)) (fun F => F) (fun _ : Unit => True) (fun _ => .bool true) (fun _ F => F) := by
  (refine spec_of Try.func13 rfl Try.ntmps13 rfl (fun F w0 hrd => ?_))
  haveI : RdIn F v 1 (b.map vb) := ⟨hrd⟩
  refine walk ?_
  refine call (awake04_spec) ?_
  intro _ _
  refine walk ?_
  refine wif_dec (fun hc => ?_) (fun hc => ?_) <;> refine walk ?_
  · exact wq_ret1 rfl rfl () rfl trivial perm
  have hb2 : b.length ≤ 200 := by omega
  refine call (pnew_spec (-1)) ?_
  intro p _
  refine walk ?_
  refine call (dnew_spec p 1 b.length (by omega) (by omega)) ?_
  intro d _
  rw [show (max (1 : Int) 0).toNat = 1 from rfl, show max (b.length : Int) 0 = b.length from by omega]
  refine walk ?_
  refine call (clone_spec v b (by omega)) ?_
  intro c _
  refine walk ?_
  refine call ((dwrite_spec d p (Dsk.blank 1 b.length, ⟨0, -1⟩) 0 c b).sure _ _ (dwrite_fine ⟨rfl, rfl, rfl⟩ (by simp [Dsk.blank]) rfl)) ?_
  intro _ _
  dsimp only
  have hf1 : Fine ((Dsk.blank 1 b.length).put 0 b, (⟨0, -1⟩ : Sl.Pow).more) := ⟨rfl, rfl, rfl⟩
  have hs1 : ((Dsk.blank 1 b.length).put 0 b).see 0 = b := see_put 0 b
  have hl1 : ((Dsk.blank 1 b.length).put 0 b).on.length = 1 := by simp [Dsk.put, Dsk.blank]
  generalize (Dsk.blank 1 b.length).put 0 b = d1 at *
  generalize (⟨0, -1⟩ : Sl.Pow).more = q1 at *
  refine walk ?_
  refine WIf.both (fun hf => ?_) (fun hf => ?_)
  · refine walk ?_
    refine call ((dflush_spec d p (d1, q1)).sure _ _ (dflush_fine hf1)) ?_
    intro _ _
    dsimp only
    have hf2 : Fine (d1.settle (fun _ => true), q1.more) := (hf1.settle (fun _ => true)).more
    have hs2 : (d1.settle (fun _ => true)).see 0 = b := by rw [see_settle (by omega)]; exact hs1
    have hl2 : (d1.settle (fun _ => true)).on.length = 1 := by rw [settle_len]; exact hl1
    generalize d1.settle (fun _ => true) = d2 at *
    generalize q1.more = q2 at *
    refine walk ?_
    try (refine wif_dec (fun h => (h rfl).elim) (fun _ => ?_); refine walk ?_)
    refine wc_loop (X := Nat × Bytes) (fun y => [(0, v), (1, vb x), (6, .bool false), (7, vp d), (8, c), (37, c), (38, vi b.length), (39, vi y.1)])
      (fun y => SlB c y.2 :: DiskAt d p d2 :: PowAt p q2 :: F) (fun y => y.1 ≤ b.length ∧ y.2.length = b.length) (fun y => b.length - y.1) (0, b) ⟨by simp, rfl⟩ envs perm (fun y hy => ?_)
    obtain ⟨k, y⟩ := y
    dsimp only at hy ⊢
    obtain ⟨hk, hyl⟩ := hy
    refine walk ?_
    refine wif_dec (fun hlt => ?_) (fun hlt => ?_)
    · refine walk ?_
      exact wq_round (k + 1, y.set k x) ⟨by dsimp only; omega, by simpa using hyl⟩ (by dsimp only; omega) envs perm
    refine walk ?_
    refine call ((dread_spec d p (d2, q2) 0).sure _ _ (dread_fine hf2 (by dsimp only; omega))) ?_
    rw [hs2]
    intro g _
    dsimp only
    have hf3 := hf2.more
    generalize (d2, q2).2.more = q3 at *
    refine walk ?_
    refine wc_loop (X := Nat × Bytes) (fun y => [(0, v), (1, vb x), (6, .bool false), (7, vp d), (8, c), (10, g), (52, g), (53, vi b.length), (54, vi y.1)])
      (fun y => SlB g y.2 :: DiskAt d p d2 :: PowAt p q3 :: F) (fun y => y.1 ≤ b.length ∧ y.2.length = b.length) (fun y => b.length - y.1) (0, b) ⟨by simp, rfl⟩ envs perm (fun y hy => ?_)
    obtain ⟨k, y⟩ := y
    dsimp only at hy ⊢
    obtain ⟨hk, hyl⟩ := hy
    refine walk ?_
    refine wif_dec (fun hlt => ?_) (fun hlt => ?_)
    · refine walk ?_
      exact wq_round (k + 1, y.set k x) ⟨by dsimp only; omega, by simpa using hyl⟩ (by dsimp only; omega) envs perm
    refine walk ?_
    refine call ((dread_spec d p (d2, q3) 0).sure _ _ (dread_fine hf3 (by dsimp only; omega))) ?_
    rw [hs2]
    intro g2 _
    dsimp only
    refine walk ?_
    refine call (equal_spec g2 v b b (by omega)) ?_
    intro _ _
    refine walk ?_
    exact wq_ret1 rfl rfl () (by simp) trivial perm
  · have hf2 := hf1
    have hs2 := hs1
    have hl2 := hl1
    generalize d1 = d2 at *
    generalize q1 = q2 at *
    refine walk ?_
    try (refine wif_dec (fun h => (h rfl).elim) (fun _ => ?_); refine walk ?_)
    refine wc_loop (X := Nat × Bytes) (fun y => [(0, v), (1, vb x), (6, .bool false), (7, vp d), (8, c), (37, c), (38, vi b.length), (39, vi y.1)])
      (fun y => SlB c y.2 :: DiskAt d p d2 :: PowAt p q2 :: F) (fun y => y.1 ≤ b.length ∧ y.2.length = b.length) (fun y => b.length - y.1) (0, b) ⟨by simp, rfl⟩ envs perm (fun y hy => ?_)
    obtain ⟨k, y⟩ := y
    dsimp only at hy ⊢
    obtain ⟨hk, hyl⟩ := hy
    refine walk ?_
    refine wif_dec (fun hlt => ?_) (fun hlt => ?_)
    · refine walk ?_
      exact wq_round (k + 1, y.set k x) ⟨by dsimp only; omega, by simpa using hyl⟩ (by dsimp only; omega) envs perm
    refine walk ?_
    refine call ((dread_spec d p (d2, q2) 0).sure _ _ (dread_fine hf2 (by dsimp only; omega))) ?_
    rw [hs2]
    intro g _
    dsimp only
    have hf3 := hf2.more
    generalize (d2, q2).2.more = q3 at *
    refine walk ?_
    refine wc_loop (X := Nat × Bytes) (fun y => [(0, v), (1, vb x), (6, .bool false), (7, vp d), (8, c), (10, g), (52, g), (53, vi b.length), (54, vi y.1)])
      (fun y => SlB g y.2 :: DiskAt d p d2 :: PowAt p q3 :: F) (fun y => y.1 ≤ b.length ∧ y.2.length = b.length) (fun y => b.length - y.1) (0, b) ⟨by simp, rfl⟩ envs perm (fun y hy => ?_)
    obtain ⟨k, y⟩ := y
    dsimp only at hy ⊢
    obtain ⟨hk, hyl⟩ := hy
    refine walk ?_
    refine wif_dec (fun hlt => ?_) (fun hlt => ?_)
    · refine walk ?_
      exact wq_round (k + 1, y.set k x) ⟨by dsimp only; omega, by simpa using hyl⟩ (by dsimp only; omega) envs perm
    refine walk ?_
    refine call ((dread_spec d p (d2, q3) 0).sure _ _ (dread_fine hf3 (by dsimp only; omega))) ?_
    rw [hs2]
    intro g2 _
    dsimp only
    refine walk ?_
    refine call (equal_spec g2 v b b (by omega)) ?_
    intro _ _
    refine walk ?_
    exact wq_ret1 rfl rfl () (by simp) trivial perm

set_option maxRecDepth 100000 in
open Go.RowKit Go.ChangeShapes Go.WideShapes in
theorem diskOwn_lifted (os : Os) (started : os.Started) (H : Type) (enc : TypeId × Value → H) :
    ReturnsInHanded {} Try.checked os 13 .any (Rows.diskOwnSpec.pre6 enc Try.prog Try.f13 Rows.diskOwnRow.domain false) (Rows.diskOwnSpec.post enc Try.prog Try.f13 false true false false) := by
  refine returnsInHanded_of_change (C := Try.checked) Try.own started (by kernel_rfl) Try.func13
    (ChangeSpec.witness6 (enc := enc) (C := Try.checked) false ⟨#[], #[.slice none 0 0, .int .u8 0, .bool false], []⟩ 8 (by kernel_rfl) (by kernel_rfl) (by kernel_rfl) (by kernel_rfl)) ?_
  intro W base args ds gs before hval0 hW hcnd _
  rw [Try.same] at hval0 hW hcnd ⊢
  have hval : ∀ (j : Nat) t v, Try.f13.params[j]? = some t → args[j]? = some v → Value.okWide Try.prog W .any base t v := hval0
  have hW' := hW
  obtain ⟨p, q, hA, hV, rfl, hfz, hnd⟩ := hW
  have hA : DataW.TrodAll enc Try.prog W 0 (fun _ => true) true [41, 5, 4] args.toList ds p := hA
  obtain ⟨v0, vs0, d0, ds0, q0, m0, y0, e0, rfl, t0, h0⟩ := trodAll_split1 hA
  obtain ⟨v1, vs1, d1, ds1, q1, m1, y1, e1, rfl, t1, h1⟩ := trodAll_split1 h0
  obtain ⟨v2, vs2, d2, ds2, q2, m2, y2, e2, rfl, t2, h2⟩ := trodAll_split1 h1
  obtain ⟨e3, rfl⟩ := trodAll_split0 h2
  have ea : args = [v0, v1, v2].toArray := by apply Array.toList_inj.1; rw [e0, e1, e2, e3]
  subst ea
  obtain ⟨b0, w0, f0, hr0, hb0⟩ := arg_slice (@rdr_bytes Try.prog 41 5 _ _ (by kernel_rfl)) (hval 0 41 v0 rfl rfl) t0
  obtain rfl : v0 = w0 := by simpa using f0
  obtain ⟨x1, rfl⟩ := arg_u8 (hval 1 5 v1 rfl rfl) t1
  obtain ⟨x2, rfl⟩ := arg_bool (hval 2 4 v2 rfl rfl)
  refine (down_spec v0 b0 x1 x2 hb0 [Old W] W (fun h hs => (Old.rd hr0).rd h hs) (sat_old W)).mono fun e W' he => ?_
  obtain ⟨hev, ⟨_, _, rfl, hs⟩ | ⟨_, hf, _⟩⟩ := he
  · exact ⟨_, rfl, law_post Try.laidOut rfl hW' rfl Try.underlying4 (by decide +kernel) (by cases gs <;> first | rfl | exact False.elim hV) (Sat.below hev hs)⟩
  · exact hf.elim

set_option maxRecDepth 100000 in
theorem diskOwn_holds : Rows.DiskOwnSaid :=
  OpenClaim.holds_of_wide 13 Try.f13 rfl rfl rfl rfl rfl rfl rfl ⟨rfl, rfl, rfl, rfl, rfl⟩ rfl rfl rfl rfl rfl (by kernel_rfl) Try.func13 (Try.joined (by kernel_rfl))
    (of_decide_eq_true (by kernel_rfl)) (by unfold Func.isWrapper; first | (rw [if_pos (by decide +kernel)]; kernel_rfl) | (rw [if_neg (by decide +kernel)]; exact ⟨rfl, rfl⟩))
    (fun os started H enc _ => diskOwn_lifted os started H enc)
#print axioms diskOwn_holds
end Go.Proofs.Ytapgejjjgeiihaa
