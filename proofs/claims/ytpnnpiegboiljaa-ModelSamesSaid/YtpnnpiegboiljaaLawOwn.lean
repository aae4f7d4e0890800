/- ModelOwn: a model shares nothing with what was handed in, or answered. -/
import Derived.Test.YtpnnpiegboiljaaMod
import Derived.Test.YtpnnpiegboiljaaRows
namespace Go.Proofs.Ytpnnpiegboiljaa
open Go Go.Sl
attribute [local irreducible] Yl WL WC WQ WD
set_option maxHeartbeats 4000000 in
theorem awake_spec : Spec0 Try.prog 6 [] (fun _ => True) (fun F => F) (fun _ : Unit => True) (fun _ => .bool true) (fun _ F => F) := by
  (refine spec_of Try.func6 rfl Try.ntmps6 rfl (fun F w0 hrd => ?_))
  refine walk ?_
  refine call (new_spec _ _) ?_
  intro p _
  refine walk ?_
  intro v _ _
  refine walk ?_
  refine call (write_spec _ _ _ _ _ v [1] (fun _ => by decide)) ?_
  intro _ _
  refine walk ?_
  refine call (trim_spec _ _ _ _ _) ?_
  intro _ _
  refine walk ?_
  refine call (mapped_spec _ _ _ _) ?_
  intro _ _
  refine walk ?_
  refine call (mlen_spec _ _ _ _) ?_
  intro _ _
  refine walk ?_
  exact wq_ret1 rfl rfl () rfl trivial ent

theorem mwrite_or (n size : Int) (m : IMap Bytes) (i : Int) (b : Bytes) : mwrite n size m i b = mset m i b ∨ mwrite n size m i b = m := by
  unfold mwrite
  split
  · exact .inl rfl
  · exact .inr rfl
set_option maxHeartbeats 4000000 in
theorem own_spec (v : Value) (b : Bytes) (x : UInt8) (hb : b.length ≤ 9223372036854775807) :
    Spec0 Try.prog 4 [v, vb x] (Rd v 1 (b.map vb)) (fun F => F) (fun _ : Unit => True) (fun _ => .bool true) (fun _ F => F) := by
  (refine spec_of Try.func4 rfl Try.ntmps4 rfl (fun F w0 hrd => ?_))
  haveI : RdIn F v 1 (b.map vb) := ⟨hrd⟩
  refine walk ?_
  refine call (awake_spec) ?_
  intro _ _
  refine walk ?_
  refine wif_dec (fun hc => ?_) (fun hc => ?_) <;> refine walk ?_
  · exact wq_ret1 rfl rfl () rfl trivial ent
  refine call (new_spec _ _) ?_
  intro p _
  refine walk ?_
  refine call (clone_spec v b (by omega)) ?_
  intro c _
  refine walk ?_
  refine call (write_spec _ _ _ _ _ c b (fun _ => by omega)) ?_
  intro _ _
  refine walk ?_
  refine wif_dec (fun _ => ?_) (fun hc => by exfalso; omega)
  refine walk ?_
  refine wc_loop (X := Nat × Bytes) (fun y => [(0, v), (1, vb x), (5, vp p), (6, c), (25, vi b.length), (26, vi y.1)])
    (fun y => ModAt p (max 1 0) (min (max b.length 0) 65536) (mwrite (max 1 0) (min (max b.length 0) 65536) [] 0 b) :: SlB c y.2 :: F)
    (fun y => y.1 ≤ b.length ∧ y.2.length = b.length) (fun y => b.length - y.1) (0, b) ⟨by simp, rfl⟩ envs Ent.refl (fun y hy => ?_)
  obtain ⟨k, cs⟩ := y
  dsimp only at hy ⊢
  obtain ⟨hk, hcs⟩ := hy
  refine walk ?_
  refine wif_dec (fun hlt => ?_) (fun hlt => ?_) <;> refine walk ?_
  · exact wq_round (k + 1, cs.set k x) ⟨by dsimp only; omega, by simpa using hcs⟩ (by dsimp only; omega) envs ent
  have hm : ∀ j u, mget (mwrite (max 1 0) (min (max b.length 0) 65536) [] 0 b) j = some u → u.length ≤ 1099511627776 := by
    intro j u hu
    have h1 := mwrite_or (max 1 0) (min (max b.length 0) 65536) [] 0 b
    rcases h1 with h1 | h1
    · rw [h1, mget_mset] at hu
      by_cases hj : j = 0
      · rw [if_pos hj] at hu; rw [← Option.some.inj hu]; omega
      · rw [if_neg hj] at hu; cases hu
    · rw [h1] at hu; cases hu
  have hread : mread (max 1 0) (min (max b.length 0) 65536) (mwrite (max 1 0) (min (max b.length 0) 65536) [] 0 b) 0 = b := by
    unfold mread mwrite
    rw [if_pos (by omega), if_pos (by omega)]
    simp [mset, mget]
  refine call (read_spec p _ (min (max b.length 0) 65536) _ _ (by omega) hm) ?_
  rw [hread]
  intro d _
  refine walk ?_
  refine wc_loop (X := Nat × Bytes) (fun y => [(0, v), (1, vb x), (5, vp p), (8, d), (37, vi b.length), (38, vi y.1)])
    (fun y => ModAt p (max 1 0) (min (max b.length 0) 65536) (mwrite (max 1 0) (min (max b.length 0) 65536) [] 0 b) :: SlB d y.2 :: F)
    (fun y => y.1 ≤ b.length ∧ y.2.length = b.length) (fun y => b.length - y.1) (0, b) ⟨by simp, rfl⟩ envs ent (fun y hy => ?_)
  obtain ⟨k, cs⟩ := y
  dsimp only at hy ⊢
  obtain ⟨hk, hcs⟩ := hy
  refine walk ?_
  refine wif_dec (fun hlt => ?_) (fun hlt => ?_) <;> refine walk ?_
  · exact wq_round (k + 1, cs.set k x) ⟨by dsimp only; omega, by simpa using hcs⟩ (by dsimp only; omega) envs ent
  refine call (read_spec p _ (min (max b.length 0) 65536) _ _ (by omega) hm) ?_
  rw [hread]
  intro e _
  refine walk ?_
  refine call (equal_spec e v b b (by omega)) ?_
  intro _ _
  refine walk ?_
  exact wq_ret1 rfl rfl () (by simp) trivial ent

theorem Try.own : ownKnob Try.prog.godebug = none := by kernel_rfl
theorem Try.laidOut : laidOutB Try.prog = true := by kernel_rfl

open Go.RowKit Go.ChangeShapes Go.WideShapes in
theorem modelOwn_lifted (os : Os) (started : os.Started) (H : Type) (enc : TypeId × Value → H) :
    ReturnsInHanded {} Try.checked os 4 .any (Rows.modelOwnSpec.pre6 enc Try.prog Try.f4 Rows.modelOwnRow.domain false) (Rows.modelOwnSpec.post enc Try.prog Try.f4 false true false false) := by
  refine returnsInHanded_of_change (C := Try.checked) Try.own started (by kernel_rfl) Try.func4
    (ChangeSpec.witness6 (enc := enc) (C := Try.checked) false ⟨#[], #[.slice none 0 0, .int .u8 0], []⟩ 8 (by kernel_rfl) (by kernel_rfl) (by kernel_rfl) (by kernel_rfl)) ?_
  intro W base args ds gs before hval0 hW hcnd _
  have hval : ∀ (j : Nat) t v, Try.f4.params[j]? = some t → args[j]? = some v → Value.okWide Try.prog W .any base t v := hval0
  have hW' := hW
  obtain ⟨p, q, hA, hV, rfl, hfz, hnd⟩ := hW
  have hA : DataW.TrodAll enc Try.prog W 0 (fun _ => true) true [28, 5] args.toList ds p := hA
  obtain ⟨v0, vs0, d0, ds0, q0, n0, x0, e0, rfl, t0, h0⟩ := trodAll_split1 hA
  obtain ⟨v1, vs1, d1, ds1, q1, n1, x1, e1, rfl, t1, h1⟩ := trodAll_split1 h0
  obtain ⟨e2, rfl⟩ := trodAll_split0 h1
  have ea : args = [v0, v1].toArray := by apply Array.toList_inj.1; rw [e0, e1, e2]
  subst ea
  obtain ⟨b, w0, e3, hr, hb⟩ := arg_slice (@rdr_bytes Try.prog 28 5 _ _ (by kernel_rfl)) (hval 0 28 v0 rfl rfl) t0
  obtain rfl : v0 = w0 := by simpa using e3
  obtain ⟨x, rfl⟩ := arg_u8 (hval 1 5 v1 rfl rfl) t1
  refine (own_spec v0 b x hb [Old W] W (fun h hs => (Old.rd hr).rd h hs) (sat_old W)).mono fun e W' he => ?_
  obtain ⟨hev, ⟨_, _, rfl, hs⟩ | ⟨_, hf, _⟩⟩ := he
  · exact ⟨_, rfl, law_post Try.laidOut rfl hW' rfl Try.underlying4 (by decide +kernel) (by cases gs <;> first | rfl | exact False.elim hV) (Sat.below hev hs)⟩
  · exact hf.elim

theorem modelOwn_holds : Rows.ModelOwnSaid :=
  OpenClaim.holds_of_wide 4 Try.f4 rfl rfl rfl rfl rfl rfl rfl ⟨rfl, rfl, rfl, rfl, rfl⟩ rfl rfl rfl rfl rfl (by kernel_rfl) Try.func4 (by kernel_rfl)
    (of_decide_eq_true (by kernel_rfl)) (by unfold Func.isWrapper; first | (rw [if_pos (by decide +kernel)]; kernel_rfl) | (rw [if_neg (by decide +kernel)]; exact ⟨rfl, rfl⟩))
    (fun os started H enc _ => modelOwn_lifted os started H enc)
#print axioms modelOwn_holds
end Go.Proofs.Ytpnnpiegboiljaa
