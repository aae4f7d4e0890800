/- DiskSizes: as many sectors, of as many bytes, as one likes; below none. -/
import Derived.Test.YtapgejjjgeiihaaD04
import Derived.Test.YtapgejjjgeiihaaFin
namespace Go.Proofs.Ytapgejjjgeiihaa
open Go Go.Sl
attribute [local irreducible] Yl WL WC WQ WD

set_option maxHeartbeats 1000000 in
theorem sizes_spec (sectors size i : Int) (h1 : -128 ≤ sectors ∧ sectors ≤ 127) (h2 : -128 ≤ size ∧ size ≤ 127) :
    Spec0 Try.prog 11 [.int .i8 sectors, .int .i8 size, vi i] (fun _ => True) (fun F => F) (fun _ : Unit => True) (fun _ => .bool true) (fun _ F => F) := by
  (refine spec_of Try.func11 rfl Try.ntmps11 rfl (fun F w0 hrd => ?_))
  refine walk ?_
  refine call (awake04_spec) ?_
  intro _ _
  refine walk ?_
  refine call (pnew_spec (-1)) ?_
  intro p _
  refine walk ?_
  refine call (dnew_spec p sectors size (by omega) (by omega)) ?_
  intro d _
  refine walk ?_
  have hon : (Dsk.blank (max sectors 0).toNat (max size 0)).on.length = (max sectors 0).toNat := by simp [Dsk.blank]
  have hsec : (Dsk.blank (max sectors 0).toNat (max size 0)).sectors = max sectors 0 := by unfold Dsk.sectors; rw [hon]; omega
  by_cases hi : 0 ≤ i ∧ i < max sectors 0
  · have hsee : (Dsk.blank (max sectors 0).toNat (max size 0)).see i = List.replicate (max size 0).toNat 0 := by
      have : i.toNat < (max sectors 0).toNat := by omega
      simp [Dsk.see, Dsk.blank, mget, List.getD, List.getElem?_replicate, this]
    refine call ((dread_spec d p (Dsk.blank (max sectors 0).toNat (max size 0), ⟨0, -1⟩) i).sure _ _ (dread_fine ⟨rfl, rfl, rfl⟩ (by rw [hon]; omega))) ?_
    intro b _
    dsimp only
    rw [hsee]
    refine walk ?_
    refine call (sectors_spec d p _) ?_
    intro _ _
    rw [hsec]
    refine walk ?_
    refine wif_dec (fun h => (h rfl).elim) (fun _ => ?_)
    refine walk ?_
    refine wif_dec (fun h => by exfalso; omega) (fun _ => ?_)
    refine walk ?_
    refine wif_dec (fun h => by exfalso; omega) (fun _ => ?_)
    refine walk ?_
    refine wq_ret1 rfl rfl () ?_ trivial perm
    simp
  · refine call ((dread_spec d p (Dsk.blank (max sectors 0).toNat (max size 0), ⟨0, -1⟩) i).sure _ _ (dread_none (by rw [hon]; omega))) ?_
    intro b _
    dsimp only
    refine walk ?_
    refine call (sectors_spec d p _) ?_
    intro _ _
    rw [hsec]
    refine walk ?_
    refine wif_dec (fun h => (h rfl).elim) (fun _ => ?_)
    refine walk ?_
    (first | (refine wif_cut 4 38 (.bool true) (fun K => ?_) ?_; refine wif_dec (fun hc => ?_) (fun hc => ?_); (iterate 4 ((first | (refine wl_guard_yes rfl rfl rfl ?_; refine wl_ya ?_) | (refine wl_guard_no rfl rfl rfl rfl rfl ?_) | (refine wl_ya ?_)))); exact K true _ _ rfl (by (repeat (first | exact trivial | refine And.intro (by first | exact trivial | rfl) ?_))) (by simp [hc]) (by first | rfl | (simp; done) | (simp; omega) | (simp [*]; done) | (simp [*]; omega)); (iterate 4 ((first | (refine wl_guard_yes rfl rfl rfl ?_; refine wl_ya ?_) | (refine wl_guard_no rfl rfl rfl rfl rfl ?_) | (refine wl_ya ?_)))); exact K false _ _ rfl (by (repeat (first | exact trivial | refine And.intro (by first | exact trivial | rfl) ?_))) (by simp [hc]) (by first | rfl | (simp; done) | (simp; omega) | (simp [*]; done) | (simp [*]; omega)); try (refine wl_nil ?_)) | (refine wif_cutn 4 38 (.bool true) (fun K => ?_) ?_; refine wif_dec (fun hc => ?_) (fun hc => ?_); (iterate 4 ((first | (refine wl_guard_yes rfl rfl rfl ?_; refine wl_ya ?_) | (refine wl_guard_no rfl rfl rfl rfl rfl ?_) | (refine wl_ya ?_)))); exact K false _ _ rfl (by (repeat (first | exact trivial | refine And.intro (by first | exact trivial | rfl) ?_))) (by simp [hc]) (by first | rfl | (simp; done) | (simp; omega) | (simp [*]; done) | (simp [*]; omega)); (iterate 4 ((first | (refine wl_guard_yes rfl rfl rfl ?_; refine wl_ya ?_) | (refine wl_guard_no rfl rfl rfl rfl rfl ?_) | (refine wl_ya ?_)))); exact K true _ _ rfl (by (repeat (first | exact trivial | refine And.intro (by first | exact trivial | rfl) ?_))) (by simp [hc]) (by first | rfl | (simp; done) | (simp; omega) | (simp [*]; done) | (simp [*]; omega)); try (refine wl_nil ?_)))
    refine walk ?_
    exact wq_ret1 rfl rfl () rfl trivial perm
set_option maxRecDepth 100000 in
open Go.RowKit Go.ChangeShapes Go.WideShapes in
theorem diskSizes_lifted (os : Os) (started : os.Started) (H : Type) (enc : TypeId × Value → H) :
    ReturnsInHanded {} Try.checked os 11 .any (Rows.diskSizesSpec.pre6 enc Try.prog Try.f11 Rows.diskSizesRow.domain false) (Rows.diskSizesSpec.post enc Try.prog Try.f11 false true false false) := by
  refine returnsInHanded_of_change (C := Try.checked) Try.own started (by kernel_rfl) Try.func11
    (ChangeSpec.witness6 (enc := enc) (C := Try.checked) false ⟨#[], #[.int .i8 0, .int .i8 0, .int .i64 0], []⟩ 8 (by kernel_rfl) (by kernel_rfl) (by kernel_rfl) (by kernel_rfl)) ?_
  intro W base args ds gs before hval0 hW hcnd _
  rw [Try.same] at hval0 hW hcnd ⊢
  have hval := hval0
  have hW' := hW
  obtain ⟨p, q, hA, hV, rfl, hfz, hnd⟩ := hW
  have hA : DataW.TrodAll enc Try.prog W 0 (fun _ => true) true [63, 63, 3] args.toList ds p := hA
  obtain ⟨v0, vs0, d0, ds0, q0, n0, x0, e0, rfl, t0, h0⟩ := trodAll_split1 hA
  obtain ⟨v1, vs1, d1, ds1, q1, n1, x1, e1, rfl, t1, h1⟩ := trodAll_split1 h0
  obtain ⟨v2, vs2, d2, ds2, q2, n2, x2, e2, rfl, t2, h2⟩ := trodAll_split1 h1
  obtain ⟨e3, rfl⟩ := trodAll_split0 h2
  have ea : args = [v0, v1, v2].toArray := by apply Array.toList_inj.1; rw [e0, e1, e2, e3]
  subst ea
  obtain ⟨a, rfl, ha⟩ := arg_int (hval 0 63 v0 rfl rfl) t0
  obtain ⟨b, rfl, hb⟩ := arg_int (hval 1 63 v1 rfl rfl) t1
  obtain ⟨c, rfl, hc⟩ := arg_int (hval 2 3 v2 rfl rfl) t2
  refine (sizes_spec a b c ha hb [Old W] W (fun h hs => trivial) (sat_old W)).mono fun e W' he => ?_
  obtain ⟨hev, ⟨_, _, rfl, hs⟩ | ⟨_, hf, _⟩⟩ := he
  · exact ⟨_, rfl, law_post Try.laidOut rfl hW' rfl Try.underlying4 (by decide +kernel) (by cases gs <;> first | rfl | exact False.elim hV) (Sat.below hev hs)⟩
  · exact hf.elim

set_option maxRecDepth 100000 in
theorem diskSizes_holds : Rows.DiskSizesSaid :=
  OpenClaim.holds_of_wide 11 Try.f11 rfl rfl rfl rfl rfl rfl rfl ⟨rfl, rfl, rfl, rfl, rfl⟩ rfl rfl rfl rfl rfl (by kernel_rfl) Try.func11 (Try.joined (by kernel_rfl))
    (of_decide_eq_true (by kernel_rfl)) (by unfold Func.isWrapper; first | (rw [if_pos (by decide +kernel)]; kernel_rfl) | (rw [if_neg (by decide +kernel)]; exact ⟨rfl, rfl⟩))
    (fun os started H enc _ => diskSizes_lifted os started H enc)
#print axioms diskSizes_holds
end Go.Proofs.Ytapgejjjgeiihaa
