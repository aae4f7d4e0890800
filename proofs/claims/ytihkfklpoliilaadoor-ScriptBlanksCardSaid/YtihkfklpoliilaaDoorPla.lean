/- May a text stand between quotation marks? -/
import Derived.Test.YtihkfklpoliilaaDoorPl
namespace Go.Proofs.YtihkfklpoliilaaDoor
open Go Go.Sl
attribute [local irreducible] Yl WL WC WQ WD
set_option maxHeartbeats 4000000 in
theorem plain_spec (s : Bytes) (hl : s.length ≤ 281474976710656) :
    Spec0 Tryd.prog 21 [vs s] Tabs (fun F => F) (fun _ : Unit => True) (fun _ => .bool (plainB s)) (fun _ F => F) := by
  (refine spec_of Tryd.func21 rfl Tryd.ntmps21 rfl (fun F w0 hrd => ?_))
  haveI : ReadIn F Tabs := ⟨hrd⟩
  refine walk ?_
  intro c
  refine walk ?_
  refine wc_loop (X := Nat) (fun y => [(0, vs s), (8, vp c)]) (fun y => Blk c (.stringIter ⟨s.toArray⟩ y) :: F)
    (fun y => y ≤ s.length ∧ plainB s = plainB (s.drop y)) (fun y => s.length - y) 0 ⟨Nat.zero_le _, rfl⟩ envs Ent.refl (fun p hy => ?_)
  obtain ⟨h1, h2⟩ := hy
  refine wc_seq ?_
  refine wc_region ?_
  refine wl_nextV rfl rfl (fun hp => ?_) (fun hp => ?_)
  · have hd : s.drop p = [] := List.drop_eq_nil_of_le (by omega)
    rw [hd] at h2
    refine walk ?_
    refine wq_ret1 rfl rfl () ?_ trivial perm
    rw [h2]; rfl
  · have hne : s.drop p ≠ [] := by intro h; have := congrArg List.length h; rw [List.length_drop] at this; simp at this; omega
    obtain ⟨d1, d2, d3⟩ := dec_ok (s.drop p) hne
    rw [List.length_drop] at d3
    rw [decode_drop]
    generalize hq : dec (s.drop p) = q at *
    obtain ⟨r, wd⟩ := q
    dsimp only at d1 d2 d3 ⊢
    have hcons : ¬ ((dec (s.drop p)).1 = 65533 ∧ (dec (s.drop p)).2 = 1) → (r = 34 ∨ r = 10) → plainB (s.drop p) = false := fun hb hr => by
      unfold plainB
      rw [runesOf_cons _ hne hb, hq]
      dsimp only
      rw [List.all_cons, show isQ r = false by simp [isQ]; omega, Bool.false_and, Bool.and_false]
    refine walk ?_
    refine wif_dec (fun he => ?_) (fun he => ?_)
    · have hpl : plainB (s.drop p) = false := hcons (by rw [hq]; dsimp only; omega) (by omega)
      refine walk ?_
      refine wq_ret1 rfl rfl () ?_ trivial perm
      rw [h2, hpl]
    refine walk ?_
    refine wif_dec (fun he2 => ?_) (fun he2 => ?_)
    · have hpl : plainB (s.drop p) = false := hcons (by rw [hq]; dsimp only; omega) (by omega)
      refine walk ?_
      refine wq_ret1 rfl rfl () ?_ trivial perm
      rw [h2, hpl]
    refine walk ?_
    refine call (decode_spec (s.drop p)) ?_
    intro _ _
    rw [decodeGo_eq _ hne, hq]
    dsimp only
    refine walk ?_
    refine wif_dec (fun he3 => ?_) (fun he3 => ?_)
    · refine walk ?_
      refine wif_dec (fun hw => ?_) (fun hw => ?_)
      · have hbad : (dec (s.drop p)).1 = 65533 ∧ (dec (s.drop p)).2 = 1 := by rw [hq]; exact ⟨by dsimp only; omega, by dsimp only; omega⟩
        have hpl : plainB (s.drop p) = false := by unfold plainB; rw [runesOf_bad _ hne hbad]; rfl
        refine walk ?_
        refine wq_ret1 rfl rfl () ?_ trivial perm
        rw [h2, hpl]
      · have hbad : ¬ ((dec (s.drop p)).1 = 65533 ∧ (dec (s.drop p)).2 = 1) := by rw [hq]; dsimp only; omega
        · have hpl : plainB (s.drop p) = plainB (s.drop (p + wd)) := by
            unfold plainB
            rw [runesOf_cons _ hne hbad, hq, List.drop_drop]
            dsimp only
            rw [List.all_cons, show isQ r = true by simp [isQ]; omega, Bool.true_and]
          refine walk ?_
          exact wq_round (p + wd) ⟨by omega, by rw [h2, hpl]⟩ (by omega) envs perm
    · have hbad : ¬ ((dec (s.drop p)).1 = 65533 ∧ (dec (s.drop p)).2 = 1) := by rw [hq]; dsimp only; omega
      · have hpl : plainB (s.drop p) = plainB (s.drop (p + wd)) := by
          unfold plainB
          rw [runesOf_cons _ hne hbad, hq, List.drop_drop]
          dsimp only
          rw [List.all_cons, show isQ r = true by simp [isQ]; omega, Bool.true_and]
        refine walk ?_
        exact wq_round (p + wd) ⟨by omega, by rw [h2, hpl]⟩ (by omega) envs perm
end Go.Proofs.YtihkfklpoliilaaDoor
