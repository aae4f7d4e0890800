/- What lies where: each function of shapes. -/
import Derived.Test.YtapgejjjgeiihaaTab
import Derived.Test.YtapgejjjgeiihaaAm
import Derived.Test.YtapgejjjgeiihaaEng10
namespace Go.Proofs.Ytapgejjjgeiihaa
open Go Go.Sl
attribute [local irreducible] Yl WL WC WQ WD

abbrev Shp.cells (s : Shp) : List Value := [vi s.members, vi s.block, vi s.segments, vi s.stripes, vi s.nv, vi s.logical]
abbrev Shp.val (s : Shp) : Value := .agg [vi s.members, vi s.block, vi s.segments, vi s.stripes, vi s.nv, vi s.logical].toArray
structure Bounds (s : Shp) : Prop where
  slots : 1 ≤ s.slots ∧ s.slots ≤ 14
  all : 8 ≤ s.segments * s.stripes ∧ s.segments * s.stripes ≤ 1024
  most1 : 0 ≤ (s.segments - 3) * (s.stripes - 1) ∧ (s.segments - 3) * (s.stripes - 1) ≤ 915
  most : 0 ≤ (s.segments - 3) * (s.stripes - 1) * s.slots ∧ (s.segments - 3) * (s.stripes - 1) * s.slots ≤ 12810
  nvs : 0 ≤ s.stripes * s.slots ∧ s.stripes * s.slots ≤ 224
  image : 0 ≤ s.image ∧ s.image ≤ 51828
  page : 17 ≤ s.page ∧ s.page ≤ 497
  pages : 0 ≤ s.pages ∧ s.pages ≤ 60000
  logical : s.logical ≤ 12810
theorem bounds {s : Shp} (h : s.Ok) : Bounds s := by
  have hm := h.members
  have hg := h.segments
  have ht := h.stripes
  have hb := h.block
  have s1 : 1 ≤ s.slots ∧ s.slots ≤ 14 := by unfold Shp.slots; omega
  have a1 : s.segments * s.stripes ≤ 64 * 16 := Int.mul_le_mul hg.2 ht.2 (by omega) (by omega)
  have a2 : 4 * 2 ≤ s.segments * s.stripes := Int.mul_le_mul hg.1 ht.1 (by omega) (by omega)
  have m1 : (s.segments - 3) * (s.stripes - 1) ≤ 61 * 15 := Int.mul_le_mul (by omega) (by omega) (by omega) (by omega)
  have m2 : 0 ≤ (s.segments - 3) * (s.stripes - 1) := Int.mul_nonneg (by omega) (by omega)
  have m3 : (s.segments - 3) * (s.stripes - 1) * s.slots ≤ 915 * 14 := Int.mul_le_mul (by omega) (by omega) (by omega) (by omega)
  have m4 : 0 ≤ (s.segments - 3) * (s.stripes - 1) * s.slots := Int.mul_nonneg m2 (by omega)
  have n1 : s.stripes * s.slots ≤ 16 * 14 := Int.mul_le_mul (by omega) (by omega) (by omega) (by omega)
  have n2 : 0 ≤ s.stripes * s.slots := Int.mul_nonneg (by omega) (by omega)
  have hl : s.logical ≤ 12810 := by have := h.logical; unfold Shp.most at this; omega
  have i1 : 0 ≤ s.image ∧ s.image ≤ 51828 := by have := h.logical; unfold Shp.image; omega
  have p1 : 17 ≤ s.page ∧ s.page ≤ 497 := by unfold Shp.page; omega
  have q1 : 0 ≤ s.pages := by unfold Shp.pages; exact Int.ediv_nonneg (by omega) (by omega)
  have q2 : s.pages ≤ s.image + s.page - 1 := by unfold Shp.pages; exact Int.ediv_le_self _ (by omega)
  exact ⟨s1, by omega, by omega, by omega, by omega, i1, p1, by omega, hl⟩

section geom
variable (s : Shp) (h : s.Ok)
include h
theorem all_spec : Spec0 Try.prog 21 [Shp.val s] (fun _ => True) (fun F => F) (fun _ : Unit => True) (fun _ => vi s.all) (fun _ F => F) := by
  (refine spec_of Try.func21 rfl Try.ntmps21 rfl (fun F w0 hrd => ?_))
  have b := bounds h
  have b1 := b.all
  refine walk ?_
  intro p
  refine walk ?_
  exact wq_ret1 rfl rfl () rfl trivial perm
theorem slots_spec : Spec0 Try.prog 81 [Shp.val s] (fun _ => True) (fun F => F) (fun _ : Unit => True) (fun _ => vi s.slots) (fun _ F => F) := by
  (refine spec_of Try.func81 rfl Try.ntmps81 rfl (fun F w0 hrd => ?_))
  have b := h.members
  refine walk ?_
  intro p
  refine walk ?_
  exact wq_ret1 rfl rfl () rfl trivial perm
theorem note_spec : Spec0 Try.prog 95 [Shp.val s] (fun _ => True) (fun F => F) (fun _ : Unit => True) (fun _ => vi s.note) (fun _ F => F) := by
  (refine spec_of Try.func95 rfl Try.ntmps95 rfl (fun F w0 hrd => ?_))
  have b := (bounds h).slots
  refine walk ?_
  intro p
  refine walk ?_
  refine call (slots_spec s h) ?_
  intro _ _
  refine walk ?_
  exact wq_ret1 rfl rfl () rfl trivial perm
theorem most_spec : Spec0 Try.prog 96 [Shp.val s] (fun _ => True) (fun F => F) (fun _ : Unit => True) (fun _ => vi s.most) (fun _ F => F) := by
  (refine spec_of Try.func96 rfl Try.ntmps96 rfl (fun F w0 hrd => ?_))
  have b := bounds h
  have b1 := b.most1
  have b2 := b.most
  have b3 := h.segments
  have b4 := h.stripes
  refine walk ?_
  intro p
  refine walk ?_
  (refine draw ?_; refine dy 0 ?_; refine dy 1 ?_; refine dy 2 ?_; refine dy 3 ?_; refine dy 4 ?_; refine dy 5 ?_; refine dy 6 ?_; refine dy 7 ?_; refine ddo 8 ?_)
  refine call (slots_spec s h) ?_
  intro _ _
  (refine walk ?_; refine dy 9 ?_; refine dy 10 ?_; refine walk ?_)
  exact wq_ret1 rfl rfl () rfl trivial perm
theorem image_spec : Spec0 Try.prog 91 [Shp.val s] (fun _ => True) (fun F => F) (fun _ : Unit => True) (fun _ => vi s.image) (fun _ F => F) := by
  (refine spec_of Try.func91 rfl Try.ntmps91 rfl (fun F w0 hrd => ?_))
  have b1 := h.segments
  have b2 := h.logical
  have b3 := (bounds h).logical
  refine walk ?_
  intro p
  refine walk ?_
  exact wq_ret1 rfl rfl () rfl trivial perm
theorem page_spec : Spec0 Try.prog 92 [Shp.val s] (fun _ => True) (fun F => F) (fun _ : Unit => True) (fun _ => vi s.page) (fun _ F => F) := by
  (refine spec_of Try.func92 rfl Try.ntmps92 rfl (fun F w0 hrd => ?_))
  have b1 := h.block
  refine walk ?_
  intro p
  refine walk ?_
  exact wq_ret1 rfl rfl () rfl trivial perm
theorem pages_spec : Spec0 Try.prog 70 [Shp.val s] (fun _ => True) (fun F => F) (fun _ : Unit => True) (fun _ => vi s.pages) (fun _ F => F) := by
  (refine spec_of Try.func70 rfl Try.ntmps70 rfl (fun F w0 hrd => ?_))
  have b1 := (bounds h).image
  have b2 := (bounds h).page
  refine walk ?_
  intro p
  refine walk ?_
  (refine draw ?_; refine dy 0 ?_; refine dy 2 ?_; refine dy 6 ?_; refine ddo 1 ?_)
  refine call (image_spec s h) ?_
  intro _ _
  (refine walk ?_; refine ddo 3 ?_)
  refine call (page_spec s h) ?_
  intro _ _
  (refine walk ?_; refine dy 4 ?_; refine dy 5 ?_; refine ddo 7 ?_)
  refine call (page_spec s h) ?_
  intro _ _
  (refine walk ?_; refine dy 8 ?_; refine dy 9 ?_; refine walk ?_)
  exact wq_ret1 rfl rfl () rfl trivial perm
theorem gsectors_spec : Spec0 Try.prog 34 [Shp.val s] (fun _ => True) (fun F => F) (fun _ : Unit => True) (fun _ => vi s.sectors) (fun _ F => F) := by
  (refine spec_of Try.func34 rfl Try.ntmps34 rfl (fun F w0 hrd => ?_))
  have b := bounds h
  have b1 := b.pages
  have b2 := b.all
  refine walk ?_
  intro p
  refine walk ?_
  (refine draw ?_; refine dy 0 ?_; refine dy 4 ?_; refine ddo 1 ?_)
  refine call (pages_spec s h) ?_
  intro _ _
  (refine walk ?_; refine dy 2 ?_; refine dy 3 ?_; refine ddo 5 ?_)
  refine call (all_spec s h) ?_
  intro _ _
  have b3 : s.all ≤ 1024 := b2.2
  have b4 : 0 ≤ s.all := by have := b2.1; unfold Shp.all; omega
  (refine walk ?_; refine dy 6 ?_; refine dy 7 ?_; refine walk ?_)
  exact wq_ret1 rfl rfl () rfl trivial perm
theorem stripeAt_spec (t : Int) (ht : 0 ≤ t ∧ t ≤ 1099511627776) : Spec0 Try.prog 23 [Shp.val s, vi t] (fun _ => True) (fun F => F) (fun _ : Unit => True) (fun _ => vi (s.stripeAt t)) (fun _ F => F) := by
  (refine spec_of Try.func23 rfl Try.ntmps23 rfl (fun F w0 hrd => ?_))
  have b1 := (bounds h).pages
  refine walk ?_
  intro p
  refine walk ?_
  refine call (pages_spec s h) ?_
  intro _ _
  refine walk ?_
  exact wq_ret1 rfl rfl () rfl trivial perm
theorem parity_spec (t : Int) (ht : 0 ≤ t ∧ t ≤ 1099511627776) : Spec0 Try.prog 73 [Shp.val s, vi t] (fun _ => True) (fun F => F) (fun _ : Unit => True) (fun _ => vi (s.parity t)) (fun _ F => F) := by
  (refine spec_of Try.func73 rfl Try.ntmps73 rfl (fun F w0 hrd => ?_))
  have b1 := h.members
  refine walk ?_
  intro p
  refine walk ?_
  exact wq_ret1 rfl rfl () rfl trivial perm
theorem member_spec (t c : Int) (ht : 0 ≤ t ∧ t ≤ 1099511627776) (hc : 0 ≤ c ∧ c ≤ 1099511627776) : Spec0 Try.prog 26 [Shp.val s, vi t, vi c] (fun _ => True) (fun F => F) (fun _ : Unit => True) (fun _ => vi (s.member t c)) (fun _ F => F) := by
  (refine spec_of Try.func26 rfl Try.ntmps26 rfl (fun F w0 hrd => ?_))
  have b1 := h.members
  refine walk ?_
  intro p
  refine walk ?_
  exact wq_ret1 rfl rfl () rfl trivial perm
end geom
theorem in_spec (n a b : Int) : Spec0 Try.prog 94 [vi n, vi a, vi b] (fun _ => True) (fun F => F) (fun _ : Unit => True) (fun _ => .bool (decide (a ≤ n ∧ n ≤ b))) (fun _ F => F) := by
  (refine spec_of Try.func94 rfl Try.ntmps94 rfl (fun F w0 hrd => ?_))
  refine walk ?_
  (first | (refine wif_cut 4 14 (.bool (decide (a ≤ n ∧ n ≤ b))) (fun K => ?_) ?_; refine wif_dec (fun hc => ?_) (fun hc => ?_); (iterate 4 ((first | (refine wl_guard_yes rfl rfl rfl ?_; refine wl_ya ?_) | (refine wl_guard_no rfl rfl rfl rfl rfl ?_) | (refine wl_ya ?_)))); exact K true _ _ rfl (by (repeat (first | exact trivial | refine And.intro (by first | exact trivial | rfl) ?_))) (by simp [hc]) (by first | rfl | (simp; done) | (simp; omega) | (simp [*]; done) | (simp [*]; omega)); (iterate 4 ((first | (refine wl_guard_yes rfl rfl rfl ?_; refine wl_ya ?_) | (refine wl_guard_no rfl rfl rfl rfl rfl ?_) | (refine wl_ya ?_)))); exact K false _ _ rfl (by (repeat (first | exact trivial | refine And.intro (by first | exact trivial | rfl) ?_))) (by simp [hc]) (by first | rfl | (simp; done) | (simp; omega) | (simp [*]; done) | (simp [*]; omega)); try (refine wl_nil ?_)) | (refine wif_cutn 4 14 (.bool (decide (a ≤ n ∧ n ≤ b))) (fun K => ?_) ?_; refine wif_dec (fun hc => ?_) (fun hc => ?_); (iterate 4 ((first | (refine wl_guard_yes rfl rfl rfl ?_; refine wl_ya ?_) | (refine wl_guard_no rfl rfl rfl rfl rfl ?_) | (refine wl_ya ?_)))); exact K false _ _ rfl (by (repeat (first | exact trivial | refine And.intro (by first | exact trivial | rfl) ?_))) (by simp [hc]) (by first | rfl | (simp; done) | (simp; omega) | (simp [*]; done) | (simp [*]; omega)); (iterate 4 ((first | (refine wl_guard_yes rfl rfl rfl ?_; refine wl_ya ?_) | (refine wl_guard_no rfl rfl rfl rfl rfl ?_) | (refine wl_ya ?_)))); exact K true _ _ rfl (by (repeat (first | exact trivial | refine And.intro (by first | exact trivial | rfl) ?_))) (by simp [hc]) (by first | rfl | (simp; done) | (simp; omega) | (simp [*]; done) | (simp [*]; omega)); try (refine wl_nil ?_)))
  refine walk ?_
  exact wq_ret1 rfl rfl () rfl trivial perm
theorem check_spec (s : Shp) (h : s.Ok) : Spec0 Try.prog 83 [Shp.val s] (fun _ => True) (fun F => F) (fun _ : Unit => True) (fun _ => vi 0) (fun _ F => F) := by
  (refine spec_of Try.func83 rfl Try.ntmps83 rfl (fun F w0 hrd => ?_))
  have b := bounds h
  have h1 := h.members
  have h2 := h.segments
  have h3 := h.stripes
  have h4 := h.block
  have h5 := h.note
  have h6 := h.nv
  have h7 := h.logical
  refine walk ?_
  intro p
  refine walk ?_
  refine call (in_spec s.members 3 16) ?_
  intro _ _
  rw [show decide (3 ≤ s.members ∧ s.members ≤ 16) = true from by simpa using h1]
  refine walk ?_
  refine call (in_spec s.segments 4 64) ?_
  intro _ _
  rw [show decide (4 ≤ s.segments ∧ s.segments ≤ 64) = true from by simpa using h2]
  refine walk ?_
  refine call (in_spec s.stripes 2 16) ?_
  intro _ _
  rw [show decide (2 ≤ s.stripes ∧ s.stripes ≤ 16) = true from by simpa using h3]
  refine walk ?_
  (refine draw ?_; refine dy 0 ?_; refine dy 1 ?_; refine dy 2 ?_; refine dg 3 ?_; refine dg 4 ?_; refine dg 5 ?_; refine ddo 6 ?_)
  refine walk ?_
  refine call (note_spec s h) ?_
  intro _ _
  (refine walk ?_; refine dg 7 ?_; refine ddo 8 ?_)
  refine walk ?_
  refine call (in_spec s.block (max s.note 32) 512) ?_
  intro _ _
  rw [show decide (max s.note 32 ≤ s.block ∧ s.block ≤ 512) = true from by simp; omega]
  (refine walk ?_; refine dg 9 ?_; refine dy 10 ?_; refine dy 11 ?_; refine dg 12 ?_; refine dg 13 ?_; refine dg 14 ?_; refine dg 16 ?_; refine dg 17 ?_; refine dg 18 ?_; refine ddo 15 ?_)
  refine walk ?_
  refine call (slots_spec s h) ?_
  intro _ _
  have hn := b.nvs
  (refine walk ?_; refine ddo 19 ?_)
  refine walk ?_
  refine call (slots_spec s h) ?_
  intro _ _
  (refine walk ?_; refine dg 20 ?_; refine dg 21 ?_; refine ddo 22 ?_)
  refine walk ?_
  refine call (in_spec s.nv s.slots (min (s.stripes * s.slots) 256)) ?_
  intro _ _
  rw [show decide (s.slots ≤ s.nv ∧ s.nv ≤ min (s.stripes * s.slots) 256) = true from by simpa using h6]
  (refine walk ?_; refine dg 23 ?_; refine dy 24 ?_; refine dy 25 ?_; refine dg 26 ?_; refine dg 27 ?_; refine dg 28 ?_; refine ddo 29 ?_)
  refine walk ?_
  refine call (most_spec s h) ?_
  intro _ _
  (refine walk ?_; refine ddo 30 ?_)
  refine walk ?_
  refine call (in_spec s.logical 1 s.most) ?_
  intro _ _
  rw [show decide (1 ≤ s.logical ∧ s.logical ≤ s.most) = true from by simpa using h7]
  (refine walk ?_; refine dg 31 ?_; refine dy 32 ?_; refine walk ?_)
  exact wq_ret1 rfl rfl () rfl trivial perm
end Go.Proofs.Ytapgejjjgeiihaa
