/- The book's functions, walked: an act, the rest. -/
import Derived.Test.YtapgejjjgeiihaaDpl2
import Derived.Test.YtapgejjjgeiihaaRep
namespace Go.Proofs.Ytapgejjjgeiihaa
open Go Go.Sl
attribute [local irreducible] Yl WL WC WQ WD

set_option maxHeartbeats 4000000 in
theorem bdo2_spec (t : Nat) (b : Bk) (P : List Row) (hb : b.In P) (dox : UInt8) (i : Int) (hi : -128 ≤ i ∧ i ≤ 127) (fill : UInt8) (long : Bool) (keep : Nat) (hkeep : keep < 18446744073709551616) (hk5 : ¬ dox.toNat % 10 < 5) :
    Spec0 Try.prog 60 [vp t, actVal dox i fill long keep] (fun _ => True) (fun F => Cells t b.cells :: Pool P :: F)
      (fun x : Row × (Nat → Row) × List Row => Fresh P (dox.toNat % 10) fill x.1 x.2.1 x.2.2) (fun x => .tuple #[wv (b.act (dox.toNat % 10) i long keep x.1 x.2.1).1.1, vi (b.act (dox.toNat % 10) i long keep x.1 x.2.1).1.2])
      (fun x F => Cells t (b.act (dox.toNat % 10) i long keep x.1 x.2.1).2.cells :: Pool x.2.2 :: F) := by
  have hd10 : (dox.toNat : Int) % 10 = ((dox.toNat % 10 : Nat) : Int) := by omega
  have hk : dox.toNat % 10 < 10 := by omega
  unfold actVal
  (refine spec_of Try.func60 rfl Try.ntmps60 rfl (fun F w0 hrd => ?_))
  refine walk ?_
  intro b3
  refine walk ?_
  (first | (refine wif_cut 4 8 (.bool (decide (0 ≤ i ∧ i < 6))) (fun K => ?_) ?_; refine wif_dec (fun hc => ?_) (fun hc => ?_); (iterate 4 ((first | (refine wl_guard_yes rfl rfl rfl ?_; refine wl_ya ?_) | (refine wl_guard_no rfl rfl rfl rfl rfl ?_) | (refine wl_ya ?_)))); exact K true _ _ rfl (by (repeat (first | exact trivial | refine And.intro (by first | exact trivial | rfl) ?_))) (by simp [hc]) (by first | rfl | (simp; done) | (simp; omega) | (simp [*]; done) | (simp [*]; omega)); (iterate 4 ((first | (refine wl_guard_yes rfl rfl rfl ?_; refine wl_ya ?_) | (refine wl_guard_no rfl rfl rfl rfl rfl ?_) | (refine wl_ya ?_)))); exact K false _ _ rfl (by (repeat (first | exact trivial | refine And.intro (by first | exact trivial | rfl) ?_))) (by simp [hc]) (by first | rfl | (simp; done) | (simp; omega) | (simp [*]; done) | (simp [*]; omega)); try (refine wl_nil ?_)) | (refine wif_cutn 4 8 (.bool (decide (0 ≤ i ∧ i < 6))) (fun K => ?_) ?_; refine wif_dec (fun hc => ?_) (fun hc => ?_); (iterate 4 ((first | (refine wl_guard_yes rfl rfl rfl ?_; refine wl_ya ?_) | (refine wl_guard_no rfl rfl rfl rfl rfl ?_) | (refine wl_ya ?_)))); exact K false _ _ rfl (by (repeat (first | exact trivial | refine And.intro (by first | exact trivial | rfl) ?_))) (by simp [hc]) (by first | rfl | (simp; done) | (simp; omega) | (simp [*]; done) | (simp [*]; omega)); (iterate 4 ((first | (refine wl_guard_yes rfl rfl rfl ?_; refine wl_ya ?_) | (refine wl_guard_no rfl rfl rfl rfl rfl ?_) | (refine wl_ya ?_)))); exact K true _ _ rfl (by (repeat (first | exact trivial | refine And.intro (by first | exact trivial | rfl) ?_))) (by simp [hc]) (by first | rfl | (simp; done) | (simp; omega) | (simp [*]; done) | (simp [*]; omega)); try (refine wl_nil ?_)))
  refine walk ?_
  intro v hvl hvn
  refine walk ?_
  refine call (repeat_spec v fill 3 (by omega)) ?_
  intro dv _
  refine WL.ex (fun _ hs => knows4 (sl_some (by simp) hs) hs) (fun _ hdv => ?_)
  refine WL.ent (Γ' := Pool ((dv, List.replicate 3 fill) :: P) :: Cells b3 [vb dox, .int .i8 i, vb fill, .bool long, .int .u64 keep] :: Cells t b.cells :: F) (Ent.trans (Γ' := SlB dv (List.replicate 3 fill) :: Pool P :: Cells b3 [vb dox, .int .i8 i, vb fill, .bool long, .int .u64 keep] :: Cells t b.cells :: F) perm Pool.put) ?_
  refine walk ?_
  rw [hd10]
  generalize dox.toNat % 10 = k at *
  obtain ⟨f0, hf0⟩ : ∃ f0 : Nat → Row, f0 = fun _ => (dv, List.replicate 3 fill) := ⟨_, rfl⟩
  have hfr : k ≠ 9 → Fresh P k fill (dv, List.replicate 3 fill) f0 ((dv, List.replicate 3 fill) :: P) := fun h =>
    ⟨fun r hr => List.mem_cons_of_mem _ hr, ⟨List.mem_cons_self, rfl, hdv⟩, fun h9 => absurd h9 h⟩
  generalize hdata : ((dv, List.replicate 3 fill) : Row) = data at *
  haveI : ∀ Γ, OneIn Γ [dv] := fun Γ => OneIn.mk' (some1_one hdv)
  have hop := hb.op
  have h5 : ¬ k < 5 := hk5
  have h2 : ¬ k < 2 := by omega
  by_cases h5' : k = 5
  · have hact0 : b.act k i long keep data f0 = if b.op.dead then ((none, 8), b.op) else ((none, 0), b.op.settle 18446744073709551615) := by unfold Bk.act; rw [if_neg h2, if_neg h5, if_pos h5']
    subst h5'
    refine walk ?_
    (repeat (first | (refine wif_dec (fun _ => ?_) (fun hz => by exfalso; omega); refine walk ?_) | (refine wif_dec (fun hz => by exfalso; omega) (fun _ => ?_); refine walk ?_)))
    refine call (bop_spec t b) ?_
    intro _ _
    refine walk ?_
    refine WIf.both (fun hdd => ?_) (fun hdd => ?_)
    · rw [if_pos hdd] at hact0
      refine walk ?_
      exact wq_ret2 rfl rfl rfl (data, f0, data :: P) (by dsimp only; rw [hact0]; rfl) (hfr (by omega)) (by dsimp only; rw [hact0]; exact perm)
    · rw [if_neg (by rw [hdd]; decide)] at hact0
      refine walk ?_
      refine call (bsettle_spec t b.op 18446744073709551615 (by omega) (fun i r h => (hop.wait i r h).2)) ?_
      intro _ _
      refine walk ?_
      exact wq_ret2 rfl rfl rfl (data, f0, data :: P) (by dsimp only; rw [hact0]; rfl) (hfr (by omega)) (by dsimp only; rw [hact0]; exact perm)
  by_cases h6 : k = 6
  · have hact0 : b.act k i long keep data f0 = ((none, 0), b.settle keep) := by unfold Bk.act; rw [if_neg h2, if_neg h5, if_neg h5', if_pos h6]
    subst h6
    refine walk ?_
    (repeat (first | (refine wif_dec (fun _ => ?_) (fun hz => by exfalso; omega); refine walk ?_) | (refine wif_dec (fun hz => by exfalso; omega) (fun _ => ?_); refine walk ?_)))
    refine call (bsettle_spec t b keep hkeep (fun i r h => (hb.wait i r h).2)) ?_
    intro _ _
    refine walk ?_
    exact wq_ret2 rfl rfl rfl (data, f0, data :: P) (by dsimp only; rw [hact0]; rfl) (hfr (by omega)) (by dsimp only; rw [hact0]; exact perm)
  by_cases h7 : k = 7
  · have hact0 : b.act k i long keep data f0 = ((none, 0), { b with failAt := max (w64 (b.used + i)) (-1) }) := by unfold Bk.act; rw [if_neg h2, if_neg h5, if_neg h5', if_neg h6, if_pos h7]
    subst h7
    refine walk ?_
    (repeat (first | (refine wif_dec (fun _ => ?_) (fun hz => by exfalso; omega); refine walk ?_) | (refine wif_dec (fun hz => by exfalso; omega) (fun _ => ?_); refine walk ?_)))
    rw [b.set_failAt]
    exact wq_ret2 rfl rfl rfl (data, f0, data :: P) (by dsimp only; rw [hact0]; rfl) (hfr (by omega)) (by dsimp only; rw [hact0]; exact perm)
  by_cases h8 : k = 8
  · have hact0 : b.act k i long keep data f0 = ((none, 0), { b with dead := true }) := by unfold Bk.act; rw [if_neg h2, if_neg h5, if_neg h5', if_neg h6, if_neg h7, if_pos h8]
    subst h8
    refine walk ?_
    (repeat (first | (refine wif_dec (fun _ => ?_) (fun hz => by exfalso; omega); refine walk ?_) | (refine wif_dec (fun hz => by exfalso; omega) (fun _ => ?_); refine walk ?_)))
    rw [b.set_dead]
    exact wq_ret2 rfl rfl rfl (data, f0, data :: P) (by dsimp only; rw [hact0]; rfl) (hfr (by omega)) (by dsimp only; rw [hact0]; exact perm)
  obtain rfl : k = 9 := by omega
  refine walk ?_
  (repeat (first | (refine wif_dec (fun _ => ?_) (fun hz => by exfalso; omega); refine walk ?_) | (refine wif_dec (fun hz => by exfalso; omega) (fun _ => ?_); refine walk ?_)))
  refine call (fresh_spec) ?_
  intro f hf
  haveI : ∀ Γ, OneIn Γ (Bk.blank f).cells := cells_one (fun i hi => (hf i hi).2) (fun i r h => by cases h)
  refine walk ?_
  rw [(Bk.blank f).set_used]
  have hact0 : b.act 9 i long keep data f = ((none, 0), { Bk.blank f with used := b.used }) := by unfold Bk.act; rw [if_neg h2, if_neg h5, if_neg h5', if_neg h6, if_neg h7, if_neg h8]
  refine wq_ret2 rfl rfl rfl (data, f, (List.range 6).map f ++ (data :: P)) (by dsimp only; rw [hact0]; rfl) ⟨fun r hr => List.mem_append.2 (.inr (List.mem_cons_of_mem _ hr)), ⟨List.mem_append.2 (.inr List.mem_cons_self), by rw [← hdata], by rw [← hdata]; exact hdv⟩, fun _ i hi => ⟨List.mem_append.2 (.inl (List.mem_map.2 ⟨i, List.mem_range.2 hi, rfl⟩)), hf i hi⟩⟩ ?_
  dsimp only
  rw [hact0]
  exact Ent.trans (Ent.skip Pool.join) perm
end Go.Proofs.Ytapgejjjgeiihaa
