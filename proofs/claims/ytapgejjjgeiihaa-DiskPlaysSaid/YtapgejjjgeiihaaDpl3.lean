/- The book's functions, walked: an act. -/
import Derived.Test.YtapgejjjgeiihaaDpl2
import Derived.Test.YtapgejjjgeiihaaRep
namespace Go.Proofs.Ytapgejjjgeiihaa
open Go Go.Sl
attribute [local irreducible] Yl WL WC WQ WD

set_option maxHeartbeats 4000000 in
theorem bdo1_spec (t : Nat) (b : Bk) (P : List Row) (hb : b.In P) (dox : UInt8) (i : Int) (hi : -128 ≤ i ∧ i ≤ 127) (fill : UInt8) (long : Bool) (keep : Nat) (_hkeep : keep < 18446744073709551616) (hk5 : dox.toNat % 10 < 5) :
    Spec0 Try.prog 60 [vp t, actVal dox i fill long keep] (fun _ => True) (fun F => Cells t b.cells :: Pool P :: F)
      (fun x : Row × (Nat → Row) × List Row => Fresh P (dox.toNat % 10) fill x.1 x.2.1 x.2.2) (fun x => .tuple #[wv (b.act (dox.toNat % 10) i long keep x.1 x.2.1).1.1, vi (b.act (dox.toNat % 10) i long keep x.1 x.2.1).1.2])
      (fun x F => Cells t (b.act (dox.toNat % 10) i long keep x.1 x.2.1).2.cells :: Pool x.2.2 :: F) := by
  have hd10 : (dox.toNat : Int) % 10 = ((dox.toNat % 10 : Nat) : Int) := by omega
  have hk : dox.toNat % 10 < 10 := by omega
  unfold actVal
  (refine spec_of Try.func60 rfl Try.ntmps60 rfl (fun F w0 hrd => ?_))
  refine walk ?_
  intro b3
  refine walk ?_
  (first | (refine wif_cut 4 8 (.bool (decide (0 ≤ i ∧ i < 6))) (fun K => ?_) ?_; refine wif_dec (fun hc => ?_) (fun hc => ?_); (iterate 4 ((first | (refine wl_guard_yes rfl rfl rfl ?_; refine wl_ya ?_) | (refine wl_guard_no rfl rfl rfl rfl rfl ?_) | (refine wl_ya ?_)))); exact K true _ _ rfl (by (repeat (first | exact trivial | refine And.intro (by first | exact trivial | rfl) ?_))) (by simp [hc]) (by first | rfl | (simp; done) | (simp; omega) | (simp [*]; done) | (simp [*]; omega)); (iterate 4 ((first | (refine wl_guard_yes rfl rfl rfl ?_; refine wl_ya ?_) | (refine wl_guard_no rfl rfl rfl rfl rfl ?_) | (refine wl_ya ?_)))); exact K false _ _ rfl (by (repeat (first | exact trivial | refine And.intro (by first | exact trivial | rfl) ?_))) (by simp [hc]) (by first | rfl | (simp; done) | (simp; omega) | (simp [*]; done) | (simp [*]; omega)); try (refine wl_nil ?_)) | (refine wif_cutn 4 8 (.bool (decide (0 ≤ i ∧ i < 6))) (fun K => ?_) ?_; refine wif_dec (fun hc => ?_) (fun hc => ?_); (iterate 4 ((first | (refine wl_guard_yes rfl rfl rfl ?_; refine wl_ya ?_) | (refine wl_guard_no rfl rfl rfl rfl rfl ?_) | (refine wl_ya ?_)))); exact K false _ _ rfl (by (repeat (first | exact trivial | refine And.intro (by first | exact trivial | rfl) ?_))) (by simp [hc]) (by first | rfl | (simp; done) | (simp; omega) | (simp [*]; done) | (simp [*]; omega)); (iterate 4 ((first | (refine wl_guard_yes rfl rfl rfl ?_; refine wl_ya ?_) | (refine wl_guard_no rfl rfl rfl rfl rfl ?_) | (refine wl_ya ?_)))); exact K true _ _ rfl (by (repeat (first | exact trivial | refine And.intro (by first | exact trivial | rfl) ?_))) (by simp [hc]) (by first | rfl | (simp; done) | (simp; omega) | (simp [*]; done) | (simp [*]; omega)); try (refine wl_nil ?_)))
  refine walk ?_
  intro v hvl hvn
  refine walk ?_
  refine call (repeat_spec v fill 3 (by omega)) ?_
  intro dv _
  refine WL.ex (fun _ hs => knows4 (sl_some (by simp) hs) hs) (fun _ hdv => ?_)
  refine WL.ent (Γ' := Pool ((dv, List.replicate 3 fill) :: P) :: Cells b3 [vb dox, .int .i8 i, vb fill, .bool long, .int .u64 keep] :: Cells t b.cells :: F) (Ent.trans (Γ' := SlB dv (List.replicate 3 fill) :: Pool P :: Cells b3 [vb dox, .int .i8 i, vb fill, .bool long, .int .u64 keep] :: Cells t b.cells :: F) perm Pool.put) ?_
  refine walk ?_
  rw [hd10]
  generalize dox.toNat % 10 = k at *
  obtain ⟨f0, hf0⟩ : ∃ f0 : Nat → Row, f0 = fun _ => (dv, List.replicate 3 fill) := ⟨_, rfl⟩
  have hfr : k ≠ 9 → Fresh P k fill (dv, List.replicate 3 fill) f0 ((dv, List.replicate 3 fill) :: P) := fun h =>
    ⟨fun r hr => List.mem_cons_of_mem _ hr, ⟨List.mem_cons_self, rfl, hdv⟩, fun h9 => absurd h9 h⟩
  generalize hdata : ((dv, List.replicate 3 fill) : Row) = data at *
  haveI : ∀ Γ, OneIn Γ [dv] := fun Γ => OneIn.mk' (some1_one hdv)
  have hop := hb.op
  by_cases h2 : k < 2
  · have hact0 : b.act k i long keep data f0 = if 0 ≤ i ∧ i < 6 then if b.op.dead then ((none, 8), b.op) else ((some ((b.op.wait i.toNat).getD (b.op.on i.toNat)), 0), b.op) else ((none, 1), b) := by unfold Bk.act; rw [if_pos h2]
    rcases (by omega : k = 0 ∨ k = 1) with rfl | rfl
    all_goals
      refine walk ?_
      (repeat (first | (refine wif_dec (fun _ => ?_) (fun hz => by exfalso; omega); refine walk ?_) | (refine wif_dec (fun hz => by exfalso; omega) (fun _ => ?_); refine walk ?_)))
      refine wif_dec (fun hin => ?_) (fun hin => ?_)
      · obtain ⟨n, rfl⟩ : ∃ n : Nat, i = n := ⟨i.toNat, by omega⟩
        have hn : n < 6 := by omega
        rw [if_pos hin, Int.toNat_natCast] at hact0
        refine walk ?_
        refine call (bop_spec t b) ?_
        intro _ _
        refine walk ?_
        refine WIf.both (fun hdd => ?_) (fun hdd => ?_)
        · rw [if_pos hdd] at hact0
          refine walk ?_
          exact wq_ret2 rfl rfl rfl (data, f0, data :: P) (by dsimp only; rw [hact0]; rfl) (hfr (by omega)) (by dsimp only; rw [hact0]; exact perm)
        · rw [if_neg (by rw [hdd]; decide)] at hact0
          refine walk ?_
          refine wl_y (yl_indexA1 (m := 6) rfl rfl (by omega)) rfl ?_
          refine wl_y (yl_load (cs := b.op.cells) (v := wv (b.op.wait n)) rfl (b.op.get_wait hn)) rfl ?_
          cases hw : b.op.wait n with
          | none =>
            rw [hw] at hact0
            refine wl_y (yl_nenilv rfl rfl (.inl rfl)) rfl ?_
            rw [show (!isNil (wv none)) = false from rfl]
            refine walk ?_
            refine wl_y (yl_indexA1 (m := 6) rfl rfl (by omega)) rfl ?_
            refine wl_y (yl_load (cs := b.op.cells) (v := (b.op.on n).1) rfl (b.op.get_on hn)) rfl ?_
            refine walk ?_
            exact wq_ret2 rfl rfl rfl (data, f0, data :: P) (by dsimp only; rw [hact0]; rfl) (hfr (by omega)) (by dsimp only; rw [hact0]; exact perm)
          | some r =>
            rw [hw] at hact0
            have hr := (hop.wait n r hw).2
            refine wl_y (yl_nenilv rfl rfl (.inr hr)) rfl ?_
            rw [show (!isNil (wv (some r))) = true from Some1.not hr]
            refine walk ?_
            refine wl_y (yl_indexA1 (m := 6) rfl rfl (by omega)) rfl ?_
            refine wl_y (yl_load (cs := b.op.cells) (v := wv (some r)) rfl (by have := b.op.get_wait hn; rwa [hw] at this)) rfl ?_
            refine walk ?_
            exact wq_ret2 rfl rfl rfl (data, f0, data :: P) (by dsimp only; rw [hact0]; rfl) (hfr (by omega)) (by dsimp only; rw [hact0]; exact perm)
      · rw [if_neg hin] at hact0
        refine walk ?_
        exact wq_ret2 rfl rfl rfl (data, f0, data :: P) (by dsimp only; rw [hact0]; rfl) (hfr (by omega)) (by dsimp only; rw [hact0]; exact perm)
  have h5 : k < 5 := hk5
  · have hact0 : b.act k i long keep data f0 = if (0 ≤ i ∧ i < 6) ∧ long = false then if b.op.dead then ((none, 8), b.op) else ((none, 0), (b.op.setWait i.toNat (some data)).setWrites i.toNat (w64 (b.op.writes i.toNat + 1))) else ((none, 1), b) := by unfold Bk.act; rw [if_neg h2, if_pos h5]
    rcases (by omega : k = 2 ∨ k = 3 ∨ k = 4) with rfl | rfl | rfl
    all_goals
      refine walk ?_
      (repeat (first | (refine wif_dec (fun _ => ?_) (fun hz => by exfalso; omega); refine walk ?_) | (refine wif_dec (fun hz => by exfalso; omega) (fun _ => ?_); refine walk ?_)))
      refine wif_dec (fun hin => ?_) (fun hin => ?_)
      · obtain ⟨n, rfl⟩ : ∃ n : Nat, i = n := ⟨i.toNat, by omega⟩
        have hn : n < 6 := by omega
        refine walk ?_
        refine WIf.both (fun hlo => ?_) (fun hlo => ?_)
        · rw [if_neg (by rw [hlo]; simp)] at hact0
          refine walk ?_
          exact wq_ret2 rfl rfl rfl (data, f0, data :: P) (by dsimp only; rw [hact0]; rfl) (hfr (by omega)) (by dsimp only; rw [hact0]; exact perm)
        · rw [if_pos ⟨hin, hlo⟩, Int.toNat_natCast] at hact0
          refine walk ?_
          refine call (bop_spec t b) ?_
          intro _ _
          refine walk ?_
          refine WIf.both (fun hdd => ?_) (fun hdd => ?_)
          · rw [if_pos hdd] at hact0
            refine walk ?_
            exact wq_ret2 rfl rfl rfl (data, f0, data :: P) (by dsimp only; rw [hact0]; rfl) (hfr (by omega)) (by dsimp only; rw [hact0]; exact perm)
          · rw [if_neg (by rw [hdd]; decide)] at hact0
            refine walk ?_
            refine wl_y (yl_indexA1 (m := 6) rfl rfl (by omega)) rfl ?_
            refine wl_store (cs := b.op.cells) (v := dv) rfl rfl rfl (by simp; omega) ?_
            obtain ⟨c, hc⟩ : ∃ c, c = b.op.setWait n (some data) := ⟨_, rfl⟩
            have hcw : c.writes n = b.op.writes n := by rw [hc]; rfl
            rw [show b.op.cells.set (0 + 6 + n) dv = c.cells from by rw [hc, ← b.op.set_wait hn (some data), ← hdata]; rfl]
            rw [← hc, ← hcw] at hact0
            refine walk ?_
            refine draw ?_; refine dy 0 ?_; refine dy 1 ?_; refine dy 2 ?_; refine dy 3 ?_
            refine dy 4 ?_ (y := yl_indexA1 (m := 6) rfl rfl (by omega))
            refine dy 5 ?_ (y := yl_load (cs := c.cells) (v := vi (c.writes n)) rfl (c.get_writes hn))
            refine dy 6 ?_; refine dy 7 ?_; refine dy 8 ?_
            refine dy 9 ?_ (y := yl_indexA1 (m := 6) rfl rfl (by omega))
            refine ddx 10 ?_
            refine wl_store (cs := c.cells) (v := vi (w64 (c.writes n + 1))) rfl rfl rfl (by simp; omega) ?_
            rw [show c.cells.set (0 + 12 + n) (vi (w64 (c.writes n + 1))) = (c.setWrites n (w64 (c.writes n + 1))).cells from c.set_writes hn _]
            refine walk ?_
            exact wq_ret2 rfl rfl rfl (data, f0, data :: P) (by dsimp only; rw [hact0]; rfl) (hfr (by omega)) (by dsimp only; rw [hact0]; exact perm)
      · rw [if_neg (fun x => hin x.1)] at hact0
        refine walk ?_
        exact wq_ret2 rfl rfl rfl (data, f0, data :: P) (by dsimp only; rw [hact0]; rfl) (hfr (by omega)) (by dsimp only; rw [hact0]; exact perm)
end Go.Proofs.Ytapgejjjgeiihaa
