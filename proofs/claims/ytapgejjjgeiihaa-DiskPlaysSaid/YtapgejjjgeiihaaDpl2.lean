/- The book's functions, walked: a blank one, an act. -/
import Derived.Test.YtapgejjjgeiihaaDpl
namespace Go.Proofs.Ytapgejjjgeiihaa
open Go Go.Sl
attribute [local irreducible] Yl WL WC WQ WD

theorem blank_setOn (f : Nat → Row) (i : Nat) (r : Row) : (Bk.blank f).setOn i r = Bk.blank (fun j => if j = i then r else f j) := rfl
theorem wv_one {o : Option Row} (h : ∀ r, o = some r → Some1 r.1) : (wv o).oneCell' = true := by
  cases o with
  | none => rfl
  | some r => obtain ⟨a, m, c, e⟩ := h r rfl; show r.1.oneCell' = true; rw [e]; rfl
theorem some1_one {v : Value} (h : Some1 v) : v.oneCell' = true := by obtain ⟨a, m, c, rfl⟩ := h; rfl
theorem cells_one {b : Bk} (h1 : ∀ i, i < 6 → Some1 (b.on i).1) (h2 : ∀ i r, b.wait i = some r → Some1 r.1) (Γ : List HP) : OneIn Γ b.cells := by
  unfold Bk.cells
  refine OneIn.mk' (o := ?_) (some1_one (h1 0 (by omega)))
  refine OneIn.mk' (o := ?_) (some1_one (h1 1 (by omega)))
  refine OneIn.mk' (o := ?_) (some1_one (h1 2 (by omega)))
  refine OneIn.mk' (o := ?_) (some1_one (h1 3 (by omega)))
  refine OneIn.mk' (o := ?_) (some1_one (h1 4 (by omega)))
  refine OneIn.mk' (o := ?_) (some1_one (h1 5 (by omega)))
  refine OneIn.mk' (o := ?_) (wv_one (h2 0))
  refine OneIn.mk' (o := ?_) (wv_one (h2 1))
  refine OneIn.mk' (o := ?_) (wv_one (h2 2))
  refine OneIn.mk' (o := ?_) (wv_one (h2 3))
  refine OneIn.mk' (o := ?_) (wv_one (h2 4))
  refine OneIn.mk' (o := ?_) (wv_one (h2 5))
  infer_instance
/-- a book's cells ahead of all -/
@[reducible] def bk0 : List Value := [.slice none 0 0, .slice none 0 0, .slice none 0 0, .slice none 0 0, .slice none 0 0, .slice none 0 0, .slice none 0 0, .slice none 0 0,
      .slice none 0 0, .slice none 0 0, .slice none 0 0, .slice none 0 0, vi 0, vi 0, vi 0, vi 0, vi 0, vi 0, .bool false, vi 0, vi 0]
set_option maxHeartbeats 1000000 in
theorem fresh_spec :
    Spec0 Try.prog 58 [] (fun _ => True) (fun F => F) (fun f : Nat → Row => ∀ i, i < 6 → (f i).2 = [0, 0, 0] ∧ Some1 (f i).1) (fun f => .agg (Bk.blank f).cells.toArray) (fun f F => Pool ((List.range 6).map f) :: F) := by
  (refine spec_of Try.func58 rfl Try.ntmps58 rfl (fun F w0 hrd => ?_))
  refine walk ?_
  intro b0
  refine walk ?_
  intro b1
  refine walk ?_
  refine wc_loop (X := Nat × (Nat → Row)) (fun y => [(1, vp b1), (0, vp b0), (4, vi y.1)]) (fun y => Cells b1 (Bk.blank y.2).cells :: Cells b0 bk0 :: Pool ((List.range y.1).map y.2) :: F) (fun y => y.1 ≤ 6 ∧ (∀ j, j < y.1 → (y.2 j).2 = [0, 0, 0] ∧ Some1 (y.2 j).1)) (fun y => 6 - y.1)
    (0, fun _ => (.slice none 0 0, [])) ⟨by simp, fun j hj => by simp at hj⟩ envs (Ent.skip (Ent.skip Pool.nil)) (fun y hy => ?_)
  obtain ⟨i, f⟩ := y
  obtain ⟨hi, hf⟩ := hy
  dsimp only at hi hf ⊢
  refine walk ?_
  refine wif_dec (fun hlt => ?_) (fun hlt => ?_)
  · have hlt : i < 6 := by omega
    refine walk ?_
    intro v hvl hvn
    rw [show List.replicate (Int.toNat 3) (0 : UInt8) = [0, 0, 0] from rfl]
    refine walk ?_
    refine wl_y (yl_indexA1 (m := 6) rfl rfl (by omega)) rfl ?_
    refine wl_store (cs := (Bk.blank f).cells) (v := v) rfl rfl rfl (by simp; omega) ?_
    rw [show (Bk.blank f).cells.set (0 + i) v = _ from (Bk.blank f).set_on hlt (v, [0, 0, 0]), blank_setOn]
    refine walk ?_
    obtain ⟨g, hg⟩ : ∃ g : Nat → Row, g = fun j => if j = i then (v, [0, 0, 0]) else f j := ⟨_, rfl⟩
    rw [← hg]
    refine wq_round (i + 1, g) ⟨by dsimp only; omega, fun j hj => ?_⟩ (by dsimp only; omega) envs ?_
    · dsimp only at hj ⊢
      rw [hg]
      dsimp only
      split
      · exact ⟨rfl, hvn⟩
      · exact hf j (by omega)
    · refine Ent.trans (Γ' := SlB v [0, 0, 0] :: Pool ((List.range i).map f) :: Cells b1 (Bk.blank g).cells :: Cells b0 bk0 :: F) perm (Ent.trans Pool.put (Ent.trans (Pool.sub (rows' := (List.range (i + 1)).map g) ?_) perm))
      intro r hr
      obtain ⟨j, hj, rfl⟩ := List.mem_map.1 hr
      have hj := List.mem_range.1 hj
      rw [hg]
      dsimp only
      split
      · exact List.mem_cons_self
      · exact List.mem_cons_of_mem _ (List.mem_map.2 ⟨j, List.mem_range.2 (by omega), rfl⟩)
  have hi6 : i = 6 := by omega
  subst hi6
  haveI : ∀ Γ, OneIn Γ (Bk.blank f).cells := cells_one (fun i hi => (hf i hi).2) (fun i r h => by cases h)
  refine walk ?_
  rw [show List.take 21 (Bk.blank f).cells = (Bk.blank f).cells from rfl]
  refine walk ?_
  exact wq_retc rfl rfl rfl f rfl hf perm
theorem knows4 {p : Prop} {Γ : List HP} {h : Hp} (hp : p) (hs : Sat Γ h) : ∃ _ : Unit, p ∧ Sat Γ h := ⟨(), hp, hs⟩
theorem sl_some {v : Value} {b : Bytes} (hb : 0 < b.length) {Γ : List HP} {h : Hp} (hs : Sat (SlB v b :: Γ) h) : Some1 v := by
  obtain ⟨h1, _, p⟩ := hs.one
  have r := Sl.rd p
  rcases r.nil_iff with rfl | h
  · have := r.len
    simp [slLen] at this
    omega
  · exact h
def actVal (dox : UInt8) (i : Int) (fill : UInt8) (long : Bool) (keep : Nat) : Value := .agg #[vb dox, .int .i8 i, vb fill, .bool long, .int .u64 keep]
end Go.Proofs.Ytapgejjjgeiihaa
