/- The law's own reading of a whole script. -/
import Derived.Test.YtihkfklpoliilaaDoorTel2
import Derived.Test.YtihkfklpoliilaaDoorPar
namespace Go.Proofs.YtihkfklpoliilaaDoor
open Go Go.Sl
attribute [local irreducible] Yl WL WC WQ WD
set_option maxHeartbeats 8000000 in
theorem reads_spec (s : Bytes) (hl : s.length ≤ 4096) :
    Spec0 Tryd.prog 12 [vs s] Tabs (fun F => F) (fun _ : Value => True) (fun x => .tuple #[x, vi (psteps s).2.1, vi (psteps s).2.2]) (fun x F => Sl x 1 ((psteps s).1.map stv) :: F) := by
  obtain ⟨hok, hll⟩ := runesOf_ok s.length s (Nat.le_refl _)
  (refine spec_of Tryd.func12 rfl Tryd.ntmps12 rfl (fun F w0 hrd => ?_))
  haveI : ReadIn F Tabs := ⟨hrd⟩
  refine walk ?_
  intro c
  refine WL.ent (sl_nil 1) ?_
  refine walk ?_
  refine wc_loop (X := Nat × List Nat × Value) (fun y => [(0, vs s), (5, y.2.2), (13, vp c)]) (fun y => Blk c (.stringIter ⟨s.toArray⟩ y.1) :: Sl y.2.2 1 (y.2.1.map vr) :: F)
    (fun y => y.1 ≤ s.length ∧ y.2.1.length ≤ y.1 ∧ runesOf s = (y.2.1 ++ (runesOf (s.drop y.1)).1, (runesOf (s.drop y.1)).2)) (fun y => s.length - y.1) (0, [], .slice none 0 0) ⟨Nat.zero_le _, Nat.le_refl _, rfl⟩ envs Ent.swap (fun y hy => ?_)
  obtain ⟨p, acc, lv⟩ := y
  dsimp only at hy ⊢
  obtain ⟨h1, h2, h3⟩ := hy
  refine wc_seq ?_
  refine wc_region ?_
  refine wl_nextV rfl rfl (fun hp => ?_) (fun hp => ?_)
  · have hd : s.drop p = [] := List.drop_eq_nil_of_le (by omega)
    rw [hd, runesOf_nil] at h3
    unfold psteps
    rw [if_neg (by omega), if_neg (by rw [h3]; simp)]
    rw [h3, List.append_nil] at hok hll ⊢
    dsimp only at hok hll ⊢
    generalize acc = l at *
    clear h2 h3
    refine walk ?_
    intro q
    refine walk ?_
    refine WC.ent (sl_nil 1) ?_
    refine wc_loop (X := Nat × List Stp × Value) (fun y => [(10, vp q), (5, lv), (11, y.2.2)]) (fun y => Sl y.2.2 1 (y.2.1.map stv) :: ScanAt q lv y.1 0 :: Sl lv 1 (l.map vr) :: F)
      (fun y => y.1 ≤ l.length + 1 ∧ y.2.1.length ≤ y.1 ∧ parse l = go 4096 (l.length + 1 - y.1) (l.drop y.1) y.2.1) (fun y => l.length + 1 - y.1) (0, [], .slice none 0 0)
      ⟨by omega, Nat.le_refl _, rfl⟩ envs (Ent.skip (Ent.skip (Ent.drop Ent.refl))) (fun y hy => ?_)
    obtain ⟨i, acc, v⟩ := y
    dsimp only at hy ⊢
    obtain ⟨hi, hai, hgo⟩ := hy
    have hacc : (acc.map stv).length = acc.length := List.length_map ..
    refine walk ?_
    refine wif_dec (fun hlt => ?_) (fun hlt => ?_)
    · have hne : l.drop i ≠ [] := by intro h; have := congrArg List.length h; rw [List.length_drop] at this; simp at this; omega
      obtain ⟨f, hf⟩ : ∃ f, l.length + 1 - i = f + 1 := ⟨l.length - i, by omega⟩
      rw [hf] at hgo
      unfold go at hgo
      rw [if_neg hne] at hgo
      refine walk ?_
      refine call (tblanks_spec q lv l i 0 (by omega) (by omega)) ?_
      intro j hj
      obtain ⟨hj1, hj2, hj3⟩ := hj
      rw [← hj1] at hgo
      refine walk ?_
      refine call (tat_spec q lv l j 0 j) ?_
      intro _ _
      refine walk ?_
      refine wif_dec (fun h3 => ?_) (fun h3 => ?_)
      · have hjl := (drop_peek (l := l) (j := j) (by omega)).1
        rw [if_pos (by omega), if_neg (by omega)] at hgo
        refine walk ?_
        refine call (tstep_spec q lv l j (by omega) hj3) ?_
        intro x hx
        obtain ⟨w, k, e⟩ := x
        unfold StepRes at hx
        dsimp only at hx ⊢
        obtain ⟨hx1, hx2, hx3⟩ := hx
        haveI hone : ∀ Γ : List HP, OneIn Γ [w] := fun Γ => OneIn.mk' hx2
        refine walk ?_
        intro s1 _ _
        refine walk ?_
        intro s2 _ _
        refine walk ?_
        have hwell := stp_well (l.drop j) (by rw [hj1]; exact peek_skip _)
        cases hst : stp (l.drop j) with
        | error cr =>
          obtain ⟨c', r⟩ := cr
          rw [hst] at hx3 hgo
          obtain ⟨rfl, rfl, hc⟩ := hx3
          dsimp only at hgo
          (repeat (first | (refine wif_dec (fun _ => ?_) (fun hz => by exfalso; omega); refine walk ?_) | (refine wif_dec (fun hz => by exfalso; omega) (fun _ => ?_); refine walk ?_)))
          (refine draw ?_; refine dy 0 ?_; refine dy 1 ?_; refine dy 2 ?_; refine dy 3 ?_; refine dy 4 ?_; refine dy 5 ?_; refine dy 6 ?_; refine dy 7 ?_; refine dy 8 ?_; refine dy 9 ?_; refine dy 10 ?_; refine walk ?_)
          refine wq_ret3 rfl rfl rfl rfl (.slice none 0 0) ?_ trivial ?_
          · rw [hgo]; dsimp only; rw [err_at hx1]
          · rw [hgo]; exact (Ent.drop (Ent.drop (Ent.drop (Ent.drop Ent.refl)))).trans (sl_nil 1)
        | ok sr =>
          obtain ⟨st, r2⟩ := sr
          rw [hst] at hx3 hgo hwell
          obtain ⟨rfl, rfl, rfl⟩ := hx3
          have hwell : (l.drop k).length ≤ (l.drop j).length := hwell
          rw [List.length_drop, List.length_drop] at hwell
          dsimp only at hgo
          (repeat (first | (refine wif_dec (fun _ => ?_) (fun hz => by exfalso; omega); refine walk ?_) | (refine wif_dec (fun hz => by exfalso; omega) (fun _ => ?_); refine walk ?_)))
          refine call (tblanks_spec q lv l k 0 (by omega) hx1) ?_
          intro m hm
          obtain ⟨hm1, hm2, hm3⟩ := hm
          rw [← hm1] at hgo
          refine walk ?_
          (repeat (first | (refine wif_dec (fun _ => ?_) (fun hz => by exfalso; omega); refine walk ?_) | (refine wif_dec (fun hz => by exfalso; omega) (fun _ => ?_); refine walk ?_)))
          refine call (tat_spec q lv l m 0 m) ?_
          intro _ _
          refine walk ?_
          refine wif_dec (fun h6 => ?_) (fun h6 => ?_)
          · rw [if_pos (by omega)] at hgo
            refine walk ?_
            (repeat (first | (refine wif_dec (fun _ => ?_) (fun hz => by exfalso; omega); refine walk ?_) | (refine wif_dec (fun hz => by exfalso; omega) (fun _ => ?_); refine walk ?_)))
            (refine draw ?_; refine dy 0 ?_; refine dy 1 ?_; refine dy 2 ?_; refine dy 3 ?_; refine dy 4 ?_; refine dy 5 ?_; refine dy 6 ?_; refine dy 7 ?_; refine dy 8 ?_; refine dy 9 ?_; refine dy 10 ?_; refine walk ?_)
            refine wq_ret3 rfl rfl rfl rfl (.slice none 0 0) ?_ trivial ?_
            · rw [hgo]; dsimp only; rw [err_at hm3]; rfl
            · rw [hgo]; exact (Ent.drop (Ent.drop (Ent.drop (Ent.drop Ent.refl)))).trans (sl_nil 1)
          · rw [if_neg (by omega), tail_drop] at hgo
            refine walk ?_
            (repeat (first | (refine wif_dec (fun _ => ?_) (fun hz => by exfalso; omega); refine walk ?_) | (refine wif_dec (fun hz => by exfalso; omega) (fun _ => ?_); refine walk ?_)))
            refine wq_round (m + 1, acc ++ [st], s2) ⟨by dsimp only; omega, by dsimp only; rw [List.length_append]; simp; omega, ?_⟩ (by dsimp only; omega) envs ?_
            · dsimp only; rw [hgo]; exact go_fuel _ _ _ _ _ (by rw [List.length_drop]; omega) (by rw [List.length_drop]; omega)
            · dsimp only; rw [List.map_append, List.map_cons, List.map_nil]; exact Ent.swap.trans (Ent.skip (Ent.skip (Ent.drop Ent.refl)))
      · rw [if_neg (by omega), tail_drop] at hgo
        refine walk ?_
        (repeat (first | (refine wif_dec (fun _ => ?_) (fun hz => by exfalso; omega); refine walk ?_) | (refine wif_dec (fun hz => by exfalso; omega) (fun _ => ?_); refine walk ?_)))
        refine call (tat_spec q lv l j 0 j) ?_
        intro _ _
        refine walk ?_
        (repeat (first | (refine wif_dec (fun _ => ?_) (fun hz => by exfalso; omega); refine walk ?_) | (refine wif_dec (fun hz => by exfalso; omega) (fun _ => ?_); refine walk ?_)))
        refine wq_round (j + 1, acc, v) ⟨by dsimp only; omega, by dsimp only; omega, ?_⟩ (by dsimp only; omega) envs ?_
        · dsimp only; rw [hgo]; exact go_fuel _ _ _ _ _ (by rw [List.length_drop]; omega) (by rw [List.length_drop]; omega)
        · exact Ent.swap
    · have hd : l.drop i = [] := List.drop_eq_nil_of_le (by omega)
      have hp : parse l = .ok acc := by
        rw [hgo, hd]
        generalize l.length + 1 - i = f
        cases f <;> rfl
      refine walk ?_
      refine wq_ret3 rfl rfl rfl rfl v ?_ trivial ?_
      · rw [hp]; rfl
      · rw [hp]; exact perm
  · have hne : s.drop p ≠ [] := by intro h; have := congrArg List.length h; rw [List.length_drop] at this; simp at this; omega
    obtain ⟨d1, d2, d3⟩ := dec_ok (s.drop p) hne
    rw [List.length_drop] at d3
    rw [decode_drop]
    have hal : (acc.map vr).length = acc.length := List.length_map ..
    generalize hq : dec (s.drop p) = q at *
    obtain ⟨r, wd⟩ := q
    dsimp only at d1 d2 d3 ⊢
    refine walk ?_
    refine call (decode_spec (s.drop p)) ?_
    intro _ _
    rw [decodeGo_eq _ hne, hq]
    dsimp only
    refine walk ?_
    refine wif_dec (fun he => ?_) (fun he => ?_)
    · refine walk ?_
      refine wif_dec (fun hw => ?_) (fun hw => ?_)
      · have hbad : (dec (s.drop p)).1 = 65533 ∧ (dec (s.drop p)).2 = 1 := by rw [hq]; exact ⟨by dsimp only; omega, by dsimp only; omega⟩
        rw [runesOf_bad _ hne hbad, List.append_nil] at h3
        unfold psteps
        rw [if_neg (by omega), if_pos (by rw [h3])]
        rw [h3]
        refine walk ?_
        refine wq_ret3 rfl rfl rfl rfl (.slice none 0 0) rfl trivial ?_
        exact (Ent.drop (Ent.drop Ent.refl)).trans (sl_nil 1)
      · have hbad : ¬ ((dec (s.drop p)).1 = 65533 ∧ (dec (s.drop p)).2 = 1) := by rw [hq]; dsimp only; omega
        · refine walk ?_
          intro s1 _ _
          refine walk ?_
          intro s2 _ _
          refine walk ?_
          rw [runesOf_cons _ hne hbad, hq, List.drop_drop] at h3
          refine wq_round (p + wd, acc ++ [r], s2) ⟨by dsimp only; omega, by dsimp only; rw [List.length_append]; simp; omega, ?_⟩ (by dsimp only; omega) envs ?_
          · dsimp only; rw [h3]; simp
          · dsimp only; rw [List.map_append, List.map_cons, List.map_nil]; exact perm
    · have hbad : ¬ ((dec (s.drop p)).1 = 65533 ∧ (dec (s.drop p)).2 = 1) := by rw [hq]; dsimp only; omega
      · refine walk ?_
        intro s1 _ _
        refine walk ?_
        intro s2 _ _
        refine walk ?_
        rw [runesOf_cons _ hne hbad, hq, List.drop_drop] at h3
        refine wq_round (p + wd, acc ++ [r], s2) ⟨by dsimp only; omega, by dsimp only; rw [List.length_append]; simp; omega, ?_⟩ (by dsimp only; omega) envs ?_
        · dsimp only; rw [h3]; simp
        · dsimp only; rw [List.map_append, List.map_cons, List.map_nil]; exact perm
end Go.Proofs.YtihkfklpoliilaaDoor
