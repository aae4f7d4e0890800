/- A text's signs; a script's steps. -/
import Derived.Test.YtihkfklpoliilaaDoorScn2
import Derived.Test.YtihkfklpoliilaaDoorScr2
namespace Go.Proofs.YtihkfklpoliilaaDoor
open Go Go.Sl
attribute [local irreducible] Yl WL WC WQ WD
set_option maxHeartbeats 4000000 in
theorem signs_spec (s : Bytes) (hl : s.length ≤ 1000000) :
    Spec0 Tryd.prog 24 [vs s] Tabs (fun F => F) (fun _ : Value => True) (fun x => .tuple #[x, .bool (runesOf s).2]) (fun x F => Sl x 1 ((runesOf s).1.map vr) :: F) := by
  (refine spec_of Tryd.func24 rfl Tryd.ntmps24 rfl (fun F w0 hrd => ?_))
  haveI : ReadIn F Tabs := ⟨hrd⟩
  refine walk ?_
  intro c
  refine WL.ent (sl_nil 1) ?_
  refine walk ?_
  refine wc_loop (X := Nat × List Nat × Value) (fun y => [(0, vs s), (4, y.2.2), (10, vp c)]) (fun y => Blk c (.stringIter ⟨s.toArray⟩ y.1) :: Sl y.2.2 1 (y.2.1.map vr) :: F)
    (fun y => y.1 ≤ s.length ∧ y.2.1.length ≤ y.1 ∧ runesOf s = (y.2.1 ++ (runesOf (s.drop y.1)).1, (runesOf (s.drop y.1)).2)) (fun y => s.length - y.1) (0, [], .slice none 0 0) ⟨Nat.zero_le _, Nat.le_refl _, rfl⟩ envs Ent.swap (fun y hy => ?_)
  obtain ⟨p, acc, v⟩ := y
  dsimp only at hy ⊢
  obtain ⟨h1, h2, h3⟩ := hy
  refine wc_seq ?_
  refine wc_region ?_
  refine wl_nextV rfl rfl (fun hp => ?_) (fun hp => ?_)
  · have hd : s.drop p = [] := List.drop_eq_nil_of_le (by omega)
    rw [hd, runesOf_nil] at h3
    refine walk ?_
    refine wq_ret2 rfl rfl rfl v (by rw [h3]) trivial ?_
    rw [h3, List.append_nil]; exact perm
  · have hne : s.drop p ≠ [] := by intro h; have := congrArg List.length h; rw [List.length_drop] at this; simp at this; omega
    obtain ⟨d1, d2, d3⟩ := dec_ok (s.drop p) hne
    rw [List.length_drop] at d3
    rw [decode_drop]
    have hal : (acc.map vr).length = acc.length := List.length_map ..
    generalize hq : dec (s.drop p) = q at *
    obtain ⟨r, wd⟩ := q
    dsimp only at d1 d2 d3 ⊢
    refine walk ?_
    refine wif_dec (fun he => ?_) (fun he => ?_)
    · refine walk ?_
      refine call (decode_spec (s.drop p)) ?_
      intro _ _
      rw [decodeGo_eq _ hne, hq]
      dsimp only
      refine walk ?_
      refine wif_dec (fun hw => ?_) (fun hw => ?_)
      · have hbad : (dec (s.drop p)).1 = 65533 ∧ (dec (s.drop p)).2 = 1 := by rw [hq]; exact ⟨by dsimp only; omega, by dsimp only; omega⟩
        rw [runesOf_bad _ hne hbad] at h3
        refine walk ?_
        refine wq_ret2 rfl rfl rfl v (by rw [h3]) trivial ?_
        rw [h3, List.append_nil]; exact perm
      · have hbad : ¬ ((dec (s.drop p)).1 = 65533 ∧ (dec (s.drop p)).2 = 1) := by rw [hq]; dsimp only; omega
        · refine walk ?_
          intro s1 _ _
          refine walk ?_
          intro s2 _ _
          refine walk ?_
          rw [runesOf_cons _ hne hbad, hq, List.drop_drop] at h3
          refine wq_round (p + wd, acc ++ [r], s2) ⟨by dsimp only; omega, by dsimp only; rw [List.length_append]; simp; omega, ?_⟩ (by dsimp only; omega) envs ?_
          · dsimp only; rw [h3]; simp
          · dsimp only; rw [List.map_append, List.map_cons, List.map_nil]; exact perm
    · have hbad : ¬ ((dec (s.drop p)).1 = 65533 ∧ (dec (s.drop p)).2 = 1) := by rw [hq]; dsimp only; omega
      · refine walk ?_
        intro s1 _ _
        refine walk ?_
        intro s2 _ _
        refine walk ?_
        rw [runesOf_cons _ hne hbad, hq, List.drop_drop] at h3
        refine wq_round (p + wd, acc ++ [r], s2) ⟨by dsimp only; omega, by dsimp only; rw [List.length_append]; simp; omega, ?_⟩ (by dsimp only; omega) envs ?_
        · dsimp only; rw [h3]; simp
        · dsimp only; rw [List.map_append, List.map_cons, List.map_nil]; exact perm
/-- what a script's text gives: its steps, where it goes wrong, why -/
def psteps (s : Bytes) : List Stp × Nat × Nat :=
  if 65536 < s.length then ([], 0, 6)
  else if (runesOf s).2 = false then ([], (runesOf s).1.length, 4)
  else match parse (runesOf s).1 with
    | .ok l => (l, 0, 0)
    | .error (c, r) => ([], (runesOf s).1.length - r.length, c)
/-- what the loop over lines keeps -/
structure PInv (l : List Nat) (i e : Nat) (vals : List Value) : Prop where
  one : ∀ v ∈ vals, v.oneCell' = true
  len : vals.length ≤ 4096
  ok : e = 0 → i ≤ l.length + 1 ∧ ∃ acc, vals = acc.map stv ∧ parse l = go 4096 (l.length + 1 - i) (l.drop i) acc
  bad : e ≠ 0 → i ≤ l.length ∧ parse l = .error (e, l.drop i)
theorem err_at {l : List Nat} {i : Nat} (h : i ≤ l.length) : l.length - (l.drop i).length = i := by rw [List.length_drop]; omega
set_option maxHeartbeats 8000000 in
theorem parse_spec (s : Bytes) (hl : s.length ≤ 1000000) :
    Spec0 Tryd.prog 11 [vs s] Tabs (fun F => F) (fun _ : Value => True) (fun x => .tuple #[x, vi (psteps s).2.1, vi (psteps s).2.2]) (fun x F => Sl x 1 ((psteps s).1.map stv) :: F) := by
  obtain ⟨hok, hll⟩ := runesOf_ok s.length s (Nat.le_refl _)
  (refine spec_of Tryd.func11 rfl Tryd.ntmps11 rfl (fun F w0 hrd => ?_))
  haveI : ReadIn F Tabs := ⟨hrd⟩
  refine walk ?_
  refine call (signs_spec s hl) ?_
  intro lv _
  unfold psteps
  generalize hls : (runesOf s).1 = l at *
  generalize hbs : (runesOf s).2 = b at *
  refine walk ?_
  refine wif_dec (fun h0 => ?_) (fun h0 => ?_)
  · refine walk ?_
    refine wq_ret3 rfl rfl rfl rfl (.slice none 0 0) ?_ trivial ?_
    · rw [if_pos (by omega)]; rfl
    · rw [if_pos (by omega)]; exact (Ent.drop Ent.refl).trans (sl_nil 1)
  rw [if_neg (by omega)]
  refine walk ?_
  refine WIf.both (fun hb => ?_) (fun hb => ?_)
  case _ =>
    subst hb
    rw [if_neg (by simp)]
    refine walk ?_
    intro p
    refine walk ?_
    refine WC.ent (sl_nil 1) ?_
    refine wc_loop (X := Nat × Nat × List Value × Value) (fun y => [(7, vp p), (8, y.2.2.2)]) (fun y => Sl y.2.2.2 1 y.2.2.1 :: ScanAt p lv y.1 y.2.1 :: Sl lv 1 (l.map vr) :: F)
      (fun y => PInv l y.1 y.2.1 y.2.2.1) (fun y => if y.2.1 = 0 then l.length + 1 - y.1 + 1 else 0) (0, 0, [], .slice none 0 0)
      ⟨fun v hv => (by cases hv), by simp, fun _ => ⟨by omega, [], rfl, rfl⟩, fun h => absurd rfl h⟩ envs Ent.refl (fun y hy => ?_)
    obtain ⟨i, e, vals, v⟩ := y
    dsimp only at hy ⊢
    refine walk ?_
    (refine draw ?_; refine dy 0 ?_; refine dy 1 ?_; refine dy 2 ?_; refine dy 3 ?_; refine dy 4 ?_; refine dy 5 ?_; refine dy 6 ?_; refine dy 7 ?_; refine dy 8 ?_; refine dy 9 ?_; refine dy 10 ?_; refine dwhich 36 ?_)
    refine wif_dec (fun h1 => ?_) (fun h1 => ?_)
    · (refine dg 11 ?_; refine dg 12 ?_; refine dg 13 ?_; refine dg 14 ?_; refine dg 15 ?_; refine dy 16 ?_; refine walk ?_)
      refine wif_dec (fun h2 => ?_) (fun h2 => ?_)
      · have he : e = 0 := by omega
        subst he
        obtain ⟨hi, acc, rfl, hgo⟩ := hy.ok rfl
        have hlt : i < l.length := by omega
        have hacc : (acc.map stv).length = acc.length := List.length_map ..
        have hlen := hy.len
        have hne : l.drop i ≠ [] := by intro h; have := congrArg List.length h; rw [List.length_drop] at this; simp at this; omega
        obtain ⟨f, hf⟩ : ∃ f, l.length + 1 - i = f + 1 := ⟨l.length - i, by omega⟩
        rw [hf] at hgo
        unfold go at hgo
        rw [if_neg hne] at hgo
        refine walk ?_
        refine call (blanks_spec p lv l i 0 (by omega) (by omega)) ?_
        intro j hj
        obtain ⟨hj1, hj2, hj3⟩ := hj
        rw [← hj1] at hgo
        refine walk ?_
        refine call (peek_spec p lv l j 0) ?_
        intro _ _
        refine walk ?_
        refine wif_dec (fun h3 => ?_) (fun h3 => ?_)
        · rw [if_pos (by omega)] at hgo
          refine walk ?_
          refine wif_dec (fun h4 => ?_) (fun h4 => ?_)
          · rw [if_pos (by omega)] at hgo
            refine walk ?_
            (refine draw ?_; refine dy 0 ?_; refine dy 1 ?_; refine dy 2 ?_; refine dy 3 ?_; refine dy 4 ?_; refine dy 5 ?_; refine dy 6 ?_; refine walk ?_)
            refine wq_ret3 rfl rfl rfl rfl (.slice none 0 0) ?_ trivial ?_
            · rw [hgo]; dsimp only; rw [err_at hj3]; rfl
            · rw [hgo]; exact (Ent.drop (Ent.drop (Ent.drop Ent.refl))).trans (sl_nil 1)
          · rw [if_neg (by omega)] at hgo
            refine walk ?_
            refine call (step_spec p lv l j (by omega) hj3 hok) ?_ (hr := fun h hs => ⟨ReadIn.rd h hs, RdIn.rd h hs⟩)
            intro x hx
            obtain ⟨w, k, e⟩ := x
            unfold StepRes at hx
            dsimp only at hx ⊢
            obtain ⟨hx1, hx2, hx3⟩ := hx
            haveI hone : ∀ Γ : List HP, OneIn Γ [w] := fun Γ => OneIn.mk' hx2
            refine walk ?_
            intro s1 _ _
            refine walk ?_
            intro s2 _ _
            refine walk ?_
            refine call (blanks_spec p lv l k e (by omega) hx1) ?_
            intro q hq
            obtain ⟨hq1, hq2, hq3⟩ := hq
            refine walk ?_
            have hall : ∀ u ∈ acc.map stv ++ [w], u.oneCell' = true := fun u hu => by
              rcases List.mem_append.1 hu with hu | hu
              · exact hy.one u hu
              · rw [List.mem_singleton] at hu; rw [hu]; exact hx2
            have hl2 : (acc.map stv ++ [w]).length ≤ 4096 := by rw [List.length_append]; simp; omega
            refine wif_dec (fun h5 => ?_) (fun h5 => ?_)
            · have he : e = 0 := by omega
              subst he
              cases hst : stp (l.drop j) with
              | error cr => obtain ⟨c, r⟩ := cr; rw [hst] at hx3; exact absurd hx3.1.symm hx3.2.2
              | ok sr =>
                obtain ⟨st, r2⟩ := sr
                rw [hst] at hx3 hgo
                obtain ⟨rfl, rfl, _⟩ := hx3
                have hkj : j ≤ k := by
                  have hwell := stp_well (l.drop j) (by rw [hj1]; exact peek_skip _)
                  rw [hst] at hwell
                  have hwell : (l.drop k).length ≤ (l.drop j).length := hwell
                  rw [List.length_drop, List.length_drop] at hwell; omega
                dsimp only at hgo
                rw [← hq1] at hgo
                refine walk ?_
                refine call (peek_spec p lv l q 0) ?_
                intro _ _
                refine walk ?_
                refine wif_dec (fun h6 => ?_) (fun h6 => ?_)
                · rw [if_pos (by omega)] at hgo
                  refine walk ?_
                  refine call (fail_spec p lv q 4) ?_
                  intro _ _
                  refine walk ?_
                  (repeat (first | (refine wif_dec (fun _ => ?_) (fun hz => by exfalso; omega); refine walk ?_) | (refine wif_dec (fun hz => by exfalso; omega) (fun _ => ?_); refine walk ?_)))
                  refine wq_round (q, 4, acc.map stv ++ [stv st], s2) ⟨hall, hl2, fun h => absurd h (show ¬ (4 : Nat) = 0 by decide), fun _ => ⟨hq3, hgo⟩⟩ (by show (if (4 : Nat) = 0 then _ else 0) < (if (0 : Nat) = 0 then _ else 0); rw [if_neg (show ¬ (4 : Nat) = 0 by decide), if_pos rfl]; omega) envs ?_
                  exact Ent.swap.trans (Ent.skip (Ent.skip (Ent.drop Ent.refl)))
                · rw [if_neg (by omega), tail_drop] at hgo
                  have hqlt : q + 1 ≤ l.length + 1 := by omega
                  refine walk ?_
                  (repeat (first | (refine wif_dec (fun _ => ?_) (fun hz => by exfalso; omega); refine walk ?_) | (refine wif_dec (fun hz => by exfalso; omega) (fun _ => ?_); refine walk ?_)))
                  refine wq_round (q + 1, 0, acc.map stv ++ [stv st], s2) ⟨hall, hl2, fun _ => ⟨hqlt, acc ++ [st], by simp, ?_⟩, fun h => absurd rfl h⟩ (by dsimp only; rw [if_pos rfl, if_pos rfl]; omega) envs ?_
                  · rw [hgo]; exact go_fuel _ _ _ _ _ (by rw [List.length_drop]; omega) (by rw [List.length_drop]; omega)
                  · exact Ent.swap.trans (Ent.skip (Ent.skip (Ent.drop Ent.refl)))
            · cases hst : stp (l.drop j) with
              | ok sr => obtain ⟨st, r⟩ := sr; rw [hst] at hx3; exact absurd hx3.2.2 (by omega)
              | error cr =>
                obtain ⟨c, r⟩ := cr
                have hwell := stp_well (l.drop j) (by rw [hj1]; exact peek_skip _)
                rw [hst] at hx3 hgo hwell
                obtain ⟨rfl, rfl, hc⟩ := hx3
                have hqk : l.drop q = l.drop k := by rw [hq1]; exact skip_idem hwell
                dsimp only at hgo
                rw [← hqk] at hgo
                refine walk ?_
                (repeat (first | (refine wif_dec (fun _ => ?_) (fun hz => by exfalso; omega); refine walk ?_) | (refine wif_dec (fun hz => by exfalso; omega) (fun _ => ?_); refine walk ?_)))
                refine wq_round (q, e, acc.map stv ++ [w], s2) ⟨hall, hl2, fun h => absurd h hc, fun _ => ⟨hq3, hgo⟩⟩ (by simp [hc]) envs ?_
                exact Ent.swap.trans (Ent.skip (Ent.skip (Ent.drop Ent.refl)))
        · rw [if_neg (by omega), tail_drop] at hgo
          refine walk ?_
          (repeat (first | (refine wif_dec (fun _ => ?_) (fun hz => by exfalso; omega); refine walk ?_) | (refine wif_dec (fun hz => by exfalso; omega) (fun _ => ?_); refine walk ?_)))
          refine call (peek_spec p lv l j 0) ?_
          intro _ _
          refine walk ?_
          (repeat (first | (refine wif_dec (fun _ => ?_) (fun hz => by exfalso; omega); refine walk ?_) | (refine wif_dec (fun hz => by exfalso; omega) (fun _ => ?_); refine walk ?_)))
          refine wq_round (j + 1, 0, acc.map stv, v) ⟨hy.one, hy.len, fun _ => ⟨by omega, acc, rfl, ?_⟩, fun h => absurd rfl h⟩ (by dsimp only; rw [if_pos rfl, if_pos rfl]; omega) envs ?_
          · rw [hgo]; exact go_fuel _ _ _ _ _ (by rw [List.length_drop]; omega) (by rw [List.length_drop]; omega)
          · exact Ent.swap
      · have he : e ≠ 0 := by omega
        · obtain ⟨hi, hgo⟩ := hy.bad he
          refine walk ?_
          (repeat (first | (refine wif_dec (fun _ => ?_) (fun hz => by exfalso; omega); refine walk ?_) | (refine wif_dec (fun hz => by exfalso; omega) (fun _ => ?_); refine walk ?_)))
          (refine draw ?_; refine dy 0 ?_; refine dy 1 ?_; refine dy 2 ?_; refine dy 3 ?_; refine dy 4 ?_; refine dy 5 ?_; refine dy 6 ?_; refine dy 7 ?_; refine dy 8 ?_; refine dy 9 ?_; refine dy 10 ?_; refine walk ?_)
          refine wq_ret3 rfl rfl rfl rfl (.slice none 0 0) ?_ trivial ?_
          · rw [hgo]; dsimp only; rw [err_at hi]
          · rw [hgo]; exact (Ent.drop (Ent.drop (Ent.drop Ent.refl))).trans (sl_nil 1)
    · (refine dn 11 ?_; refine dn 12 ?_; refine dn 13 ?_; refine dn 14 ?_; refine dn 15 ?_; refine dy 16 ?_; refine walk ?_)
      by_cases he : e = 0
      · subst he
        obtain ⟨hi, acc, rfl, hgo⟩ := hy.ok rfl
        have hd : l.drop i = [] := List.drop_eq_nil_of_le (by omega)
        have hp : parse l = .ok acc := by
          rw [hgo, hd]
          generalize l.length + 1 - i = f
          cases f <;> rfl
        refine walk ?_
        (repeat (first | (refine wif_dec (fun _ => ?_) (fun hz => by exfalso; omega); refine walk ?_) | (refine wif_dec (fun hz => by exfalso; omega) (fun _ => ?_); refine walk ?_)))
        refine wq_ret3 rfl rfl rfl rfl v ?_ trivial ?_
        · rw [hp]; rfl
        · rw [hp]; exact perm
      · obtain ⟨hi, hgo⟩ := hy.bad he
        refine walk ?_
        (repeat (first | (refine wif_dec (fun _ => ?_) (fun hz => by exfalso; omega); refine walk ?_) | (refine wif_dec (fun hz => by exfalso; omega) (fun _ => ?_); refine walk ?_)))
        (refine draw ?_; refine dy 0 ?_; refine dy 1 ?_; refine dy 2 ?_; refine dy 3 ?_; refine dy 4 ?_; refine dy 5 ?_; refine dy 6 ?_; refine dy 7 ?_; refine dy 8 ?_; refine dy 9 ?_; refine dy 10 ?_; refine walk ?_)
        refine wq_ret3 rfl rfl rfl rfl (.slice none 0 0) ?_ trivial ?_
        · rw [hgo]; dsimp only; rw [err_at hi]
        · rw [hgo]; exact (Ent.drop (Ent.drop (Ent.drop Ent.refl))).trans (sl_nil 1)
  case _ =>
    subst hb
    rw [if_pos rfl]
    refine walk ?_
    refine wq_ret3 rfl rfl rfl rfl (.slice none 0 0) rfl trivial ?_
    exact (Ent.drop Ent.refl).trans (sl_nil 1)
end Go.Proofs.YtihkfklpoliilaaDoor
