/- The law's own reading of a script: numbers, quoted texts. -/
import Derived.Test.YtihkfklpoliilaaDoorScn2
namespace Go.Proofs.YtihkfklpoliilaaDoor
open Go Go.Sl
theorem yl_quo64 {P : Program} {w0 : World} {n : Nat} {env : Env} {Γ : List HP} {ty : TypeId} {t yt : TypeId} {x y : Operand} {a b : Nat} (hx : evl env x = some (.int .u64 (a : Int))) (hy : evl env y = some (.int .u64 (b : Int))) (hb : 0 < b) (ha : a ≤ 18446744073709551615) :
    Yl P (.binOp .quo t x y yt) ty w0 n env Γ (.int .u64 ((a / b : Nat) : Int)) Tt := by
  refine fun _ _ _ _ _ _ s => ⟨trivial, fun w' _ => ?_⟩
  have hb' : b ≠ 0 := by omega
  have q : a / b ≤ a := Nat.div_le_self _ _
  have h : IntKind.u64.wrap ((a : Int) / (b : Int)) = ((a / b : Nat) : Int) := by
    rw [← Int.natCast_ediv]
    generalize a / b = c at q
    exact wrap_u64 (by omega) (by omega)
  simp only [execOp, s.env.evl hx, s.env.evl hy, eqGuard, binOp]
  simp [Op.intDiv, hb', h]
attribute [local irreducible] Yl WL WC WQ WD
set_option maxHeartbeats 1000000 in
theorem tat_spec (p : Nat) (lv : Value) (l : List Nat) (i e k : Nat) :
    Spec0 Tryd.prog 31 [vp p, vi k] (Rd lv 1 (l.map vr)) (fun F => ScanAt p lv i e :: F) (fun _ : Unit => True) (fun _ => vr (peek (l.drop k))) (fun _ F => ScanAt p lv i e :: F) := by
  (refine spec_of Tryd.func31 rfl Tryd.ntmps31 rfl (fun F w0 hrd => ?_))
  haveI : RdIn F lv 1 (l.map vr) := ⟨hrd⟩
  refine walk ?_
  refine wif_dec (fun hc => ?_) (fun hc => ?_)
  · have hi : k < l.length := by omega
    refine walk ?_
    exact wq_ret1 rfl rfl () (by rw [peek_at hi]) trivial Ent.refl
  · refine walk ?_
    exact wq_ret1 rfl rfl () (by rw [peek_nil (by omega)]; rfl) trivial Ent.refl
set_option maxHeartbeats 1000000 in
theorem tblanks_spec (p : Nat) (lv : Value) (l : List Nat) (i e : Nat) (hl : l.length ≤ 1099511627776) (hi : i ≤ l.length) :
    Spec0 Tryd.prog 30 [vp p] (Rd lv 1 (l.map vr)) (fun F => ScanAt p lv i e :: F) (fun j : Nat => l.drop j = skip (l.drop i) ∧ i ≤ j ∧ j ≤ l.length) (fun _ => .tuple #[]) (fun j F => ScanAt p lv j e :: F) := by
  (refine spec_of Tryd.func30 rfl Tryd.ntmps30 rfl (fun F w0 hrd => ?_))
  haveI : RdIn F lv 1 (l.map vr) := ⟨hrd⟩
  refine walk ?_
  refine wc_loop (X := Nat) (fun j => [(0, vp p)]) (fun j => ScanAt p lv j e :: F) (fun j => skip (l.drop j) = skip (l.drop i) ∧ i ≤ j ∧ j ≤ l.length) (fun j => l.length - j) i ⟨rfl, Nat.le_refl _, hi⟩ envs Ent.refl (fun j hj => ?_)
  obtain ⟨h1, h2, h3⟩ := hj
  refine walk ?_
  refine call (tat_spec p lv l j e j) ?_
  intro _ _
  refine walk ?_
  refine wif_dec (fun hc => ?_) (fun hc => ?_)
  · have hlt := (drop_peek (l := l) (j := j) (by omega)).1
    refine walk ?_
    exact wq_round (j + 1) ⟨by rw [skip_go (by omega), h1], by omega, by omega⟩ (by omega) envs Ent.refl
  · refine walk ?_
    exact wq_end0 rfl j rfl ⟨by rw [← skip_end (by omega), h1], h2, h3⟩ Ent.refl
section
variable {P : Program} {w0 : World} {n : Nat} {env : Env} {Γ : List HP} {ty : TypeId}
theorem yl_sub32 {t yt : TypeId} {x y : Operand} {a b : Nat} (hx : evl env x = some (.int .i32 (a : Int))) (hy : evl env y = some (.int .i32 (b : Int))) (h : b ≤ a) (ha : a ≤ 2147483647) :
    Yl P (.binOp .sub t x y yt) ty w0 n env Γ (.int .i32 ((a - b : Nat) : Int)) Tt := by
  have h1 := yl_sub (P := P) (w0 := w0) (n := n) (Γ := Γ) (ty := ty) (t := t) (yt := yt) hx hy
  rw [wrap_in .i32 (by simp only [IntKind.min, IntKind.bits, IntKind.signed]; omega) (by simp only [IntKind.max, IntKind.bits, IntKind.signed]; omega)] at h1
  rwa [show (a : Int) - (b : Int) = ((a - b : Nat) : Int) from by omega] at h1
theorem yl_sub64 {t yt : TypeId} {x y : Operand} {a b : Nat} (hx : evl env x = some (.int .u64 (a : Int))) (hy : evl env y = some (.int .u64 (b : Int))) (h : b ≤ a) (ha : a ≤ 18446744073709551615) :
    Yl P (.binOp .sub t x y yt) ty w0 n env Γ (.int .u64 ((a - b : Nat) : Int)) Tt := by
  have h1 := yl_sub (P := P) (w0 := w0) (n := n) (Γ := Γ) (ty := ty) (t := t) (yt := yt) hx hy
  rw [wrap_u64 (by omega) (by omega)] at h1
  rwa [show (a : Int) - (b : Int) = ((a - b : Nat) : Int) from by omega] at h1
end
theorem decFrom_app (t : List Nat) (d n : Nat) : decFrom n (t ++ [d]) = decFrom n t * 10 + (d - 48) := by
  unfold decFrom; rw [List.foldl_append]; rfl
theorem tnumber_err (p : Nat) (lv : Value) (i e most : Nat) (he : e ≠ 0) :
    Spec0 Tryd.prog 44 [vp p, .int .u64 most] (fun _ => True) (fun F => ScanAt p lv i e :: F) (fun _ : Unit => True) (fun _ => .int .u64 0) (fun _ F => ScanAt p lv i e :: F) := by
  (refine spec_of Tryd.func44 rfl Tryd.ntmps44 rfl (fun F w0 hrd => ?_))
  refine walk ?_
  (repeat (first | (refine wif_dec (fun _ => ?_) (fun hz => by exfalso; omega); refine walk ?_) | (refine wif_dec (fun hz => by exfalso; omega) (fun _ => ?_); refine walk ?_)))
  exact wq_ret1 rfl rfl () rfl trivial Ent.refl
theorem tquoted_err (p : Nat) (lv : Value) (i e : Nat) (he : e ≠ 0) :
    Spec0 Tryd.prog 45 [vp p] (fun _ => True) (fun F => ScanAt p lv i e :: F) (fun _ : Unit => True) (fun _ => vs []) (fun _ F => ScanAt p lv i e :: F) := by
  (refine spec_of Tryd.func45 rfl Tryd.ntmps45 rfl (fun F w0 hrd => ?_))
  refine walk ?_
  (repeat (first | (refine wif_dec (fun _ => ?_) (fun hz => by exfalso; omega); refine walk ?_) | (refine wif_dec (fun hz => by exfalso; omega) (fun _ => ?_); refine walk ?_)))
  exact wq_ret1 rfl rfl () rfl trivial Ent.refl
set_option maxHeartbeats 8000000 in
theorem tnumber_spec (p : Nat) (lv : Value) (l : List Nat) (i most : Nat) (hl : l.length ≤ 65536) (hi : i ≤ l.length) (_hm : most ≤ 18446744073709551615) :
    Spec0 Tryd.prog 44 [vp p, .int .u64 most] (Rd lv 1 (l.map vr)) (fun F => ScanAt p lv i 0 :: F) (NumRes l (num most (l.drop i))) (fun x => .int .u64 x.1) (fun x F => ScanAt p lv x.2.1 x.2.2 :: F) := by
  have h10 : inR 48 57 10 = false := rfl
  (refine spec_of Tryd.func44 rfl Tryd.ntmps44 rfl (fun F w0 hrd => ?_))
  haveI : RdIn F lv 1 (l.map vr) := ⟨hrd⟩
  refine walk ?_
  (repeat (first | (refine wif_dec (fun _ => ?_) (fun hz => by exfalso; omega); refine walk ?_) | (refine wif_dec (fun hz => by exfalso; omega) (fun _ => ?_); refine walk ?_)))
  refine call (tblanks_spec p lv l i 0 (by omega) hi) ?_
  intro j hj
  obtain ⟨hj1, hj2, hj3⟩ := hj
  refine walk ?_
  -- t: digits that were read; k behind them
  refine wc_loop (X := Nat × List Nat × Nat) (fun y => [(0, vp p), (1, .int .u64 most), (5, vi y.1), (6, .int .u64 y.2.2), (7, .bool (decide (18446744073709551616 ≤ decVal y.2.1))), (4, .int .u64 0)]) (fun y => ScanAt p lv j 0 :: F)
    (fun y => j + y.2.1.length = y.1 ∧ y.1 ≤ l.length ∧ y.2.2 < 18446744073709551616 ∧ (decVal y.2.1 < 18446744073709551616 → y.2.2 = decVal y.2.1) ∧ y.2.1 ++ (l.drop y.1).takeWhile (inR 48 57) = (l.drop j).takeWhile (inR 48 57) ∧ (l.drop y.1).dropWhile (inR 48 57) = (l.drop j).dropWhile (inR 48 57)) (fun y => l.length - y.1) (j, [], 0)
    ⟨rfl, hj3, by show (0 : Nat) < _; omega, fun _ => rfl, rfl, rfl⟩ envs Ent.refl (fun y hy => ?_)
  obtain ⟨k, t, n⟩ := y
  dsimp only at hy ⊢
  obtain ⟨g1, g2, g3, g4, g5, g6⟩ := hy
  refine walk ?_
  refine call (tat_spec p lv l j 0 k) ?_
  intro _ _
  refine walk ?_
  refine wif_dec (fun hc1 => ?_) (fun hc1 => ?_)
  · refine walk ?_
    refine call (tat_spec p lv l j 0 k) ?_
    intro _ _
    refine walk ?_
    refine wif_dec (fun hc2 => ?_) (fun hc2 => ?_)
    · have hq : inR 48 57 (peek (l.drop k)) = true := by simp [inR]; omega
      obtain ⟨hlt, e1, e2⟩ := span_go hq h10
      rw [e1] at g5
      rw [e2] at g6
      refine walk ?_
      refine call (tat_spec p lv l j 0 k) ?_
      intro _ _
      have hm10 := drop_peek (l := l) (j := k) (by omega)
      generalize hd : peek (l.drop k) = d at *
      have hdv : decVal (t ++ [d]) = decVal t * 10 + (d - 48) := decFrom_app t d 0
      refine walk ?_
      refine wl_y (yl_sub32 rfl rfl (by show 48 ≤ d; omega) (by omega)) rfl ?_
      refine walk ?_
      refine wif_dec (fun ho => ?_) (fun ho => ?_)
      · have hdec : decide (18446744073709551616 ≤ decVal (t ++ [d])) = true := by rw [hdv]; exact decide_eq_true (by omega)
        refine walk ?_
        have hnew : (n * 10 % 18446744073709551616 + (d - 48)) % 18446744073709551616 < 18446744073709551616 := Nat.mod_lt _ (by omega)
        have hsame : decVal (t ++ [d]) < 18446744073709551616 → (n * 10 % 18446744073709551616 + (d - 48)) % 18446744073709551616 = decVal (t ++ [d]) := fun h => by have := g4 (by omega); omega
        refine wq_round (k + 1, t ++ [d], (n * 10 % 18446744073709551616 + (d - 48)) % 18446744073709551616) ⟨by dsimp only; rw [List.length_append]; simp; omega, hlt, hnew, hsame, by dsimp only; rw [List.append_assoc]; exact g5, g6⟩ (by dsimp only; omega) ?_ Ent.refl
        dsimp only
        rw [hdec]
        exact envs
      · refine walk ?_
        refine wl_y (yl_sub64 rfl rfl (by show d - 48 ≤ 18446744073709551615; omega) (by decide)) rfl ?_
        refine wl_guard_yes rfl rfl rfl ?_
        refine wl_y (yl_quo64 rfl rfl (by decide) (Nat.sub_le _ _)) rfl ?_
        have hn := g4 (by omega)
        have hdec : decide (18446744073709551616 ≤ decVal (t ++ [d])) = decide ((n : Int) > (((18446744073709551615 - (d - 48)) / 10 : Nat) : Int)) := by rw [hdv]; exact decide_eq_decide.2 (by omega)
        refine walk ?_
        have hnew : (n * 10 % 18446744073709551616 + (d - 48)) % 18446744073709551616 < 18446744073709551616 := Nat.mod_lt _ (by omega)
        have hsame : decVal (t ++ [d]) < 18446744073709551616 → (n * 10 % 18446744073709551616 + (d - 48)) % 18446744073709551616 = decVal (t ++ [d]) := fun h => by have := g4 (by omega); omega
        refine wq_round (k + 1, t ++ [d], (n * 10 % 18446744073709551616 + (d - 48)) % 18446744073709551616) ⟨by dsimp only; rw [List.length_append]; simp; omega, hlt, hnew, hsame, by dsimp only; rw [List.append_assoc]; exact g5, g6⟩ (by dsimp only; omega) ?_ Ent.refl
        dsimp only
        rw [hdec]
        exact envs
    · have hq : inR 48 57 (peek (l.drop k)) = false := by simp [inR]; omega
      obtain ⟨e1, e2⟩ := span_end hq
      rw [e1, List.append_nil] at g5
      rw [e2] at g6
      have hnum : num most (l.drop i) = (if badNum t then .error (4, skip (l.drop i)) else if most < decVal t ∨ 18446744073709551616 ≤ decVal t then .error (12, skip (l.drop i)) else .ok (decVal t, (skip (l.drop i)).dropWhile isD)) := by
        unfold num; rw [(num_isD (l.drop i)).1, ← hj1, ← g5]
      have hdk : l.drop k = (skip (l.drop i)).dropWhile isD := by rw [(num_isD (l.drop i)).2, ← hj1]; exact g6
      rw [hnum]
      refine walk ?_
      refine wif_dec (fun h0 => ?_) (fun h0 => ?_)
      · have hbad : badNum t = true := by
          have : t = [] := List.eq_nil_of_length_eq_zero (by omega)
          subst this; rfl
        refine walk ?_
        (repeat (refine wl_guard_un rfl rfl rfl rfl ?_))
        · refine walk ?_
          refine wq_ret1 rfl rfl (0, j, 4) rfl ⟨hj3, by show (0 : Nat) < _; omega, ?_⟩ Ent.refl
          rw [if_pos hbad]; exact ⟨rfl, hj1⟩
      · have ht0 : t ≠ [] := by intro h; subst h; simp at g1; omega
        have hbe : badNum t = (decide (1 < t.length) && (t.headD 0 == 48)) := by cases t with | nil => exact absurd rfl ht0 | cons _ _ => rfl
        have hh : peek (l.drop j) = t.headD 0 := by
          cases hd : l.drop j with
          | nil => rw [hd] at g5; exact absurd g5 (by simpa using ht0)
          | cons x r =>
            rw [hd, List.takeWhile_cons] at g5
            split at g5
            · rw [g5]; rfl
            · exact absurd g5 ht0
        refine walk ?_
        refine wif_dec (fun h1 => ?_) (fun h1 => ?_)
        · refine walk ?_
          refine call (tat_spec p lv l j 0 j) ?_
          intro _ _
          refine walk ?_
          refine wif_dec (fun h2 => ?_) (fun h2 => ?_)
          · have hbad : badNum t = true := by rw [hbe, Bool.and_eq_true, decide_eq_true_eq, beq_iff_eq]; exact ⟨by omega, by omega⟩
            · refine walk ?_
              refine wq_ret1 rfl rfl (0, j, 4) rfl ⟨hj3, by show (0 : Nat) < _; omega, ?_⟩ Ent.refl
              rw [if_pos hbad]; exact ⟨rfl, hj1⟩
          · have hbad : ¬ badNum t = true := by
              rw [hbe, Bool.and_eq_true, decide_eq_true_eq, beq_iff_eq]
              rintro ⟨_, h3⟩; omega
            · refine walk ?_
              refine wif_dec (fun ho => ?_) (fun ho => ?_)
              · refine walk ?_
                refine wq_ret1 rfl rfl (0, j, 12) rfl ⟨hj3, by show (0 : Nat) < _; omega, ?_⟩ Ent.refl
                rw [if_neg hbad, if_pos (.inr ho)]; exact ⟨rfl, hj1⟩
              · have hn := g4 (by omega)
                refine walk ?_
                refine wif_dec (fun hm => ?_) (fun hm => ?_)
                · refine walk ?_
                  refine wq_ret1 rfl rfl (0, j, 12) rfl ⟨hj3, by show (0 : Nat) < _; omega, ?_⟩ Ent.refl
                  rw [if_neg hbad, if_pos (by omega)]; exact ⟨rfl, hj1⟩
                · refine walk ?_
                  refine wq_ret1 rfl rfl (n, k, 0) rfl ⟨g2, g3, ?_⟩ Ent.refl
                  rw [if_neg hbad, if_neg (by omega)]; exact ⟨hn, hdk, rfl⟩
        · have hbad : ¬ badNum t = true := by rw [hbe, Bool.and_eq_true, decide_eq_true_eq, beq_iff_eq]; omega
          refine walk ?_
          (repeat (refine wl_guard_un rfl rfl rfl rfl ?_))
          · refine walk ?_
            refine wif_dec (fun ho => ?_) (fun ho => ?_)
            · refine walk ?_
              refine wq_ret1 rfl rfl (0, j, 12) rfl ⟨hj3, by show (0 : Nat) < _; omega, ?_⟩ Ent.refl
              rw [if_neg hbad, if_pos (.inr ho)]; exact ⟨rfl, hj1⟩
            · have hn := g4 (by omega)
              refine walk ?_
              refine wif_dec (fun hm => ?_) (fun hm => ?_)
              · refine walk ?_
                refine wq_ret1 rfl rfl (0, j, 12) rfl ⟨hj3, by show (0 : Nat) < _; omega, ?_⟩ Ent.refl
                rw [if_neg hbad, if_pos (by omega)]; exact ⟨rfl, hj1⟩
              · refine walk ?_
                refine wq_ret1 rfl rfl (n, k, 0) rfl ⟨g2, g3, ?_⟩ Ent.refl
                rw [if_neg hbad, if_neg (by omega)]; exact ⟨hn, hdk, rfl⟩
  · have hq : inR 48 57 (peek (l.drop k)) = false := by simp [inR]; omega
    obtain ⟨e1, e2⟩ := span_end hq
    rw [e1, List.append_nil] at g5
    rw [e2] at g6
    have hnum : num most (l.drop i) = (if badNum t then .error (4, skip (l.drop i)) else if most < decVal t ∨ 18446744073709551616 ≤ decVal t then .error (12, skip (l.drop i)) else .ok (decVal t, (skip (l.drop i)).dropWhile isD)) := by
      unfold num; rw [(num_isD (l.drop i)).1, ← hj1, ← g5]
    have hdk : l.drop k = (skip (l.drop i)).dropWhile isD := by rw [(num_isD (l.drop i)).2, ← hj1]; exact g6
    rw [hnum]
    refine walk ?_
    refine wif_dec (fun h0 => ?_) (fun h0 => ?_)
    · have hbad : badNum t = true := by
        have : t = [] := List.eq_nil_of_length_eq_zero (by omega)
        subst this; rfl
      refine walk ?_
      (repeat (refine wl_guard_un rfl rfl rfl rfl ?_))
      · refine walk ?_
        refine wq_ret1 rfl rfl (0, j, 4) rfl ⟨hj3, by show (0 : Nat) < _; omega, ?_⟩ Ent.refl
        rw [if_pos hbad]; exact ⟨rfl, hj1⟩
    · have ht0 : t ≠ [] := by intro h; subst h; simp at g1; omega
      have hbe : badNum t = (decide (1 < t.length) && (t.headD 0 == 48)) := by cases t with | nil => exact absurd rfl ht0 | cons _ _ => rfl
      have hh : peek (l.drop j) = t.headD 0 := by
        cases hd : l.drop j with
        | nil => rw [hd] at g5; exact absurd g5 (by simpa using ht0)
        | cons x r =>
          rw [hd, List.takeWhile_cons] at g5
          split at g5
          · rw [g5]; rfl
          · exact absurd g5 ht0
      refine walk ?_
      refine wif_dec (fun h1 => ?_) (fun h1 => ?_)
      · refine walk ?_
        refine call (tat_spec p lv l j 0 j) ?_
        intro _ _
        refine walk ?_
        refine wif_dec (fun h2 => ?_) (fun h2 => ?_)
        · have hbad : badNum t = true := by rw [hbe, Bool.and_eq_true, decide_eq_true_eq, beq_iff_eq]; exact ⟨by omega, by omega⟩
          · refine walk ?_
            refine wq_ret1 rfl rfl (0, j, 4) rfl ⟨hj3, by show (0 : Nat) < _; omega, ?_⟩ Ent.refl
            rw [if_pos hbad]; exact ⟨rfl, hj1⟩
        · have hbad : ¬ badNum t = true := by
            rw [hbe, Bool.and_eq_true, decide_eq_true_eq, beq_iff_eq]
            rintro ⟨_, h3⟩; omega
          · refine walk ?_
            refine wif_dec (fun ho => ?_) (fun ho => ?_)
            · refine walk ?_
              refine wq_ret1 rfl rfl (0, j, 12) rfl ⟨hj3, by show (0 : Nat) < _; omega, ?_⟩ Ent.refl
              rw [if_neg hbad, if_pos (.inr ho)]; exact ⟨rfl, hj1⟩
            · have hn := g4 (by omega)
              refine walk ?_
              refine wif_dec (fun hm => ?_) (fun hm => ?_)
              · refine walk ?_
                refine wq_ret1 rfl rfl (0, j, 12) rfl ⟨hj3, by show (0 : Nat) < _; omega, ?_⟩ Ent.refl
                rw [if_neg hbad, if_pos (by omega)]; exact ⟨rfl, hj1⟩
              · refine walk ?_
                refine wq_ret1 rfl rfl (n, k, 0) rfl ⟨g2, g3, ?_⟩ Ent.refl
                rw [if_neg hbad, if_neg (by omega)]; exact ⟨hn, hdk, rfl⟩
      · have hbad : ¬ badNum t = true := by rw [hbe, Bool.and_eq_true, decide_eq_true_eq, beq_iff_eq]; omega
        refine walk ?_
        (repeat (refine wl_guard_un rfl rfl rfl rfl ?_))
        · refine walk ?_
          refine wif_dec (fun ho => ?_) (fun ho => ?_)
          · refine walk ?_
            refine wq_ret1 rfl rfl (0, j, 12) rfl ⟨hj3, by show (0 : Nat) < _; omega, ?_⟩ Ent.refl
            rw [if_neg hbad, if_pos (.inr ho)]; exact ⟨rfl, hj1⟩
          · have hn := g4 (by omega)
            refine walk ?_
            refine wif_dec (fun hm => ?_) (fun hm => ?_)
            · refine walk ?_
              refine wq_ret1 rfl rfl (0, j, 12) rfl ⟨hj3, by show (0 : Nat) < _; omega, ?_⟩ Ent.refl
              rw [if_neg hbad, if_pos (by omega)]; exact ⟨rfl, hj1⟩
            · refine walk ?_
              refine wq_ret1 rfl rfl (n, k, 0) rfl ⟨g2, g3, ?_⟩ Ent.refl
              rw [if_neg hbad, if_neg (by omega)]; exact ⟨hn, hdk, rfl⟩
set_option maxHeartbeats 4000000 in
theorem tquoted_spec (p : Nat) (lv : Value) (l : List Nat) (i : Nat) (hl : l.length ≤ 65536) (hi : i ≤ l.length) :
    Spec0 Tryd.prog 45 [vp p] (Rd lv 1 (l.map vr)) (fun F => ScanAt p lv i 0 :: F) (QuoRes l (quo (l.drop i))) (fun x => vs x.1) (fun x F => ScanAt p lv x.2.1 x.2.2 :: F) := by
  have h10 : isQ 10 = false := rfl
  (refine spec_of Tryd.func45 rfl Tryd.ntmps45 rfl (fun F w0 hrd => ?_))
  haveI : RdIn F lv 1 (l.map vr) := ⟨hrd⟩
  refine walk ?_
  (repeat (first | (refine wif_dec (fun _ => ?_) (fun hz => by exfalso; omega); refine walk ?_) | (refine wif_dec (fun hz => by exfalso; omega) (fun _ => ?_); refine walk ?_)))
  refine call (tblanks_spec p lv l i 0 (by omega) hi) ?_
  intro j hj
  obtain ⟨hj1, hj2, hj3⟩ := hj
  unfold quo
  rw [← hj1]
  refine walk ?_
  refine call (tat_spec p lv l j 0 j) ?_
  intro _ _
  refine walk ?_
  refine wif_dec (fun h0 => ?_) (fun h0 => ?_)
  · refine walk ?_
    refine wq_ret1 rfl rfl (([] : Bytes), j, 4) rfl ⟨hj3, ?_⟩ Ent.refl
    rw [if_pos (by omega)]; exact ⟨rfl, rfl⟩
  rw [if_neg (by omega), tail_drop]
  have hlt := (drop_peek (l := l) (j := j) (by omega)).1
  refine walk ?_
  refine wc_loop (X := Nat) (fun y => [(0, vp p), (3, vi y), (2, vs [])]) (fun y => ScanAt p lv j 0 :: F)
    (fun y => j + 1 ≤ y ∧ y ≤ l.length ∧ (l.drop (j + 1)).takeWhile isQ = (l.take y).drop (j + 1) ++ (l.drop y).takeWhile isQ ∧ (l.drop y).dropWhile isQ = (l.drop (j + 1)).dropWhile isQ) (fun y => l.length - y) (j + 1) ⟨Nat.le_refl _, hlt, by rw [List.drop_take]; simp, rfl⟩ envs Ent.refl (fun k hk => ?_)
  obtain ⟨h0', h1, h2, h3⟩ := hk
  refine walk ?_
  refine call (tat_spec p lv l j 0 k) ?_
  intro _ _
  refine walk ?_
  refine wif_dec (fun hc1 => ?_) (fun hc1 => ?_)
  · refine walk ?_
    refine call (tat_spec p lv l j 0 k) ?_
    intro _ _
    refine walk ?_
    refine wif_dec (fun hc2 => ?_) (fun hc2 => ?_)
    · have hq : isQ (peek (l.drop k)) = true := by simp [isQ]; omega
      obtain ⟨hlt, e1, e2⟩ := span_go hq h10
      rw [e1] at h2
      rw [e2] at h3
      refine walk ?_
      refine wq_round (k + 1) ⟨by omega, hlt, ?_, h3⟩ (by omega) envs Ent.refl
      rw [h2, List.take_succ_eq_append_getElem hlt, List.drop_append_of_le_length (by rw [List.length_take]; omega), peek_at hlt]; simp
    · have hq : isQ (peek (l.drop k)) = false := by simp [isQ]; omega
      obtain ⟨e1, e2⟩ := span_end hq
      rw [e1, List.append_nil] at h2
      rw [e2] at h3
      rw [← h3]
      have hlm : (l.map vr).length = l.length := List.length_map ..
      haveI : RdIn F (cutSl lv (j + 1) k) 1 (((l.take k).drop (j + 1)).map vr) := ⟨fun h hs => by
        have h4 := (hrd h hs).cut (i := j + 1) (j := k) h0' (by rw [hlm]; exact h1)
        rwa [← List.map_take, ← List.map_drop] at h4⟩
      refine walk ?_
      refine draw ?_; refine dy 0 ?_; refine dy 1 ?_; refine dy 2 ?_; refine dy 3 ?_; refine dy 4 ?_; refine dy 5 ?_; refine dy 6 ?_; refine dy 7 ?_; refine dy 8 ?_; refine dy 9 ?_
      refine dy 10 (v := cutSl lv (j + 1) k) (I := Tt) (hi := rfl) ?_ (y := ?_); rotate_left; exact yl_cutR (i := j + 1) rfl rfl rfl h0' (by rw [hlm]; exact h1)
      refine dy 11 ?_; refine dy 12 ?_
      refine walk ?_
      refine call (tat_spec p lv l k 0 k) ?_
      intro _ _
      refine walk ?_
      refine wif_dec (fun h0 => ?_) (fun h0 => ?_)
      · refine walk ?_
        refine wq_ret1 rfl rfl (([] : Bytes), k, 4) rfl ⟨h1, ?_⟩ Ent.refl
        rw [if_pos (by omega)]; exact ⟨rfl, rfl⟩
      · rw [if_neg (by omega), tail_drop]
        have hlt2 := (drop_peek (l := l) (j := k) (by omega)).1
        refine walk ?_
        refine wq_ret1 rfl rfl (bytesOf ((l.drop (j + 1)).takeWhile isQ), k + 1, 0) ?_ ⟨hlt2, rfl, rfl, rfl⟩ Ent.refl
        rw [h2]; rfl
  · have hq : isQ (peek (l.drop k)) = false := by simp [isQ]; omega
    obtain ⟨e1, e2⟩ := span_end hq
    rw [e1, List.append_nil] at h2
    rw [e2] at h3
    rw [← h3]
    have hlm : (l.map vr).length = l.length := List.length_map ..
    haveI : RdIn F (cutSl lv (j + 1) k) 1 (((l.take k).drop (j + 1)).map vr) := ⟨fun h hs => by
      have h4 := (hrd h hs).cut (i := j + 1) (j := k) h0' (by rw [hlm]; exact h1)
      rwa [← List.map_take, ← List.map_drop] at h4⟩
    refine walk ?_
    refine draw ?_; refine dy 0 ?_; refine dy 1 ?_; refine dy 2 ?_; refine dy 3 ?_; refine dy 4 ?_; refine dy 5 ?_; refine dy 6 ?_; refine dy 7 ?_; refine dy 8 ?_; refine dy 9 ?_
    refine dy 10 (v := cutSl lv (j + 1) k) (I := Tt) (hi := rfl) ?_ (y := ?_); rotate_left; exact yl_cutR (i := j + 1) rfl rfl rfl h0' (by rw [hlm]; exact h1)
    refine dy 11 ?_; refine dy 12 ?_
    refine walk ?_
    refine call (tat_spec p lv l k 0 k) ?_
    intro _ _
    refine walk ?_
    refine wif_dec (fun h0 => ?_) (fun h0 => ?_)
    · refine walk ?_
      refine wq_ret1 rfl rfl (([] : Bytes), k, 4) rfl ⟨h1, ?_⟩ Ent.refl
      rw [if_pos (by omega)]; exact ⟨rfl, rfl⟩
    · rw [if_neg (by omega), tail_drop]
      have hlt2 := (drop_peek (l := l) (j := k) (by omega)).1
      refine walk ?_
      refine wq_ret1 rfl rfl (bytesOf ((l.drop (j + 1)).takeWhile isQ), k + 1, 0) ?_ ⟨hlt2, rfl, rfl, rfl⟩ Ent.refl
      rw [h2]; rfl
end Go.Proofs.YtihkfklpoliilaaDoor
