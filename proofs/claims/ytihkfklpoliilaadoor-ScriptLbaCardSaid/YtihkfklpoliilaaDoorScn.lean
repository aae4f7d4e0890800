/- The scanner: sign by sign, numbers, quoted texts, steps. -/
import Derived.Test.YtihkfklpoliilaaDoorSlb
namespace Go.Proofs.YtihkfklpoliilaaDoor
open Go Go.Sl
attribute [local irreducible] Yl WL WC WQ WD
theorem drop_peek {l : List Nat} {j : Nat} (h : peek (l.drop j) ≠ 10) : j < l.length ∧ l.drop j = peek (l.drop j) :: l.drop (j + 1) := by
  by_cases hj : j < l.length
  · refine ⟨hj, ?_⟩
    rw [List.drop_eq_getElem_cons hj]; rfl
  · rw [List.drop_eq_nil_of_le (by omega)] at h; exact absurd rfl h
theorem peek_nil {l : List Nat} {j : Nat} (h : l.length ≤ j) : peek (l.drop j) = 10 := by rw [List.drop_eq_nil_of_le h]; rfl
theorem peek_at {l : List Nat} {j : Nat} (h : j < l.length) : peek (l.drop j) = l[j] := by rw [List.drop_eq_getElem_cons h]; rfl
/-- a scanner in memory -/
abbrev ScanAt (p : Nat) (lv : Value) (i e : Nat) : HP := Cells p [lv, vi i, vi e]
set_option maxHeartbeats 1000000 in
theorem peek_spec (p : Nat) (lv : Value) (l : List Nat) (i e : Nat) :
    Spec0 Tryd.prog 26 [vp p] (Rd lv 1 (l.map vr)) (fun F => ScanAt p lv i e :: F) (fun _ : Unit => True) (fun _ => vr (peek (l.drop i))) (fun _ F => ScanAt p lv i e :: F) := by
  (refine spec_of Tryd.func26 rfl Tryd.ntmps26 rfl (fun F w0 hrd => ?_))
  haveI : RdIn F lv 1 (l.map vr) := ⟨hrd⟩
  refine walk ?_
  (refine draw ?_; refine dy 0 ?_; refine dy 1 ?_; refine dy 2 ?_; refine dy 3 ?_; refine dy 4 ?_; refine dy 5 ?_; refine dy 6 ?_; refine dy 7 ?_; refine dy 8 ?_; refine dy 9 ?_; refine walk ?_)
  refine wif_dec (fun hc => ?_) (fun hc => ?_)
  · have hi : i < l.length := by omega
    refine walk ?_
    (refine draw ?_; refine dy 0 ?_; refine dy 1 ?_; refine dy 2 ?_; refine dy 3 ?_; refine dy 4 ?_; refine dy 5 ?_; refine dy 6 ?_; refine dy 7 ?_; refine dy 8 ?_; refine dy 9 ?_; refine dy 10 ?_; refine walk ?_)
    exact wq_ret1 rfl rfl () (by rw [peek_at hi]) trivial Ent.refl
  · refine walk ?_
    exact wq_ret1 rfl rfl () (by rw [peek_nil (by omega)]; rfl) trivial Ent.refl
theorem fail_spec (p : Nat) (lv : Value) (i : Nat) (c : Nat) :
    Spec0 Tryd.prog 28 [vp p, vi c] (fun _ => True) (fun F => ScanAt p lv i 0 :: F) (fun _ : Unit => True) (fun _ => .tuple #[]) (fun _ F => ScanAt p lv i c :: F) := by
  (refine spec_of Tryd.func28 rfl Tryd.ntmps28 rfl (fun F w0 hrd => ?_))
  refine walk ?_
  (repeat (first | (refine wif_dec (fun _ => ?_) (fun hz => by exfalso; omega); refine walk ?_) | (refine wif_dec (fun hz => by exfalso; omega) (fun _ => ?_); refine walk ?_)))
  exact wq_end0 rfl () rfl trivial Ent.refl
/-- signs from one to another one -/
def inR (a b r : Nat) : Bool := decide (a ≤ r) && decide (r ≤ b)
theorem span_go {q : Nat → Bool} {l : List Nat} {j : Nat} (hq : q (peek (l.drop j)) = true) (h10 : q 10 = false) :
    j < l.length ∧ (l.drop j).takeWhile q = peek (l.drop j) :: (l.drop (j + 1)).takeWhile q ∧ (l.drop j).dropWhile q = (l.drop (j + 1)).dropWhile q := by
  have hne : peek (l.drop j) ≠ 10 := fun h => by rw [h, h10] at hq; cases hq
  obtain ⟨h1, h2⟩ := drop_peek hne
  refine ⟨h1, ?_, ?_⟩
  · conv => lhs; rw [h2, List.takeWhile_cons, if_pos hq]
  · conv => lhs; rw [h2, List.dropWhile_cons, if_pos hq]
theorem span_end {q : Nat → Bool} {l : List Nat} {j : Nat} (hq : q (peek (l.drop j)) = false) : (l.drop j).takeWhile q = [] ∧ (l.drop j).dropWhile q = l.drop j := by
  by_cases hj : j < l.length
  · rw [peek_at hj] at hq
    rw [List.drop_eq_getElem_cons hj, List.takeWhile_cons, List.dropWhile_cons, hq]; simp
  · rw [List.drop_eq_nil_of_le (by omega)]; simp
theorem peek_mem {l : List Nat} {j : Nat} (h : j < l.length) : peek (l.drop j) ∈ l := by rw [peek_at h]; exact List.getElem_mem h
theorem skip_go {l : List Nat} {j : Nat} (h : peek (l.drop j) = 32) : skip (l.drop (j + 1)) = skip (l.drop j) :=
  (span_go (q := isB) (by simp [isB, h]) rfl).2.2.symm
theorem skip_end {l : List Nat} {j : Nat} (h : peek (l.drop j) ≠ 32) : skip (l.drop j) = l.drop j := (span_end (q := isB) (by simpa [isB] using h)).2
set_option maxHeartbeats 1000000 in
theorem blanks_spec (p : Nat) (lv : Value) (l : List Nat) (i e : Nat) (hl : l.length ≤ 1099511627776) (hi : i ≤ l.length) :
    Spec0 Tryd.prog 25 [vp p] (Rd lv 1 (l.map vr)) (fun F => ScanAt p lv i e :: F) (fun j : Nat => l.drop j = skip (l.drop i) ∧ i ≤ j ∧ j ≤ l.length) (fun _ => .tuple #[]) (fun j F => ScanAt p lv j e :: F) := by
  (refine spec_of Tryd.func25 rfl Tryd.ntmps25 rfl (fun F w0 hrd => ?_))
  haveI : RdIn F lv 1 (l.map vr) := ⟨hrd⟩
  refine walk ?_
  refine wc_loop (X := Nat) (fun j => [(0, vp p)]) (fun j => ScanAt p lv j e :: F) (fun j => skip (l.drop j) = skip (l.drop i) ∧ i ≤ j ∧ j ≤ l.length) (fun j => l.length - j) i ⟨rfl, Nat.le_refl _, hi⟩ envs Ent.refl (fun j hj => ?_)
  obtain ⟨h1, h2, h3⟩ := hj
  refine walk ?_
  refine call (peek_spec p lv l j e) ?_
  intro _ _
  refine walk ?_
  refine wif_dec (fun hc => ?_) (fun hc => ?_)
  · have hlt := (drop_peek (l := l) (j := j) (by omega)).1
    refine walk ?_
    exact wq_round (j + 1) ⟨by rw [skip_go (by omega), h1], by omega, by omega⟩ (by omega) envs Ent.refl
  · refine walk ?_
    exact wq_end0 rfl j rfl ⟨by rw [← skip_end (by omega), h1], h2, h3⟩ Ent.refl
set_option maxHeartbeats 2000000 in
theorem run_spec (p : Nat) (lv : Value) (l : List Nat) (i a b : Nat) (ha : 10 < a) (hl : l.length ≤ 65536) (hi : i ≤ l.length) (hok : ∀ r ∈ l, RuneOk r) :
    Spec0 Tryd.prog 40 [vp p, vr a, vr b] (Rd lv 1 (l.map vr)) (fun F => ScanAt p lv i 0 :: F) (fun j : Nat => l.drop j = (l.drop i).dropWhile (inR a b) ∧ i ≤ j ∧ j ≤ l.length) (fun _ => vs (bytesOf ((l.drop i).takeWhile (inR a b)))) (fun j F => ScanAt p lv j 0 :: F) := by
  have h10 : inR a b 10 = false := by simp [inR]; omega
  (refine spec_of Tryd.func40 rfl Tryd.ntmps40 rfl (fun F w0 hrd => ?_))
  haveI : RdIn F lv 1 (l.map vr) := ⟨hrd⟩
  refine walk ?_
  intro c
  refine WL.ent Bld.new ?_
  refine walk ?_
  refine wc_loop (X := Nat × Bytes) (fun y => [(0, vp p), (1, vr a), (2, vr b), (7, vp c)]) (fun y => Bld c y.2 :: ScanAt p lv y.1 0 :: F)
    (fun y => y.2 ++ bytesOf ((l.drop y.1).takeWhile (inR a b)) = bytesOf ((l.drop i).takeWhile (inR a b)) ∧ (l.drop y.1).dropWhile (inR a b) = (l.drop i).dropWhile (inR a b) ∧ i ≤ y.1 ∧ y.1 ≤ l.length ∧ y.2.length ≤ 4 * y.1) (fun y => l.length - y.1) (i, []) ⟨rfl, rfl, Nat.le_refl _, hi, by simp⟩ envs Ent.refl (fun y hy => ?_)
  obtain ⟨j, bs⟩ := y
  dsimp only at hy ⊢
  obtain ⟨h1, h2, h3, h4, h5⟩ := hy
  refine walk ?_
  refine call (peek_spec p lv l j 0) ?_
  intro _ _
  refine walk ?_
  refine wif_dec (fun hc1 => ?_) (fun hc1 => ?_)
  · refine walk ?_
    refine call (peek_spec p lv l j 0) ?_
    intro _ _
    refine walk ?_
    refine wif_dec (fun hc2 => ?_) (fun hc2 => ?_)
    · have hq : inR a b (peek (l.drop j)) = true := by simp [inR]; omega
      obtain ⟨hlt, e1, e2⟩ := span_go hq h10
      have hrk := hok _ (peek_mem hlt)
      have hel := enc_len hrk
      rw [e1] at h1
      rw [e2] at h2
      refine walk ?_
      refine call (peek_spec p lv l j 0) ?_
      intro _ _
      refine walk ?_
      refine call (writeRune_spec c bs (peek (l.drop j)) hrk (by omega)) ?_
      intro _ _
      refine walk ?_
      refine wq_round (j + 1, bs ++ enc (peek (l.drop j))) ⟨?_, h2, by dsimp only; omega, by dsimp only; omega, by dsimp only; rw [List.length_append]; omega⟩ (by dsimp only; omega) envs ?_
      · dsimp only; rw [← h1]; simp [bytesOf]
      · dsimp only; exact Ent.swap
    · have hq : inR a b (peek (l.drop j)) = false := by simp [inR]; omega
      obtain ⟨e1, e2⟩ := span_end hq
      rw [e1] at h1
      rw [e2] at h2
      refine walk ?_
      refine call (bldString_spec c bs (by omega)) ?_
      intro _ _
      refine walk ?_
      refine wq_ret1 rfl rfl j ?_ ⟨h2, h3, h4⟩ Ent.refl
      rw [← h1]; simp [bytesOf]
  · have hq : inR a b (peek (l.drop j)) = false := by simp [inR]; omega
    obtain ⟨e1, e2⟩ := span_end hq
    rw [e1] at h1
    rw [e2] at h2
    refine walk ?_
    refine call (bldString_spec c bs (by omega)) ?_
    intro _ _
    refine walk ?_
    refine wq_ret1 rfl rfl j ?_ ⟨h2, h3, h4⟩ Ent.refl
    rw [← h1]; simp [bytesOf]
/-- a run of signs below 128: a byte each -/
theorem ascii_bytes : ∀ (t : List Nat), (∀ r ∈ t, r < 128) → bytesOf t = t.map UInt8.ofNat
  | [], _ => rfl
  | r :: t, h => by
    have h1 := ascii_bytes t (fun x hx => h x (List.mem_cons_of_mem _ hx))
    unfold bytesOf at h1 ⊢
    rw [List.flatMap_cons, h1, enc1 (h r (List.mem_cons_self ..))]; rfl
theorem all_takeWhile {q : Nat → Bool} : ∀ (r : List Nat), ∀ d ∈ r.takeWhile q, q d = true
  | [], d, h => by cases h
  | x :: r, d, h => by
    rw [List.takeWhile_cons] at h
    split at h
    · rename_i hx
      rcases List.mem_cons.1 h with rfl | h
      · exact hx
      · exact all_takeWhile r d h
    · cases h
theorem digits_of (r : List Nat) : ∀ d ∈ r.takeWhile (inR 48 57), 48 ≤ d ∧ d ≤ 57 := fun d hd => by
  have := all_takeWhile r d hd
  simpa [inR] using this
theorem decFrom_ge : ∀ (t : List Nat) (acc : Nat), acc ≤ decFrom acc t
  | [], acc => Nat.le_refl _
  | d :: t, acc => by
    have := decFrom_ge t (acc * 10 + (d - 48))
    show acc ≤ decFrom (acc * 10 + (d - 48)) t
    omega
/-- the library's number of a run of digits -/
theorem parseM_digits : ∀ (t : List Nat) (acc : Nat), (∀ d ∈ t, 48 ≤ d ∧ d ≤ 57) → acc ≤ 18446744073709551615 → Lib.parseUintM (2 ^ 64 - 1) acc (t.map UInt8.ofNat) = if decFrom acc t ≤ 18446744073709551615 then .ok (decFrom acc t) else .range
  | [], acc, _, h => by simp [Lib.parseUintM, decFrom, h]
  | d :: t, acc, hd, h => by
    have h1 := hd d (List.mem_cons_self ..)
    have h2 : (UInt8.ofNat d).toNat = d := by rw [UInt8.toNat_ofNat', Nat.mod_eq_of_lt (by omega)]
    have h3 : decFrom acc (d :: t) = decFrom (acc * 10 + (d - 48)) t := rfl
    have h4 := decFrom_ge t (acc * 10 + (d - 48))
    rw [List.map_cons, h3]
    unfold Lib.parseUintM
    rw [h2, if_pos (by omega)]
    by_cases c1 : 1844674407370955162 ≤ acc
    · rw [if_pos c1, if_neg (by omega)]
    · rw [if_neg c1]
      by_cases c2 : 18446744073709551615 < acc * 10 + (d - 48)
      · rw [if_pos (by simpa using c2), if_neg (by omega)]
      · rw [if_neg (by simpa using c2)]
        exact parseM_digits t _ (fun x hx => hd x (List.mem_cons_of_mem _ hx)) (by omega)
theorem parseB_digits (t : List Nat) (h0 : t ≠ []) (hd : ∀ d ∈ t, 48 ≤ d ∧ d ≤ 57) : Lib.parseUintB 64 (t.map UInt8.ofNat) = if decVal t ≤ 18446744073709551615 then .ok (decVal t) else .range := by
  unfold Lib.parseUintB
  rw [if_neg (by simpa using h0)]
  exact parseM_digits t 0 hd (by omega)
theorem num_isD (r : List Nat) : (skip r).takeWhile isD = (skip r).takeWhile (inR 48 57) ∧ (skip r).dropWhile isD = (skip r).dropWhile (inR 48 57) := ⟨rfl, rfl⟩
/-- what a number's reading leaves -/
def NumRes (l : List Nat) (m : Scan Nat) (x : Nat × Nat × Nat) : Prop := x.2.1 ≤ l.length ∧ x.1 < 18446744073709551616 ∧ match m with
  | .ok (n, r) => x.1 = n ∧ l.drop x.2.1 = r ∧ x.2.2 = 0
  | .error (c, r) => x.2.2 = c ∧ l.drop x.2.1 = r
set_option maxHeartbeats 4000000 in
theorem number_spec (p : Nat) (lv : Value) (l : List Nat) (i most : Nat) (hl : l.length ≤ 65536) (hi : i ≤ l.length) (hok : ∀ r ∈ l, RuneOk r) :
    Spec0 Tryd.prog 41 [vp p, .int .u64 most] (fun h => Tabs h ∧ Rd lv 1 (l.map vr) h) (fun F => ScanAt p lv i 0 :: F) (NumRes l (num most (l.drop i))) (fun x => .int .u64 x.1) (fun x F => ScanAt p lv x.2.1 x.2.2 :: F) := by
  (refine spec_of Tryd.func41 rfl Tryd.ntmps41 rfl (fun F w0 hrd => ?_))
  haveI : RdIn F lv 1 (l.map vr) := ⟨fun h hs => (hrd h hs).2⟩
  haveI : ReadIn F Tabs := ⟨fun h hs => (hrd h hs).1⟩
  refine walk ?_
  (repeat (first | (refine wif_dec (fun _ => ?_) (fun hz => by exfalso; omega); refine walk ?_) | (refine wif_dec (fun hz => by exfalso; omega) (fun _ => ?_); refine walk ?_)))
  refine call (blanks_spec p lv l i 0 (by omega) hi) ?_
  intro j hj
  obtain ⟨hj1, hj2, hj3⟩ := hj
  refine walk ?_
  refine call (run_spec p lv l j 48 57 (by omega) hl hj3 hok) ?_
  intro k hk
  obtain ⟨hk1, hk2, hk3⟩ := hk
  rw [hj1] at hk1
  rw [hj1]
  obtain ⟨t, ht⟩ : ∃ t, t = (skip (l.drop i)).takeWhile (inR 48 57) := ⟨_, rfl⟩
  have htd : ∀ d ∈ t, 48 ≤ d ∧ d ≤ 57 := by rw [ht]; exact digits_of _
  have hb := ascii_bytes t (fun r hr => by have := htd r hr; omega)
  rw [← ht, hb]
  refine walk ?_
  refine call (parseUint_spec (t.map UInt8.ofNat) (by rw [List.length_map, ht]; have := (List.takeWhile_sublist (inR 48 57) (l := skip (l.drop i))).length_le; have h2 := skip_len (l.drop i); rw [List.length_drop] at h2; omega)) ?_
  intro x hx
  obtain ⟨u, ev⟩ := x
  obtain ⟨hx1, hx2⟩ := hx
  dsimp only at hx1 hx2 ⊢
  have hu64 : u < 18446744073709551616 := by
    rcases hp : Lib.parseUintB 64 (t.map UInt8.ofNat) with v | _ | _
    · have h1 := hx1 v hp; have h2 := parseM_digits t 0 htd (by omega); unfold Lib.parseUintB at hp; split at hp <;> (try cases hp); rw [h2] at hp; split at hp <;> cases hp; cases h1; omega
    · exact (hx2 (fun v h => by rw [hp] at h; cases h)).1
    · exact (hx2 (fun v h => by rw [hp] at h; cases h)).1
  have hlen : (t.map UInt8.ofNat).length = t.length := List.length_map ..
  have hnum : num most (l.drop i) = (if badNum t then .error (4, skip (l.drop i)) else if most < decVal t ∨ 18446744073709551616 ≤ decVal t then .error (12, skip (l.drop i)) else .ok (decVal t, (skip (l.drop i)).dropWhile isD)) := by
    unfold num; rw [(num_isD (l.drop i)).1, ← ht]
  rw [hnum]
  refine walk ?_
  refine wif_dec (fun h0 => ?_) (fun h0 => ?_)
  · have hbad : badNum t = true := by
      have : t = [] := by simpa using h0
      subst this; rfl
    refine walk ?_
    (repeat (refine wl_guard_un rfl rfl rfl rfl ?_))
    · refine walk ?_
      refine call (fail_spec p lv j 4) ?_
      intro _ _
      refine walk ?_
      refine wq_ret1 rfl rfl (u, j, 4) rfl ⟨hj3, hu64, ?_⟩ Ent.refl
      rw [if_pos hbad]; exact ⟨rfl, hj1⟩
  · have ht0 : t ≠ [] := by simpa using h0
    have hpos : 0 < t.length := by cases t with | nil => exact absurd rfl ht0 | cons _ _ => simp
    have hbe : badNum t = (decide (1 < t.length) && (t.headD 0 == 48)) := by cases t with | nil => exact absurd rfl ht0 | cons _ _ => rfl
    refine walk ?_
    refine wif_dec (fun h1 => ?_) (fun h1 => ?_)
    · have hh : ((t.map UInt8.ofNat)[0]'(by omega)).toNat = t.headD 0 := by
        cases t with
        | nil => exact absurd rfl ht0
        | cons d t => have := htd d (List.mem_cons_self ..); simp; omega
      refine walk ?_
      refine wif_dec (fun h2 => ?_) (fun h2 => ?_)
      · have h3 : t.headD 0 = 48 := Int.ofNat_inj.1 (by rw [← hh]; exact h2)
        have hbad : badNum t = true := by rw [hbe, Bool.and_eq_true, decide_eq_true_eq, beq_iff_eq]; exact ⟨by omega, h3⟩
        · refine walk ?_
          refine call (fail_spec p lv j 4) ?_
          intro _ _
          refine walk ?_
          refine wq_ret1 rfl rfl (u, j, 4) rfl ⟨hj3, hu64, ?_⟩ Ent.refl
          rw [if_pos hbad]; exact ⟨rfl, hj1⟩
      · have hbad : ¬ badNum t = true := by
          rw [hbe, Bool.and_eq_true, decide_eq_true_eq, beq_iff_eq]
          rintro ⟨_, h3⟩
          rw [← hh] at h3
          exact h2 (by rw [h3]; rfl)
        · have hp := parseB_digits t ht0 htd
          by_cases hr : decVal t ≤ 18446744073709551615
          · rw [if_pos hr] at hp
            cases hx1 _ hp
            refine walk ?_
            refine wif_dec (fun hm => ?_) (fun hm => ?_)
            · refine walk ?_
              refine call (fail_spec p lv j 12) ?_
              intro _ _
              refine walk ?_
              refine wq_ret1 rfl rfl (decVal t, j, 12) rfl ⟨hj3, hu64, ?_⟩ Ent.refl
              rw [if_neg hbad, if_pos (by omega)]; exact ⟨rfl, hj1⟩
            · refine walk ?_
              refine wq_ret1 rfl rfl (decVal t, k, 0) rfl ⟨hk3, hu64, ?_⟩ Ent.refl
              rw [if_neg hbad, if_neg (by omega)]; exact ⟨rfl, hk1, rfl⟩
          · rw [if_neg hr] at hp
            obtain ⟨_, pv, rfl⟩ := hx2 (fun v h => by rw [hp] at h; cases h)
            refine walk ?_
            refine call (fail_spec p lv j 12) ?_
            intro _ _
            refine walk ?_
            refine wq_ret1 rfl rfl (u, j, 12) rfl ⟨hj3, hu64, ?_⟩ Ent.refl
            rw [if_neg hbad, if_pos (by omega)]; exact ⟨rfl, hj1⟩
    · have hbad : ¬ badNum t = true := by rw [hbe, Bool.and_eq_true, decide_eq_true_eq, beq_iff_eq]; omega
      refine walk ?_
      · have hp := parseB_digits t ht0 htd
        by_cases hr : decVal t ≤ 18446744073709551615
        · rw [if_pos hr] at hp
          cases hx1 _ hp
          refine walk ?_
          refine wif_dec (fun hm => ?_) (fun hm => ?_)
          · refine walk ?_
            refine call (fail_spec p lv j 12) ?_
            intro _ _
            refine walk ?_
            refine wq_ret1 rfl rfl (decVal t, j, 12) rfl ⟨hj3, hu64, ?_⟩ Ent.refl
            rw [if_neg hbad, if_pos (by omega)]; exact ⟨rfl, hj1⟩
          · refine walk ?_
            refine wq_ret1 rfl rfl (decVal t, k, 0) rfl ⟨hk3, hu64, ?_⟩ Ent.refl
            rw [if_neg hbad, if_neg (by omega)]; exact ⟨rfl, hk1, rfl⟩
        · rw [if_neg hr] at hp
          obtain ⟨_, pv, rfl⟩ := hx2 (fun v h => by rw [hp] at h; cases h)
          refine walk ?_
          refine call (fail_spec p lv j 12) ?_
          intro _ _
          refine walk ?_
          refine wq_ret1 rfl rfl (u, j, 12) rfl ⟨hj3, hu64, ?_⟩ Ent.refl
          rw [if_neg hbad, if_pos (by omega)]; exact ⟨rfl, hj1⟩
theorem number_err (p : Nat) (lv : Value) (i e most : Nat) (he : e ≠ 0) :
    Spec0 Tryd.prog 41 [vp p, .int .u64 most] (fun _ => True) (fun F => ScanAt p lv i e :: F) (fun _ : Unit => True) (fun _ => .int .u64 0) (fun _ F => ScanAt p lv i e :: F) := by
  (refine spec_of Tryd.func41 rfl Tryd.ntmps41 rfl (fun F w0 hrd => ?_))
  refine walk ?_
  (repeat (first | (refine wif_dec (fun _ => ?_) (fun hz => by exfalso; omega); refine walk ?_) | (refine wif_dec (fun hz => by exfalso; omega) (fun _ => ?_); refine walk ?_)))
  exact wq_ret1 rfl rfl () rfl trivial Ent.refl
theorem quoted_err (p : Nat) (lv : Value) (i e : Nat) (he : e ≠ 0) :
    Spec0 Tryd.prog 42 [vp p] (fun _ => True) (fun F => ScanAt p lv i e :: F) (fun _ : Unit => True) (fun _ => vs []) (fun _ F => ScanAt p lv i e :: F) := by
  (refine spec_of Tryd.func42 rfl Tryd.ntmps42 rfl (fun F w0 hrd => ?_))
  refine walk ?_
  (repeat (first | (refine wif_dec (fun _ => ?_) (fun hz => by exfalso; omega); refine walk ?_) | (refine wif_dec (fun hz => by exfalso; omega) (fun _ => ?_); refine walk ?_)))
  exact wq_ret1 rfl rfl () rfl trivial Ent.refl
/-- what a quoted text's reading leaves -/
def QuoRes (l : List Nat) (m : Scan Bytes) (x : Bytes × Nat × Nat) : Prop := x.2.1 ≤ l.length ∧ match m with
  | .ok (t, r) => x.1 = t ∧ l.drop x.2.1 = r ∧ x.2.2 = 0
  | .error (c, r) => x.2.2 = c ∧ l.drop x.2.1 = r
theorem tail_drop (l : List Nat) (j : Nat) : (l.drop j).tail = l.drop (j + 1) := by rw [List.tail_drop]
set_option maxHeartbeats 4000000 in
theorem quoted_spec (p : Nat) (lv : Value) (l : List Nat) (i : Nat) (hl : l.length ≤ 65536) (hi : i ≤ l.length) (hok : ∀ r ∈ l, RuneOk r) :
    Spec0 Tryd.prog 42 [vp p] (Rd lv 1 (l.map vr)) (fun F => ScanAt p lv i 0 :: F) (QuoRes l (quo (l.drop i))) (fun x => vs x.1) (fun x F => ScanAt p lv x.2.1 x.2.2 :: F) := by
  have h10 : isQ 10 = false := rfl
  (refine spec_of Tryd.func42 rfl Tryd.ntmps42 rfl (fun F w0 hrd => ?_))
  haveI : RdIn F lv 1 (l.map vr) := ⟨hrd⟩
  refine walk ?_
  (repeat (first | (refine wif_dec (fun _ => ?_) (fun hz => by exfalso; omega); refine walk ?_) | (refine wif_dec (fun hz => by exfalso; omega) (fun _ => ?_); refine walk ?_)))
  refine call (blanks_spec p lv l i 0 (by omega) hi) ?_
  intro j hj
  obtain ⟨hj1, hj2, hj3⟩ := hj
  unfold quo
  rw [← hj1]
  refine walk ?_
  refine call (peek_spec p lv l j 0) ?_
  intro _ _
  refine walk ?_
  refine wif_dec (fun h0 => ?_) (fun h0 => ?_)
  · refine walk ?_
    refine call (fail_spec p lv j 4) ?_
    intro _ _
    refine walk ?_
    refine wq_ret1 rfl rfl (([] : Bytes), j, 4) rfl ⟨hj3, ?_⟩ Ent.refl
    rw [if_pos (by omega)]; exact ⟨rfl, rfl⟩
  rw [if_neg (by omega), tail_drop]
  have hlt := (drop_peek (l := l) (j := j) (by omega)).1
  refine walk ?_
  intro c
  refine WL.ent ((Bld.new (b := c)).trans (Ent.skip (Ent.of_eq (by rfl) : Ent _ (ScanAt p lv (j + 1) 0 :: F)))) ?_
  refine walk ?_
  refine wc_loop (X := Nat × Bytes) (fun y => [(0, vp p), (3, vp c)]) (fun y => Bld c y.2 :: ScanAt p lv y.1 0 :: F)
    (fun y => y.2 ++ bytesOf ((l.drop y.1).takeWhile isQ) = bytesOf ((l.drop (j + 1)).takeWhile isQ) ∧ (l.drop y.1).dropWhile isQ = (l.drop (j + 1)).dropWhile isQ ∧ y.1 ≤ l.length ∧ y.2.length ≤ 4 * y.1) (fun y => l.length - y.1) (j + 1, []) ⟨rfl, rfl, hlt, by simp⟩ envs Ent.refl (fun y hy => ?_)
  obtain ⟨k, bs⟩ := y
  dsimp only at hy ⊢
  obtain ⟨h1, h2, h4, h5⟩ := hy
  refine walk ?_
  refine call (peek_spec p lv l k 0) ?_
  intro _ _
  refine walk ?_
  refine wif_dec (fun hc1 => ?_) (fun hc1 => ?_)
  · refine walk ?_
    refine call (peek_spec p lv l k 0) ?_
    intro _ _
    refine walk ?_
    refine wif_dec (fun hc2 => ?_) (fun hc2 => ?_)
    · have hq : isQ (peek (l.drop k)) = true := by simp [isQ]; omega
      obtain ⟨hlt, e1, e2⟩ := span_go hq h10
      have hrk := hok _ (peek_mem hlt)
      have hel := enc_len hrk
      rw [e1] at h1
      rw [e2] at h2
      refine walk ?_
      refine call (peek_spec p lv l k 0) ?_
      intro _ _
      refine walk ?_
      refine call (writeRune_spec c bs (peek (l.drop k)) hrk (by omega)) ?_
      intro _ _
      refine walk ?_
      refine wq_round (k + 1, bs ++ enc (peek (l.drop k))) ⟨?_, h2, by dsimp only; omega, by dsimp only; rw [List.length_append]; omega⟩ (by dsimp only; omega) envs ?_
      · dsimp only; rw [← h1]; simp [bytesOf]
      · dsimp only; exact Ent.swap
    · have hq : isQ (peek (l.drop k)) = false := by simp [isQ]; omega
      obtain ⟨e1, e2⟩ := span_end hq
      rw [e1] at h1
      rw [e2] at h2
      rw [← h2]
      refine walk ?_
      refine call (peek_spec p lv l k 0) ?_
      intro _ _
      refine walk ?_
      refine wif_dec (fun h0 => ?_) (fun h0 => ?_)
      · refine walk ?_
        refine call (fail_spec p lv k 4) ?_
        intro _ _
        refine walk ?_
        refine wq_ret1 rfl rfl (([] : Bytes), k, 4) rfl ⟨h4, ?_⟩ perm
        rw [if_pos (by omega)]; exact ⟨rfl, rfl⟩
      · rw [if_neg (by omega), tail_drop]
        have hlt2 := (drop_peek (l := l) (j := k) (by omega)).1
        refine walk ?_
        refine call (bldString_spec c bs (by omega)) ?_
        intro _ _
        refine walk ?_
        refine wq_ret1 rfl rfl (bytesOf ((l.drop (j + 1)).takeWhile isQ), k + 1, 0) ?_ ⟨hlt2, rfl, rfl, rfl⟩ Ent.refl
        rw [← h1]; simp [bytesOf]
  · have hq : isQ (peek (l.drop k)) = false := by simp [isQ]; omega
    obtain ⟨e1, e2⟩ := span_end hq
    rw [e1] at h1
    rw [e2] at h2
    rw [← h2]
    refine walk ?_
    refine call (peek_spec p lv l k 0) ?_
    intro _ _
    refine walk ?_
    refine wif_dec (fun h0 => ?_) (fun h0 => ?_)
    · refine walk ?_
      refine call (fail_spec p lv k 4) ?_
      intro _ _
      refine walk ?_
      refine wq_ret1 rfl rfl (([] : Bytes), k, 4) rfl ⟨h4, ?_⟩ perm
      rw [if_pos (by omega)]; exact ⟨rfl, rfl⟩
    · rw [if_neg (by omega), tail_drop]
      have hlt2 := (drop_peek (l := l) (j := k) (by omega)).1
      refine walk ?_
      refine call (bldString_spec c bs (by omega)) ?_
      intro _ _
      refine walk ?_
      refine wq_ret1 rfl rfl (bytesOf ((l.drop (j + 1)).takeWhile isQ), k + 1, 0) ?_ ⟨hlt2, rfl, rfl, rfl⟩ Ent.refl
      rw [← h1]; simp [bytesOf]
end Go.Proofs.YtihkfklpoliilaaDoor
