/- A checkpoint's pages, as the program reads them. -/
import Derived.Test.YtohienhoifgmaaaGreatP46
import Derived.Test.YtohienhoifgmaaaGreatP48
import Derived.Test.YtohienhoifgmaaaGreatP31

namespace Go.Proofs.YtohienhoifgmaaaGreat
open Go Go.Sl
attribute [local irreducible] Yl WL WC WQ WD
theorem opened_len {b x : Bytes} (h : opened b = .inl x) : x.length + 4 = b.length := by
  unfold opened at h
  split at h
  · cases h
  · split at h
    · cases h; rw [List.length_take]; omega
    · cases h
theorem opened_err {b : Bytes} {e : Int} (h : opened b = .inr e) : e ≠ 0 := by
  unfold opened at h
  split at h
  · cases h; decide
  · split at h
    · cases h
    · cases h; decide
set_option maxHeartbeats 8000000 in
theorem one_spec (s : Shp) (h : s.Ok) (gen i : Nat) (hi : i < 65536) (v : Value) (b : Bytes) (hb : b.length = s.block.toNat) :
    Spec0 Tryz.prog 68 [Shp.val s, .int .u64 gen, vi i, v] (Rd v 1 (b.map vb)) (fun F => F) (fun _ : Value => True)
      (fun r => .tuple #[match pageOne s.block.toNat gen i b with | .inl _ => r | .inr _ => .slice none 0 0, vi (match pageOne s.block.toNat gen i b with | .inl _ => 0 | .inr e => e)])
      (fun r F => match pageOne s.block.toNat gen i b with | .inl x => SlB r x :: F | .inr _ => F) := by
  (refine spec_of Tryz.func68 rfl Tryz.ntmps68 rfl (fun F w0 hrd => ?_))
  haveI : RdIn F v 1 (b.map vb) := ⟨hrd⟩
  have g4 := h.block
  refine walk ?_
  intro c4
  refine walk ?_
  refine wif_dec (fun hz => absurd hz (by omega)) (fun _ => ?_)
  refine walk ?_
  refine call (open_spec v b (by omega) (by omega)) ?_
  intro u _
  have hone : pageOne s.block.toNat gen i b = match opened b with
    | .inr e => .inr e
    | .inl h => if (takeN 1 h).map (·.1) = some 80 ∧ (takeN 8 (h.drop 1)).map (·.1) = some gen ∧ (takeN 2 (h.drop 9)).map (·.1) = some i then .inl (h.drop 11) else .inr 4 := by
    unfold pageOne
    rw [if_neg (by omega)]
    cases opened b <;> rfl
  cases hop : opened b with
  | inr e =>
    rw [hop] at hone
    rw [hone]
    have he := opened_err hop
    dsimp only
    refine walk ?_
    refine wif_dec (fun _ => ?_) (fun hz => absurd he hz)
    refine walk ?_
    exact wq_ret2 rfl rfl rfl (Value.slice none 0 0) rfl trivial perm
  | inl x =>
    rw [hop] at hone
    have hxl := opened_len hop
    dsimp only at hone ⊢
    rw [takeN_some (by omega), takeN_some (by rw [List.length_drop]; omega), takeN_some (by rw [List.length_drop]; omega)] at hone
    dsimp only [Option.map_some] at hone
    have u1 := unle_lt (x.take 1)
    have u2 := unle_lt ((x.drop 1).take 8)
    have u3 := unle_lt ((x.drop 9).take 2)
    rw [List.length_take, Nat.min_eq_left (by omega)] at u1
    rw [List.length_take, List.length_drop, Nat.min_eq_left (by omega)] at u2 u3
    refine walk ?_
    refine wif_dec (fun hz => absurd rfl hz) (fun _ => ?_)
    refine walk ?_
    refine call (rread_spec' u x (by omega)) ?_
    intro p _
    refine walk ?_
    refine call (rtake_spec p x 1 (by omega) (by omega) (by omega)) ?_
    intro _ _
    refine walk ?_
    refine wif_dec (fun h1 => ?_) (fun h1 => ?_)
    · rw [if_neg (fun hh => h1 (by have := Option.some.inj hh.1; omega))] at hone
      rw [hone]
      refine walk ?_
      exact wq_ret2 rfl rfl rfl (Value.slice none 0 0) rfl trivial perm
    · refine walk ?_
      refine call (rtake_spec p (x.drop 1) 8 (by rw [List.length_drop]; omega) (by omega) (by rw [List.length_drop]; omega)) ?_
      intro _ _
      rw [List.drop_drop, show 1 + 8 = 9 from rfl]
      refine walk ?_
      refine wif_dec (fun h2 => ?_) (fun h2 => ?_)
      · rw [if_neg (fun hh => h2 (by have := Option.some.inj hh.2.1; omega))] at hone
        rw [hone]
        refine walk ?_
        exact wq_ret2 rfl rfl rfl (Value.slice none 0 0) rfl trivial perm
      · refine walk ?_
        refine call (rtake_spec p (x.drop 9) 2 (by rw [List.length_drop]; omega) (by omega) (by rw [List.length_drop]; omega)) ?_
        intro _ _
        rw [List.drop_drop, show 9 + 2 = 11 from rfl]
        refine walk ?_
        refine wif_dec (fun h3 => ?_) (fun h3 => ?_)
        · rw [if_neg (fun hh => h3 (by have := Option.some.inj hh.2.2; omega))] at hone
          rw [hone]
          refine walk ?_
          exact wq_ret2 rfl rfl rfl (Value.slice none 0 0) rfl trivial perm
        · rw [if_pos ⟨by rw [show unle (x.take 1) = 80 by omega], by rw [show unle ((x.drop 1).take 8) = gen by omega], by rw [show unle ((x.drop 9).take 2) = i by omega]⟩] at hone
          rw [hone]
          refine walk ?_
          refine call (rrest_spec p (x.drop 11) (by rw [List.length_drop]; omega)) ?_
          intro r _
          refine walk ?_
          exact wq_ret2 rfl rfl rfl r rfl trivial perm
theorem dec_bool (p : Prop) [Decidable p] : decide p = decide (decide p = true) := by simp
theorem pagesIn_step {block gen : Nat} {l : List Bytes} {k : Nat} (hk : k < l.length) : pagesIn block gen (l.drop k) k = match pageOne block gen k l[k] with
    | .inr e => .inr e
    | .inl h => match pagesIn block gen (l.drop (k + 1)) (k + 1) with
      | .inr e => .inr e
      | .inl r => .inl (h ++ r) := by
  rw [List.drop_eq_getElem_cons hk]
  rfl
def after_ : Bytes → Bytes ⊕ Int → Bytes ⊕ Int
  | _, .inr e => .inr e
  | a, .inl r => .inl (a ++ r)
theorem pageOne_err {block gen i : Nat} {b : Bytes} {e : Int} (h : pageOne block gen i b = .inr e) : e ≠ 0 := by
  unfold pageOne at h
  split at h
  · cases h; decide
  · cases h5 : opened b with
    | inr e' => rw [h5] at h; cases h; exact opened_err h5
    | inl y =>
      rw [h5] at h
      dsimp only at h
      split at h
      · cases h
      · cases h; decide
abbrev imgZero : Value := .agg #[.int .u64 0, vi 0, vi 0, .slice none 0 0, .slice none 0 0]
def decV : Img ⊕ Int → Value × Value → Value
  | .inl x, r => .tuple #[Img.val x r.1 r.2, vi 0]
  | .inr e, _ => .tuple #[imgZero, vi e]
def decP : Img ⊕ Int → Value × Value → List HP → List HP
  | .inl x, r, F => Sl r.1 2 (x.segs.flatMap isegCells) :: Sl r.2 1 (x.map.map vi) :: F
  | .inr _, _, F => F
set_option maxHeartbeats 16000000 in
theorem decode_spec (s : Shp) (h : s.Ok) (gen : Nat) (v : Value) (rows : List Row) (hn : (rows.length : Int) = s.pages) (hb : ∀ r ∈ rows, r.2.length = s.block.toNat) {res : Img ⊕ Int} (hres : res = Img.dec s.block.toNat gen s.pages.toNat s.segments.toNat s.stripes.toNat s.logical.toNat (s.all * s.slots).toNat (rows.map (·.2))) :
    Spec0 Tryz.prog 28 [Shp.val s, .int .u64 gen, v] (fun h => Rd v 1 (rows.map (·.1)) h ∧ ∀ r ∈ rows, Rd r.1 1 (r.2.map vb) h) (fun F => F) (fun _ : Value × Value => True)
      (fun r => decV res r) (fun r F => decP res r F) := by
  (refine spec_of Tryz.func28 rfl Tryz.ntmps28 rfl (fun F w0 hrd => ?_))
  haveI : RdIn F v 1 (rows.map (·.1)) := ⟨fun h hs => (hrd h hs).1⟩
  have hrow : ∀ r ∈ rows, RdIn F r.1 1 (r.2.map vb) := fun r hr => ⟨fun h hs => (hrd h hs).2 r hr⟩
  have g1 := h.segments
  have g2 := h.stripes
  have g3 := h.logical
  have g4 := h.block
  have g5 := bounds h
  have hlog := g5.logical
  have hpn := g5.pages
  refine walk ?_
  intro c3
  refine walk ?_
  intro c6
  refine walk ?_
  refine call (check_spec s h) ?_
  intro _ _
  refine walk ?_
  refine wif_dec (fun hz => absurd rfl hz) (fun _ => ?_)
  refine walk ?_
  refine call (pages_spec s h) ?_
  intro _ _
  refine walk ?_
  refine wif_dec (fun hz => absurd hn hz) (fun _ => ?_)
  refine walk ?_
  obtain ⟨l, hl⟩ : ∃ l, l = rows.map (·.2) := ⟨_, rfl⟩
  have hll : l.length = rows.length := by rw [hl, List.length_map]
  have hlb : ∀ x ∈ l, x.length = s.block.toNat := fun x hx => by
    rw [hl] at hx
    obtain ⟨r, hr, rfl⟩ := List.mem_map.1 hx
    exact hb r hr
  have hdec := Img.dec_eq (block := s.block.toNat) (gen := gen) (segments := s.segments.toNat) (stripes := s.stripes.toNat) (logical := s.logical.toNat) (places := (s.all * s.slots).toNat) (l := l) (pages := s.pages.toNat) (by omega)
  rw [← hl] at hres
  rw [← hres] at hdec
  refine wc_loop (X := Nat × Value × Bytes) (fun y => [(1, .int .u64 (gen : Int)), (3, vp c3), (6, vp c6), (30, v), (31, vi rows.length), (32, vi y.1), (8, y.2.1)])
    (fun y => SlB y.2.1 y.2.2 :: Cells c6 [.int .u64 0, vi 0, vi 0, .slice none 0 0, .slice none 0 0] :: Cells c3 (Shp.cells s) :: F)
    (fun y => y.1 ≤ rows.length ∧ y.2.2.length ≤ y.1 * 512 ∧ pagesIn s.block.toNat gen l 0 = after_ y.2.2 (pagesIn s.block.toNat gen (l.drop y.1) y.1)) (fun y => rows.length - y.1) (0, .slice none 0 0, []) ⟨by omega, by simp, by rw [List.drop_zero]; cases pagesIn s.block.toNat gen l 0 <;> rfl⟩ envs (Ent.trans (Γ' := Cells c6 [.int .u64 0, vi 0, vi 0, .slice none 0 0, .slice none 0 0] :: Cells c3 (Shp.cells s) :: F) perm (sl_nil 1)) (fun y hy => ?_)
  obtain ⟨k, av, acc⟩ := y
  dsimp only at hy ⊢
  obtain ⟨hk, hal, hin⟩ := hy
  refine walk ?_
  refine wif_dec (fun hlt => ?_) (fun hlt => ?_)
  · have hlt : k < rows.length := by omega
    have hr := List.getElem_mem hlt
    haveI := hrow _ hr
    rw [pagesIn_step (by omega)] at hin
    have hlk : l[k]'(by omega) = rows[k].2 := by subst hl; rw [List.getElem_map]
    rw [hlk] at hin
    refine walk ?_
    refine call (one_spec s h gen k (by omega) rows[k].1 rows[k].2 (hb _ hr)) ?_
    intro u _
    cases ho : pageOne s.block.toNat gen k rows[k].2 with
    | inr e =>
      rw [ho] at hin
      have he := pageOne_err ho
      have hres2 : res = .inr e := by
        rw [hdec, hin]; rfl
      rw [hres2]
      dsimp only [decV, decP]
      refine walk ?_
      refine wif_dec (fun _ => ?_) (fun hz => absurd he hz)
      refine walk ?_
      exact wq_retc2 rfl rfl rfl rfl (Value.slice none 0 0, Value.slice none 0 0) rfl trivial perm
    | inl x =>
      rw [ho] at hin
      dsimp only at hin ⊢
      have hxl : x.length ≤ 512 := by
        have hp : pagesIn s.block.toNat gen [rows[k].2] k = .inl (x ++ []) := by
          unfold pagesIn
          rw [ho]
          rfl
        have := pagesIn_len hp (by omega) (fun y hy => by rw [List.mem_singleton.1 hy, hb _ hr])
        simp at this
        omega
      refine walk ?_
      refine wif_dec (fun hz => absurd rfl hz) (fun _ => ?_)
      refine walk ?_
      intro av' _ _
      refine walk ?_
      refine wq_round (k + 1, av', acc ++ x) ⟨by dsimp only; omega, by dsimp only; rw [List.length_append, Nat.add_mul]; omega, ?_⟩ (by dsimp only; omega) envs ?_
      · dsimp only
        rw [hin]
        cases pagesIn s.block.toNat gen (l.drop (k + 1)) (k + 1) with
        | inr e => rfl
        | inl r => show Sum.inl (acc ++ (x ++ r)) = Sum.inl (acc ++ x ++ r); rw [List.append_assoc]
      · refine Ent.trans ?_ slb_app
        exact perm
  · obtain rfl : k = rows.length := by omega
    rw [List.drop_of_length_le (by omega)] at hin
    have hin : pagesIn s.block.toNat gen l 0 = .inl (acc ++ []) := hin
    rw [List.append_nil] at hin
    have hacc := pagesIn_len hin (by omega) hlb
    rw [hin] at hdec
    dsimp only at hdec
    have hpb := (pages_bound h).2
    have hble : 12 + 9 * s.segments.toNat + 4 * s.logical.toNat ≤ acc.length := by
      have e1 : ((acc.length : Nat) : Int) = s.pages * s.page := by
        rw [hacc, hll]
        push_cast
        rw [hn]
        unfold Shp.page
        congr 1
        omega
      unfold Shp.image at hpb
      omega
    rw [if_pos hble] at hdec
    obtain ⟨sg, hsg⟩ : ∃ n : Nat, n = s.segments.toNat := ⟨_, rfl⟩
    obtain ⟨lg, hlg⟩ : ∃ n : Nat, n = s.logical.toNat := ⟨_, rfl⟩
    rw [← hsg, ← hlg] at hble hdec
    have hse : s.segments = (sg : Int) := by omega
    have hlo : s.logical = (lg : Int) := by omega
    have hst : s.stripes = ((s.stripes.toNat : Nat) : Int) := by omega
    have ha512 : acc.length ≤ 30720000 := by
      have h1 : rows.length ≤ 60000 := by omega
      omega
    obtain ⟨D, hD⟩ : ∃ D, D = acc.drop 12 := ⟨_, rfl⟩
    have hDl : D.length = acc.length - 12 := by rw [hD, List.length_drop]
    have u1 := unle_lt ((acc.drop 8).take 2)
    have u2 := unle_lt ((acc.drop 10).take 2)
    rw [List.length_take, List.length_drop, Nat.min_eq_left (by omega)] at u1 u2
    refine walk ?_
    refine call (rread_spec' av acc (by omega)) ?_
    intro p _
    refine walk ?_
    refine call (rtake_spec p acc 8 (by omega) (by omega) (by omega)) ?_
    intro _ _
    refine walk ?_
    refine call (rtake_spec p (acc.drop 8) 2 (by rw [List.length_drop]; omega) (by omega) (by rw [List.length_drop]; omega)) ?_
    intro _ _
    rw [List.drop_drop, show 8 + 2 = 10 from rfl]
    refine walk ?_
    refine call (rtake_spec p (acc.drop 10) 2 (by rw [List.length_drop]; omega) (by omega) (by rw [List.length_drop]; omega)) ?_
    intro _ _
    rw [List.drop_drop, show 10 + 2 = 12 from rfl, ← hD]
    obtain ⟨f1, hf1⟩ : ∃ f, f = unle (acc.take 8) := ⟨_, rfl⟩
    obtain ⟨f2, hf2⟩ : ∃ f, f = unle ((acc.drop 8).take 2) := ⟨_, rfl⟩
    obtain ⟨f3, hf3⟩ : ∃ f, f = unle ((acc.drop 10).take 2) := ⟨_, rfl⟩
    rw [← hf1, ← hf2, ← hf3]
    rw [← hf2] at u1
    rw [← hf3] at u2
    refine walk ?_
    intro c14
    refine walk ?_
    (first | (refine wif_cut 6 76 (.bool (decide ((f2 : Int) - 1 < s.segments ∧ (f3 : Int) < s.stripes))) (fun K => ?_) ?_; refine wif_dec (fun hc => ?_) (fun hc => ?_); (iterate 6 ((first | (refine wl_guard_yes rfl rfl rfl ?_; refine wl_ya ?_) | (refine wl_guard_no rfl rfl rfl rfl rfl ?_) | (refine wl_ya ?_)))); exact K true _ _ rfl (by (repeat (first | exact trivial | refine And.intro (by first | exact trivial | rfl) ?_))) (by simp [hc]) (by first | rfl | (simp; done) | (simp; omega) | (simp [*]; done) | (simp [*]; omega)); (iterate 6 ((first | (refine wl_guard_yes rfl rfl rfl ?_; refine wl_ya ?_) | (refine wl_guard_no rfl rfl rfl rfl rfl ?_) | (refine wl_ya ?_)))); exact K false _ _ rfl (by (repeat (first | exact trivial | refine And.intro (by first | exact trivial | rfl) ?_))) (by simp [hc]) (by first | rfl | (simp; done) | (simp; omega) | (simp [*]; done) | (simp [*]; omega)); try (refine wl_nil ?_)) | (refine wif_cutn 6 76 (.bool (decide ((f2 : Int) - 1 < s.segments ∧ (f3 : Int) < s.stripes))) (fun K => ?_) ?_; refine wif_dec (fun hc => ?_) (fun hc => ?_); (iterate 6 ((first | (refine wl_guard_yes rfl rfl rfl ?_; refine wl_ya ?_) | (refine wl_guard_no rfl rfl rfl rfl rfl ?_) | (refine wl_ya ?_)))); exact K false _ _ rfl (by (repeat (first | exact trivial | refine And.intro (by first | exact trivial | rfl) ?_))) (by simp [hc]) (by first | rfl | (simp; done) | (simp; omega) | (simp [*]; done) | (simp [*]; omega)); (iterate 6 ((first | (refine wl_guard_yes rfl rfl rfl ?_; refine wl_ya ?_) | (refine wl_guard_no rfl rfl rfl rfl rfl ?_) | (refine wl_ya ?_)))); exact K true _ _ rfl (by (repeat (first | exact trivial | refine And.intro (by first | exact trivial | rfl) ?_))) (by simp [hc]) (by first | rfl | (simp; done) | (simp; omega) | (simp [*]; done) | (simp [*]; omega)); try (refine wl_nil ?_)))
    refine walk ?_
    have hsegl : ∀ k, (((List.range k).map (segAt D)).flatMap isegCells).length = 2 * k := fun k => by
      induction k with
      | zero => rfl
      | succ k ih => rw [List.range_succ, List.map_append, List.flatMap_append, List.length_append, ih]; simp; omega
    refine wc_loop (X := Nat × Value × Bool) (fun y => [(3, vp c3), (6, vp c6), (13, vp p), (14, vp c14), (15, .bool (decide (y.2.2 = true))), (78, vi sg), (79, vi y.1)])
      (fun y => Sl y.2.1 2 (((List.range y.1).map (segAt D)).flatMap isegCells) :: RdAt p (D.drop (9 * y.1)) :: Cells c14 [.int .u64 (f1 : Int), vi ((f2 : Int) - 1), vi f3, y.2.1, .slice none 0 0] :: Cells c6 [.int .u64 0, vi 0, vi 0, .slice none 0 0, .slice none 0 0] :: Cells c3 (Shp.cells s) :: F)
      (fun y => y.1 ≤ sg ∧ (y.2.2 = true ↔ ((f2 : Int) - 1 < s.segments ∧ (f3 : Int) < s.stripes) ∧ ∀ e ∈ (List.range y.1).map (segAt D), e.1 ≤ 2)) (fun y => sg - y.1) (0, .slice none 0 0, decide ((f2 : Int) - 1 < s.segments ∧ (f3 : Int) < s.stripes)) ⟨Nat.zero_le _, ⟨fun h => ⟨of_decide_eq_true h, fun q hq => by cases hq⟩, fun h => decide_eq_true h.1⟩⟩ (by dsimp only; rw [← dec_bool, ← hse]; exact envs) ?_ (fun y hy => ?_)
    · dsimp only
      rw [Nat.mul_zero, List.drop_zero]
      refine Ent.trans (Γ' := RdAt p D :: Cells c14 [.int .u64 (f1 : Int), vi ((f2 : Int) - 1), vi f3, .slice none 0 0, .slice none 0 0] :: Cells c6 [.int .u64 0, vi 0, vi 0, .slice none 0 0, .slice none 0 0] :: Cells c3 (Shp.cells s) :: F) perm (sl_nil 2)
    obtain ⟨k, gv, ok⟩ := y
    dsimp only at hy ⊢
    obtain ⟨hy, hok1⟩ := hy
    have hgl := hsegl k
    obtain ⟨X, hX⟩ : ∃ X, X = ((List.range k).map (segAt D)).flatMap isegCells := ⟨_, rfl⟩
    rw [← hX] at hgl ⊢
    refine walk ?_
    refine wif_dec (fun hlt => ?_) (fun hlt => ?_)
    · have hlt : k < sg := by omega
      have u3 := unle_lt ((D.drop (9 * k)).take 1)
      rw [List.length_take, List.length_drop, Nat.min_eq_left (by omega)] at u3
      have hsa : segAt D k = ((unle ((D.drop (9 * k)).take 1) : Int), unle ((D.drop (9 * k + 1)).take 8)) := rfl
      refine walk ?_
      refine call (rtake_spec p (D.drop (9 * k)) 1 (by rw [List.length_drop]; omega) (by omega) (by rw [List.length_drop]; omega)) ?_
      intro _ _
      rw [List.drop_drop]
      refine walk ?_
      refine call (rtake_spec p (D.drop (9 * k + 1)) 8 (by rw [List.length_drop]; omega) (by omega) (by rw [List.length_drop]; omega)) ?_
      intro _ _
      rw [List.drop_drop, show 9 * k + 1 + 8 = 9 * (k + 1) by omega]
      obtain ⟨a, ha⟩ : ∃ a, a = unle ((D.drop (9 * k)).take 1) := ⟨_, rfl⟩
      obtain ⟨b, hb'⟩ : ∃ b, b = unle ((D.drop (9 * k + 1)).take 8) := ⟨_, rfl⟩
      rw [← ha, ← hb'] at hsa ⊢
      rw [← ha] at u3
      refine walk ?_
      intro c16
      refine walk ?_
      (first | (refine wif_cut 4 92 (.bool (decide (ok = true ∧ (a : Int) ≤ 2))) (fun K => ?_) ?_; refine wif_dec (fun hc => ?_) (fun hc => ?_); (iterate 4 ((first | (refine wl_guard_yes rfl rfl rfl ?_; refine wl_ya ?_) | (refine wl_guard_no rfl rfl rfl rfl rfl ?_) | (refine wl_ya ?_)))); exact K true _ _ rfl (by (repeat (first | exact trivial | refine And.intro (by first | exact trivial | rfl) ?_))) (by simp [hc]) (by first | rfl | (simp; done) | (simp [hc]; done) | (simp [hc]; omega) | (simp; omega)); (iterate 4 ((first | (refine wl_guard_yes rfl rfl rfl ?_; refine wl_ya ?_) | (refine wl_guard_no rfl rfl rfl rfl rfl ?_) | (refine wl_ya ?_)))); exact K false _ _ rfl (by (repeat (first | exact trivial | refine And.intro (by first | exact trivial | rfl) ?_))) (by simp [hc]) (by first | rfl | (simp; done) | (simp [hc]; done) | (simp [hc]; omega) | (simp; omega)); try (refine wl_nil ?_)) | (refine wif_cutn 4 92 (.bool (decide (ok = true ∧ (a : Int) ≤ 2))) (fun K => ?_) ?_; refine wif_dec (fun hc => ?_) (fun hc => ?_); (iterate 4 ((first | (refine wl_guard_yes rfl rfl rfl ?_; refine wl_ya ?_) | (refine wl_guard_no rfl rfl rfl rfl rfl ?_) | (refine wl_ya ?_)))); exact K false _ _ rfl (by (repeat (first | exact trivial | refine And.intro (by first | exact trivial | rfl) ?_))) (by simp [hc]) (by first | rfl | (simp; done) | (simp [hc]; done) | (simp [hc]; omega) | (simp; omega)); (iterate 4 ((first | (refine wl_guard_yes rfl rfl rfl ?_; refine wl_ya ?_) | (refine wl_guard_no rfl rfl rfl rfl rfl ?_) | (refine wl_ya ?_)))); exact K true _ _ rfl (by (repeat (first | exact trivial | refine And.intro (by first | exact trivial | rfl) ?_))) (by simp [hc]) (by first | rfl | (simp; done) | (simp [hc]; done) | (simp [hc]; omega) | (simp; omega)); try (refine wl_nil ?_)))
      refine walk ?_
      refine wl_buildOneA (k := 2) rfl rfl (by decide) rfl (fun s1 _ _ => ?_)
      refine walk ?_
      intro gv' _ _
      refine walk ?_
      have hP : (decide (ok = true ∧ (a : Int) ≤ 2)) = true ↔ (((f2 : Int) - 1 < s.segments ∧ (f3 : Int) < s.stripes) ∧ ∀ e ∈ (List.range (k + 1)).map (segAt D), e.1 ≤ 2) := by
        rw [decide_eq_true_eq, hok1, List.range_succ, List.map_append, List.map_singleton, hsa]
        constructor
        · rintro ⟨⟨h1, h2⟩, h3⟩
          refine ⟨h1, fun e he => ?_⟩
          rcases List.mem_append.1 he with he | he
          · exact h2 e he
          · rw [List.mem_singleton.1 he]; exact h3
        · rintro ⟨h1, h2⟩
          exact ⟨⟨h1, fun e he => h2 e (List.mem_append_left _ he)⟩, h2 _ (List.mem_append_right _ (List.mem_singleton.2 rfl))⟩
      rw [dec_bool (ok = true ∧ (a : Int) ≤ 2)]
      refine wq_round (k + 1, gv', decide (ok = true ∧ (a : Int) ≤ 2)) ⟨by dsimp only; omega, hP⟩ (by dsimp only; omega) envs ?_
      dsimp only
      rw [List.range_succ, List.map_append, List.map_singleton, hsa, List.flatMap_append, List.flatMap_cons, List.flatMap_nil, List.append_nil, ← hX]
      exact perm
    · obtain rfl : k = sg := by omega
      subst hX
      obtain ⟨E, hE⟩ : ∃ E, E = D.drop (9 * k) := ⟨_, rfl⟩
      have hEl : E.length = D.length - 9 * k := by rw [hE, List.length_drop]
      rw [← hE]
      obtain ⟨S, hS⟩ : ∃ S, S = (List.range k).map (segAt D) := ⟨_, rfl⟩
      rw [← hS] at hgl hok1 ⊢
      have hall := g5.all
      have hslo := g5.slots
      obtain ⟨pl, hpl⟩ : ∃ n : Nat, s.all * s.slots = n := ⟨(s.all * s.slots).toNat, by
        have := Int.mul_nonneg (show 0 ≤ s.all by unfold Shp.all; omega) (show 0 ≤ s.slots by omega)
        omega⟩
      have hplb : pl ≤ 1024 * 14 := by
        have := Int.mul_le_mul (show s.all ≤ 1024 by unfold Shp.all; omega) (show s.slots ≤ 14 by omega) (by omega) (by omega)
        omega
      refine walk ?_
      refine wc_loop (X := Nat × Value × Bool) (fun y => [(3, vp c3), (6, vp c6), (13, vp p), (14, vp c14), (15, .bool (decide (y.2.2 = true))), (101, vi lg), (102, vi y.1)])
        (fun y => Sl y.2.1 1 (((List.range y.1).map (mapAt E)).map vi) :: RdAt p (E.drop (4 * y.1)) :: Cells c14 [.int .u64 (f1 : Int), vi ((f2 : Int) - 1), vi f3, gv, y.2.1] :: Cells c6 [.int .u64 0, vi 0, vi 0, .slice none 0 0, .slice none 0 0] :: Cells c3 (Shp.cells s) :: Sl gv 2 (S.flatMap isegCells) :: F)
        (fun y => y.1 ≤ lg ∧ (y.2.2 = true ↔ (((f2 : Int) - 1 < s.segments ∧ (f3 : Int) < s.stripes) ∧ ∀ e ∈ S, e.1 ≤ 2) ∧ ∀ q ∈ (List.range y.1).map (mapAt E), q < s.all * s.slots)) (fun y => lg - y.1) (0, .slice none 0 0, ok) ⟨Nat.zero_le _, ⟨fun h => ⟨hok1.1 h, fun q hq => by cases hq⟩, fun h => hok1.2 h.1⟩⟩ (by dsimp only; rw [← hlo]; exact envs) ?_ (fun y hy => ?_)
      · dsimp only
        rw [Nat.mul_zero, List.drop_zero]
        refine Ent.trans (Γ' := RdAt p E :: Cells c14 [.int .u64 (f1 : Int), vi ((f2 : Int) - 1), vi f3, gv, .slice none 0 0] :: Cells c6 [.int .u64 0, vi 0, vi 0, .slice none 0 0, .slice none 0 0] :: Cells c3 (Shp.cells s) :: Sl gv 2 (S.flatMap isegCells) :: F) perm (sl_nil 1)
      obtain ⟨j, mv, ok2⟩ := y
      dsimp only at hy ⊢
      obtain ⟨hy, hok2⟩ := hy
      have hml : (((List.range j).map (mapAt E)).map vi).length = j := by simp
      refine walk ?_
      refine wif_dec (fun hlt => ?_) (fun hlt => ?_)
      · have hlt : j < lg := by omega
        have u4 := unle_lt ((E.drop (4 * j)).take 4)
        rw [List.length_take, List.length_drop, Nat.min_eq_left (by omega)] at u4
        have hma : mapAt E j = (unle ((E.drop (4 * j)).take 4) : Int) - 1 := rfl
        refine walk ?_
        refine call (rtake_spec p (E.drop (4 * j)) 4 (by rw [List.length_drop]; omega) (by omega) (by rw [List.length_drop]; omega)) ?_
        intro _ _
        rw [List.drop_drop, show 4 * j + 4 = 4 * (j + 1) by omega]
        obtain ⟨a, ha⟩ : ∃ a, a = unle ((E.drop (4 * j)).take 4) := ⟨_, rfl⟩
        rw [← ha] at hma u4 ⊢
        refine walk ?_
        (refine draw ?_; refine dy 0 ?_; refine dy 1 ?_; refine dwhich 109 ?_)
        refine wif_dec (fun hA => ?_) (fun hA => ?_)
        · (refine dg 2 ?_; refine dg 3 ?_; refine dg 5 ?_; refine ddo 4 ?_)
          refine walk ?_
          refine call (all_spec s h) ?_
          intro _ _
          (refine walk ?_; refine ddo 6 ?_)
          refine walk ?_
          refine call (slots_spec s h) ?_
          intro _ _
          (refine walk ?_; refine dg 7 ?_; refine dg 8 ?_; refine dy 9 ?_; refine dy 10 ?_; refine walk ?_)
          refine walk ?_
          intro s1 _ _
          refine walk ?_
          intro mv' _ _
          refine walk ?_
          have hQ : (decide ((a : Int) - 1 < s.all * s.slots)) = true ↔ ((((f2 : Int) - 1 < s.segments ∧ (f3 : Int) < s.stripes) ∧ ∀ e ∈ S, e.1 ≤ 2) ∧ ∀ q ∈ (List.range (j + 1)).map (mapAt E), q < s.all * s.slots) := by
            have hA := hok2.1 hA
            rw [decide_eq_true_eq, List.range_succ, List.map_append, List.map_singleton, hma]
            constructor
            · intro h3
              refine ⟨hA.1, fun e he => ?_⟩
              rcases List.mem_append.1 he with he | he
              · exact hA.2 e he
              · rw [List.mem_singleton.1 he]; exact h3
            · rintro ⟨_, h2⟩
              exact h2 _ (List.mem_append_right _ (List.mem_singleton.2 rfl))
          rw [dec_bool ((a : Int) - 1 < s.all * s.slots)]
          refine wq_round (j + 1, mv', decide ((a : Int) - 1 < s.all * s.slots)) ⟨by dsimp only; omega, hQ⟩ (by dsimp only; omega) envs ?_
          dsimp only
          rw [List.range_succ, List.map_append, List.map_append, List.map_singleton, List.map_singleton, hma]
          exact perm
        · (refine dn 2 ?_; refine dn 3 ?_; refine dn 4 ?_; refine dn 5 ?_; refine dn 6 ?_; refine dn 7 ?_; refine dn 8 ?_; refine dy 9 ?_; refine dy 10 ?_; refine walk ?_)
          refine walk ?_
          intro s1 _ _
          refine walk ?_
          intro mv' _ _
          refine walk ?_
          have hQ : false = true ↔ ((((f2 : Int) - 1 < s.segments ∧ (f3 : Int) < s.stripes) ∧ ∀ e ∈ S, e.1 ≤ 2) ∧ ∀ q ∈ (List.range (j + 1)).map (mapAt E), q < s.all * s.slots) := by
            refine ⟨fun h => absurd h (by decide), fun hh => absurd (hok2.2 ⟨hh.1, fun q hq => hh.2 q ?_⟩) hA⟩
            rw [List.range_succ, List.map_append]
            exact List.mem_append_left _ hq
          refine wq_round (j + 1, mv', false) ⟨by dsimp only; omega, hQ⟩ (by dsimp only; omega) envs ?_
          dsimp only
          rw [List.range_succ, List.map_append, List.map_append, List.map_singleton, List.map_singleton, hma]
          exact perm
      · obtain rfl : j = lg := by omega
        obtain ⟨G, hG⟩ : ∃ G, G = E.drop (4 * j) := ⟨_, rfl⟩
        have hGl : G.length ≤ 30720000 := by rw [hG, List.length_drop]; omega
        rw [← hG]
        obtain ⟨M, hM⟩ : ∃ M, M = (List.range j).map (mapAt E) := ⟨_, rfl⟩
        rw [← hM] at hml hok2 ⊢
        refine walk ?_
        refine call (rrest_spec p G (by omega)) ?_
        intro rv _
        refine walk ?_
        refine wc_loop (X := Nat × Bool) (fun y => [(6, vp c6), (14, vp c14), (15, .bool (decide (y.2 = true))), (126, rv), (127, vi G.length), (128, vi y.1)])
          (fun _ => SlB rv G :: Cells c14 [.int .u64 (f1 : Int), vi ((f2 : Int) - 1), vi f3, gv, mv] :: Cells c6 [.int .u64 0, vi 0, vi 0, .slice none 0 0, .slice none 0 0] :: Sl mv 1 (M.map vi) :: Sl gv 2 (S.flatMap isegCells) :: F)
          (fun y => y.1 ≤ G.length ∧ (y.2 = true ↔ ((((f2 : Int) - 1 < s.segments ∧ (f3 : Int) < s.stripes) ∧ ∀ e ∈ S, e.1 ≤ 2) ∧ ∀ q ∈ M, q < s.all * s.slots) ∧ ∀ c ∈ G.take y.1, c = 0)) (fun y => G.length - y.1) (0, ok2) ⟨Nat.zero_le _, ⟨fun h => ⟨hok2.1 h, fun q hq => by rw [List.take_zero] at hq; cases hq⟩, fun h => hok2.2 h.1⟩⟩ envs perm (fun y hm => ?_)
        obtain ⟨m, ok3⟩ := y
        dsimp only at hm ⊢
        obtain ⟨hm, hok3⟩ := hm
        refine walk ?_
        refine wif_dec (fun hlt => ?_) (fun hlt => ?_)
        · have hlt : m < G.length := by omega
          refine walk ?_
          (first | (refine wif_cut 3 136 (.bool (decide (ok3 = true ∧ ((G[m]).toNat : Int) = 0))) (fun K => ?_) ?_; refine wif_dec (fun hc => ?_) (fun hc => ?_); (iterate 3 ((first | (refine wl_guard_yes rfl rfl rfl ?_; refine wl_ya ?_) | (refine wl_guard_no rfl rfl rfl rfl rfl ?_) | (refine wl_ya ?_)))); exact K true _ _ rfl (by (repeat (first | exact trivial | refine And.intro (by first | exact trivial | rfl) ?_))) (by simp [hc]) (by first | rfl | (simp; done) | (simp [hc]; done) | (simp [hc]; omega) | (simp; omega)); (iterate 3 ((first | (refine wl_guard_yes rfl rfl rfl ?_; refine wl_ya ?_) | (refine wl_guard_no rfl rfl rfl rfl rfl ?_) | (refine wl_ya ?_)))); exact K false _ _ rfl (by (repeat (first | exact trivial | refine And.intro (by first | exact trivial | rfl) ?_))) (by simp [hc]) (by first | rfl | (simp; done) | (simp [hc]; done) | (simp [hc]; omega) | (simp; omega)); try (refine wl_nil ?_)) | (refine wif_cutn 3 136 (.bool (decide (ok3 = true ∧ ((G[m]).toNat : Int) = 0))) (fun K => ?_) ?_; refine wif_dec (fun hc => ?_) (fun hc => ?_); (iterate 3 ((first | (refine wl_guard_yes rfl rfl rfl ?_; refine wl_ya ?_) | (refine wl_guard_no rfl rfl rfl rfl rfl ?_) | (refine wl_ya ?_)))); exact K false _ _ rfl (by (repeat (first | exact trivial | refine And.intro (by first | exact trivial | rfl) ?_))) (by simp [hc]) (by first | rfl | (simp; done) | (simp [hc]; done) | (simp [hc]; omega) | (simp; omega)); (iterate 3 ((first | (refine wl_guard_yes rfl rfl rfl ?_; refine wl_ya ?_) | (refine wl_guard_no rfl rfl rfl rfl rfl ?_) | (refine wl_ya ?_)))); exact K true _ _ rfl (by (repeat (first | exact trivial | refine And.intro (by first | exact trivial | rfl) ?_))) (by simp [hc]) (by first | rfl | (simp; done) | (simp [hc]; done) | (simp [hc]; omega) | (simp; omega)); try (refine wl_nil ?_)))
          refine walk ?_
          have hR : (decide (ok3 = true ∧ ((G[m]).toNat : Int) = 0)) = true ↔ (((((f2 : Int) - 1 < s.segments ∧ (f3 : Int) < s.stripes) ∧ ∀ e ∈ S, e.1 ≤ 2) ∧ ∀ q ∈ M, q < s.all * s.slots) ∧ ∀ c ∈ G.take (m + 1), c = 0) := by
            rw [decide_eq_true_eq, hok3, List.take_add_one, List.getElem?_eq_getElem hlt, Option.toList_some]
            constructor
            · rintro ⟨⟨h1, h2⟩, h3⟩
              refine ⟨h1, fun e he => ?_⟩
              rcases List.mem_append.1 he with he | he
              · exact h2 e he
              · rw [List.mem_singleton.1 he]
                apply UInt8.toNat_inj.1
                have h0 : (0 : UInt8).toNat = 0 := rfl
                omega
            · rintro ⟨h1, h2⟩
              refine ⟨⟨h1, fun e he => h2 e (List.mem_append_left _ he)⟩, ?_⟩
              rw [h2 _ (List.mem_append_right _ (List.mem_singleton.2 rfl))]; rfl
          rw [dec_bool (ok3 = true ∧ ((G[m]).toNat : Int) = 0)]
          exact wq_round (m + 1, _) ⟨by dsimp only; omega, hR⟩ (by dsimp only; omega) envs perm
        · obtain rfl : m = G.length := by omega
          rw [List.take_length] at hok3
          have hmay : (((((f2 : Int) - 1 < s.segments ∧ (f3 : Int) < s.stripes) ∧ ∀ e ∈ S, e.1 ≤ 2) ∧ ∀ q ∈ M, q < s.all * s.slots) ∧ ∀ c ∈ G, c = 0) ↔ (Img.of acc k j).may k s.stripes.toNat (s.all * s.slots).toNat (acc.drop (12 + 9 * k + 4 * j)) := by
            have e1 : acc.drop (12 + 9 * k + 4 * j) = G := by rw [hG, hE, hD, List.drop_drop, List.drop_drop, Nat.add_assoc]
            have e2 : (Img.of acc k j).segs = S := by rw [hS, hD]; rfl
            have e3 : (Img.of acc k j).map = M := by rw [hM, hE, hD, List.drop_drop]; rfl
            have e4 : (Img.of acc k j).seg = (f2 : Int) - 1 := by rw [hf2]; rfl
            have e5 : (Img.of acc k j).idx = (f3 : Int) := by rw [hf3]; rfl
            unfold Img.may
            rw [e1, e2, e3, e4, e5, hse, ← hst, hpl, Int.toNat_natCast]
            constructor
            · rintro ⟨⟨⟨⟨h1, h2⟩, h3⟩, h4⟩, h5⟩
              exact ⟨h1, h2, h3, h4, h5⟩
            · rintro ⟨h1, h2, h3, h4, h5⟩
              exact ⟨⟨⟨⟨h1, h2⟩, h3⟩, h4⟩, h5⟩
          refine walk ?_
          refine wif_dec (fun hok => ?_) (fun hok => ?_)
          · rw [if_pos (hmay.1 (hok3.1 hok))] at hdec
            have hx : Img.of acc k j = ⟨f1, (f2 : Int) - 1, (f3 : Int), S, M⟩ := by
              rw [hf1, hf2, hf3, hS, hM, hE, hD, List.drop_drop]; rfl
            rw [hx] at hdec
            rw [hdec]
            dsimp only [decV, decP]
            refine walk ?_
            exact wq_retc2 rfl rfl rfl rfl (gv, mv) rfl trivial perm
          · rw [if_neg (fun hh => hok (hok3.2 (hmay.2 hh)))] at hdec
            rw [hdec]
            dsimp only [decV, decP]
            refine walk ?_
            exact wq_retc2 rfl rfl rfl rfl (Value.slice none 0 0, Value.slice none 0 0) rfl trivial perm
end Go.Proofs.YtohienhoifgmaaaGreat
