/- A text's bytes out of its runes; steps' lines read again. -/
import Derived.Test.YtihkfklpoliilaaDoorFit
import Derived.Test.YtihkfklpoliilaaDoorJn
import Derived.Test.YtihkfklpoliilaaDoorDig
import Derived.Test.YtihkfklpoliilaaDoorAct
namespace Go.Proofs.YtihkfklpoliilaaDoor
open Go Go.Sl
theorem bAt_lt (l : Bytes) (k : Nat) : bAt l k < 256 := UInt8.toNat_lt _
theorem enc_dec {l : Bytes} (h : l ≠ []) (hb : ¬ ((dec l).1 = 65533 ∧ (dec l).2 = 1)) : enc (dec l).1 = l.take (dec l).2 := by
  have hpos : 0 < l.length := List.length_pos_iff.2 h
  have hlt : ∀ k, bCont l k = true → k < l.length ∧ bAt l k / 64 = 2 := fun k hk => by
    unfold bCont at hk; rw [Bool.and_eq_true] at hk; exact ⟨of_decide_eq_true hk.1, by simpa using hk.2⟩
  have hv := (dec_ok l h).1
  have k0 := bAt_lt l 0
  revert hb hv
  unfold dec
  by_cases c1 : bAt l 0 < 0x80
  · rw [if_pos c1]
    intro _ _
    dsimp only
    rw [enc1 c1, take_cons1 hpos]
  rw [if_neg c1]
  by_cases c2 : (bAt l 0 / 32 == 6 && bCont l 1) = true
  · rw [if_pos c2]
    rw [Bool.and_eq_true] at c2
    have e0 : bAt l 0 / 32 = 6 := by simpa using c2.1
    obtain ⟨l1, e1⟩ := hlt 1 c2.2
    dsimp only
    split
    · intro _ _
      dsimp only
      rw [enc2 (by omega) (by omega), take_cons2 l1]
      rw [show 192 + (bAt l 0 % 32 * 64 + bAt l 1 % 64) / 64 = bAt l 0 by omega, show 128 + (bAt l 0 % 32 * 64 + bAt l 1 % 64) % 64 = bAt l 1 by omega]
    · intro hb; exact absurd ⟨rfl, rfl⟩ hb
  rw [if_neg c2]
  by_cases c3 : (bAt l 0 / 16 == 14 && bCont l 1 && bCont l 2) = true
  · rw [if_pos c3]
    rw [Bool.and_eq_true, Bool.and_eq_true] at c3
    have e0 : bAt l 0 / 16 = 14 := by simpa using c3.1.1
    obtain ⟨l1, e1⟩ := hlt 1 c3.1.2
    obtain ⟨l2, e2⟩ := hlt 2 c3.2
    dsimp only
    split
    · rename_i hvv
      rw [Bool.and_eq_true] at hvv
      have hge := of_decide_eq_true hvv.1
      intro _ _
      dsimp only
      rw [enc3 hvv.2 (by omega) (by omega), take_cons3 l2]
      generalize hc : bAt l 0 % 16 * 4096 + bAt l 1 % 64 * 64 + bAt l 2 % 64 = c
      rw [show 224 + c / 4096 = bAt l 0 by omega, show 128 + c / 64 % 64 = bAt l 1 by omega, show 128 + c % 64 = bAt l 2 by omega]
    · intro hb; exact absurd ⟨rfl, rfl⟩ hb
  rw [if_neg c3]
  by_cases c4 : (bAt l 0 / 8 == 30 && bCont l 1 && bCont l 2 && bCont l 3) = true
  · rw [if_pos c4]
    rw [Bool.and_eq_true, Bool.and_eq_true, Bool.and_eq_true] at c4
    have e0 : bAt l 0 / 8 = 30 := by simpa using c4.1.1.1
    obtain ⟨l1, e1⟩ := hlt 1 c4.1.1.2
    obtain ⟨l2, e2⟩ := hlt 2 c4.1.2
    obtain ⟨l3, e3⟩ := hlt 3 c4.2
    dsimp only
    split
    · rename_i hvv
      rw [Bool.and_eq_true] at hvv
      have hge := of_decide_eq_true hvv.1
      intro _ _
      dsimp only
      rw [enc4 hvv.2 (by omega), take_cons4 l3]
      generalize hc : bAt l 0 % 8 * 262144 + bAt l 1 % 64 * 4096 + bAt l 2 % 64 * 64 + bAt l 3 % 64 = c
      rw [show 240 + c / 262144 = bAt l 0 by omega, show 128 + c / 4096 % 64 = bAt l 1 by omega, show 128 + c / 64 % 64 = bAt l 2 by omega, show 128 + c % 64 = bAt l 3 by omega]
    · intro hb; exact absurd ⟨rfl, rfl⟩ hb
  rw [if_neg c4]
  intro hb; exact absurd ⟨rfl, rfl⟩ hb
theorem bytes_runes : ∀ (n : Nat) (l : Bytes), l.length ≤ n → (runesOf l).2 = true → bytesOf (runesOf l).1 = l := by
  intro n
  induction n with
  | zero =>
    intro l h _
    have : l = [] := List.eq_nil_of_length_eq_zero (by omega)
    subst this; rfl
  | succ n ih =>
    intro l h ht
    by_cases hl : l = []
    · subst hl; rfl
    · by_cases hb : (dec l).1 = 65533 ∧ (dec l).2 = 1
      · rw [runesOf_bad l hl hb] at ht; cases ht
      · obtain ⟨_, d2, d3⟩ := dec_ok l hl
        rw [runesOf_cons l hl hb] at ht ⊢
        have h2 := ih (l.drop (dec l).2) (by rw [List.length_drop]; omega) ht
        unfold bytesOf at h2 ⊢
        dsimp only
        rw [List.flatMap_cons, h2, enc_dec hl hb, List.take_append_drop]
/-- a line without its end -/
def bodyB : Stp → Bytes
  | .write n t => wWrite ++ numB n ++ [32, 34] ++ t ++ [34]
  | .read n => wRead ++ numB n
  | .trim n => wTrim ++ numB n
  | .plain w => w
  | .clean true n => wGreedy ++ numB n
  | .clean false n => wWorth ++ numB n
  | .member w n => w ++ numB n
  | .failat m o => wFailat ++ numB m ++ numB o
  | .crash n k => wCrash ++ numB n ++ [32] ++ Lib.decDigits k
theorem lineB_eq (st : Stp) : lineB st = bodyB st ++ [10] := by
  cases st with
  | clean g n => cases g <;> rfl
  | write n t => simp [lineB, bodyB]
  | _ => rfl
/-- may a text stand between quotation marks? -/
def plainB (t : Bytes) : Bool := (runesOf t).2 && (runesOf t).1.all isQ
def wR (w : Bytes) : List Nat := w.map UInt8.toNat
def bodyR : Stp → List Nat
  | .write n t => wR wWrite ++ (32 :: digs n ++ (32 :: 34 :: (runesOf t).1 ++ [34]))
  | .read n => wR wRead ++ (32 :: digs n)
  | .trim n => wR wTrim ++ (32 :: digs n)
  | .plain w => wR w
  | .clean true n => wR wGreedy ++ (32 :: digs n)
  | .clean false n => wR wWorth ++ (32 :: digs n)
  | .member w n => wR w ++ (32 :: digs n)
  | .failat m o => wR wFailat ++ (32 :: digs m ++ (32 :: digs o))
  | .crash n k => wR wCrash ++ (32 :: digs n ++ (32 :: digs k))
def PrOk : Stp → Prop
  | .write n t => n ≤ 1073741824 ∧ plainB t = true
  | .read n => n ≤ 1073741824
  | .trim n => n ≤ 1073741824
  | .plain w => w = wFlush ∨ w = wCkpt ∨ w = wRebuild ∨ w = wCheck
  | .clean _ n => n ≤ 1073741824
  | .member w n => n ≤ 1073741824 ∧ (w = wFail ∨ w = wReplace)
  | .failat m o => m ≤ 1073741824 ∧ o ≤ 1073741824
  | .crash n k => n ≤ 1073741824 ∧ k < 18446744073709551616
theorem dig_ascii (n : Nat) : ∀ c ∈ Lib.decDigits n, c.toNat < 128 := fun c hc => by
  have := (digs_ok n).1 c.toNat (List.mem_map.2 ⟨c, hc, rfl⟩)
  simp [isD] at this; omega
theorem num_ascii (n : Nat) : ∀ c ∈ numB n, c.toNat < 128 := fun c hc => by
  rcases List.mem_cons.1 hc with rfl | hc
  · decide
  · exact dig_ascii n c hc
theorem asc_app {a b : Bytes} (ha : ∀ c ∈ a, c.toNat < 128) (hb : ∀ c ∈ b, c.toNat < 128) : ∀ c ∈ a ++ b, c.toNat < 128 := fun c hc => by
  rcases List.mem_append.1 hc with h | h
  · exact ha c h
  · exact hb c h
theorem wR_num (n : Nat) : (numB n).map UInt8.toNat = 32 :: digs n := rfl
theorem runes_body {st : Stp} (h : PrOk st) (b : Bytes) : runesOf (bodyB st ++ b) = (bodyR st ++ (runesOf b).1, (runesOf b).2) := by
  have asc : ∀ (x : Bytes) (y : List Nat), (∀ c ∈ x, c.toNat < 128) → x.map UInt8.toNat = y → runesOf (x ++ b) = (y ++ (runesOf b).1, (runesOf b).2) := fun x y hx hy => by rw [runes_ascii x b hx, hy]
  cases st with
  | write n t =>
    obtain ⟨_, ht⟩ := h
    unfold plainB at ht
    rw [Bool.and_eq_true] at ht
    show runesOf (wWrite ++ numB n ++ [32, 34] ++ t ++ [34] ++ b) = _
    have e : wWrite ++ numB n ++ [32, 34] ++ t ++ [34] ++ b = (wWrite ++ (numB n ++ [32, 34])) ++ (t ++ 34 :: b) := by simp
    rw [e, runes_ascii _ _ (asc_app (by decide) (asc_app (num_ascii n) (by decide))), runes_sep t b (by decide), if_pos ht.1]
    dsimp only [bodyR]
    rw [List.map_append, List.map_append, wR_num]
    simp [wR]
  | read n => exact asc _ _ (asc_app (by decide) (num_ascii n)) (by unfold bodyB bodyR; rw [List.map_append, wR_num]; rfl)
  | trim n => exact asc _ _ (asc_app (by decide) (num_ascii n)) (by unfold bodyB bodyR; rw [List.map_append, wR_num]; rfl)
  | plain w =>
    refine asc _ _ ?_ rfl
    rcases h with h | h | h | h <;> rw [h] <;> decide
  | clean g n =>
    cases g
    · exact asc _ _ (asc_app (by decide) (num_ascii n)) (by unfold bodyB bodyR; rw [List.map_append, wR_num]; rfl)
    · exact asc _ _ (asc_app (by decide) (num_ascii n)) (by unfold bodyB bodyR; rw [List.map_append, wR_num]; rfl)
  | member w n =>
    refine asc _ _ (asc_app ?_ (num_ascii n)) (by unfold bodyB bodyR; rw [List.map_append, wR_num]; rfl)
    rcases h.2 with h | h <;> rw [h] <;> decide
  | failat m o => exact asc _ _ (asc_app (asc_app (by decide) (num_ascii m)) (num_ascii o)) (by unfold bodyB bodyR; rw [List.map_append, List.map_append, wR_num, wR_num, List.append_assoc]; rfl)
  | crash n k =>
    refine asc _ _ (asc_app (asc_app (asc_app (by decide) (num_ascii n)) (by decide)) (dig_ascii k)) ?_
    unfold bodyB bodyR
    rw [List.map_append, List.map_append, List.map_append, wR_num, List.append_assoc, List.append_assoc]; rfl
theorem stp_w {w : Bytes} {x : List Nat} (hw : ∀ d ∈ wR w, isA d = true) (hx : isA (peek x) = false) : stp (wR w ++ x) = stpW w x (wR w ++ x) := by
  rw [stp_word hw hx]
  have : bytesOf (wR w) = w := by
    rw [ascii_bytes _ (fun r hr => by have := hw r hr; simp [isA] at this; omega)]
    unfold wR
    rw [List.map_map]
    have : (UInt8.ofNat ∘ UInt8.toNat) = id := by funext x; simp
    rw [this, List.map_id]
  rw [this]
theorem one_ok {n : Nat} {x : List Nat} (f : Nat → Stp) (hn : n ≤ 1073741824) (hx : isD (peek x) = false) : one (32 :: digs n ++ x) f = .ok (f n, x) := by
  unfold one
  rw [show num bigMost (32 :: digs n ++ x) = .ok (n, x) from num_digs hn (by omega) hx]
theorem two_ok {n k m : Nat} {x : List Nat} (f : Nat → Nat → Stp) (hn : n ≤ 1073741824) (hk : k ≤ m) (h64 : k < 18446744073709551616) (hx : isD (peek x) = false) : two (32 :: digs n ++ (32 :: digs k ++ x)) m f = .ok (f n k, x) := by
  unfold two
  rw [show num bigMost (32 :: digs n ++ (32 :: digs k ++ x)) = .ok (n, 32 :: digs k ++ x) from num_digs hn (by omega) rfl]
  dsimp only
  rw [num_digs hk h64 hx]
theorem stp_body {st : Stp} (h : PrOk st) {x : List Nat} (hx : peek x = 10 ∨ peek x = 32) : stp (bodyR st ++ x) = .ok (st, x) := by
  obtain ⟨hA, hD⟩ := peek_nA hx
  cases st with
  | write n t =>
    obtain ⟨hn, ht⟩ := h
    unfold plainB at ht
    rw [Bool.and_eq_true] at ht
    have hq : ∀ r ∈ (runesOf t).1, r ≠ 34 ∧ r ≠ 10 := fun r hr => by
      have := List.all_eq_true.1 ht.2 r hr
      simpa [isQ] using this
    show stp (wR wWrite ++ (32 :: digs n ++ (32 :: 34 :: (runesOf t).1 ++ [34])) ++ x) = _
    rw [List.append_assoc, stp_w (by decide) (by rfl)]
    have e : 32 :: digs n ++ (32 :: 34 :: (runesOf t).1 ++ [34]) ++ x = 32 :: digs n ++ (32 :: 34 :: (runesOf t).1 ++ 34 :: x) := by simp
    rw [e]
    unfold stpW
    rw [if_pos rfl]
    unfold wrt
    rw [show num bigMost (32 :: digs n ++ (32 :: 34 :: (runesOf t).1 ++ 34 :: x)) = .ok (n, 32 :: 34 :: (runesOf t).1 ++ 34 :: x) from num_digs hn (by omega) rfl]
    dsimp only
    rw [quo_signs hq, bytes_runes _ t (Nat.le_refl _) ht.1]
  | read n =>
    show stp (wR wRead ++ (32 :: digs n) ++ x) = _
    rw [List.append_assoc, stp_w (by decide) (by rfl)]
    unfold stpW
    rw [if_neg (by decide), if_pos rfl]
    exact one_ok _ h hD
  | trim n =>
    show stp (wR wTrim ++ (32 :: digs n) ++ x) = _
    rw [List.append_assoc, stp_w (by decide) (by rfl)]
    unfold stpW
    rw [if_neg (by decide), if_neg (by decide), if_pos rfl]
    exact one_ok _ h hD
  | plain w =>
    show stp (wR w ++ x) = _
    have hw : (∀ d ∈ wR w, isA d = true) ∧ w ≠ wWrite ∧ w ≠ wRead ∧ w ≠ wTrim := by rcases h with h | h | h | h <;> subst h <;> decide
    rw [stp_w hw.1 hA]
    unfold stpW
    rw [if_neg hw.2.1, if_neg hw.2.2.1, if_neg hw.2.2.2, if_pos (show w = wFlush ∨ w = wCkpt ∨ w = wRebuild ∨ w = wCheck from h)]
  | clean g n =>
    cases g
    · show stp (wR wWorth ++ (32 :: digs n) ++ x) = _
      rw [List.append_assoc, stp_w (by decide) (by rfl)]
      unfold stpW
      rw [if_neg (by decide), if_neg (by decide), if_neg (by decide), if_neg (by decide), if_pos (by decide), decide_eq_false (by decide)]
      exact one_ok _ h hD
    · show stp (wR wGreedy ++ (32 :: digs n) ++ x) = _
      rw [List.append_assoc, stp_w (by decide) (by rfl)]
      unfold stpW
      rw [if_neg (by decide), if_neg (by decide), if_neg (by decide), if_neg (by decide), if_pos (by decide), decide_eq_true (by decide)]
      exact one_ok _ h hD
  | member w n =>
    obtain ⟨hn, hw⟩ := h
    show stp (wR w ++ (32 :: digs n) ++ x) = _
    have hw2 : (∀ d ∈ wR w, isA d = true) ∧ w ≠ wWrite ∧ w ≠ wRead ∧ w ≠ wTrim ∧ ¬ (w = wFlush ∨ w = wCkpt ∨ w = wRebuild ∨ w = wCheck) ∧ ¬ (w = wGreedy ∨ w = wWorth) := by rcases hw with h | h <;> subst h <;> decide
    rw [List.append_assoc, stp_w hw2.1 (by rfl)]
    unfold stpW
    rw [if_neg hw2.2.1, if_neg hw2.2.2.1, if_neg hw2.2.2.2.1, if_neg hw2.2.2.2.2.1, if_neg hw2.2.2.2.2.2, if_pos hw]
    exact one_ok _ hn hD
  | failat m o =>
    obtain ⟨hm, ho⟩ := h
    show stp (wR wFailat ++ (32 :: digs m ++ (32 :: digs o)) ++ x) = _
    rw [List.append_assoc, stp_w (by decide) (by rfl), List.append_assoc]
    unfold stpW
    rw [if_neg (by decide), if_neg (by decide), if_neg (by decide), if_neg (by decide), if_neg (by decide), if_neg (by decide), if_pos rfl]
    exact two_ok _ hm ho (by omega) hD
  | crash n k =>
    obtain ⟨hn, hk⟩ := h
    show stp (wR wCrash ++ (32 :: digs n ++ (32 :: digs k)) ++ x) = _
    rw [List.append_assoc, stp_w (by decide) (by rfl), List.append_assoc]
    unfold stpW
    rw [if_neg (by decide), if_neg (by decide), if_neg (by decide), if_neg (by decide), if_neg (by decide), if_neg (by decide), if_neg (by decide), if_pos rfl]
    exact two_ok _ hn (by omega) hk hD
theorem pk {l : List Nat} (c : Nat) (h : peek l = c) (hc : c ≠ 10 ∧ c ≠ 32) : peek l ≠ 10 ∧ peek l ≠ 32 := by rw [h]; exact hc
theorem body_peek {st : Stp} (h : PrOk st) (x : List Nat) : peek (bodyR st ++ x) ≠ 10 ∧ peek (bodyR st ++ x) ≠ 32 := by
  cases st with
  | plain w =>
    rcases h with h | h | h | h <;> subst h
    · exact pk 102 rfl (by decide)
    · exact pk 99 rfl (by decide)
    · exact pk 114 rfl (by decide)
    · exact pk 99 rfl (by decide)
  | member w n =>
    rcases h.2 with h | h <;> subst h
    · exact pk 102 rfl (by decide)
    · exact pk 114 rfl (by decide)
  | clean g n =>
    cases g
    · exact pk 119 rfl (by decide)
    · exact pk 103 rfl (by decide)
  | write n t => exact pk 119 rfl (by decide)
  | read n => exact pk 114 rfl (by decide)
  | trim n => exact pk 116 rfl (by decide)
  | failat m o => exact pk 102 rfl (by decide)
  | crash n k => exact pk 99 rfl (by decide)
-- as long as it is
def go' (r : List Nat) (acc : List Stp) : Res := go 4096 r.length r acc
theorem go'_of {f : Nat} {r : List Nat} (acc : List Stp) (h : r.length ≤ f) : go 4096 f r acc = go' r acc := go_fuel _ _ _ _ _ h (Nat.le_refl _)
theorem go'_lf (x : List Nat) (acc : List Stp) : go' (10 :: x) acc = go' x acc := by
  unfold go'
  rw [List.length_cons, go_lf _ _ _ _ (Nat.le_refl _)]
theorem go'_blank (x : List Nat) (acc : List Stp) : go' (32 :: x) acc = go' x acc := by
  have hs : skip (32 :: x) = skip x := by unfold skip; rw [List.dropWhile_cons]; rfl
  by_cases hx : x = []
  · subst hx; rfl
  · obtain ⟨n, hn⟩ : ∃ n, x.length = n + 1 := ⟨x.length - 1, by have := List.length_pos_iff.2 hx; omega⟩
    have e : go' (32 :: x) acc = go 4096 (n + 2) (32 :: x) acc := by unfold go'; rw [List.length_cons, hn]
    have e2 : go' x acc = go 4096 (n + 2) x acc := (go'_of acc (by omega)).symm
    rw [e, e2]
    conv => lhs; unfold go
    conv => rhs; unfold go
    rw [if_neg (by simp), if_neg hx, hs]
theorem go'_line {st : Stp} (h : PrOk st) {t : List Nat} (ht : t = [] ∨ t = [32, 32]) (y : List Nat) (acc : List Stp) (ha : acc.length < 4096) :
    go' (bodyR st ++ (t ++ 10 :: y)) acc = go' y (acc ++ [st]) := by
  have hp := body_peek h (t ++ 10 :: y)
  have hst : stp (bodyR st ++ (t ++ 10 :: y)) = .ok (st, t ++ 10 :: y) := stp_body h (by rcases ht with rfl | rfl <;> simp [peek])
  obtain ⟨n, hn⟩ : ∃ n, (bodyR st ++ (t ++ 10 :: y)).length = n + 1 := ⟨(bodyR st ++ (t ++ 10 :: y)).length - 1, by simp; omega⟩
  unfold go'
  rw [hn]
  simp only [← List.append_assoc] at hn hp hst ⊢
  rw [go_line hst hp.1 hp.2 (by rcases ht with rfl | rfl <;> rfl) ha]
  exact go'_of _ (by simp at hn; omega)
/-- what stands ahead of a line, behind its text -/
def Gap (g : Bytes) : Prop := g = [] ∨ g = [32] ∨ g = [32, 32, 32] ∨ g = [10] ∨ g = [10, 32, 32, 10]
def Tail (t : Bytes) : Prop := t = [] ∨ t = [32, 32]
def chunk (c : Bytes × Bytes × Stp) : Bytes := c.1 ++ bodyB c.2.2 ++ c.2.1 ++ [10]
theorem go'_chunks : ∀ (cs : List (Bytes × Bytes × Stp)) (acc : List Stp), (∀ c ∈ cs, Gap c.1 ∧ Tail c.2.1 ∧ PrOk c.2.2) → acc.length + cs.length ≤ 4096 →
    (runesOf (cs.flatMap chunk)).2 = true ∧ go' (runesOf (cs.flatMap chunk)).1 acc = .ok (acc ++ cs.map (·.2.2))
  | [], acc, _, _ => by
    refine ⟨rfl, ?_⟩
    show Except.ok acc = Except.ok (acc ++ [])
    rw [List.append_nil]
  | c :: cs, acc, h, hl => by
    obtain ⟨hg, ht, hp⟩ := h c (List.mem_cons_self ..)
    rw [List.length_cons] at hl
    obtain ⟨i1, i2⟩ := go'_chunks cs (acc ++ [c.2.2]) (fun d hd => h d (List.mem_cons_of_mem _ hd)) (by rw [List.length_append]; simp; omega)
    obtain ⟨g, t, st⟩ := c
    dsimp only at hg ht hp i1 i2 ⊢
    have e : ((g, t, st) :: cs).flatMap chunk = g ++ (bodyB st ++ (t ++ 10 :: cs.flatMap chunk)) := by
      rw [List.flatMap_cons]; simp [chunk]
    have ht2 : ∀ c ∈ t, c.toNat < 128 := by rcases ht with rfl | rfl <;> decide
    have hg2 : ∀ c ∈ g, c.toNat < 128 := by rcases hg with rfl | rfl | rfl | rfl | rfl <;> decide
    have er : runesOf (((g, t, st) :: cs).flatMap chunk) = (wR g ++ (bodyR st ++ (wR t ++ 10 :: (runesOf (cs.flatMap chunk)).1)), (runesOf (cs.flatMap chunk)).2) := by
      rw [e, runes_ascii g _ hg2, runes_body hp, runes_ascii t _ ht2, runes_one _ (by decide)]
      rfl
    rw [er]
    refine ⟨i1, ?_⟩
    dsimp only
    have hl2 : go' (bodyR st ++ (wR t ++ 10 :: (runesOf (cs.flatMap chunk)).1)) acc = .ok (acc ++ st :: cs.map (·.2.2)) := by
      rw [go'_line hp (by rcases ht with rfl | rfl; exact .inl rfl; exact .inr rfl) _ _ (by omega), i2, List.append_assoc]; rfl
    rw [List.map_cons]
    rcases hg with rfl | rfl | rfl | rfl | rfl
    · exact hl2
    · exact (go'_blank _ _).trans hl2
    · exact (go'_blank _ _).trans ((go'_blank _ _).trans ((go'_blank _ _).trans hl2))
    · exact (go'_lf _ _).trans hl2
    · exact (go'_lf _ _).trans ((go'_blank _ _).trans ((go'_blank _ _).trans ((go'_lf _ _).trans hl2)))
/-- lines with blanks and empty lines about them are their steps -/
theorem psteps_chunks (cs : List (Bytes × Bytes × Stp)) (h : ∀ c ∈ cs, Gap c.1 ∧ Tail c.2.1 ∧ PrOk c.2.2) (hc : cs.length ≤ 4096) (hl : (cs.flatMap chunk).length ≤ 65536) :
    psteps (cs.flatMap chunk) = (cs.map (·.2.2), 0, 0) := by
  obtain ⟨h1, h2⟩ := go'_chunks cs [] h (by simpa using hc)
  rw [List.nil_append] at h2
  have hp : parse (runesOf (cs.flatMap chunk)).1 = .ok (cs.map (·.2.2)) := (go'_of [] (Nat.le_succ _)).trans h2
  unfold psteps
  rw [if_neg (by omega), if_neg (by rw [h1]; simp), hp]
theorem psteps_lines (l : List Stp) (h : ∀ st ∈ l, PrOk st) (hc : l.length ≤ 4096) (hl : (l.flatMap lineB).length ≤ 65536) : psteps (l.flatMap lineB) = (l, 0, 0) := by
  have e : l.flatMap lineB = (l.map fun st => (([] : Bytes), ([] : Bytes), st)).flatMap chunk := by
    rw [List.flatMap_map]
    congr 1
    funext st
    simp [chunk, lineB_eq]
  rw [e] at hl ⊢
  rw [psteps_chunks _ (fun c hc => by obtain ⟨st, hst, rfl⟩ := List.mem_map.1 hc; exact ⟨.inl rfl, .inl rfl, h st hst⟩) (by simpa using hc) hl]
  have : (l.map fun st => (([] : Bytes), ([] : Bytes), st)).map (·.2.2) = l := by rw [List.map_map]; exact List.map_id l
  rw [this]
theorem act_pr {x : Act21} (h : x.Ok) (hp : plainB x.t = true) : PrOk x.stp := by
  obtain ⟨h1, h2, h3, h4⟩ := h
  unfold Act21.stp
  split
  · exact ⟨by omega, hp⟩
  · exact ⟨by omega, hp⟩
  · exact ⟨by omega, hp⟩
  · show _ ≤ 1073741824; omega
  · show _ ≤ 1073741824; omega
  · show _ ∨ _ ∨ _ ∨ _
    split
    · exact .inl rfl
    · exact .inr (.inl rfl)
    · exact .inr (.inr (.inl rfl))
    · exact .inr (.inr (.inr rfl))
  · show _ ≤ 1073741824; omega
  · show _ ≤ 1073741824; omega
  · exact ⟨by omega, .inl rfl⟩
  · exact ⟨by omega, .inr rfl⟩
  · exact ⟨by omega, by omega⟩
  · exact ⟨by omega, by omega⟩
end Go.Proofs.YtihkfklpoliilaaDoor
