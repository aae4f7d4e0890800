/- Texts put together: their runes, their steps. No program. -/
import Derived.Test.YtihkfklpoliilaaDoorScr2
namespace Go.Sl
open Go
theorem bAt_app {a : Bytes} (b : Bytes) {k : Nat} (h : k < a.length) : bAt (a ++ b) k = bAt a k := by
  unfold bAt
  rw [List.getD_eq_getElem?_getD, List.getD_eq_getElem?_getD, List.getElem?_append_left h]
theorem bCont_app {a : Bytes} (b : Bytes) {k : Nat} (h : k < a.length) : bCont (a ++ b) k = bCont a k := by
  unfold bCont
  rw [bAt_app b h]
  congr 1
  rw [decide_eq_true h, decide_eq_true (by rw [List.length_append]; omega)]
theorem bCont_no {a : Bytes} {k : Nat} (h : a.length ≤ k) : bCont a k = false := by
  unfold bCont
  rw [decide_eq_false (by omega)]; rfl
theorem bCont_end {a : Bytes} {c : UInt8} (b : Bytes) (hc : c.toNat < 128) : bCont (a ++ c :: b) a.length = false := by
  unfold bCont bAt
  have : (a ++ c :: b).getD a.length 0 = c := by rw [List.getD_eq_getElem?_getD]; simp
  rw [this]
  have : c.toNat / 64 ≠ 2 := by omega
  rw [beq_false_of_ne this, Bool.and_false]
theorem dec_app {a : Bytes} {c : UInt8} (b : Bytes) (hc : c.toNat < 128) (h : a ≠ []) : dec (a ++ c :: b) = dec a := by
  have hpos : 0 < a.length := List.length_pos_iff.2 h
  have h0 := bAt_app (c :: b) hpos
  have he := bCont_end (a := a) b hc
  rcases Nat.lt_or_ge 1 a.length with h1 | h1
  · have b1 := bAt_app (c :: b) h1
    have c1 := bCont_app (c :: b) h1
    rcases Nat.lt_or_ge 2 a.length with h2 | h2
    · have b2 := bAt_app (c :: b) h2
      have c2 := bCont_app (c :: b) h2
      rcases Nat.lt_or_ge 3 a.length with h3 | h3
      · unfold dec
        rw [h0, b1, b2, bAt_app (c :: b) h3, c1, c2, bCont_app (c :: b) h3]
      · have e3 : a.length = 3 := by omega
        rw [e3] at he
        unfold dec
        rw [h0, b1, b2, c1, c2, he, bCont_no (a := a) (k := 3) (by omega)]
        simp only [Bool.and_false, Bool.false_eq_true, if_false]
    · have e2 : a.length = 2 := by omega
      rw [e2] at he
      unfold dec
      rw [h0, b1, c1, he, bCont_no (a := a) (k := 2) (by omega)]
      simp only [Bool.and_false, Bool.false_and, Bool.false_eq_true, if_false]
  · have e1 : a.length = 1 := by omega
    rw [e1] at he
    unfold dec
    rw [h0, he, bCont_no (a := a) (k := 1) (by omega)]
    simp only [Bool.and_false, Bool.false_and, Bool.false_eq_true, if_false]
theorem dec_one {c : UInt8} (b : Bytes) (hc : c.toNat < 128) : dec (c :: b) = (c.toNat, 1) := by
  have h0 : bAt (c :: b) 0 = c.toNat := rfl
  unfold dec
  rw [h0, if_pos (by omega)]
theorem runes_one {c : UInt8} (b : Bytes) (hc : c.toNat < 128) : runesOf (c :: b) = (c.toNat :: (runesOf b).1, (runesOf b).2) := by
  have hd := dec_one b hc
  rw [runesOf_cons _ (by simp) (by rw [hd]; intro h; have h' : c.toNat = 65533 := h.1; omega), hd]
  rfl
theorem runes_ascii : ∀ (x b : Bytes), (∀ c ∈ x, c.toNat < 128) → runesOf (x ++ b) = (x.map UInt8.toNat ++ (runesOf b).1, (runesOf b).2)
  | [], b, _ => rfl
  | c :: x, b, h => by
    rw [List.cons_append, runes_one _ (h c (List.mem_cons_self ..)), runes_ascii x b (fun d hd => h d (List.mem_cons_of_mem _ hd))]
    rfl
theorem runes_app {c : UInt8} (b : Bytes) (hc : c.toNat < 128) : ∀ (n : Nat) (a : Bytes), a.length ≤ n →
    runesOf (a ++ c :: b) = if (runesOf a).2 = true then ((runesOf a).1 ++ c.toNat :: (runesOf b).1, (runesOf b).2) else ((runesOf a).1, false) := by
  intro n
  induction n with
  | zero =>
    intro a h
    have : a = [] := List.eq_nil_of_length_eq_zero (by omega)
    subst this
    rw [List.nil_append, runes_one b hc, runesOf_nil]; rfl
  | succ n ih =>
    intro a h
    by_cases ha : a = []
    · subst ha
      rw [List.nil_append, runes_one b hc, runesOf_nil]; rfl
    · have hda := dec_app b hc ha
      obtain ⟨_, d2, d3⟩ := dec_ok a ha
      by_cases hb : (dec a).1 = 65533 ∧ (dec a).2 = 1
      · rw [runesOf_bad a ha hb, runesOf_bad _ (by simp) (by rw [hda]; exact hb)]; rfl
      · rw [runesOf_cons a ha hb, runesOf_cons _ (by simp) (by rw [hda]; exact hb), hda, List.drop_append_of_le_length d3, ih _ (by rw [List.length_drop]; omega)]
        dsimp only
        split <;> rfl
theorem runes_sep {c : UInt8} (a b : Bytes) (hc : c.toNat < 128) :
    runesOf (a ++ c :: b) = if (runesOf a).2 = true then ((runesOf a).1 ++ c.toNat :: (runesOf b).1, (runesOf b).2) else ((runesOf a).1, false) := runes_app b hc a.length a (Nat.le_refl _)
theorem take_cons1 {l : Bytes} (h : 0 < l.length) : l.take 1 = [UInt8.ofNat (bAt l 0)] := by
  cases l with
  | nil => simp at h
  | cons x t => simp [bAt]
theorem take_cons2 {l : Bytes} (h : 1 < l.length) : l.take 2 = [UInt8.ofNat (bAt l 0), UInt8.ofNat (bAt l 1)] := by
  match l, h with
  | [_], h => simp at h
  | x :: y :: t, _ => simp [bAt]
theorem take_cons3 {l : Bytes} (h : 2 < l.length) : l.take 3 = [UInt8.ofNat (bAt l 0), UInt8.ofNat (bAt l 1), UInt8.ofNat (bAt l 2)] := by
  match l, h with
  | [_], h => simp at h
  | [_, _], h => simp at h
  | x :: y :: z :: t, _ => simp [bAt]
theorem take_cons4 {l : Bytes} (h : 3 < l.length) : l.take 4 = [UInt8.ofNat (bAt l 0), UInt8.ofNat (bAt l 1), UInt8.ofNat (bAt l 2), UInt8.ofNat (bAt l 3)] := by
  match l, h with
  | [_], h => simp at h
  | [_, _], h => simp at h
  | [_, _, _], h => simp at h
  | x :: y :: z :: u :: t, _ => simp [bAt]
-- readings of what has a line feed behind it
theorem dropWhile_app (q : Nat → Bool) (hq : q 10 = false) (b : List Nat) : ∀ r : List Nat, (r ++ 10 :: b).dropWhile q = r.dropWhile q ++ 10 :: b
  | [] => by rw [List.nil_append, List.dropWhile_cons, hq]; rfl
  | x :: r => by
    rw [List.cons_append, List.dropWhile_cons, List.dropWhile_cons]
    split
    · exact dropWhile_app q hq b r
    · rfl
theorem takeWhile_app (q : Nat → Bool) (hq : q 10 = false) (b : List Nat) : ∀ r : List Nat, (r ++ 10 :: b).takeWhile q = r.takeWhile q
  | [] => by rw [List.nil_append, List.takeWhile_cons, hq]; rfl
  | x :: r => by
    rw [List.cons_append, List.takeWhile_cons, List.takeWhile_cons, takeWhile_app q hq b r]
theorem skip_app (r b : List Nat) : skip (r ++ 10 :: b) = skip r ++ 10 :: b := dropWhile_app isB rfl b r
theorem peek_app (r b : List Nat) : peek (r ++ 10 :: b) = peek r := by cases r <;> rfl
theorem tail_app {r : List Nat} (b : List Nat) (h : r ≠ []) : (r ++ b).tail = r.tail ++ b := by cases r with | nil => exact absurd rfl h | cons x r => rfl
def sApp {α : Type} (b : List Nat) : Scan α → Scan α
  | .ok (x, r) => .ok (x, r ++ 10 :: b)
  | .error (c, r) => .error (c, r ++ 10 :: b)
theorem num_app (m : Nat) (r b : List Nat) : num m (r ++ 10 :: b) = sApp b (num m r) := by
  unfold num
  rw [skip_app, takeWhile_app isD rfl, dropWhile_app isD rfl]
  split
  · rfl
  · split <;> rfl
theorem peek_ne {r : List Nat} (h : peek r ≠ 10) : r ≠ [] := by rintro rfl; exact h rfl
theorem quo_app (r b : List Nat) : quo (r ++ 10 :: b) = sApp b (quo r) := by
  unfold quo
  rw [skip_app, peek_app]
  by_cases h : peek (skip r) ≠ 34
  · rw [if_pos h, if_pos h]; rfl
  · have hne : skip r ≠ [] := peek_ne (by omega)
    rw [if_neg h, if_neg h, tail_app _ hne, dropWhile_app isQ rfl, takeWhile_app isQ rfl, peek_app]
    by_cases h2 : peek ((skip r).tail.dropWhile isQ) ≠ 34
    · rw [if_pos h2, if_pos h2]; rfl
    · rw [if_neg h2, if_neg h2, tail_app _ (peek_ne (by omega))]; rfl
theorem one_app (r b : List Nat) (f : Nat → Stp) : one (r ++ 10 :: b) f = sApp b (one r f) := by
  unfold one
  rw [num_app]
  cases num bigMost r with
  | ok x => rfl
  | error x => rfl
theorem two_app (r b : List Nat) (m : Nat) (f : Nat → Nat → Stp) : two (r ++ 10 :: b) m f = sApp b (two r m f) := by
  unfold two
  rw [num_app]
  cases num bigMost r with
  | ok x =>
    obtain ⟨n, r2⟩ := x
    show (match num m (r2 ++ 10 :: b) with | .ok (k, r3) => _ | .error e => _) = _
    rw [num_app]
    dsimp only
    cases num m r2 with
    | ok x => rfl
    | error x => rfl
  | error x => rfl
theorem wrt_app (r b : List Nat) : wrt (r ++ 10 :: b) = sApp b (wrt r) := by
  unfold wrt
  rw [num_app]
  cases num bigMost r with
  | ok x =>
    obtain ⟨n, r2⟩ := x
    show (match quo (r2 ++ 10 :: b) with | .ok (k, r3) => _ | .error e => _) = _
    rw [quo_app]
    dsimp only
    cases quo r2 with
    | ok x => rfl
    | error x => rfl
  | error x => rfl
theorem stp_app (r b : List Nat) : stp (r ++ 10 :: b) = sApp b (stp r) := by
  unfold stp stpW
  rw [takeWhile_app isA rfl, dropWhile_app isA rfl]
  simp only [wrt_app, one_app, two_app]
  repeat' split
  all_goals rfl
theorem stp_ne {r r' : List Nat} {c : Nat} (h : stp r = .error (c, r')) : c ≠ 0 := by
  have hone : ∀ (x : List Nat) (f : Nat → Stp), one x f = .error (c, r') → c ≠ 0 := by
    intro x f h
    unfold one at h
    cases hn : num bigMost x with
    | ok y => rw [hn] at h; cases h
    | error e => rw [hn] at h; cases h; exact num_ne hn
  have htwo : ∀ (x : List Nat) (m : Nat) (f : Nat → Nat → Stp), two x m f = .error (c, r') → c ≠ 0 := by
    intro x m f h
    unfold two at h
    cases hn : num bigMost x with
    | ok y =>
      obtain ⟨n, r2⟩ := y
      rw [hn] at h
      dsimp only at h
      cases hk : num m r2 with
      | ok z => rw [hk] at h; cases h
      | error e => rw [hk] at h; cases h; exact num_ne hk
    | error e => rw [hn] at h; cases h; exact num_ne hn
  unfold stp stpW at h
  repeat' split at h
  · unfold wrt at h
    cases hn : num bigMost (r.dropWhile isA) with
    | ok y =>
      obtain ⟨n, r2⟩ := y
      rw [hn] at h
      dsimp only at h
      cases hk : quo r2 with
      | ok z => rw [hk] at h; cases h
      | error e => rw [hk] at h; cases h; exact quo_ne hk
    | error e => rw [hn] at h; cases h; exact num_ne hn
  · exact hone _ _ h
  · exact hone _ _ h
  · cases h
  · exact hone _ _ h
  · exact hone _ _ h
  · exact htwo _ _ _ h
  · exact htwo _ _ _ h
  · cases h; decide
theorem go_ne (lim : Nat) : ∀ (f : Nat) (r : List Nat) (acc : List Stp) (c : Nat) (r' : List Nat), go lim f r acc = .error (c, r') → c ≠ 0 := by
  intro f
  induction f with
  | zero => intro r acc c r' h; cases h
  | succ f ih =>
    intro r acc c r' h
    unfold go at h
    split at h
    · cases h
    · split at h
      · split at h
        · cases h; decide
        · cases hst : stp (skip r) with
          | error e => rw [hst] at h; cases h; exact stp_ne hst
          | ok x =>
            obtain ⟨s, r2⟩ := x
            rw [hst] at h
            dsimp only at h
            split at h
            · cases h; decide
            · exact ih _ _ _ _ h
      · exact ih _ _ _ _ h
theorem tl_app {r : List Nat} (b : List Nat) (h : peek r = 10) : (r ++ 10 :: b).tail = if r = [] then b else r.tail ++ 10 :: b := by
  cases r with
  | nil => rfl
  | cons x r => rfl
theorem go_nil (lim f : Nat) (acc : List Stp) : go lim f [] acc = .ok acc := by cases f <;> rfl
def rApp (lim : Nat) (b : List Nat) : Res → Res
  | .ok l => go lim b.length b l
  | .error (c, r) => .error (c, r ++ 10 :: b)
theorem go_lf (lim g : Nat) (b : List Nat) (acc : List Stp) (h : b.length + 1 ≤ g) : go lim g (10 :: b) acc = go lim b.length b acc := by
  obtain ⟨g, rfl⟩ : ∃ k, g = k + 1 := ⟨g - 1, by omega⟩
  have hs : skip (10 :: b) = 10 :: b := rfl
  conv => lhs; unfold go
  rw [if_neg (by simp), hs, if_neg (by simp [peek])]
  exact go_fuel _ _ _ _ _ (by rw [List.tail_cons]; omega) (by rw [List.tail_cons]; omega)
theorem go_app (lim : Nat) (b : List Nat) : ∀ (f g : Nat) (r : List Nat) (acc : List Stp), r.length ≤ f → r.length + 1 + b.length ≤ g → go lim g (r ++ 10 :: b) acc = rApp lim b (go lim f r acc) := by
  intro f
  induction f with
  | zero =>
    intro g r acc h hg
    have : r = [] := List.eq_nil_of_length_eq_zero (by omega)
    subst this
    rw [List.nil_append, go_lf _ _ _ _ (by simp at hg; omega), go_nil]; rfl
  | succ f ih =>
    intro g r acc h hg
    by_cases hr : r = []
    · subst hr
      rw [List.nil_append, go_lf _ _ _ _ (by simp at hg; omega), go_nil]; rfl
    · have hpos : 0 < r.length := List.length_pos_iff.2 hr
      have hs := skip_len r
      obtain ⟨g, rfl⟩ : ∃ k, g = k + 1 := ⟨g - 1, by omega⟩
      have on : ∀ (x : List Nat) (acc : List Stp), x.length ≤ r.length → peek x = 10 → go lim g (x ++ 10 :: b).tail acc = rApp lim b (go lim f x.tail acc) := by
        intro x acc hx hp
        rw [tl_app b hp]
        by_cases h0 : x = []
        · subst h0
          rw [if_pos rfl, List.tail_nil, go_nil]
          exact go_fuel _ _ _ _ _ (by omega) (Nat.le_refl _)
        · have := List.length_pos_iff.2 h0
          rw [if_neg h0]
          exact ih g x.tail acc (by rw [List.length_tail]; omega) (by rw [List.length_tail]; omega)
      conv => lhs; unfold go
      conv => rhs; unfold go
      rw [if_neg (by simp), if_neg hr, skip_app, peek_app]
      by_cases hp : peek (skip r) ≠ 10
      · rw [if_pos hp, if_pos hp]
        by_cases ha : acc.length = lim
        · rw [if_pos ha, if_pos ha]; rfl
        · rw [if_neg ha, if_neg ha, stp_app]
          have hw := stp_well (skip r) (peek_skip r)
          cases hst : stp (skip r) with
          | error e => rfl
          | ok x =>
            obtain ⟨s, r2⟩ := x
            rw [hst] at hw
            have hw : r2.length ≤ (skip r).length := hw
            have h2 := skip_len r2
            show (if peek (skip (r2 ++ 10 :: b)) ≠ 10 then _ else go lim g (skip (r2 ++ 10 :: b)).tail (acc ++ [s])) = rApp lim b (if peek (skip r2) ≠ 10 then _ else _)
            rw [skip_app, peek_app]
            by_cases hq : peek (skip r2) ≠ 10
            · rw [if_pos hq, if_pos hq]; rfl
            · rw [if_neg hq, if_neg hq]
              exact on _ _ (by omega) (by omega)
      · rw [if_neg hp, if_neg hp]
        exact on _ _ hs (by omega)
def rPre (x : List Stp) : Res → Res
  | .ok l => .ok (x ++ l)
  | .error e => .error e
theorem go_shift (lim : Nat) (x : List Stp) : ∀ (f : Nat) (r : List Nat) (acc : List Stp), x.length + acc.length + r.length ≤ lim → go lim f r (x ++ acc) = rPre x (go lim f r acc) := by
  intro f
  induction f with
  | zero => intro r acc _; rfl
  | succ f ih =>
    intro r acc h
    unfold go
    by_cases hr : r = []
    · rw [if_pos hr, if_pos hr]; rfl
    · have hpos : 0 < r.length := List.length_pos_iff.2 hr
      have hs := skip_len r
      rw [if_neg hr, if_neg hr]
      split
      · rename_i hp
        have hne := List.length_pos_iff.2 (peek_ne hp)
        rw [if_neg (by rw [List.length_append]; omega), if_neg (by omega)]
        have hw := stp_well (skip r) (peek_skip r)
        cases hst : stp (skip r) with
        | error e => rfl
        | ok y =>
          obtain ⟨s, r2⟩ := y
          rw [hst] at hw
          have hw : r2.length ≤ (skip r).length := hw
          have h2 := skip_len r2
          dsimp only
          split
          · rfl
          · rw [List.append_assoc]
            exact ih _ _ (by rw [List.length_append, List.length_tail, List.length_singleton]; omega)
      · exact ih _ _ (by rw [List.length_tail]; omega)
end Go.Sl
