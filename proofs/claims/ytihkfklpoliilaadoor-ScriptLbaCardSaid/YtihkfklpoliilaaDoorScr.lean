/- A script's text, plainly: runes, numbers, quoted texts, steps. No program. -/
import Derived.Test.YtihkfklpoliilaaDoorStr2
namespace Go.Sl
open Go
def isD (r : Nat) : Bool := decide (48 ≤ r) && decide (r ≤ 57)
def isA (r : Nat) : Bool := decide (97 ≤ r) && decide (r ≤ 122)
def isB (r : Nat) : Bool := r == 32
def isQ (r : Nat) : Bool := decide (r ≠ 34) && decide (r ≠ 10)
def peek (r : List Nat) : Nat := r.headD 10
def skip (r : List Nat) : List Nat := r.dropWhile isB
def decFrom (n : Nat) (t : List Nat) : Nat := t.foldl (fun n d => n * 10 + (d - 48)) n
def decVal (t : List Nat) : Nat := decFrom 0 t
def bytesOf (t : List Nat) : Bytes := t.flatMap enc
abbrev Scan (α : Type) := Except (Nat × List Nat) (α × List Nat)
/-- digits one behind the other that are no number: none, or a nought ahead -/
def badNum (t : List Nat) : Bool := t.isEmpty || (decide (1 < t.length) && (t.headD 0 == 48))
def num (most : Nat) (r : List Nat) : Scan Nat :=
  if badNum ((skip r).takeWhile isD) then .error (4, skip r)
  else if most < decVal ((skip r).takeWhile isD) ∨ 18446744073709551616 ≤ decVal ((skip r).takeWhile isD) then .error (12, skip r)
  else .ok (decVal ((skip r).takeWhile isD), (skip r).dropWhile isD)
def quo (r : List Nat) : Scan Bytes :=
  if peek (skip r) ≠ 34 then .error (4, skip r)
  else if peek ((skip r).tail.dropWhile isQ) ≠ 34 then .error (4, (skip r).tail.dropWhile isQ)
  else .ok (bytesOf ((skip r).tail.takeWhile isQ), ((skip r).tail.dropWhile isQ).tail)
inductive Stp where
  | write (n : Nat) (t : Bytes)
  | read (n : Nat)
  | trim (n : Nat)
  | plain (w : Bytes)
  | clean (g : Bool) (n : Nat)
  | member (w : Bytes) (n : Nat)
  | failat (m o : Nat)
  | crash (n k : Nat)
deriving DecidableEq
def wWrite : Bytes := [119, 114, 105, 116, 101]
def wRead : Bytes := [114, 101, 97, 100]
def wTrim : Bytes := [116, 114, 105, 109]
def wFlush : Bytes := [102, 108, 117, 115, 104]
def wCkpt : Bytes := [99, 104, 101, 99, 107, 112, 111, 105, 110, 116]
def wRebuild : Bytes := [114, 101, 98, 117, 105, 108, 100]
def wCheck : Bytes := [99, 104, 101, 99, 107]
def wGreedy : Bytes := [103, 114, 101, 101, 100, 121]
def wWorth : Bytes := [119, 111, 114, 116, 104]
def wFail : Bytes := [102, 97, 105, 108]
def wReplace : Bytes := [114, 101, 112, 108, 97, 99, 101]
def wFailat : Bytes := [102, 97, 105, 108, 97, 116]
def wCrash : Bytes := [99, 114, 97, 115, 104]
def bigMost : Nat := 1073741824
def one (r : List Nat) (f : Nat → Stp) : Scan Stp := match num bigMost r with
  | .ok (n, r') => .ok (f n, r')
  | .error e => .error e
def two (r : List Nat) (m : Nat) (f : Nat → Nat → Stp) : Scan Stp := match num bigMost r with
  | .ok (n, r2) => (match num m r2 with
    | .ok (k, r3) => .ok (f n k, r3)
    | .error e => .error e)
  | .error e => .error e
def wrt (r : List Nat) : Scan Stp := match num bigMost r with
  | .ok (n, r2) => (match quo r2 with
    | .ok (t, r3) => .ok (.write n t, r3)
    | .error e => .error e)
  | .error e => .error e
def stpW (w : Bytes) (r1 r : List Nat) : Scan Stp :=
  if w = wWrite then wrt r1
  else if w = wRead then one r1 .read
  else if w = wTrim then one r1 .trim
  else if w = wFlush ∨ w = wCkpt ∨ w = wRebuild ∨ w = wCheck then .ok (.plain w, r1)
  else if w = wGreedy ∨ w = wWorth then one r1 (.clean (decide (w = wGreedy)))
  else if w = wFail ∨ w = wReplace then one r1 (.member w)
  else if w = wFailat then two r1 bigMost .failat
  else if w = wCrash then two r1 18446744073709551615 .crash
  else .error (11, r)
def stp (r : List Nat) : Scan Stp := stpW (bytesOf (r.takeWhile isA)) (r.dropWhile isA) r
theorem num_le {m : Nat} {r r' : List Nat} {n : Nat} (h : num m r = .ok (n, r')) : n ≤ m := by
  unfold num at h
  split at h
  · cases h
  · split at h
    · cases h
    · cases h; omega
theorem num_ne {m : Nat} {r r' : List Nat} {c : Nat} (h : num m r = .error (c, r')) : c ≠ 0 := by
  unfold num at h
  split at h
  · cases h; decide
  · split at h
    · cases h; decide
    · cases h
theorem quo_ne {r r' : List Nat} {c : Nat} (h : quo r = .error (c, r')) : c ≠ 0 := by
  unfold quo at h
  split at h
  · cases h; decide
  · split at h
    · cases h; decide
    · cases h
abbrev Res := Except (Nat × List Nat) (List Stp)
/-- line by line -/
def go (lim : Nat) : Nat → List Nat → List Stp → Res
  | 0, _, acc => .ok acc
  | f + 1, r, acc =>
    if r = [] then .ok acc
    else if peek (skip r) ≠ 10 then
      if acc.length = lim then .error (6, skip r) else
      (match stp (skip r) with
        | .error e => .error e
        | .ok (s, r2) => if peek (skip r2) ≠ 10 then .error (4, skip r2) else go lim f (skip r2).tail (acc ++ [s]))
    else go lim f (skip r).tail acc
def parse (l : List Nat) : Res := go 4096 (l.length + 1) l []

theorem skip_len (r : List Nat) : (skip r).length ≤ r.length := (List.dropWhile_sublist _).length_le
theorem dropWhile_len (q : Nat → Bool) (r : List Nat) : (r.dropWhile q).length ≤ r.length := (List.dropWhile_sublist _).length_le
theorem num_len {m : Nat} {r r' : List Nat} {n : Nat} (h : num m r = .ok (n, r')) : r'.length ≤ r.length := by
  unfold num at h
  split at h
  · cases h
  · split at h
    · cases h
    · cases h
      have := dropWhile_len isD (skip r); have := skip_len r; omega
theorem quo_len {r r' : List Nat} {n : Bytes} (h : quo r = .ok (n, r')) : r'.length ≤ r.length := by
  unfold quo at h
  split at h
  · cases h
  · split at h
    · cases h
    · cases h
      have := dropWhile_len isQ (skip r).tail; have := skip_len r
      simp only [List.length_tail] at *; omega
theorem peek_skip (r : List Nat) : peek (skip r) ≠ 32 := by
  unfold skip
  induction r with
  | nil => decide
  | cons x r ih =>
    rw [List.dropWhile_cons]
    split
    · exact ih
    · rename_i h
      intro e
      have : x = 32 := e
      subst this; exact h rfl
theorem skip_idem {r : List Nat} (h : peek r ≠ 32) : skip r = r := by
  cases r with
  | nil => rfl
  | cons x r =>
    have hb : isB x = false := by simpa [isB, peek] using h
    unfold skip
    rw [List.dropWhile_cons, hb]; rfl
theorem peek_isQ (r : List Nat) : peek (r.dropWhile isQ) = 34 ∨ peek (r.dropWhile isQ) = 10 := by
  induction r with
  | nil => exact .inr rfl
  | cons x r ih =>
    rw [List.dropWhile_cons]
    split
    · exact ih
    · rename_i h
      have : peek (x :: r) = x := rfl
      rw [this]
      simp [isQ] at h
      omega
theorem num_err {m : Nat} {r r' : List Nat} {c : Nat} (h : num m r = .error (c, r')) : peek r' ≠ 32 := by
  unfold num at h
  split at h
  · cases h; exact peek_skip r
  · split at h
    · cases h; exact peek_skip r
    · cases h
theorem quo_err {r r' : List Nat} {c : Nat} (h : quo r = .error (c, r')) : peek r' ≠ 32 := by
  unfold quo at h
  split at h
  · cases h; exact peek_skip r
  · split at h
    · cases h; have := peek_isQ (skip r).tail; omega
    · cases h
/-- a reading goes on, or ends at a sign that is no blank -/
def Well {α : Type} (r : List Nat) : Scan α → Prop
  | .ok (_, r') => r'.length ≤ r.length
  | .error (_, r') => peek r' ≠ 32
theorem one_well (r : List Nat) (f : Nat → Stp) : Well r (one r f) := by
  unfold one
  cases h : num bigMost r with
  | ok x => obtain ⟨n, r'⟩ := x; exact num_len h
  | error x => obtain ⟨c, r'⟩ := x; exact num_err h
theorem two_well (r : List Nat) (m : Nat) (f : Nat → Nat → Stp) : Well r (two r m f) := by
  unfold two
  cases h : num bigMost r with
  | ok x =>
    obtain ⟨n, r'⟩ := x
    dsimp only
    cases h2 : num m r' with
    | ok x => obtain ⟨k, r2⟩ := x; exact Nat.le_trans (num_len h2) (num_len h)
    | error x => obtain ⟨c, r2⟩ := x; exact num_err h2
  | error x => obtain ⟨c, r'⟩ := x; exact num_err h
theorem wrt_well (r : List Nat) : Well r (wrt r) := by
  unfold wrt
  cases h : num bigMost r with
  | ok x =>
    obtain ⟨n, r'⟩ := x
    dsimp only
    cases h2 : quo r' with
    | ok x => obtain ⟨k, r2⟩ := x; exact Nat.le_trans (quo_len h2) (num_len h)
    | error x => obtain ⟨c, r2⟩ := x; exact quo_err h2
  | error x => obtain ⟨c, r'⟩ := x; exact num_err h
theorem Well.mono {α : Type} {r r2 : List Nat} (h : r.length ≤ r2.length) : ∀ {m : Scan α}, Well r m → Well r2 m
  | .ok _, w => Nat.le_trans w h
  | .error _, w => w
theorem stp_well (r : List Nat) (hr : peek r ≠ 32) : Well r (stp r) := by
  have hl := dropWhile_len isA r
  unfold stp stpW
  repeat' split
  · exact (wrt_well _).mono hl
  · exact (one_well _ _).mono hl
  · exact (one_well _ _).mono hl
  · exact hl
  · exact (one_well _ _).mono hl
  · exact (one_well _ _).mono hl
  · exact (two_well _ _ _).mono hl
  · exact (two_well _ _ _).mono hl
  · exact hr
/-- enough rounds are enough -/
theorem go_fuel (lim : Nat) : ∀ (f g : Nat) (r : List Nat) (acc : List Stp), r.length ≤ f → r.length ≤ g → go lim f r acc = go lim g r acc := by
  intro f
  induction f with
  | zero =>
    intro g r acc h hg
    have : r = [] := List.eq_nil_of_length_eq_zero (by omega)
    subst this
    cases g <;> rfl
  | succ f ih =>
    intro g r acc h hg
    cases g with
    | zero =>
      have : r = [] := List.eq_nil_of_length_eq_zero (by omega)
      subst this; rfl
    | succ g =>
      unfold go
      by_cases hr : r = []
      · rw [if_pos hr, if_pos hr]
      · have hpos : 0 < r.length := List.length_pos_iff.2 hr
        have hs := skip_len r
        rw [if_neg hr, if_neg hr]
        split
        · split
          · rfl
          · have hw := stp_well (skip r) (peek_skip r)
            cases hst : stp (skip r) with
            | error e => rfl
            | ok x =>
              obtain ⟨s, r2⟩ := x
              rw [hst] at hw
              have hw : r2.length ≤ (skip r).length := hw
              dsimp only
              split
              · rfl
              · have := skip_len r2
                exact ih g _ _ (by rw [List.length_tail]; omega) (by rw [List.length_tail]; omega)
        · exact ih g _ _ (by rw [List.length_tail]; omega) (by rw [List.length_tail]; omega)
end Go.Sl
