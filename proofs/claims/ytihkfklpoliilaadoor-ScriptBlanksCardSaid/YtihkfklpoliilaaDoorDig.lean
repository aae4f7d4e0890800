/- Numbers' digits, read again; words read again. No program. -/
import Derived.Test.YtihkfklpoliilaaDoorJn
import Derived.Lib.ItoaNum
namespace Go.Sl
open Go
/-- a number's digits -/
def digs (n : Nat) : List Nat := (Lib.decDigits n).map UInt8.toNat
theorem digs_lt {n : Nat} (h : n < 10) : digs n = [48 + n] := by
  unfold digs
  rw [Lib.decDigits, dif_pos h, List.map_cons, List.map_nil, UInt8.toNat_ofNat', Nat.mod_eq_of_lt (show 48 + n < 2 ^ 8 by omega)]
theorem digs_ge {n : Nat} (h : ¬ n < 10) : digs n = digs (n / 10) ++ [48 + n % 10] := by
  unfold digs
  rw [Lib.decDigits, dif_neg h, List.map_append, List.map_cons, List.map_nil, UInt8.toNat_ofNat', Nat.mod_eq_of_lt (show 48 + n % 10 < 2 ^ 8 by omega)]
theorem digs_ok (n : Nat) : (∀ d ∈ digs n, isD d = true) ∧ decVal (digs n) = n ∧ digs n ≠ [] ∧ (0 < n → (digs n).headD 0 ≠ 48) := by
  induction n using Nat.strongRecOn with
  | _ n ih =>
    by_cases h : n < 10
    · rw [digs_lt h]
      refine ⟨fun d hd => ?_, ?_, by simp, fun hn => ?_⟩
      · rw [List.mem_singleton] at hd; subst hd; simp [isD]; omega
      · simp [decVal, decFrom]
      · simp; omega
    · obtain ⟨h1, h2, h3, h4⟩ := ih (n / 10) (by omega)
      rw [digs_ge h]
      refine ⟨fun d hd => ?_, ?_, by simp, fun _ => ?_⟩
      · rcases List.mem_append.1 hd with hd | hd
        · exact h1 d hd
        · rw [List.mem_singleton] at hd; subst hd; simp [isD]; omega
      · unfold decVal decFrom at h2 ⊢
        rw [List.foldl_append, h2]
        simp; omega
      · cases hq : digs (n / 10) with
        | nil => exact absurd hq h3
        | cons x t => rw [hq] at h4; exact h4 (by omega)
theorem digs_bad (n : Nat) : badNum (digs n) = false := by
  obtain ⟨_, _, h3, h4⟩ := digs_ok n
  unfold badNum
  cases hq : digs n with
  | nil => exact absurd hq h3
  | cons x t =>
    rw [hq] at h4
    by_cases hn : 0 < n
    · have := h4 hn
      have hx : x ≠ 48 := this
      simp [hx]
    · have h0 : n = 0 := by omega
      subst h0
      rw [digs_lt (by decide)] at hq
      cases hq; rfl
theorem takeWhile_all (q : Nat → Bool) (x : List Nat) (hx : q (peek x) = false) : ∀ l : List Nat, (∀ d ∈ l, q d = true) → (l ++ x).takeWhile q = l ∧ (l ++ x).dropWhile q = x
  | [], _ => by
    cases x with
    | nil => exact ⟨rfl, rfl⟩
    | cons y t =>
      have hx : q y = false := hx
      rw [List.nil_append, List.takeWhile_cons, List.dropWhile_cons, hx]; exact ⟨rfl, rfl⟩
  | d :: l, h => by
    obtain ⟨h1, h2⟩ := takeWhile_all q x hx l (fun e he => h e (List.mem_cons_of_mem _ he))
    rw [List.cons_append, List.takeWhile_cons, List.dropWhile_cons, h d (List.mem_cons_self ..), if_pos rfl, if_pos rfl, h1, h2]
    exact ⟨rfl, rfl⟩
/-- a number behind a blank -/
theorem num_digs {m n : Nat} {x : List Nat} (hn : n ≤ m) (h64 : n < 18446744073709551616) (hx : isD (peek x) = false) : num m (32 :: digs n ++ x) = .ok (n, x) := by
  obtain ⟨h1, h2, h3, _⟩ := digs_ok n
  obtain ⟨t1, t2⟩ := takeWhile_all isD x hx (digs n) h1
  have hs : skip (32 :: digs n ++ x) = digs n ++ x := by
    unfold skip
    rw [List.cons_append, List.dropWhile_cons, show isB 32 = true from rfl, if_pos rfl]
    cases hq : digs n with
    | nil => exact absurd hq h3
    | cons y t =>
      have hy := h1 y (by rw [hq]; exact List.mem_cons_self ..)
      have hb : isB y = false := by simp [isD] at hy; simp [isB]; omega
      rw [List.cons_append, List.dropWhile_cons, hb]; rfl
  unfold num
  rw [hs, t1, t2, digs_bad, h2, if_neg (by simp), if_neg (by omega)]
/-- signs between quotation marks, behind a blank -/
theorem quo_signs {t x : List Nat} (ht : ∀ r ∈ t, r ≠ 34 ∧ r ≠ 10) : quo (32 :: 34 :: t ++ 34 :: x) = .ok (bytesOf t, x) := by
  have hs : skip (32 :: 34 :: t ++ 34 :: x) = 34 :: (t ++ 34 :: x) := rfl
  obtain ⟨t1, t2⟩ := takeWhile_all isQ (34 :: x) rfl t (fun r hr => by have := ht r hr; simp [isQ]; omega)
  unfold quo
  rw [hs, show peek (34 :: (t ++ 34 :: x)) = 34 from rfl, if_neg (by decide), List.tail_cons, t2, t1, show peek (34 :: x) = 34 from rfl, if_neg (by decide), List.tail_cons]
theorem peek_nA {x : List Nat} (h : peek x = 10 ∨ peek x = 32) : isA (peek x) = false ∧ isD (peek x) = false := by
  rcases h with h | h <;> rw [h] <;> exact ⟨rfl, rfl⟩
/-- what a step's line is read as -/
theorem stp_word {w x : List Nat} (hw : ∀ d ∈ w, isA d = true) (hx : isA (peek x) = false) : stp (w ++ x) = stpW (bytesOf w) x (w ++ x) := by
  obtain ⟨t1, t2⟩ := takeWhile_all isA x hx w hw
  unfold stp
  rw [t1, t2]
-- lines one behind the other
/-- one line, ahead of others: blanks, empty lines before it, blanks behind it -/
theorem go_line {lim f : Nat} {r x y : List Nat} {acc : List Stp} {s : Stp} (h : stp (r ++ x ++ 10 :: y) = .ok (s, x ++ 10 :: y)) (hp : peek (r ++ x ++ 10 :: y) ≠ 10) (hp2 : peek (r ++ x ++ 10 :: y) ≠ 32) (hx : skip x = []) (ha : acc.length < lim) :
    go lim (f + 1) (r ++ x ++ 10 :: y) acc = go lim f y (acc ++ [s]) := by
  conv => lhs; unfold go
  have hs : skip (r ++ x ++ 10 :: y) = r ++ x ++ 10 :: y := skip_idem hp2
  rw [if_neg (by simp), hs, if_pos hp, if_neg (by omega), h]
  dsimp only
  rw [skip_app, hx, List.nil_append, show peek (10 :: y) = 10 from rfl, if_neg (by decide), List.tail_cons]
end Go.Sl
