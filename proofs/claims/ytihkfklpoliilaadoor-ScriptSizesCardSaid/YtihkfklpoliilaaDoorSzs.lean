/- Scripts of blanks alone, of one step again and again. No program. -/
import Derived.Test.YtihkfklpoliilaaDoorJn
namespace Go.Sl
open Go
theorem skip_blanks (n : Nat) : skip (List.replicate n 32) = [] := by
  unfold skip
  induction n with
  | zero => rfl
  | succ n ih => rw [List.replicate_succ, List.dropWhile_cons]; exact ih
theorem parse_blanks (n : Nat) : parse (List.replicate n 32) = .ok [] := by
  unfold parse go
  split
  · rfl
  · rw [skip_blanks, if_neg (by decide)]
    exact go_nil _ _ _
theorem runes_blanks (n : Nat) : runesOf (List.replicate n 32) = (List.replicate n 32, true) := by
  have h := runes_ascii (List.replicate n 32) [] (fun c hc => by rw [List.eq_of_mem_replicate hc]; decide)
  rw [List.append_nil, runesOf_nil, List.append_nil] at h
  rw [h, List.map_replicate]; rfl
/-- so many times the line -/
def flush : Nat → List Nat
  | 0 => []
  | n + 1 => [102, 108, 117, 115, 104] ++ 10 :: flush n
def flushB : Nat → Bytes
  | 0 => []
  | n + 1 => [102, 108, 117, 115, 104, 10] ++ flushB n
theorem flush_len (n : Nat) : (flush n).length = 6 * n := by
  induction n with
  | zero => rfl
  | succ n ih => simp [flush, ih]; omega
theorem flushB_len (n : Nat) : (flushB n).length = 6 * n := by
  induction n with
  | zero => rfl
  | succ n ih => simp [flushB, ih]; omega
theorem flushB_add (n : Nat) : flushB n ++ [102, 108, 117, 115, 104, 10] = flushB (n + 1) := by
  induction n with
  | zero => rfl
  | succ n ih => rw [flushB, List.append_assoc, ih]; rfl
theorem runes_flush (n : Nat) : runesOf (flushB n) = (flush n, true) := by
  induction n with
  | zero => rfl
  | succ n ih =>
    have h := runes_ascii [102, 108, 117, 115, 104, 10] (flushB n) (by decide)
    rw [ih] at h
    exact h
theorem stp_flush (x : List Nat) : stp ([102, 108, 117, 115, 104] ++ 10 :: x) = .ok (.plain wFlush, 10 :: x) := by
  rw [stp_app]
  have : stp [102, 108, 117, 115, 104] = .ok (.plain wFlush, []) := by kernel_rfl
  rw [this]; rfl
theorem go_flush (lim : Nat) : ∀ (n f : Nat) (acc : List Stp), 6 * n < f → acc.length ≤ lim →
    go lim f (flush n) acc = if acc.length + n ≤ lim then .ok (acc ++ List.replicate n (.plain wFlush)) else .error (6, flush (n - (lim - acc.length))) := by
  intro n
  induction n with
  | zero => intro f acc _ h; rw [show flush 0 = [] from rfl, go_nil, if_pos (by omega)]; simp
  | succ n ih =>
    intro f acc hf h
    obtain ⟨f, rfl⟩ : ∃ k, f = k + 1 := ⟨f - 1, by omega⟩
    unfold go
    have hs : skip (flush (n + 1)) = flush (n + 1) := rfl
    have hp : peek (flush (n + 1)) = 102 := rfl
    rw [if_neg (by simp [flush]), hs, hp, if_pos (by decide)]
    by_cases ha : acc.length = lim
    · rw [if_pos ha, if_neg (by omega)]
      rw [ha, Nat.sub_self]; rfl
    · rw [if_neg ha]
      have h1 : stp (flush (n + 1)) = .ok (.plain wFlush, 10 :: flush n) := stp_flush (flush n)
      rw [h1]
      dsimp only
      have hs2 : skip (10 :: flush n) = 10 :: flush n := rfl
      rw [hs2, show peek (10 :: flush n) = 10 from rfl, if_neg (by decide), List.tail_cons]
      rw [ih f _ (by omega) (by simp; omega)]
      simp only [List.length_append, List.length_singleton, List.append_assoc]
      by_cases hl : acc.length + 1 + n ≤ lim
      · rw [if_pos hl, if_pos (by omega)]
        rfl
      · rw [if_neg hl, if_neg (by omega)]
        congr 3
        omega
theorem parse_flush (n : Nat) : parse (flush n) = if n ≤ 4096 then .ok (List.replicate n (.plain wFlush)) else .error (6, flush (n - 4096)) := by
  have h := go_flush 4096 n ((flush n).length + 1) [] (by rw [flush_len]; omega) (by simp)
  simpa [parse] using h
end Go.Sl
