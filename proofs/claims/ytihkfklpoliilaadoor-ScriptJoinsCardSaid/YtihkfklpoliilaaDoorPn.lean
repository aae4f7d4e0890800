/- Two scripts' texts joined. -/
import Derived.Test.YtihkfklpoliilaaDoorFit
import Derived.Test.YtihkfklpoliilaaDoorJn
namespace Go.Proofs.YtihkfklpoliilaaDoor
open Go Go.Sl
theorem psteps_len (s : Bytes) (hl : s.length ≤ 65536) : (psteps s).1.length ≤ s.length + 1 := by
  obtain ⟨hok, hll⟩ := runesOf_ok s.length s (Nat.le_refl _)
  unfold psteps
  split
  · simp
  · split
    · simp
    · cases hp : parse (runesOf s).1 with
      | error e => simp
      | ok l =>
        have := (go_fit 4096 _ _ [] l (by omega) hok (fun s h => (by cases h)) hp).2
        simp at this
        show l.length ≤ _
        omega
/-- what comes of it, with an end, or with none -/
theorem psteps_ok {s : Bytes} (h : (psteps s).2.2 = 0) (hl : s.length ≤ 65536) : (runesOf s).2 = true ∧ parse (runesOf s).1 = .ok (psteps s).1 := by
  unfold psteps at h ⊢
  rw [if_neg (by omega)] at h ⊢
  by_cases hb : (runesOf s).2 = false
  · rw [if_pos hb] at h; cases h
  · rw [if_neg hb] at h ⊢
    refine ⟨by simpa using hb, ?_⟩
    cases hp : parse (runesOf s).1 with
    | ok l => rfl
    | error x => obtain ⟨c, r⟩ := x; rw [hp] at h; exact absurd h (go_ne _ _ _ _ _ _ hp)
theorem psteps_of {s : Bytes} {l : List Stp} (hl : s.length ≤ 65536) (hr : (runesOf s).2 = true) (hp : parse (runesOf s).1 = .ok l) : psteps s = (l, 0, 0) := by
  unfold psteps
  rw [if_neg (by omega), if_neg (by rw [hr]; simp), hp]
theorem psteps_err {s : Bytes} {c : Nat} {r : List Nat} (hl : s.length ≤ 65536) (hr : (runesOf s).2 = true) (hp : parse (runesOf s).1 = .error (c, r)) : (psteps s).2.2 = c := by
  unfold psteps
  rw [if_neg (by omega), if_neg (by rw [hr]; simp), hp]
theorem psteps_bad {s : Bytes} (hl : s.length ≤ 65536) (hr : (runesOf s).2 = false) : (psteps s).2.2 = 4 := by
  unfold psteps
  rw [if_neg (by omega), if_pos hr]
theorem psteps_join (a b : Bytes) (ha : a.length ≤ 1000) (hb : b.length ≤ 1000) :
    ((psteps a).2.2 ≠ 0 → (psteps (a ++ [10] ++ b)).2.2 ≠ 0) ∧
    ((psteps a).2.2 = 0 → (psteps b).2.2 ≠ 0 → (psteps (a ++ [10] ++ b)).2.2 = (psteps b).2.2) ∧
    ((psteps a).2.2 = 0 → (psteps b).2.2 = 0 → (psteps (a ++ [10] ++ b)).2.2 = 0 ∧ (psteps (a ++ [10] ++ b)).1 = (psteps a).1 ++ (psteps b).1) := by
  rw [show a ++ [10] ++ b = a ++ 10 :: b by simp]
  have hlen : (a ++ 10 :: b).length ≤ 65536 := by simp; omega
  have hs := runes_sep (c := 10) a b (by decide)
  obtain ⟨_, la⟩ := runesOf_ok a.length a (Nat.le_refl _)
  obtain ⟨_, lb⟩ := runesOf_ok b.length b (Nat.le_refl _)
  rw [show (10 : UInt8).toNat = 10 from rfl] at hs
  by_cases hra : (runesOf a).2 = true
  · rw [if_pos hra] at hs
    -- the one's steps, then the other's
    have hj : parse ((runesOf a).1 ++ 10 :: (runesOf b).1) = rApp 4096 (runesOf b).1 (parse (runesOf a).1) :=
      go_app 4096 (runesOf b).1 _ _ _ _ (by omega) (by simp; omega)
    have hsh : ∀ l, l.length ≤ 1001 → go 4096 (runesOf b).1.length (runesOf b).1 l = rPre l (parse (runesOf b).1) := by
      intro l hl
      have := go_shift 4096 l (runesOf b).1.length (runesOf b).1 [] (by simp; omega)
      rw [List.append_nil] at this
      rw [this]
      congr 1
      exact go_fuel _ _ _ _ _ (Nat.le_refl _) (by omega)
    refine ⟨fun h => ?_, fun h1 h2 => ?_, fun h1 h2 => ?_⟩
    · cases hp : parse (runesOf a).1 with
      | ok l => rw [psteps_of (by omega) hra hp] at h; exact absurd rfl h
      | error x =>
        obtain ⟨c, r⟩ := x
        rw [hp] at hj
        by_cases hrb : (runesOf b).2 = true
        · rw [psteps_err hlen (by rw [hs]; exact hrb) (by rw [hs]; exact hj)]; exact go_ne _ _ _ _ _ _ hp
        · rw [psteps_bad hlen (by rw [hs]; simpa using hrb)]; decide
    · obtain ⟨_, hp⟩ := psteps_ok h1 (by omega)
      have hla : (psteps a).1.length ≤ 1001 := by
        have h5 := psteps_len a (by omega)
        omega
      rw [hp] at hj
      change parse _ = go 4096 (runesOf b).1.length (runesOf b).1 (psteps a).1 at hj
      rw [hsh _ hla] at hj
      by_cases hrb : (runesOf b).2 = true
      · cases hpb : parse (runesOf b).1 with
        | ok l => rw [psteps_of (by omega) hrb hpb] at h2; exact absurd rfl h2
        | error x =>
          obtain ⟨c, r⟩ := x
          rw [hpb] at hj
          rw [psteps_err (by omega) hrb hpb, psteps_err hlen (by rw [hs]; exact hrb) (by rw [hs]; exact hj)]
      · have hrb' : (runesOf b).2 = false := by simpa using hrb
        rw [psteps_bad (by omega) hrb', psteps_bad hlen (by rw [hs]; exact hrb')]
    · obtain ⟨_, hp⟩ := psteps_ok h1 (by omega)
      obtain ⟨hrb, hpb⟩ := psteps_ok h2 (by omega)
      have hla : (psteps a).1.length ≤ 1001 := by
        have h5 := psteps_len a (by omega)
        omega
      rw [hp] at hj
      change parse _ = go 4096 (runesOf b).1.length (runesOf b).1 (psteps a).1 at hj
      rw [hsh _ hla, hpb] at hj
      rw [psteps_of hlen (by rw [hs]; exact hrb) (by rw [hs]; exact hj)]
      exact ⟨rfl, rfl⟩
  · have hra' : (runesOf a).2 = false := by simpa using hra
    rw [if_neg hra] at hs
    have h4 := psteps_bad (s := a) (by omega) hra'
    refine ⟨fun _ => ?_, fun h => ?_, fun h => ?_⟩
    · rw [psteps_bad hlen (by rw [hs])]; decide
    · rw [h4] at h; cases h
    · rw [h4] at h; cases h
end Go.Proofs.YtihkfklpoliilaaDoor
