/- What is parsed is of a size that there can be. -/
import Derived.Test.YtihkfklpoliilaaDoorPar
import Derived.Test.YtihkfklpoliilaaDoorLin
namespace Go.Proofs.YtihkfklpoliilaaDoor
open Go Go.Sl
theorem bytesOf_len : ∀ (t : List Nat), (∀ r ∈ t, RuneOk r) → (bytesOf t).length ≤ 4 * t.length
  | [], _ => by simp [bytesOf]
  | r :: t, h => by
    have h1 := bytesOf_len t (fun x hx => h x (List.mem_cons_of_mem _ hx))
    have h2 := enc_len (h r (List.mem_cons_self ..))
    unfold bytesOf at h1 ⊢
    rw [List.flatMap_cons, List.length_append, List.length_cons]; omega
theorem num_lt {m : Nat} {r r' : List Nat} {n : Nat} (h : num m r = .ok (n, r')) : n < 18446744073709551616 := by
  unfold num at h
  split at h
  · cases h
  · split at h
    · cases h
    · cases h; omega
/-- readings take from what there is -/
def Sub (r : List Nat) (m : Scan Stp) : Prop := ∀ s r', m = .ok (s, r') → SFit s ∧ ∀ x ∈ r', x ∈ r
theorem skip_mem {r : List Nat} {x : Nat} (h : x ∈ skip r) : x ∈ r := (List.dropWhile_sublist _).subset h
theorem num_mem {m : Nat} {r r' : List Nat} {n : Nat} (h : num m r = .ok (n, r')) : ∀ x ∈ r', x ∈ r := by
  unfold num at h
  split at h
  · cases h
  · split at h
    · cases h
    · cases h
      exact fun x hx => skip_mem ((List.dropWhile_sublist _).subset hx)
theorem quo_mem {r r' : List Nat} {t : Bytes} (h : quo r = .ok (t, r')) (hok : ∀ x ∈ r, RuneOk x) : t.length ≤ 4 * r.length ∧ ∀ x ∈ r', x ∈ r := by
  unfold quo at h
  split at h
  · cases h
  · split at h
    · cases h
    · cases h
      have hs : ∀ x ∈ (skip r).tail, x ∈ r := fun x hx => skip_mem (List.mem_of_mem_tail hx)
      refine ⟨?_, fun x hx => hs x ((List.dropWhile_sublist _).subset (List.mem_of_mem_tail hx))⟩
      have h1 := bytesOf_len ((skip r).tail.takeWhile isQ) (fun x hx => hok x (hs x ((List.takeWhile_sublist _).subset hx)))
      have h2 := (List.takeWhile_sublist isQ (l := (skip r).tail)).length_le
      have h3 := skip_len r
      rw [List.length_tail] at h2
      omega
theorem stp_fit {r : List Nat} (hl : r.length ≤ 65536) (hok : ∀ x ∈ r, RuneOk x) : Sub r (stp r) := by
  intro s r' h
  have hd : ∀ x ∈ r.dropWhile isA, x ∈ r := fun x hx => (List.dropWhile_sublist _).subset hx
  have hdl := dropWhile_len isA r
  unfold stp stpW at h
  have hone : ∀ (f : Nat → Stp), (∀ n, n ≤ 1073741824 → SFit (f n)) → one (r.dropWhile isA) f = .ok (s, r') → SFit s ∧ ∀ x ∈ r', x ∈ r := by
    intro f hf h
    unfold one at h
    cases hn : num bigMost (r.dropWhile isA) with
    | error e => rw [hn] at h; cases h
    | ok x =>
      obtain ⟨n, r2⟩ := x
      rw [hn] at h; cases h
      exact ⟨hf n (num_le hn), fun x hx => hd x (num_mem hn x hx)⟩
  have htwo : ∀ (m : Nat) (f : Nat → Nat → Stp), (∀ n k, n ≤ 1073741824 → k ≤ m → k < 18446744073709551616 → SFit (f n k)) → two (r.dropWhile isA) m f = .ok (s, r') → SFit s ∧ ∀ x ∈ r', x ∈ r := by
    intro m f hf h
    unfold two at h
    cases hn : num bigMost (r.dropWhile isA) with
    | error e => rw [hn] at h; cases h
    | ok x =>
      obtain ⟨n, r2⟩ := x
      rw [hn] at h
      dsimp only at h
      cases hk : num m r2 with
      | error e => rw [hk] at h; cases h
      | ok y =>
        obtain ⟨k, r3⟩ := y
        rw [hk] at h; cases h
        exact ⟨hf n k (num_le hn) (num_le hk) (num_lt hk), fun x hx => hd x (num_mem hn x (num_mem hk x hx))⟩
  split at h
  · unfold wrt at h
    cases hn : num bigMost (r.dropWhile isA) with
    | error e => rw [hn] at h; cases h
    | ok x =>
      obtain ⟨n, r2⟩ := x
      rw [hn] at h
      dsimp only at h
      cases hk : quo r2 with
      | error e => rw [hk] at h; cases h
      | ok y =>
        obtain ⟨t, r3⟩ := y
        rw [hk] at h; cases h
        have h1 := quo_mem hk (fun x hx => hok x (hd x (num_mem hn x hx)))
        have h2 := num_len hn
        exact ⟨⟨num_le hn, by omega⟩, fun x hx => hd x (num_mem hn x (h1.2 x hx))⟩
  split at h
  · exact hone Stp.read (fun n hn => hn) h
  split at h
  · exact hone Stp.trim (fun n hn => hn) h
  split at h
  · rename_i hw
    cases h
    refine ⟨?_, hd⟩
    show (bytesOf (r.takeWhile isA)).length ≤ 65536
    rcases hw with h | h | h | h <;> rw [h] <;> decide
  split at h
  · exact hone (Stp.clean (decide (bytesOf (r.takeWhile isA) = wGreedy))) (fun n hn => hn) h
  split at h
  · rename_i hw
    refine hone (Stp.member (bytesOf (r.takeWhile isA))) (fun n hn => ⟨hn, ?_⟩) h
    rcases hw with h | h <;> rw [h] <;> decide
  split at h
  · exact htwo bigMost Stp.failat (fun n k h1 h2 _ => ⟨h1, h2⟩) h
  split at h
  · exact htwo _ Stp.crash (fun n k h1 _ h2 => ⟨h1, h2⟩) h
  · cases h
theorem go_fit (lim : Nat) : ∀ (f : Nat) (r : List Nat) (acc l : List Stp), r.length ≤ 65536 → (∀ x ∈ r, RuneOk x) → (∀ s ∈ acc, SFit s) → go lim f r acc = .ok l → (∀ s ∈ l, SFit s) ∧ l.length ≤ acc.length + f := by
  intro f
  induction f with
  | zero => intro r acc l _ _ ha h; cases h; exact ⟨ha, by omega⟩
  | succ f ih =>
    intro r acc l hl hok ha h
    unfold go at h
    have hsm : ∀ x ∈ skip r, x ∈ r := fun x hx => skip_mem hx
    have hsl := skip_len r
    split at h
    · cases h; exact ⟨ha, by omega⟩
    · split at h
      · split at h
        · cases h
        · cases hst : stp (skip r) with
          | error e => rw [hst] at h; cases h
          | ok x =>
            obtain ⟨s, r2⟩ := x
            rw [hst] at h
            dsimp only at h
            obtain ⟨f1, f2⟩ := stp_fit (r := skip r) (by omega) (fun x hx => hok x (hsm x hx)) s r2 hst
            have hw := stp_well (skip r) (peek_skip r)
            rw [hst] at hw
            have hw : r2.length ≤ (skip r).length := hw
            split at h
            · cases h
            · have h3 := skip_len r2
              obtain ⟨i1, i2⟩ := ih (skip r2).tail (acc ++ [s]) l (by rw [List.length_tail]; omega) (fun x hx => hok x (hsm x (f2 x (skip_mem (List.mem_of_mem_tail hx))))) (fun u hu => by
                rcases List.mem_append.1 hu with hu | hu
                · exact ha u hu
                · rw [List.mem_singleton] at hu; rw [hu]; exact f1) h
              rw [List.length_append] at i2
              simp at i2
              exact ⟨i1, by omega⟩
      · obtain ⟨i1, i2⟩ := ih (skip r).tail acc l (by rw [List.length_tail]; omega) (fun x hx => hok x (hsm x (List.mem_of_mem_tail hx))) ha h
        exact ⟨i1, by omega⟩
theorem psteps_fit (s : Bytes) (hl : s.length ≤ 65536) : (∀ st ∈ (psteps s).1, SFit st) ∧ (psteps s).1.length ≤ 65537 := by
  obtain ⟨hok, hll⟩ := runesOf_ok s.length s (Nat.le_refl _)
  unfold psteps
  split
  · exact ⟨fun st h => (by cases h), by simp⟩
  · split
    · exact ⟨fun st h => (by cases h), by simp⟩
    · cases hp : parse (runesOf s).1 with
      | error e => exact ⟨fun st h => (by cases h), by simp⟩
      | ok l =>
        have := go_fit 4096 _ _ [] l (by omega) hok (fun s h => (by cases h)) hp
        refine ⟨this.1, ?_⟩
        have h2 := this.2
        simp at h2
        show l.length ≤ 65537
        omega
end Go.Proofs.YtihkfklpoliilaaDoor
