/- Arrays in plain Lean: what each operation of an array keeps, reads, writes. No program. -/
import Derived.Test.YtapgejjjgeiihaaXpl
namespace Go.Sl
open Go

theorem not_live {d : Dsk} (h : d.dead = true) : ¬ Live d := fun hl => by rw [hl.1] at h; cases h
/-- as many members as the shape has, as great ones -/
structure Fits (s : Shp) (r : Rig) : Prop where
  many : (r.ds.length : Int) = s.members
  size : ∀ i, i < r.ds.length → (r.at i).size = s.block
  on : ∀ i, i < r.ds.length → ((r.at i).on.length : Int) = s.sectors
theorem Fits.tr {s : Shp} {S : Nat → Int → Prop} {r r' : Rig} (h : Fits s r) (t : Tr0 S r r') : Fits s r' :=
  ⟨by rw [t.len]; exact h.many, fun i hi => by rw [(t.size i).1]; exact h.size i (by rw [← t.len]; exact hi), fun i hi => by rw [(t.size i).2]; exact h.on i (by rw [← t.len]; exact hi)⟩

/-- a sector of a member is written; what that comes to -/
theorem awrite_sat {s : Shp} {r : Rig} (hf : Fits s r) {m : Nat} (hm : m < r.ds.length) {q : Int} {b : Bytes} (hq : 0 ≤ q ∧ q < s.sectors) (hb : (b.length : Int) = s.block) :
    (awrite m q b r).Sat (fun e r' => Tr (S1 m q) r r' ∧ Apart m r r' ∧ ((e = 0 ∧ r'.broken = r.broken ∧ ((m : Int) = r'.stale ∨ (r'.at m).see q = b) ∧ (Live (r.at m) → (r'.at m).see q = b)) ∨ (e = 3 ∧ r'.broken = true))) (fun r' => Tr0 (S1 m q) r r' ∧ Apart m r r' ∧ 0 ≤ r.pow.limit) := by
  unfold awrite
  rw [Int.toNat_natCast]
  have h := write_sat hm (b := b) (by rw [hf.on m hm]; exact hq : 0 ≤ q ∧ q < (r.at m).on.length) (by rw [hf.size m hm]; exact hb)
  refine Out.Sat.bind (h.mono (fun _ _ h => h) (fun s h => by rw [h.1]; exact ⟨Tr0.refl _, Apart.refl _, h.2⟩)) ?_
  rintro e r1 ⟨t1, a1, n1, b1, h1⟩
  rcases h1 with ⟨rfl, h2, hv⟩ | ⟨rfl, h2, hd⟩
  · rw [if_neg (by simp)]
    exact ⟨t1.tell a1 (.inl hv), a1, .inl ⟨rfl, b1, .inr h2, fun _ => h2⟩⟩
  · by_cases h3 : (m : Int) = r1.stale
    · rw [if_neg (by simp [h3])]
      exact ⟨t1.tell a1 (.inr (.inl h3)), a1, .inl ⟨rfl, b1, .inl h3, fun h => absurd h h2⟩⟩
    · rw [if_pos ⟨by decide, h3⟩]
      have hm1 : m < r1.ds.length := by rw [t1.len]; exact hm
      refine (lost_sat hm1 (not_live hd)).mono ?_ ?_
      · rintro e2 r2 ⟨t2, a2, h4⟩
        refine ⟨(t1.trans t2 (fun _ _ x => x) (fun _ _ x => x.elim)).tell (a1.trans (fun i _ => a2 i)) (.inr (h4.imp (fun h => h.2.1.symm) (fun h => h.2.1))), a1.trans (fun i _ => a2 i), ?_⟩
        rcases h4 with ⟨rfl, h5, h6⟩ | ⟨rfl, h5, h6⟩
        · exact .inl ⟨rfl, h6.trans b1, .inl h5.symm, fun h => absurd h h2⟩
        · exact .inr ⟨rfl, h5⟩
      · rintro r2 ⟨rfl, h5⟩
        exact ⟨t1, a1, by rw [← t1.limit]; exact h5⟩
/-- a member is flushed -/
theorem aflush1_sat {r : Rig} {m : Nat} (hm : m < r.ds.length) :
    (aflush1 m r).Sat (fun e r' => Tr S0 r r' ∧ Apart m r r' ∧ ((e = 0 ∧ r'.broken = r.broken ∧ ((m : Int) = r'.stale ∨ ∀ q : Int, 0 ≤ q → q < (r.at m).on.length → Firm (r'.at m) q ((r.at m).see q)) ∧ (Live (r.at m) → ∀ q : Int, 0 ≤ q → q < (r.at m).on.length → Firm (r'.at m) q ((r.at m).see q))) ∨ (e = 3 ∧ r'.broken = true))) (fun r' => Tr0 S0 r r' ∧ 0 ≤ r.pow.limit) := by
  unfold aflush1
  have h := flush_sat hm
  refine Out.Sat.bind (h.mono (fun _ _ h => h) (fun s h => by rw [h.1]; exact ⟨Tr0.refl _, h.2⟩)) ?_
  rintro e r1 ⟨t1, a1, n1, b1, h1⟩
  rcases h1 with ⟨rfl, h2, hv⟩ | ⟨rfl, h2, hd⟩
  · rw [if_neg (by simp)]
    exact ⟨t1.tell a1 (.inl hv), a1, .inl ⟨rfl, b1, .inr h2, fun _ => h2⟩⟩
  · by_cases h3 : (m : Int) = r1.stale
    · rw [if_neg (by simp [h3])]
      exact ⟨t1.tell a1 (.inr (.inl h3)), a1, .inl ⟨rfl, b1, .inl h3, fun h => absurd h h2⟩⟩
    · rw [if_pos ⟨by decide, h3⟩]
      have hm1 : m < r1.ds.length := by rw [t1.len]; exact hm
      refine (lost_sat hm1 (not_live hd)).mono ?_ ?_
      · rintro e2 r2 ⟨t2, a2, h4⟩
        refine ⟨(t1.trans t2 (fun _ _ x => x) (fun _ _ x => x)).tell (a1.trans (fun i _ => a2 i)) (.inr (h4.imp (fun h => h.2.1.symm) (fun h => h.2.1))), a1.trans (fun i _ => a2 i), ?_⟩
        rcases h4 with ⟨rfl, h5, h6⟩ | ⟨rfl, h5, h6⟩
        · exact .inl ⟨rfl, h6.trans b1, .inl h5.symm, fun h => absurd h h2⟩
        · exact .inr ⟨rfl, h5⟩
      · rintro r2 ⟨rfl, h5⟩
        exact ⟨t1, by rw [← t1.limit]; exact h5⟩

/-- one behind the other: what each keeps, and what holds of those that were done -/
theorem each_sat {α : Type} {f : α → Rig → Out Rig Int} (I : Nat → Rig → Prop) (B : Rig → Prop) (G : Rig → Prop) (l : List α) :
    ∀ (n : Nat) (r : Rig), I n r → (∀ i r, n ≤ i → (hi : i < l.length) → I i r → (f l[i] r).Sat (fun e r' => (e = 0 ∧ I (i + 1) r') ∨ (e ≠ 0 ∧ e = 3 ∧ B r')) G) → n ≤ l.length →
    (each f (l.drop n) r).Sat (fun e r' => (e = 0 ∧ I l.length r') ∨ (e = 3 ∧ B r')) G := by
  intro n r hI hstep hn
  obtain ⟨k, hk⟩ : ∃ k, k = l.length - n := ⟨_, rfl⟩
  induction k generalizing n r with
  | zero =>
    have : n = l.length := by omega
    subst this
    rw [List.drop_of_length_le (by simp)]
    exact .inl ⟨rfl, hI⟩
  | succ k ih =>
    have hlt : n < l.length := by omega
    rw [List.drop_eq_getElem_cons hlt]
    unfold each
    refine Out.Sat.bind (hstep n r (Nat.le_refl _) hlt hI) ?_
    rintro e r1 (⟨rfl, h1⟩ | ⟨h0, rfl, h1⟩)
    · rw [if_pos rfl]
      exact ih (n + 1) r1 h1 (fun i r hi hl hI => hstep i r (by omega) hl hI) (by omega) (by omega)
    · rw [if_neg (by decide)]
      exact .inr ⟨rfl, h1⟩

/-- all members are flushed -/
theorem aflush_sat {r : Rig} :
    (aflush r).Sat (fun e r' => Tr S0 r r' ∧ ((e = 0 ∧ r'.broken = r.broken ∧ (∀ i, i < r.ds.length → (i : Int) = r'.stale ∨ ∀ q : Int, 0 ≤ q → q < (r.at i).on.length → Firm (r'.at i) q ((r.at i).see q)) ∧ (∀ i, i < r.ds.length → Live (r.at i) → ∀ q : Int, 0 ≤ q → q < (r.at i).on.length → Firm (r'.at i) q ((r.at i).see q))) ∨ (e = 3 ∧ r'.broken = true))) (fun r' => Tr0 S0 r r' ∧ 0 ≤ r.pow.limit) := by
  unfold aflush
  cases hb : r.broken with
  | true => rw [if_pos rfl]; exact ⟨Tr.refl r, .inr ⟨rfl, hb⟩⟩
  | false =>
    rw [if_neg (by decide)]
    have key := each_sat (f := aflush1) (l := List.range r.ds.length)
      (fun n r' => Tr S0 r r' ∧ r'.broken = false ∧ (∀ i, n ≤ i → r'.at i = r.at i) ∧ (∀ i, i < n → (i : Int) = r'.stale ∨ ∀ q : Int, 0 ≤ q → q < (r.at i).on.length → Firm (r'.at i) q ((r.at i).see q)) ∧ (∀ i, i < n → Live (r.at i) → ∀ q : Int, 0 ≤ q → q < (r.at i).on.length → Firm (r'.at i) q ((r.at i).see q)))
      (fun r' => Tr S0 r r' ∧ r'.broken = true) (fun r' => Tr0 S0 r r' ∧ 0 ≤ r.pow.limit) 0 r ⟨Tr.refl r, hb, fun _ _ => rfl, fun i hi => by omega, fun i hi => by omega⟩ ?_ (by omega)
    · rw [List.drop_zero] at key
      refine key.mono ?_ (fun _ h => h)
      rintro e r1 (⟨rfl, t1, b1, _, h2, h3⟩ | ⟨rfl, t1, h2⟩)
      · rw [List.length_range] at h2 h3
        exact ⟨t1, .inl ⟨rfl, b1, h2, h3⟩⟩
      · exact ⟨t1, .inr ⟨rfl, h2⟩⟩
    · rintro i r1 _ hi ⟨t1, b1, h1, h2, h3⟩
      rw [List.getElem_range]
      have hi' : i < r.ds.length := by simpa using hi
      have he := h1 i (Nat.le_refl _)
      refine (aflush1_sat (by rw [t1.len]; exact hi')).mono ?_ ?_
      · rintro e r2 ⟨t2, a2, h4⟩
        rw [he] at h4
        have t3 := t1.trans (T := S0) t2 (fun _ _ x => x) (fun _ _ x => x)
        rcases h4 with ⟨rfl, b2, h5, h6⟩ | ⟨rfl, h5⟩
        · refine .inl ⟨rfl, t3, b2.trans b1, fun k hk => ?_, fun k hk => ?_, fun k hk => ?_⟩
          · rw [a2 k (by omega)]; exact h1 k (by omega)
          · by_cases hki : k = i
            · subst hki; exact h5
            · rcases h2 k (by omega) with h7 | h7
              · left; rw [h7]; exact (t2.stale_is (by rw [← h7]; omega)).symm
              · right; rw [a2 k hki]; exact h7
          · by_cases hki : k = i
            · subst hki; exact h6
            · rw [a2 k hki]; exact h3 k (by omega)
        · exact .inr ⟨by decide, rfl, t3, h5⟩
      · rintro r2 ⟨t2, h4⟩
        exact ⟨t1.toTr0.trans (T := S0) t2 (fun _ _ x => x) (fun _ _ x => x), by rw [← t1.limit]; exact h4⟩
end Go.Sl
