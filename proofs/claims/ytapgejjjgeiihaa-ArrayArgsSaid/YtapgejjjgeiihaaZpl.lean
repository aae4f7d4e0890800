/- Arrays in plain Lean: Put, Chunk, and what lies in stripes. No program. -/
import Derived.Test.YtapgejjjgeiihaaYpl
namespace Go.Sl
open Go

theorem Shp.Ok.pages0 {s : Shp} (h : s.Ok) : 1 ≤ s.pages := by
  have h1 := h.members
  have h2 := h.segments
  have h3 := h.logical
  have h4 := h.block
  unfold Shp.pages Shp.page Shp.image
  have e : (12 + 9 * s.segments + 4 * s.logical + (s.block - 15) - 1) = (11 + 9 * s.segments + 4 * s.logical) + (s.block - 15) * 1 := by omega
  rw [e, Int.add_mul_ediv_left _ _ (by omega)]
  have := Int.ediv_nonneg (show 0 ≤ 11 + 9 * s.segments + 4 * s.logical by omega) (show 0 ≤ s.block - 15 by omega)
  omega
theorem Shp.Ok.at_ {s : Shp} (h : s.Ok) {t : Int} (ht : 0 ≤ t ∧ t < s.all) : 0 ≤ s.stripeAt t ∧ s.stripeAt t < s.sectors := by
  have := h.pages0
  unfold Shp.stripeAt Shp.sectors
  omega
theorem stripeAt_inj {s : Shp} {t t' : Int} (h : s.stripeAt t = s.stripeAt t') : t = t' := by unfold Shp.stripeAt at h; omega

/-- a stripe's chunks, as the members have them -/
def Holds (s : Shp) (r : Rig) (t : Int) (L : List Bytes) : Prop := ∀ i, i < r.ds.length → (i : Int) ≠ r.stale → Firm (r.at i) (s.stripeAt t) (cellOf s t L i)
theorem Holds.tr {s : Shp} {r r' : Rig} {t : Int} {L : List Bytes} (h : Holds s r t L) {S : Nat → Int → Prop} (hr : Tr0 S r r') (hS : ∀ i, ¬ S i (s.stripeAt t)) : Holds s r' t L := fun i hi hne =>
  hr.firm i _ _ (hS i) (h i (by rw [← hr.len]; exact hi) (hr.stale_ne hne))

theorem member_lt {s : Shp} (hs : 1 ≤ s.members) (t c : Int) : ∃ m : Nat, s.member t c = m ∧ (m : Int) < s.members := by
  have h1 := Int.emod_nonneg (t + 1 + c) (show s.members ≠ 0 by omega)
  have h2 := Int.emod_lt_of_pos (t + 1 + c) (show 0 < s.members by omega)
  exact ⟨(s.member t c).toNat, by unfold Shp.member; omega, by unfold Shp.member; omega⟩
theorem parity_lt {s : Shp} (hs : 1 ≤ s.members) (t : Int) : ∃ m : Nat, s.parity t = m ∧ (m : Int) < s.members := by
  have h1 := Int.emod_nonneg t (show s.members ≠ 0 by omega)
  have h2 := Int.emod_lt_of_pos t (show 0 < s.members by omega)
  exact ⟨(s.parity t).toNat, by unfold Shp.parity; omega, by unfold Shp.parity; omega⟩

theorem Holds.tr' {s : Shp} {r r' : Rig} {t : Int} {L : List Bytes} (h : Holds s r t L) {S : Nat → Int → Prop} (hr : Tr0 S r r') (hS : ∀ i : Nat, (i : Int) ≠ r'.stale → ¬ S i (s.stripeAt t)) : Holds s r' t L := fun i hi hne =>
  hr.firm i _ _ (hS i hne) (h i (by rw [← hr.len]; exact hi) (hr.stale_ne hne))

/-- a member has what it should, or isn't current -/
def Wet (s : Shp) (r r' : Rig) (t : Int) (L : List Bytes) (i : Nat) : Prop := ((i : Int) = r'.stale ∨ (r'.at i).see (s.stripeAt t) = cellOf s t L i) ∧ (Live (r.at i) → (r'.at i).see (s.stripeAt t) = cellOf s t L i)
theorem Wet.write {s : Shp} {r r1 r2 : Rig} {t : Int} {L : List Bytes} {i m : Nat} {S T : Nat → Int → Prop} (h : Wet s r r1 t L i) (t1 : Tr0 S r r1) (t2 : Tr0 T r1 r2) (a2 : Apart m r1 r2)
    (h1 : (m : Int) = r2.stale ∨ (r2.at m).see (s.stripeAt t) = cellOf s t L m) (h2 : Live (r1.at m) → (r2.at m).see (s.stripeAt t) = cellOf s t L m) : Wet s r r2 t L i := by
  by_cases hi : i = m
  · subst hi; exact ⟨h1, fun hl => h2 (t1.live i hl)⟩
  · rcases h with ⟨h3, h4⟩
    refine ⟨h3.imp (fun e => ?_) (fun e => ?_), fun hl => ?_⟩
    · rw [e]; exact (t2.stale_is (by rw [← e]; omega)).symm
    · rw [a2 i hi]; exact e
    · rw [a2 i hi]; exact h4 hl

theorem SA_of {m : Nat} {q : Int} : ∀ i x, S1 m q i x → SA q i x := fun _ _ h => h.2
theorem S0_of {S : Nat → Int → Prop} : ∀ i x, S0 i x → S i x := fun _ _ h => h.elim
theorem aput_sat {s : Shp} (hs : s.Ok) {r : Rig} (hf : Fits s r) {t : Int} (ht : 0 ≤ t ∧ t < s.all) {L : List Bytes} (hL : Chunks s L) :
    (aput s t L r).Sat (fun e r' => Tr (SA (s.stripeAt t)) r r' ∧ ((e = 0 ∧ r'.broken = r.broken ∧ Holds s r' t L ∧ ∀ i, i < r.ds.length → Live (r.at i) → Firm (r'.at i) (s.stripeAt t) (cellOf s t L i)) ∨ (e = 3 ∧ r'.broken = true))) (fun r' => Tr0 (SA (s.stripeAt t)) r r' ∧ 0 ≤ r.pow.limit) := by
  have hmm := hs.members
  have hq := hs.at_ ht
  unfold aput
  rw [if_neg (not_not_intro ⟨hL.many, ht, hL.each⟩)]
  cases hb : r.broken with
  | true => rw [if_pos rfl]; exact ⟨Tr.refl r, .inr ⟨rfl, hb⟩⟩
  | false =>
    rw [if_neg (by decide)]
    have key := each_sat (f := fun x : Bytes × Nat => awrite (s.member t x.2) (s.stripeAt t) x.1) (l := L.zipIdx)
      (fun n r' => Tr (SA (s.stripeAt t)) r r' ∧ r'.broken = false ∧ ∀ c : Nat, c < n → Wet s r r' t L (s.member t c).toNat)
      (fun r' => Tr (SA (s.stripeAt t)) r r' ∧ r'.broken = true) (fun r' => Tr0 (SA (s.stripeAt t)) r r' ∧ 0 ≤ r.pow.limit) 0 r ⟨Tr.refl r, hb, fun i hi => by omega⟩ ?_ (by omega)
    · rw [List.drop_zero] at key
      refine Out.Sat.bind key ?_
      rintro e r1 (⟨rfl, t1, b1, h1⟩ | ⟨rfl, t1, b1⟩)
      rotate_left
      · rw [if_pos (by decide)]; exact ⟨t1, .inr ⟨rfl, b1⟩⟩
      rw [if_neg (by decide)]
      rw [List.length_zipIdx] at h1
      obtain ⟨m, hm, hmlt⟩ := parity_lt (s := s) (by omega) t
      have f1 := hf.tr t1.toTr0
      have hp : xorOf L = cellOf s t L m := by rw [← cellOf_parity (by omega) hL, hm, Int.toNat_natCast]
      rw [hm, hp]
      refine Out.Sat.bind ((awrite_sat f1 (by have := f1.many; omega) hq (cellOf_len (by omega) hL m)).mono (fun _ _ h => h) (fun r2 h => ⟨t1.toTr0.trans h.1 (fun _ _ x => x) SA_of, by rw [← t1.limit]; exact h.2.2⟩)) ?_
      rintro e r2 ⟨t2, a2, h2⟩
      have t12 := t1.trans (T := SA (s.stripeAt t)) t2 (fun _ _ x => x) SA_of
      rcases h2 with ⟨rfl, b2, h2, h3⟩ | ⟨rfl, b2⟩
      rotate_left
      · rw [if_pos (by decide)]; exact ⟨t12, .inr ⟨rfl, b2⟩⟩
      rw [if_neg (by decide)]
      have hall : ∀ i, i < r.ds.length → Wet s r r2 t L i := fun i hi => by
        rcases member_of (by omega) t (by have := hf.many; omega : (i : Int) < s.members) with h4 | ⟨c, hc, h4⟩
        · obtain rfl : i = m := by omega
          exact ⟨h2, fun hl => h3 (t1.live i hl)⟩
        · have h5 := h1 c (by have := hL.many; omega)
          rw [h4, Int.toNat_natCast] at h5
          exact h5.write t1.toTr0 t2.toTr0 a2 h2 h3
      refine (aflush_sat (r := r2)).mono ?_ (fun r3 h => ⟨t12.toTr0.trans h.1 (fun _ _ x => x) S0_of, by rw [← t12.limit]; exact h.2⟩)
      rintro e r3 ⟨t3, h4⟩
      have t13 := t12.trans (T := SA (s.stripeAt t)) t3 (fun _ _ x => x) S0_of
      rcases h4 with ⟨rfl, b3, h4, h5⟩ | ⟨rfl, b3⟩
      rotate_left
      · exact ⟨t13, .inr ⟨rfl, b3⟩⟩
      have f2 := hf.tr t12.toTr0
      have hon : ∀ i, i < r.ds.length → s.stripeAt t < ((r2.at i).on.length : Int) := fun i hi => by rw [f2.on i (by rw [t12.len]; exact hi)]; exact hq.2
      refine ⟨t13, .inl ⟨rfl, by rw [b3, b2, b1], fun i hi hne => ?_, fun i hi hl => ?_⟩⟩
      · rw [t13.len] at hi
        rcases h4 i (by rw [t12.len]; exact hi) with h6 | h6
        · exact absurd h6 hne
        · rcases (hall i hi).1 with h7 | h7
          · exact absurd h7 (t3.stale_ne hne)
          · have := h6 _ hq.1 (hon i hi)
            rwa [h7] at this
      · have := h5 i (by rw [t12.len]; exact hi) (t12.live i hl) _ hq.1 (hon i hi)
        rwa [(hall i hi).2 hl] at this
    · rintro i r1 _ hi ⟨t1, b1, h1⟩
      have hi' : i < L.length := by simpa using hi
      have e0 : L.zipIdx[i] = (L[i], i) := by simp
      rw [e0]
      dsimp only
      obtain ⟨m, hm, hmlt⟩ := member_lt (s := s) (by omega) t i
      have f1 := hf.tr t1.toTr0
      have hc : L[i] = cellOf s t L m := by
        have := cellOf_member (by omega) (t := t) hL hi'
        rw [hm, Int.toNat_natCast] at this
        rw [this]; simp [List.getD, hi']
      rw [hm, hc]
      refine (awrite_sat f1 (by have := f1.many; omega) hq (cellOf_len (by omega) hL m)).mono ?_ (fun r2 h => ⟨t1.toTr0.trans h.1 (fun _ _ x => x) SA_of, by rw [← t1.limit]; exact h.2.2⟩)
      rintro e r2 ⟨t2, a2, h2⟩
      have t12 := t1.trans (T := SA (s.stripeAt t)) t2 (fun _ _ x => x) SA_of
      rcases h2 with ⟨rfl, b2, h2, h3⟩ | ⟨rfl, b2⟩
      · refine .inl ⟨rfl, t12, b2.trans b1, fun c hc => ?_⟩
        by_cases hci : c = i
        · subst hci
          rw [hm, Int.toNat_natCast]
          exact ⟨h2, fun hl => h3 (t1.live m hl)⟩
        · exact (h1 c (by omega)).write t1.toTr0 t2.toTr0 a2 h2 h3
      · exact .inr ⟨by decide, rfl, t12, b2⟩

theorem gather_sat {r0 : Rig} {m : Nat} {q : Int} {cell : Nat → Bytes} (hst : r0.stale = m) (hq : 0 ≤ q) : ∀ (l : List Nat) (acc : List Bytes) (r : Rig), Tr S0 r0 r → (∀ i, i ∈ l → i < r.ds.length ∧ q < (r.at i).on.length ∧ (i ≠ m → (r0.at i).see q = cell i)) →
    (gather m q l acc r).Sat (fun x r' => Tr S0 r0 r' ∧ (x = .inl (acc ++ (l.filter (fun i => decide (i ≠ m))).map cell) ∧ r'.broken = r.broken ∨ x = .inr 3 ∧ r'.broken = true)) (fun r' => Tr0 S0 r0 r' ∧ 0 ≤ r0.pow.limit)
  | [], acc, r, t, _ => by
    unfold gather
    exact ⟨t, .inl ⟨by simp, rfl⟩⟩
  | i :: l, acc, r, t, h => by
    unfold gather
    have hl : ∀ (r' : Rig), Tr0 S0 r r' → ∀ j, j ∈ l → j < r'.ds.length ∧ q < (r'.at j).on.length ∧ (j ≠ m → (r0.at j).see q = cell j) := fun r' t' j hj => by
      have := h j (List.mem_cons_of_mem _ hj)
      rw [t'.len, (t'.size j).2]; exact this
    by_cases hi : (i : Int) = m
    · rw [if_pos hi]
      have := gather_sat hst hq l acc r t (hl r (Tr0.refl r))
      have hi' : i = m := by omega
      simpa [List.filter_cons, hi'] using this
    · rw [if_neg hi]
      obtain ⟨h1, h2, h3⟩ := h i List.mem_cons_self
      have hi' : i ≠ m := by omega
      refine Out.Sat.bind ((read_sat h1 ⟨hq, h2⟩).mono (fun _ _ h => h) (fun r' h => by rw [h.1]; exact ⟨t.toTr0, by rw [← t.limit]; exact h.2⟩)) ?_
      rintro x r1 ⟨t1, a1, n1, b1, h4⟩
      rcases h4 with ⟨h5, h6, hv⟩ | ⟨rfl, h5, h6⟩
      · rw [if_neg (by simp [h5])]
        have hx : x.1 = cell i := by rw [h6, ← h3 hi']; exact (t.see i q (fun x => x) hq (by rw [← (t.size i).2]; exact h2))
        have t01 := t.trans (T := S0) (t1.tell a1 (.inl hv)) (fun _ _ x => x) (fun _ _ x => x)
        have := gather_sat hst hq l (acc ++ [x.1]) r1 t01 (hl r1 t1)
        refine this.mono ?_ (fun _ h => h)
        rintro y r2 ⟨t2, ⟨rfl, b2⟩ | ⟨rfl, b2⟩⟩
        · exact ⟨t2, .inl ⟨by rw [hx]; simp [List.filter_cons, hi'], b2.trans b1⟩⟩
        · exact ⟨t2, .inr ⟨rfl, b2⟩⟩
      · rw [if_pos (by decide)]
        have t01 := t.toTr0.trans (T := S0) t1 (fun _ _ x => x) (fun _ _ x => x)
        refine Out.Sat.bind ((lost_sat (by rw [t1.len]; exact h1) (not_live h6)).mono (fun _ _ h => h) (fun r' h => by rw [h.1]; exact ⟨t01, by rw [← t01.limit]; exact h.2⟩)) ?_
        rintro e r2 ⟨t2, a2, h7⟩
        have t02 := t.trans (T := S0) ((t1.trans (T := S0) t2 (fun _ _ x => x) (fun _ _ x => x)).tell (a1.trans (fun i _ => a2 i)) (.inr (h7.imp (fun h => h.2.1.symm) (fun h => h.2.1)))) (fun _ _ x => x) (fun _ _ x => x)
        rcases h7 with ⟨rfl, h8, _⟩ | ⟨rfl, h8, _⟩
        · exfalso
          have := t02.stale_is (by rw [hst]; omega)
          rw [h8, hst] at this
          exact hi this
        · exact ⟨t02, .inr ⟨rfl, h8⟩⟩
/-- a stripe's cell, made of all others -/
theorem aothers_sat {s : Shp} (hs : s.Ok) {r : Rig} (hf : Fits s r) {m : Nat} (hm : m < r.ds.length) (hst : r.stale = m) {q : Int} (hq : 0 ≤ q ∧ q < s.sectors) {t : Int} {L : List Bytes} (hL : Chunks s L) (h : ∀ i, i < r.ds.length → i ≠ m → (r.at i).see q = cellOf s t L i) :
    (aothers m q r).Sat (fun x r' => Tr S0 r r' ∧ (x = (cellOf s t L m, 0) ∧ r'.broken = r.broken ∨ x = ([], 3) ∧ r'.broken = true)) (fun r' => Tr0 S0 r r' ∧ 0 ≤ r.pow.limit) := by
  unfold aothers
  refine Out.Sat.bind (gather_sat (cell := cellOf s t L) hst hq.1 (List.range r.ds.length) [] r (Tr.refl r) (fun i hi => ?_)) ?_
  · have hi := List.mem_range.1 hi
    exact ⟨hi, by rw [hf.on i hi]; exact hq.2, h i hi⟩
  · rintro x r1 ⟨t1, ⟨rfl, b1⟩ | ⟨rfl, b1⟩⟩
    · refine ⟨t1, .inl ⟨?_, b1⟩⟩
      rw [List.nil_append, show r.ds.length = s.members.toNat by have := hf.many; omega, others_cell hs.members.1 hL (by have := hf.many; omega)]
    · exact ⟨t1, .inr ⟨rfl, b1⟩⟩
theorem achunk_sat {s : Shp} (hs : s.Ok) {r : Rig} (hf : Fits s r) (hst : r.stale < r.ds.length) {t : Int} (ht : 0 ≤ t ∧ t < s.all) {c : Nat} {L : List Bytes} (hL : Chunks s L) (hc : c < L.length) (h : Holds s r t L) :
    (achunk s t c r).Sat (fun x r' => Tr S0 r r' ∧ (x = (L.getD c [], 0) ∧ r'.broken = r.broken ∨ x = ([], 3) ∧ r'.broken = true)) (fun r' => Tr0 S0 r r' ∧ 0 ≤ r.pow.limit) := by
  have hmm := hs.members
  have hq := hs.at_ ht
  unfold achunk
  rw [if_neg (by have := hL.many; unfold Shp.slots; omega)]
  cases hb : r.broken with
  | true => rw [if_pos rfl]; exact ⟨Tr.refl r, .inr ⟨rfl, hb⟩⟩
  | false =>
    rw [if_neg (by decide)]
    obtain ⟨m, hm, hmlt⟩ := member_lt (s := s) (by omega) t c
    have hml : m < r.ds.length := by have := hf.many; omega
    have hcell := cellOf_member (by omega) (t := t) hL hc
    rw [hm, Int.toNat_natCast] at hcell
    rw [hm, ← hcell]
    by_cases h1 : (m : Int) ≠ r.stale
    · rw [if_pos h1, Int.toNat_natCast]
      refine Out.Sat.bind ((read_sat hml (by rw [hf.on m hml]; exact hq : 0 ≤ s.stripeAt t ∧ s.stripeAt t < (r.at m).on.length)).mono (fun _ _ h => h) (fun r' h => by rw [h.1]; exact ⟨Tr0.refl r, h.2⟩)) ?_
      rintro x r1 ⟨t1, a1, n1, b1, h2⟩
      rcases h2 with ⟨h3, h4, hv⟩ | ⟨rfl, h3, h4⟩
      · rw [if_pos h3]
        exact ⟨t1.tell a1 (.inl hv), .inl ⟨by rw [h4, (h m hml h1).see], by rw [b1, hb]⟩⟩
      · rw [if_neg (by decide)]
        refine Out.Sat.bind ((lost_sat (by rw [t1.len]; exact hml) (not_live h4)).mono (fun _ _ h => h) (fun r' h => by rw [h.1]; exact ⟨t1, by rw [← t1.limit]; exact h.2⟩)) ?_
        rintro e r2 ⟨t2, a2, h5⟩
        have t12 := (t1.trans (T := S0) t2 (fun _ _ x => x) (fun _ _ x => x)).tell (a1.trans (fun i _ => a2 i)) (.inr (h5.imp (fun h => h.2.1.symm) (fun h => h.2.1)))
        rcases h5 with ⟨rfl, h6, b2⟩ | ⟨rfl, h6, _⟩
        · rw [if_neg (by decide)]
          have h2' := h.tr t12.toTr0 (fun _ x => x)
          refine (aothers_sat hs (hf.tr t12.toTr0) (by rw [t12.len]; exact hml) h6 hq hL (fun i hi hne => (h2' i hi (by omega)).see)).mono ?_ (fun r3 h => ⟨t12.toTr0.trans h.1 (fun _ _ x => x) (fun _ _ x => x), by rw [← t12.limit]; exact h.2⟩)
          rintro x r3 ⟨t3, h7⟩
          exact ⟨t12.trans t3 (fun _ _ x => x) (fun _ _ x => x), h7.imp (fun h => ⟨h.1, by rw [h.2, b2, b1, hb]⟩) id⟩
        · rw [if_pos (by decide)]
          exact ⟨t12, .inr ⟨rfl, h6⟩⟩
    · rw [if_neg h1]
      have h1 : (m : Int) = r.stale := Decidable.not_not.1 h1
      refine (aothers_sat hs hf hml h1.symm hq hL (fun i hi hne => (h i hi (by omega)).see)).mono ?_ (fun _ h => h)
      rintro x r1 ⟨t1, h2⟩
      exact ⟨t1, by rw [hb] at h2; exact h2⟩
end Go.Sl
