/- several texts, one behind the other -/
import Derived.Test.YtohienhoifgmaaaGreatP21
import Derived.Test.YtohienhoifgmaaaGreatP20
import Derived.Test.YtohienhoifgmaaaGreatP10

section
/- Arrays in plain Lean: Put, Chunk, and what lies in stripes. No program. -/
namespace Go.Sl
open Go

theorem Shp.Ok.pages0 {s : Shp} (h : s.Ok) : 1 ≤ s.pages := by
  have h1 := h.members
  have h2 := h.segments
  have h3 := h.logical
  have h4 := h.block
  unfold Shp.pages Shp.page Shp.image
  have e : (12 + 9 * s.segments + 4 * s.logical + (s.block - 15) - 1) = (11 + 9 * s.segments + 4 * s.logical) + (s.block - 15) * 1 := by omega
  rw [e, Int.add_mul_ediv_left _ _ (by omega)]
  have := Int.ediv_nonneg (show 0 ≤ 11 + 9 * s.segments + 4 * s.logical by omega) (show 0 ≤ s.block - 15 by omega)
  omega
theorem Shp.Ok.at_ {s : Shp} (h : s.Ok) {t : Int} (ht : 0 ≤ t ∧ t < s.all) : 0 ≤ s.stripeAt t ∧ s.stripeAt t < s.sectors := by
  have := h.pages0
  unfold Shp.stripeAt Shp.sectors
  omega
theorem stripeAt_inj {s : Shp} {t t' : Int} (h : s.stripeAt t = s.stripeAt t') : t = t' := by unfold Shp.stripeAt at h; omega

/-- a stripe's chunks, as the members have them -/
def Holds (s : Shp) (r : Rig) (t : Int) (L : List Bytes) : Prop := ∀ i, i < r.ds.length → (i : Int) ≠ r.stale → Firm (r.at i) (s.stripeAt t) (cellOf s t L i)
theorem Holds.tr {s : Shp} {r r' : Rig} {t : Int} {L : List Bytes} (h : Holds s r t L) {S : Nat → Int → Prop} (hr : Tr0 S r r') (hS : ∀ i, ¬ S i (s.stripeAt t)) : Holds s r' t L := fun i hi hne =>
  hr.firm i _ _ (hS i) (h i (by rw [← hr.len]; exact hi) (hr.stale_ne hne))

theorem member_lt {s : Shp} (hs : 1 ≤ s.members) (t c : Int) : ∃ m : Nat, s.member t c = m ∧ (m : Int) < s.members := by
  have h1 := Int.emod_nonneg (t + 1 + c) (show s.members ≠ 0 by omega)
  have h2 := Int.emod_lt_of_pos (t + 1 + c) (show 0 < s.members by omega)
  exact ⟨(s.member t c).toNat, by unfold Shp.member; omega, by unfold Shp.member; omega⟩
theorem parity_lt {s : Shp} (hs : 1 ≤ s.members) (t : Int) : ∃ m : Nat, s.parity t = m ∧ (m : Int) < s.members := by
  have h1 := Int.emod_nonneg t (show s.members ≠ 0 by omega)
  have h2 := Int.emod_lt_of_pos t (show 0 < s.members by omega)
  exact ⟨(s.parity t).toNat, by unfold Shp.parity; omega, by unfold Shp.parity; omega⟩

theorem Holds.tr' {s : Shp} {r r' : Rig} {t : Int} {L : List Bytes} (h : Holds s r t L) {S : Nat → Int → Prop} (hr : Tr0 S r r') (hS : ∀ i : Nat, (i : Int) ≠ r'.stale → ¬ S i (s.stripeAt t)) : Holds s r' t L := fun i hi hne =>
  hr.firm i _ _ (hS i hne) (h i (by rw [← hr.len]; exact hi) (hr.stale_ne hne))

/-- a member has what it should, or isn't current -/
def Wet (s : Shp) (r r' : Rig) (t : Int) (L : List Bytes) (i : Nat) : Prop := ((i : Int) = r'.stale ∨ (r'.at i).see (s.stripeAt t) = cellOf s t L i) ∧ (Live (r.at i) → (r'.at i).see (s.stripeAt t) = cellOf s t L i)
theorem Wet.write {s : Shp} {r r1 r2 : Rig} {t : Int} {L : List Bytes} {i m : Nat} {S T : Nat → Int → Prop} (h : Wet s r r1 t L i) (t1 : Tr0 S r r1) (t2 : Tr0 T r1 r2) (a2 : Apart m r1 r2)
    (h1 : (m : Int) = r2.stale ∨ (r2.at m).see (s.stripeAt t) = cellOf s t L m) (h2 : Live (r1.at m) → (r2.at m).see (s.stripeAt t) = cellOf s t L m) : Wet s r r2 t L i := by
  by_cases hi : i = m
  · subst hi; exact ⟨h1, fun hl => h2 (t1.live i hl)⟩
  · rcases h with ⟨h3, h4⟩
    refine ⟨h3.imp (fun e => ?_) (fun e => ?_), fun hl => ?_⟩
    · rw [e]; exact (t2.stale_is (by rw [← e]; omega)).symm
    · rw [a2 i hi]; exact e
    · rw [a2 i hi]; exact h4 hl

theorem SA_of {m : Nat} {q : Int} : ∀ i x, S1 m q i x → SA q i x := fun _ _ h => h.2
theorem S0_of {S : Nat → Int → Prop} : ∀ i x, S0 i x → S i x := fun _ _ h => h.elim
theorem aput_sat {s : Shp} (hs : s.Ok) {r : Rig} (hf : Fits s r) {t : Int} (ht : 0 ≤ t ∧ t < s.all) {L : List Bytes} (hL : Chunks s L) :
    (aput s t L r).Sat (fun e r' => Tr (SA (s.stripeAt t)) r r' ∧ ((e = 0 ∧ r'.broken = r.broken ∧ Holds s r' t L ∧ ∀ i, i < r.ds.length → Live (r.at i) → Firm (r'.at i) (s.stripeAt t) (cellOf s t L i)) ∨ (e = 3 ∧ r'.broken = true))) (fun r' => Tr0 (SA (s.stripeAt t)) r r' ∧ 0 ≤ r.pow.limit) := by
  have hmm := hs.members
  have hq := hs.at_ ht
  unfold aput
  rw [if_neg (not_not_intro ⟨hL.many, ht, hL.each⟩)]
  cases hb : r.broken with
  | true => rw [if_pos rfl]; exact ⟨Tr.refl r, .inr ⟨rfl, hb⟩⟩
  | false =>
    rw [if_neg (by decide)]
    have key := each_sat (f := fun x : Bytes × Nat => awrite (s.member t x.2) (s.stripeAt t) x.1) (l := L.zipIdx)
      (fun n r' => Tr (SA (s.stripeAt t)) r r' ∧ r'.broken = false ∧ ∀ c : Nat, c < n → Wet s r r' t L (s.member t c).toNat)
      (fun r' => Tr (SA (s.stripeAt t)) r r' ∧ r'.broken = true) (fun r' => Tr0 (SA (s.stripeAt t)) r r' ∧ 0 ≤ r.pow.limit) 0 r ⟨Tr.refl r, hb, fun i hi => by omega⟩ ?_ (by omega)
    · rw [List.drop_zero] at key
      refine Out.Sat.bind key ?_
      rintro e r1 (⟨rfl, t1, b1, h1⟩ | ⟨rfl, t1, b1⟩)
      rotate_left
      · rw [if_pos (by decide)]; exact ⟨t1, .inr ⟨rfl, b1⟩⟩
      rw [if_neg (by decide)]
      rw [List.length_zipIdx] at h1
      obtain ⟨m, hm, hmlt⟩ := parity_lt (s := s) (by omega) t
      have f1 := hf.tr t1.toTr0
      have hp : xorOf L = cellOf s t L m := by rw [← cellOf_parity (by omega) hL, hm, Int.toNat_natCast]
      rw [hm, hp]
      refine Out.Sat.bind ((awrite_sat f1 (by have := f1.many; omega) hq (cellOf_len (by omega) hL m)).mono (fun _ _ h => h) (fun r2 h => ⟨t1.toTr0.trans h.1 (fun _ _ x => x) SA_of, by rw [← t1.limit]; exact h.2.2⟩)) ?_
      rintro e r2 ⟨t2, a2, h2⟩
      have t12 := t1.trans (T := SA (s.stripeAt t)) t2 (fun _ _ x => x) SA_of
      rcases h2 with ⟨rfl, b2, h2, h3⟩ | ⟨rfl, b2⟩
      rotate_left
      · rw [if_pos (by decide)]; exact ⟨t12, .inr ⟨rfl, b2⟩⟩
      rw [if_neg (by decide)]
      have hall : ∀ i, i < r.ds.length → Wet s r r2 t L i := fun i hi => by
        rcases member_of (by omega) t (by have := hf.many; omega : (i : Int) < s.members) with h4 | ⟨c, hc, h4⟩
        · obtain rfl : i = m := by omega
          exact ⟨h2, fun hl => h3 (t1.live i hl)⟩
        · have h5 := h1 c (by have := hL.many; omega)
          rw [h4, Int.toNat_natCast] at h5
          exact h5.write t1.toTr0 t2.toTr0 a2 h2 h3
      refine (aflush_sat (r := r2)).mono ?_ (fun r3 h => ⟨t12.toTr0.trans h.1 (fun _ _ x => x) S0_of, by rw [← t12.limit]; exact h.2⟩)
      rintro e r3 ⟨t3, h4⟩
      have t13 := t12.trans (T := SA (s.stripeAt t)) t3 (fun _ _ x => x) S0_of
      rcases h4 with ⟨rfl, b3, h4, h5⟩ | ⟨rfl, b3⟩
      rotate_left
      · exact ⟨t13, .inr ⟨rfl, b3⟩⟩
      have f2 := hf.tr t12.toTr0
      have hon : ∀ i, i < r.ds.length → s.stripeAt t < ((r2.at i).on.length : Int) := fun i hi => by rw [f2.on i (by rw [t12.len]; exact hi)]; exact hq.2
      refine ⟨t13, .inl ⟨rfl, by rw [b3, b2, b1], fun i hi hne => ?_, fun i hi hl => ?_⟩⟩
      · rw [t13.len] at hi
        rcases h4 i (by rw [t12.len]; exact hi) with h6 | h6
        · exact absurd h6 hne
        · rcases (hall i hi).1 with h7 | h7
          · exact absurd h7 (t3.stale_ne hne)
          · have := h6 _ hq.1 (hon i hi)
            rwa [h7] at this
      · have := h5 i (by rw [t12.len]; exact hi) (t12.live i hl) _ hq.1 (hon i hi)
        rwa [(hall i hi).2 hl] at this
    · rintro i r1 _ hi ⟨t1, b1, h1⟩
      have hi' : i < L.length := by simpa using hi
      have e0 : L.zipIdx[i] = (L[i], i) := by simp
      rw [e0]
      dsimp only
      obtain ⟨m, hm, hmlt⟩ := member_lt (s := s) (by omega) t i
      have f1 := hf.tr t1.toTr0
      have hc : L[i] = cellOf s t L m := by
        have := cellOf_member (by omega) (t := t) hL hi'
        rw [hm, Int.toNat_natCast] at this
        rw [this]; simp [List.getD, hi']
      rw [hm, hc]
      refine (awrite_sat f1 (by have := f1.many; omega) hq (cellOf_len (by omega) hL m)).mono ?_ (fun r2 h => ⟨t1.toTr0.trans h.1 (fun _ _ x => x) SA_of, by rw [← t1.limit]; exact h.2.2⟩)
      rintro e r2 ⟨t2, a2, h2⟩
      have t12 := t1.trans (T := SA (s.stripeAt t)) t2 (fun _ _ x => x) SA_of
      rcases h2 with ⟨rfl, b2, h2, h3⟩ | ⟨rfl, b2⟩
      · refine .inl ⟨rfl, t12, b2.trans b1, fun c hc => ?_⟩
        by_cases hci : c = i
        · subst hci
          rw [hm, Int.toNat_natCast]
          exact ⟨h2, fun hl => h3 (t1.live m hl)⟩
        · exact (h1 c (by omega)).write t1.toTr0 t2.toTr0 a2 h2 h3
      · exact .inr ⟨by decide, rfl, t12, b2⟩

theorem gather_sat {r0 : Rig} {m : Nat} {q : Int} {cell : Nat → Bytes} (hst : r0.stale = m) (hq : 0 ≤ q) : ∀ (l : List Nat) (acc : List Bytes) (r : Rig), Tr S0 r0 r → (∀ i, i ∈ l → i < r.ds.length ∧ q < (r.at i).on.length ∧ (i ≠ m → (r0.at i).see q = cell i)) →
    (gather m q l acc r).Sat (fun x r' => Tr S0 r0 r' ∧ (x = .inl (acc ++ (l.filter (fun i => decide (i ≠ m))).map cell) ∧ r'.broken = r.broken ∨ x = .inr 3 ∧ r'.broken = true)) (fun r' => Tr0 S0 r0 r' ∧ 0 ≤ r0.pow.limit)
  | [], acc, r, t, _ => by
    unfold gather
    exact ⟨t, .inl ⟨by simp, rfl⟩⟩
  | i :: l, acc, r, t, h => by
    unfold gather
    have hl : ∀ (r' : Rig), Tr0 S0 r r' → ∀ j, j ∈ l → j < r'.ds.length ∧ q < (r'.at j).on.length ∧ (j ≠ m → (r0.at j).see q = cell j) := fun r' t' j hj => by
      have := h j (List.mem_cons_of_mem _ hj)
      rw [t'.len, (t'.size j).2]; exact this
    by_cases hi : (i : Int) = m
    · rw [if_pos hi]
      have := gather_sat hst hq l acc r t (hl r (Tr0.refl r))
      have hi' : i = m := by omega
      simpa [List.filter_cons, hi'] using this
    · rw [if_neg hi]
      obtain ⟨h1, h2, h3⟩ := h i List.mem_cons_self
      have hi' : i ≠ m := by omega
      refine Out.Sat.bind ((read_sat h1 ⟨hq, h2⟩).mono (fun _ _ h => h) (fun r' h => by rw [h.1]; exact ⟨t.toTr0, by rw [← t.limit]; exact h.2⟩)) ?_
      rintro x r1 ⟨t1, a1, n1, b1, h4⟩
      rcases h4 with ⟨h5, h6, hv⟩ | ⟨rfl, h5, h6⟩
      · rw [if_neg (by simp [h5])]
        have hx : x.1 = cell i := by rw [h6, ← h3 hi']; exact (t.see i q (fun x => x) hq (by rw [← (t.size i).2]; exact h2))
        have t01 := t.trans (T := S0) (t1.tell a1 (.inl hv)) (fun _ _ x => x) (fun _ _ x => x)
        have := gather_sat hst hq l (acc ++ [x.1]) r1 t01 (hl r1 t1)
        refine this.mono ?_ (fun _ h => h)
        rintro y r2 ⟨t2, ⟨rfl, b2⟩ | ⟨rfl, b2⟩⟩
        · exact ⟨t2, .inl ⟨by rw [hx]; simp [hi'], b2.trans b1⟩⟩
        · exact ⟨t2, .inr ⟨rfl, b2⟩⟩
      · rw [if_pos (by decide)]
        have t01 := t.toTr0.trans (T := S0) t1 (fun _ _ x => x) (fun _ _ x => x)
        refine Out.Sat.bind ((lost_sat (by rw [t1.len]; exact h1) (not_live h6)).mono (fun _ _ h => h) (fun r' h => by rw [h.1]; exact ⟨t01, by rw [← t01.limit]; exact h.2⟩)) ?_
        rintro e r2 ⟨t2, a2, h7⟩
        have t02 := t.trans (T := S0) ((t1.trans (T := S0) t2 (fun _ _ x => x) (fun _ _ x => x)).tell (a1.trans (fun i _ => a2 i)) (.inr (h7.imp (fun h => h.2.1.symm) (fun h => h.2.1)))) (fun _ _ x => x) (fun _ _ x => x)
        rcases h7 with ⟨rfl, h8, _⟩ | ⟨rfl, h8, _⟩
        · exfalso
          have := t02.stale_is (by rw [hst]; omega)
          rw [h8, hst] at this
          exact hi this
        · exact ⟨t02, .inr ⟨rfl, h8⟩⟩
/-- a stripe's cell, made of all others -/
theorem aothers_sat {s : Shp} (hs : s.Ok) {r : Rig} (hf : Fits s r) {m : Nat} (hm : m < r.ds.length) (hst : r.stale = m) {q : Int} (hq : 0 ≤ q ∧ q < s.sectors) {t : Int} {L : List Bytes} (hL : Chunks s L) (h : ∀ i, i < r.ds.length → i ≠ m → (r.at i).see q = cellOf s t L i) :
    (aothers m q r).Sat (fun x r' => Tr S0 r r' ∧ (x = (cellOf s t L m, 0) ∧ r'.broken = r.broken ∨ x = ([], 3) ∧ r'.broken = true)) (fun r' => Tr0 S0 r r' ∧ 0 ≤ r.pow.limit) := by
  unfold aothers
  refine Out.Sat.bind (gather_sat (cell := cellOf s t L) hst hq.1 (List.range r.ds.length) [] r (Tr.refl r) (fun i hi => ?_)) ?_
  · have hi := List.mem_range.1 hi
    exact ⟨hi, by rw [hf.on i hi]; exact hq.2, h i hi⟩
  · rintro x r1 ⟨t1, ⟨rfl, b1⟩ | ⟨rfl, b1⟩⟩
    · refine ⟨t1, .inl ⟨?_, b1⟩⟩
      rw [List.nil_append, show r.ds.length = s.members.toNat by have := hf.many; omega, others_cell hs.members.1 hL (by have := hf.many; omega)]
    · exact ⟨t1, .inr ⟨rfl, b1⟩⟩
theorem achunk_sat {s : Shp} (hs : s.Ok) {r : Rig} (hf : Fits s r) (_hst : r.stale < r.ds.length) {t : Int} (ht : 0 ≤ t ∧ t < s.all) {c : Nat} {L : List Bytes} (hL : Chunks s L) (hc : c < L.length) (h : Holds s r t L) :
    (achunk s t c r).Sat (fun x r' => Tr S0 r r' ∧ (x = (L.getD c [], 0) ∧ r'.broken = r.broken ∨ x = ([], 3) ∧ r'.broken = true)) (fun r' => Tr0 S0 r r' ∧ 0 ≤ r.pow.limit) := by
  have hmm := hs.members
  have hq := hs.at_ ht
  unfold achunk
  rw [if_neg (by have := hL.many; unfold Shp.slots; omega)]
  cases hb : r.broken with
  | true => rw [if_pos rfl]; exact ⟨Tr.refl r, .inr ⟨rfl, hb⟩⟩
  | false =>
    rw [if_neg (by decide)]
    obtain ⟨m, hm, hmlt⟩ := member_lt (s := s) (by omega) t c
    have hml : m < r.ds.length := by have := hf.many; omega
    have hcell := cellOf_member (by omega) (t := t) hL hc
    rw [hm, Int.toNat_natCast] at hcell
    rw [hm, ← hcell]
    by_cases h1 : (m : Int) ≠ r.stale
    · rw [if_pos h1, Int.toNat_natCast]
      refine Out.Sat.bind ((read_sat hml (by rw [hf.on m hml]; exact hq : 0 ≤ s.stripeAt t ∧ s.stripeAt t < (r.at m).on.length)).mono (fun _ _ h => h) (fun r' h => by rw [h.1]; exact ⟨Tr0.refl r, h.2⟩)) ?_
      rintro x r1 ⟨t1, a1, n1, b1, h2⟩
      rcases h2 with ⟨h3, h4, hv⟩ | ⟨rfl, h3, h4⟩
      · rw [if_pos h3]
        exact ⟨t1.tell a1 (.inl hv), .inl ⟨by rw [h4, (h m hml h1).see], by rw [b1, hb]⟩⟩
      · rw [if_neg (by decide)]
        refine Out.Sat.bind ((lost_sat (by rw [t1.len]; exact hml) (not_live h4)).mono (fun _ _ h => h) (fun r' h => by rw [h.1]; exact ⟨t1, by rw [← t1.limit]; exact h.2⟩)) ?_
        rintro e r2 ⟨t2, a2, h5⟩
        have t12 := (t1.trans (T := S0) t2 (fun _ _ x => x) (fun _ _ x => x)).tell (a1.trans (fun i _ => a2 i)) (.inr (h5.imp (fun h => h.2.1.symm) (fun h => h.2.1)))
        rcases h5 with ⟨rfl, h6, b2⟩ | ⟨rfl, h6, _⟩
        · rw [if_neg (by decide)]
          have h2' := h.tr t12.toTr0 (fun _ x => x)
          refine (aothers_sat hs (hf.tr t12.toTr0) (by rw [t12.len]; exact hml) h6 hq hL (fun i hi hne => (h2' i hi (by omega)).see)).mono ?_ (fun r3 h => ⟨t12.toTr0.trans h.1 (fun _ _ x => x) (fun _ _ x => x), by rw [← t12.limit]; exact h.2⟩)
          rintro x r3 ⟨t3, h7⟩
          exact ⟨t12.trans t3 (fun _ _ x => x) (fun _ _ x => x), h7.imp (fun h => ⟨h.1, by rw [h.2, b2, b1, hb]⟩) id⟩
        · rw [if_pos (by decide)]
          exact ⟨t12, .inr ⟨rfl, h6⟩⟩
    · rw [if_neg h1]
      have h1 : (m : Int) = r.stale := Decidable.not_not.1 h1
      refine (aothers_sat hs hf hml h1.symm hq hL (fun i hi hne => (h i hi (by omega)).see)).mono ?_ (fun _ h => h)
      rintro x r1 ⟨t1, h2⟩
      exact ⟨t1, by rw [hb] at h2; exact h2⟩
end Go.Sl
end

section
/- The statements' rig: members, a memory, an array of them; stripes put, and read. -/
namespace Go.Proofs.YtohienhoifgmaaaGreat
open Go Go.Sl
attribute [local irreducible] Yl WL WC WQ WD

/-- where the statements' rig lies -/
structure LK where
  g : Nat
  dv : Value
  k : Keys
abbrev shCells (s : Shp) : List Value := [vi s.members, vi s.block, vi s.segments, vi s.stripes, vi s.nv, vi s.logical]
abbrev LRigAt (l : LK) (r : Rig) (F : List HP) : List HP :=
  Cells l.g [vi l.k.sh.members, vi l.k.sh.block, vi l.k.sh.segments, vi l.k.sh.stripes, vi l.k.sh.nv, vi l.k.sh.logical, vp l.k.pp, l.dv, vp l.k.n, vp l.k.a] :: Sl l.dv 1 (l.k.ps.map vp) :: RigAt l.k r F

theorem devices_spec (l : LK) (av : Value) (hn : l.k.ps.length ≤ 1024) :
    Spec0 Tryz.prog 22 [vp l.g] (fun _ => True)
      (fun F => Cells l.g [vi l.k.sh.members, vi l.k.sh.block, vi l.k.sh.segments, vi l.k.sh.stripes, vi l.k.sh.nv, vi l.k.sh.logical, vp l.k.pp, l.dv, vp l.k.n, av] :: Sl l.dv 1 (l.k.ps.map vp) :: F)
      (fun _ : Value => True) (fun v => v)
      (fun v F => Sl v 1 (l.k.ps.map dev) :: Cells l.g [vi l.k.sh.members, vi l.k.sh.block, vi l.k.sh.segments, vi l.k.sh.stripes, vi l.k.sh.nv, vi l.k.sh.logical, vp l.k.pp, l.dv, vp l.k.n, av] :: Sl l.dv 1 (l.k.ps.map vp) :: F) := by
  (refine spec_of Tryz.func22 rfl Tryz.ntmps22 rfl (fun F w0 hrd => ?_))
  refine walk ?_
  refine wc_loop (X := Nat × Value) (fun y => [(0, vp l.g), (3, y.2), (9, l.dv), (10, vi l.k.ps.length), (11, vi y.1)])
    (fun y => Sl y.2 1 ((l.k.ps.take y.1).map dev) :: Cells l.g [vi l.k.sh.members, vi l.k.sh.block, vi l.k.sh.segments, vi l.k.sh.stripes, vi l.k.sh.nv, vi l.k.sh.logical, vp l.k.pp, l.dv, vp l.k.n, av] :: Sl l.dv 1 (l.k.ps.map vp) :: F)
    (fun y => y.1 ≤ l.k.ps.length) (fun y => l.k.ps.length - y.1) (0, .slice none 0 0) (by simp) envs (sl_nil 1) (fun y hy => ?_)
  obtain ⟨i, v⟩ := y
  dsimp only at hy ⊢
  have hlen : ((l.k.ps.take i).map dev).length = i := by simp; omega
  refine walk ?_
  refine wif_dec (fun hlt => ?_) (fun hlt => ?_)
  · have hlt : i < l.k.ps.length := by omega
    have htk := List.take_succ_eq_append_getElem hlt
    refine walk ?_
    intro u _ _
    refine walk ?_
    intro s' _ _
    refine walk ?_
    refine wq_round (i + 1, s') (by dsimp only; omega) (by dsimp only; omega) envs ?_
    dsimp only
    rw [htk, List.map_append, List.map_singleton]
    exact perm
  · have hi : i = l.k.ps.length := by omega
    subst hi
    rw [List.take_length]
    refine walk ?_
    exact wq_ret1 rfl rfl v rfl trivial perm
theorem broken_spec (k : Keys) (r : Rig) :
    Spec0 Tryz.prog 144 [vp k.a] (fun _ => True) (fun F => RigAt k r F) (fun _ : Unit => True) (fun _ => .bool r.broken) (fun _ F => RigAt k r F) := by
  (refine spec_of Tryz.func144 rfl Tryz.ntmps144 rfl (fun F w0 hrd => ?_))
  refine walk ?_
  exact wq_ret1 rfl rfl () rfl trivial perm
theorem awake05_spec :
    Spec0 Tryz.prog 96 [] (fun _ => True) (fun F => F) (fun _ : Unit => True) (fun _ => .bool true) (fun _ F => F) := by
  (refine spec_of Tryz.func96 rfl Tryz.ntmps96 rfl (fun F w0 hrd => ?_))
  have h : Shp.Ok ⟨3, 32, 4, 2, 2, 1⟩ := ⟨by decide, by decide, by decide, by decide, by decide, by decide, by decide⟩
  refine walk ?_
  intro b
  refine walk ?_
  refine call (check_spec ⟨3, 32, 4, 2, 2, 1⟩ h) ?_
  intro _ _
  refine walk ?_
  refine call (parity_spec ⟨3, 32, 4, 2, 2, 1⟩ h 1 (by omega)) ?_
  intro _ _
  rw [show Shp.parity ⟨3, 32, 4, 2, 2, 1⟩ 1 = 1 from rfl]
  refine walk ?_
  refine call (member_spec ⟨3, 32, 4, 2, 2, 1⟩ h 1 0 (by omega) (by omega)) ?_
  intro _ _
  rw [show Shp.member ⟨3, 32, 4, 2, 2, 1⟩ 1 0 = 2 from rfl]
  refine walk ?_
  refine call (member_spec ⟨3, 32, 4, 2, 2, 1⟩ h 1 1 (by omega) (by omega)) ?_
  intro _ _
  rw [show Shp.member ⟨3, 32, 4, 2, 2, 1⟩ 1 1 = 0 from rfl]
  refine walk ?_
  exact wq_ret1 rfl rfl () rfl trivial perm

/-- a new rig -/
def Rig.fresh (s : Shp) : Rig := ⟨⟨1, -1⟩, List.replicate s.members.toNat (Dsk.blank s.sectors.toNat s.block), ⟨[], 1, ⟨s, 0, 0, -1⟩⟩, false⟩
theorem Dks.nil {pp : Nat} {Γ : List HP} : Ent Γ (Dks pp [] [] :: Γ) := fun _ hs => Sat.pur.2 ⟨rfl, Sat.flat.2 hs⟩
theorem Disks.snoc {pp p : Nat} {d : Dsk} : ∀ {ps : List Nat} {ds : List Dsk} {Γ : List HP}, ds.length = ps.length → Ent (DiskAt p pp d :: (Disks pp ps ds ++ Γ)) (Disks pp (ps ++ [p]) (ds ++ [d]) ++ Γ)
  | [], [], _, _ => Ent.refl
  | [], _ :: _, _, h => by cases h
  | _ :: _, [], _, h => by cases h
  | _ :: ps, _ :: ds, _, h => Ent.swap.trans (Ent.skip (Disks.snoc (by simpa using h)))
theorem Dks.snoc {pp p : Nat} {d : Dsk} {ps : List Nat} {ds : List Dsk} {Γ : List HP} : Ent (DiskAt p pp d :: Dks pp ps ds :: Γ) (Dks pp (ps ++ [p]) (ds ++ [d]) :: Γ) := fun _ hs => by
  obtain ⟨hl, hs⟩ := Sat.pur.1 hs.swap
  exact Sat.pur.2 ⟨by simpa using hl, Sat.flat.2 (Disks.snoc hl _ (hs.swap.cons (fun _ x => Sat.flat.1 x)))⟩
set_option maxHeartbeats 2000000 in
theorem new11_spec (s : Shp) (h : s.Ok) :
    Spec0 Tryz.prog 47 [Shp.val s] (fun _ => True) (fun F => F) (fun l : LK => l.k.Ok ∧ l.k.sh = s) (fun l => .tuple #[vp l.g, .bool true])
      (fun l F => LRigAt l (Rig.fresh s) F) := by
  (refine spec_of Tryz.func47 rfl Tryz.ntmps47 rfl (fun F w0 hrd => ?_))
  have hm := h.members
  have hb := bounds h
  obtain ⟨n, hn⟩ : ∃ n : Nat, s.members = n := ⟨s.members.toNat, by omega⟩
  refine walk ?_
  intro c
  refine walk ?_
  (refine draw ?_; refine dy 0 ?_; refine ddx 1 ?_)
  refine call (pnew_spec (-1)) ?_
  intro pp _
  (refine walk ?_; refine dy 2 ?_; refine ddx 3 ?_)
  refine walk ?_
  intro g
  (refine walk ?_; refine dy 4 ?_; refine walk ?_)
  refine walk ?_
  refine call (nnew_spec pp) ?_
  intro nv _
  refine walk ?_
  (refine draw ?_; refine dy 0 ?_; refine dy 1 ?_; refine dy 2 ?_; refine dy 3 ?_; refine dy 4 ?_; refine dy 5 ?_; refine ddx 6 ?_)
  refine call ((nset_spec nv pp (⟨[], 1, ⟨⟨0, 0, 0, 0, 0, 0⟩, 0, 0, -1⟩⟩, ⟨0, -1⟩) ⟨s, 0, 0, -1⟩).sure () (⟨[], 1, ⟨s, 0, 0, -1⟩⟩, ⟨1, -1⟩) (by rfl)) ?_
  intro _ _
  dsimp only
  refine walk ?_
  have hsec : 0 ≤ s.sectors ∧ s.sectors ≤ 1073741824 := by have h1 := hb.pages; have h2 := hb.all; unfold Shp.sectors Shp.all; omega
  refine wc_loop (X := Nat × Value × List Nat) (fun y => [(4, vp g), (1, vp c), (27, vi s.members), (28, vi y.1)])
    (fun y => NvAt nv pp ⟨[], 1, ⟨s, 0, 0, -1⟩⟩ :: PowAt pp ⟨1, -1⟩ :: Cells g [vi s.members, vi s.block, vi s.segments, vi s.stripes, vi s.nv, vi s.logical, vp pp, y.2.1, vp nv, .pointer none] ::
      Sl y.2.1 1 (y.2.2.map vp) :: Dks pp y.2.2 (List.replicate y.1 (Dsk.blank s.sectors.toNat s.block)) :: Cells c [vi s.members, vi s.block, vi s.segments, vi s.stripes, vi s.nv, vi s.logical] :: F)
    (fun y => y.1 ≤ n ∧ y.2.2.length = y.1) (fun y => n - y.1) (0, .slice none 0 0, []) (by simp) envs (by dsimp only [List.map_nil, List.replicate_zero]; exact (sl_nil 1).trans (Dks.nil.trans perm)) (fun y hy => ?_)
  obtain ⟨i, dv, ps⟩ := y
  dsimp only at hy ⊢
  obtain ⟨hi, hpl⟩ := hy
  refine walk ?_
  refine wif_dec (fun hlt => ?_) (fun hlt => ?_)
  · have hlt : i < n := by omega
    refine walk ?_
    (refine draw ?_; refine dy 0 ?_; refine dy 1 ?_; refine dy 2 ?_; refine dy 3 ?_; refine dy 4 ?_; refine dy 5 ?_; refine dy 6 ?_; refine dy 7 ?_; refine dy 8 ?_; refine dy 9 ?_; refine dy 11 ?_; refine dy 12 ?_; refine ddx 10 ?_)
    refine call (gsectors_spec s h) ?_
    intro _ _
    (refine walk ?_; refine ddx 13 ?_)
    refine call (dnew_spec pp s.sectors s.block (by omega) (by have := h.block; omega)) ?_
    intro d _
    rw [show max s.sectors 0 = s.sectors from by omega, show max s.block 0 = s.block from by have := h.block; omega]
    (refine walk ?_; refine ddx 14 ?_)
    refine walk ?_
    intro u _ _
    (refine walk ?_; refine ddx 15 ?_)
    refine walk ?_
    intro dv' _ _
    (refine walk ?_; refine dy 16 ?_; refine dy 17 ?_; refine ddx 18 ?_)
    refine walk ?_
    refine wq_round (i + 1, dv', ps ++ [d]) ⟨by dsimp only; omega, by simp [hpl]⟩ (by dsimp only; omega) envs ?_
    dsimp only
    rw [List.map_append, List.map_singleton, List.replicate_succ']
    refine Ent.trans (Γ' := DiskAt d pp (Dsk.blank s.sectors.toNat s.block) :: Dks pp ps (List.replicate i (Dsk.blank s.sectors.toNat s.block)) :: _) perm (Ent.trans Dks.snoc ?_)
    exact perm
  have hi : i = n := by omega
  subst hi
  refine walk ?_
  (refine draw ?_; refine dy 0 ?_; refine dy 2 ?_; refine dy 3 ?_; refine dy 4 ?_; refine dy 5 ?_; refine ddx 1 ?_)
  obtain ⟨l, hl⟩ : ∃ l : LK, l = ⟨g, dv, ⟨0, nv, pp, ps, dv, s⟩⟩ := ⟨_, rfl⟩
  have hds := devices_spec l (.pointer none) (by rw [hl]; dsimp only; omega)
  rw [hl] at hds
  dsimp only at hds
  refine call (hds) ?_
  intro da _
  (refine walk ?_; refine ddx 6 ?_)
  refine call (anew_spec nv pp ⟨[], 1, ⟨s, 0, 0, -1⟩⟩ h da (ps.map dev) (fun Γ => ⟨fun _ _ u hu => by obtain ⟨p, _, rfl⟩ := List.mem_map.1 hu; rfl⟩) (by rw [List.length_map]; dsimp only; omega)) ?_
  intro x _
  obtain ⟨a, lv⟩ := x
  dsimp only
  (refine walk ?_; refine dy 7 ?_; refine dy 8 ?_; refine dy 9 ?_; refine dy 10 ?_; refine dy 11 ?_; refine walk ?_)
  refine wq_ret2 rfl rfl rfl ⟨g, dv, ⟨a, nv, pp, ps, lv, s⟩⟩ rfl ⟨⟨h, by dsimp only; omega⟩, rfl⟩ ?_
  rw [show Rig.fresh s = ⟨⟨1, -1⟩, List.replicate i (Dsk.blank s.sectors.toNat s.block), ⟨[], 1, ⟨s, 0, 0, -1⟩⟩, false⟩ from by unfold Rig.fresh; congr 2; omega]
  dsimp only [LRigAt, RigAt]
  exact perm
end Go.Proofs.YtohienhoifgmaaaGreat
end
