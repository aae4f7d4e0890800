/- several texts, one behind the other -/
import Derived.Test.YtohienhoifgmaaaGreatP20

section
/- Parity in plain Lean: what the members have of a stripe, bit by bit. No program. -/
namespace Go.Sl
open Go

theorem u8_xor_comm (a b : UInt8) : a ^^^ b = b ^^^ a := UInt8.xor_comm a b
theorem u8_xor_assoc (a b c : UInt8) : a ^^^ b ^^^ c = a ^^^ (b ^^^ c) := UInt8.xor_assoc a b c
theorem u8_xor_self (a : UInt8) : a ^^^ a = 0 := UInt8.xor_self
theorem u8_xor_zero (a : UInt8) : a ^^^ 0 = a := UInt8.xor_zero
theorem u8_zero_xor (a : UInt8) : 0 ^^^ a = a := UInt8.zero_xor

/-- bit by bit, of so many -/
def xsum (g : Nat → UInt8) : Nat → UInt8
  | 0 => 0
  | n + 1 => xsum g n ^^^ g n
theorem xsum_congr {g g' : Nat → UInt8} {n : Nat} (h : ∀ i, i < n → g i = g' i) : xsum g n = xsum g' n := by
  induction n with
  | zero => rfl
  | succ n ih => simp only [xsum]; rw [ih (fun i hi => h i (by omega)), h n (by omega)]
theorem xsum_shift (g : Nat → UInt8) (n : Nat) : xsum (fun i => g (i + 1)) n ^^^ g 0 = xsum g (n + 1) := by
  induction n with
  | zero => simp [xsum]
  | succ n ih =>
    simp only [xsum] at ih ⊢
    rw [← ih, u8_xor_assoc, u8_xor_comm (g (n + 1)), ← u8_xor_assoc]
theorem xsum_turn (g : Nat → UInt8) (n t : Nat) : xsum (fun c => g ((t + c) % n)) n = xsum g n := by
  induction t with
  | zero => exact xsum_congr fun i hi => by simp [Nat.mod_eq_of_lt hi]
  | succ t ih =>
    rw [← ih]
    cases n with
    | zero => rfl
    | succ n =>
      have h1 := xsum_shift (fun c => g ((t + c) % (n + 1))) n
      rw [← h1]
      simp only [xsum]
      have e1 : xsum (fun c => g ((t + 1 + c) % (n + 1))) n = xsum (fun i => g ((t + (i + 1)) % (n + 1))) n := xsum_congr fun i _ => by rw [show t + 1 + i = t + (i + 1) by omega]
      have e2 : (t + 1 + n) % (n + 1) = (t + 0) % (n + 1) := by
        rw [show t + 1 + n = t + 0 + (n + 1) by omega, Nat.add_mod_right]
      rw [e1, e2]
/-- all but one -/
theorem xsum_but (g : Nat → UInt8) {n m : Nat} (hm : m < n) : xsum (fun i => if i = m then 0 else g i) n = xsum g n ^^^ g m := by
  induction n with
  | zero => omega
  | succ n ih =>
    simp only [xsum]
    by_cases h : n = m
    · subst h
      rw [if_pos rfl, u8_xor_zero, u8_xor_assoc, u8_xor_self, u8_xor_zero]
      exact xsum_congr fun i hi => by rw [if_neg (by omega)]
    · rw [if_neg h, ih (by omega), u8_xor_assoc, u8_xor_comm (g m), ← u8_xor_assoc]

/-- byte by byte: of bytes of one length -/
theorem fold_xor_get (l : List Bytes) (out : Bytes) (n : Nat) (ho : out.length = n) (h : ∀ b ∈ l, b.length = n) (j : Nat) (hj : j < n) :
    (l.foldl xorIn out).getD j 0 = l.foldl (fun a b => a ^^^ b.getD j 0) (out.getD j 0) := by
  induction l generalizing out with
  | nil => rfl
  | cons b l ih =>
    simp only [List.foldl_cons]
    rw [ih _ (by simp [xorIn, ho]) (fun b' hb' => h b' (List.mem_cons_of_mem _ hb'))]
    congr 1
    have hb := h b List.mem_cons_self
    simp only [xorIn, List.getD, List.getElem?_mapIdx]
    rw [List.getElem?_eq_getElem (by omega : j < out.length)]
    simp [hb, hj]
theorem fold_len (l : List Bytes) (out : Bytes) : (l.foldl xorIn out).length = out.length := by
  induction l generalizing out with
  | nil => rfl
  | cons b l ih => rw [List.foldl_cons, ih]; simp [xorIn]
theorem longest_eq {l : List Bytes} {n : Nat} (h : ∀ b ∈ l, b.length = n) (hl : l ≠ []) : longest l = n := by
  have key : ∀ (l : List Bytes) k, (∀ b ∈ l, b.length = n) → k ≤ n → l.foldl (fun n b => max n b.length) k ≤ n ∧ (l ≠ [] → l.foldl (fun n b => max n b.length) k = n) := fun l => by
    induction l with
    | nil => intro k _ hk; exact ⟨hk, fun h => absurd rfl h⟩
    | cons b l ih =>
      intro k hb hk
      have h1 := hb b List.mem_cons_self
      obtain ⟨h2, h3⟩ := ih (max k b.length) (fun b' hb' => hb b' (List.mem_cons_of_mem _ hb')) (by omega)
      refine ⟨h2, fun _ => ?_⟩
      simp only [List.foldl_cons]
      cases l with
      | nil => simp; omega
      | cons c l => exact h3 (by simp)
  exact (key l 0 h (by omega)).2 hl
theorem xorOf_length {l : List Bytes} {n : Nat} (h : ∀ b ∈ l, b.length = n) (hl : l ≠ []) : (xorOf l).length = n := by
  unfold xorOf; rw [fold_len, List.length_replicate, longest_eq h hl]
theorem xorOf_get {l : List Bytes} {n : Nat} (h : ∀ b ∈ l, b.length = n) (hl : l ≠ []) {j : Nat} (hj : j < n) : (xorOf l).getD j 0 = l.foldl (fun a b => a ^^^ b.getD j 0) 0 := by
  unfold xorOf
  rw [longest_eq h hl, fold_xor_get l _ n (by simp) h j hj]
  simp [List.getD, hj]
theorem fold_map_range (f : Nat → Bytes) (j n : Nat) (a : UInt8) : ((List.range n).map f).foldl (fun a b => a ^^^ b.getD j 0) a = a ^^^ xsum (fun i => (f i).getD j 0) n := by
  induction n with
  | zero => simp [xsum]
  | succ n ih => rw [List.range_succ, List.map_append, List.foldl_append, ih]; simp only [List.map_cons, List.map_nil, List.foldl_cons, List.foldl_nil, xsum]; rw [u8_xor_assoc]
theorem fold_filter_range (f : Nat → Bytes) (m j n : Nat) (a : UInt8) : (((List.range n).filter (fun i => decide (i ≠ m))).map f).foldl (fun a b => a ^^^ b.getD j 0) a = a ^^^ xsum (fun i => if i = m then 0 else (f i).getD j 0) n := by
  induction n with
  | zero => simp [xsum]
  | succ n ih =>
    rw [List.range_succ, List.filter_append, List.map_append, List.foldl_append, ih]
    simp only [xsum]
    by_cases h : n = m
    · subst h; simp
    · simp [h, u8_xor_assoc]

/-- a stripe's chunks are as many, and as long, as they should be -/
structure Chunks (s : Shp) (L : List Bytes) : Prop where
  many : (L.length : Int) = s.members - 1
  each : ∀ b ∈ L, (b.length : Int) = s.block
/-- what a member has of a stripe -/
def cellOf (s : Shp) (t : Int) (L : List Bytes) (i : Nat) : Bytes :=
  let c := (((i : Int) - t - 1) % s.members).toNat
  if c < L.length then L.getD c [] else xorOf L
theorem cellOf_member {s : Shp} (hs : 2 ≤ s.members) {t : Int} {L : List Bytes} (hL : Chunks s L) {c : Nat} (hc : c < L.length) : cellOf s t L (s.member t c).toNat = L.getD c [] := by
  have hm := hL.many
  unfold cellOf Shp.member
  have h0 := Int.emod_nonneg (t + 1 + c) (show s.members ≠ 0 by omega)
  have e : ((((t + 1 + c) % s.members).toNat : Int) - t - 1) % s.members = c := by
    rw [show (((t + 1 + c) % s.members).toNat : Int) - t - 1 = (t + 1 + c) % s.members - (t + 1) by omega, Int.emod_sub_emod, show t + 1 + (c : Int) - (t + 1) = c by omega]
    exact Int.emod_eq_of_lt (by omega) (by omega)
  rw [e]
  simp [hc]
theorem cellOf_parity {s : Shp} (hs : 2 ≤ s.members) {t : Int} {L : List Bytes} (hL : Chunks s L) : cellOf s t L (s.parity t).toNat = xorOf L := by
  have hm := hL.many
  unfold cellOf Shp.parity
  have h0 := Int.emod_nonneg t (show s.members ≠ 0 by omega)
  have e : (((t % s.members).toNat : Int) - t - 1) % s.members = s.members - 1 := by
    rw [show ((t % s.members).toNat : Int) - t - 1 = t % s.members - (t + 1) by omega, Int.emod_sub_emod, show t - (t + 1) = s.members - 1 + s.members * (-1) by omega, Int.add_mul_emod_self_left]
    exact Int.emod_eq_of_lt (by omega) (by omega)
  rw [e]
  dsimp only
  rw [if_neg (by omega)]
/-- which chunk a member has -/
theorem member_of {s : Shp} (hs : 2 ≤ s.members) (t : Int) {i : Nat} (hi : (i : Int) < s.members) : (i : Int) = s.parity t ∨ ∃ c : Nat, (c : Int) < s.members - 1 ∧ s.member t c = i := by
  have h0 := Int.emod_nonneg ((i : Int) - t - 1) (show s.members ≠ 0 by omega)
  have h1 := Int.emod_lt_of_pos ((i : Int) - t - 1) (show 0 < s.members by omega)
  have hi0 : (i : Int) % s.members = i := Int.emod_eq_of_lt (by omega) hi
  by_cases hc : ((i : Int) - t - 1) % s.members = s.members - 1
  · left
    unfold Shp.parity
    have : (t + ((i : Int) - t - 1) % s.members + 1) % s.members = t % s.members := by rw [hc, show t + (s.members - 1) + 1 = t + s.members * 1 by omega, Int.add_mul_emod_self_left]
    rw [← this, show t + ((i : Int) - t - 1) % s.members + 1 = (t + 1) + ((i : Int) - t - 1) % s.members by omega, Int.add_emod_emod, show t + 1 + ((i : Int) - t - 1) = i by omega, hi0]
  · right
    refine ⟨(((i : Int) - t - 1) % s.members).toNat, by omega, ?_⟩
    unfold Shp.member
    rw [Int.toNat_of_nonneg h0, Int.add_emod_emod, show t + 1 + ((i : Int) - t - 1) = i by omega, hi0]
theorem cellOf_len {s : Shp} (hs : 2 ≤ s.members) {t : Int} {L : List Bytes} (hL : Chunks s L) (i : Nat) : ((cellOf s t L i).length : Int) = s.block := by
  have hm := hL.many
  have hne : L ≠ [] := fun e => by rw [e] at hm; simp at hm; omega
  unfold cellOf
  dsimp only
  split
  · rename_i h; rw [List.getD, List.getElem?_eq_getElem h]; exact hL.each _ (List.getElem_mem h)
  · have hb : ∀ b ∈ L, b.length = s.block.toNat := fun b hb => by have := hL.each b hb; omega
    rw [xorOf_length hb hne]
    obtain ⟨b, hb'⟩ := List.exists_mem_of_ne_nil L hne
    have := hL.each b hb'
    omega
theorem list_map_getD (L : List Bytes) : (List.range L.length).map (fun c => L.getD c []) = L := by
  apply List.ext_getElem (by simp)
  intro i h1 h2
  simp [List.getD, h2]
/-- all members', bit by bit: noughts -/
theorem cells_xsum {s : Shp} (hs : 2 ≤ s.members) {t : Int} {L : List Bytes} (hL : Chunks s L) {j : Nat} (hj : (j : Int) < s.block) : xsum (fun i => (cellOf s t L i).getD j 0) s.members.toNat = 0 := by
  have hm := hL.many
  have hne : L ≠ [] := fun e => by rw [e] at hm; simp at hm; omega
  have hb : ∀ b ∈ L, b.length = s.block.toNat := fun b hb => by have := hL.each b hb; omega
  obtain ⟨M, hM⟩ : ∃ M : Nat, s.members = (M : Int) + 1 := ⟨(s.members - 1).toNat, by omega⟩
  obtain ⟨T, hT⟩ : ∃ T : Nat, (T : Int) = (t + 1) % s.members := ⟨((t + 1) % s.members).toNat, by have := Int.emod_nonneg (t + 1) (show s.members ≠ 0 by omega); omega⟩
  have hLM : L.length = M := by omega
  rw [show s.members.toNat = M + 1 by omega, ← xsum_turn (fun i => (cellOf s t L i).getD j 0) (M + 1) T]
  have hcell : ∀ c, c ≤ M → cellOf s t L ((T + c) % (M + 1)) = if c < L.length then L.getD c [] else xorOf L := fun c hc => by
    unfold cellOf
    dsimp only
    have e : ((((T + c) % (M + 1) : Nat) : Int) - t - 1) % s.members = c := by
      rw [show (((T + c) % (M + 1) : Nat) : Int) = ((T : Int) + c) % s.members by rw [hM]; push_cast; rfl, show ((T : Int) + c) % s.members - t - 1 = ((T : Int) + c) % s.members - (t + 1) by omega, Int.emod_sub_emod, hT]
      rw [show (t + 1) % s.members + (c : Int) - (t + 1) = (t + 1) % s.members - (t + 1 - c) by omega, Int.emod_sub_emod, show t + 1 - (t + 1 - (c : Int)) = c by omega]
      exact Int.emod_eq_of_lt (by omega) (by omega)
    rw [e]; simp
  simp only [xsum]
  rw [hcell M (by omega), if_neg (by omega)]
  have e1 : xsum (fun c => (cellOf s t L ((T + c) % (M + 1))).getD j 0) M = xsum (fun c => (L.getD c []).getD j 0) M := xsum_congr fun c hc => by rw [hcell c (by omega), if_pos (by omega)]
  rw [e1, xorOf_get hb hne (by omega)]
  have e2 := fold_map_range (fun c => L.getD c []) j L.length 0
  rw [list_map_getD, u8_zero_xor, hLM] at e2
  rw [e2, u8_xor_self]
/-- all but one: that one's -/
theorem others_cell {s : Shp} (hs : 3 ≤ s.members) {t : Int} {L : List Bytes} (hL : Chunks s L) {m : Nat} (hm : (m : Int) < s.members) :
    xorOf (((List.range s.members.toNat).filter (fun i => decide (i ≠ m))).map (cellOf s t L)) = cellOf s t L m := by
  have hlen : ∀ i, (cellOf s t L i).length = s.block.toNat := fun i => by have := cellOf_len (by omega : 2 ≤ s.members) (t := t) hL i; omega
  have hb : ∀ b ∈ ((List.range s.members.toNat).filter (fun i => decide (i ≠ m))).map (cellOf s t L), b.length = s.block.toNat := fun b hb => by
    obtain ⟨i, _, rfl⟩ := List.mem_map.1 hb; exact hlen i
  have hne : ((List.range s.members.toNat).filter (fun i => decide (i ≠ m))).map (cellOf s t L) ≠ [] := fun e => by
    obtain ⟨i, hi, hne⟩ : ∃ i, i < s.members.toNat ∧ i ≠ m := by
      by_cases h : m = 0
      · exact ⟨1, by omega, by omega⟩
      · exact ⟨0, by omega, by omega⟩
    have : cellOf s t L i ∈ ((List.range s.members.toNat).filter (fun i => decide (i ≠ m))).map (cellOf s t L) := List.mem_map.2 ⟨i, List.mem_filter.2 ⟨List.mem_range.2 hi, by simpa using hne⟩, rfl⟩
    rw [e] at this; cases this
  apply List.ext_getElem (by rw [xorOf_length hb hne, hlen])
  intro j h1 h2
  rw [hlen] at h2
  have e1 := xorOf_get hb hne h2
  rw [fold_filter_range, u8_zero_xor, xsum_but _ (by omega : m < s.members.toNat), cells_xsum (by omega) hL (by omega), u8_zero_xor] at e1
  have h3 : j < (cellOf s t L m).length := by rw [hlen]; exact h2
  simp only [List.getD, List.getElem?_eq_getElem h1, List.getElem?_eq_getElem h3, Option.getD_some] at e1
  exact e1
end Go.Sl
end

section
/- Arrays in plain Lean: what each operation of an array keeps, reads, writes. No program. -/
namespace Go.Sl
open Go

theorem not_live {d : Dsk} (h : d.dead = true) : ¬ Live d := fun hl => by rw [hl.1] at h; cases h
/-- as many members as the shape has, as great ones -/
structure Fits (s : Shp) (r : Rig) : Prop where
  many : (r.ds.length : Int) = s.members
  size : ∀ i, i < r.ds.length → (r.at i).size = s.block
  on : ∀ i, i < r.ds.length → ((r.at i).on.length : Int) = s.sectors
theorem Fits.tr {s : Shp} {S : Nat → Int → Prop} {r r' : Rig} (h : Fits s r) (t : Tr0 S r r') : Fits s r' :=
  ⟨by rw [t.len]; exact h.many, fun i hi => by rw [(t.size i).1]; exact h.size i (by rw [← t.len]; exact hi), fun i hi => by rw [(t.size i).2]; exact h.on i (by rw [← t.len]; exact hi)⟩

/-- a sector of a member is written; what that comes to -/
theorem awrite_sat {s : Shp} {r : Rig} (hf : Fits s r) {m : Nat} (hm : m < r.ds.length) {q : Int} {b : Bytes} (hq : 0 ≤ q ∧ q < s.sectors) (hb : (b.length : Int) = s.block) :
    (awrite m q b r).Sat (fun e r' => Tr (S1 m q) r r' ∧ Apart m r r' ∧ ((e = 0 ∧ r'.broken = r.broken ∧ ((m : Int) = r'.stale ∨ (r'.at m).see q = b) ∧ (Live (r.at m) → (r'.at m).see q = b)) ∨ (e = 3 ∧ r'.broken = true))) (fun r' => Tr0 (S1 m q) r r' ∧ Apart m r r' ∧ 0 ≤ r.pow.limit) := by
  unfold awrite
  rw [Int.toNat_natCast]
  have h := write_sat hm (b := b) (by rw [hf.on m hm]; exact hq : 0 ≤ q ∧ q < (r.at m).on.length) (by rw [hf.size m hm]; exact hb)
  refine Out.Sat.bind (h.mono (fun _ _ h => h) (fun s h => by rw [h.1]; exact ⟨Tr0.refl _, Apart.refl _, h.2⟩)) ?_
  rintro e r1 ⟨t1, a1, n1, b1, h1⟩
  rcases h1 with ⟨rfl, h2, hv⟩ | ⟨rfl, h2, hd⟩
  · rw [if_neg (by simp)]
    exact ⟨t1.tell a1 (.inl hv), a1, .inl ⟨rfl, b1, .inr h2, fun _ => h2⟩⟩
  · by_cases h3 : (m : Int) = r1.stale
    · rw [if_neg (by simp [h3])]
      exact ⟨t1.tell a1 (.inr (.inl h3)), a1, .inl ⟨rfl, b1, .inl h3, fun h => absurd h h2⟩⟩
    · rw [if_pos ⟨by decide, h3⟩]
      have hm1 : m < r1.ds.length := by rw [t1.len]; exact hm
      refine (lost_sat hm1 (not_live hd)).mono ?_ ?_
      · rintro e2 r2 ⟨t2, a2, h4⟩
        refine ⟨(t1.trans t2 (fun _ _ x => x) (fun _ _ x => x.elim)).tell (a1.trans (fun i _ => a2 i)) (.inr (h4.imp (fun h => h.2.1.symm) (fun h => h.2.1))), a1.trans (fun i _ => a2 i), ?_⟩
        rcases h4 with ⟨rfl, h5, h6⟩ | ⟨rfl, h5, h6⟩
        · exact .inl ⟨rfl, h6.trans b1, .inl h5.symm, fun h => absurd h h2⟩
        · exact .inr ⟨rfl, h5⟩
      · rintro r2 ⟨rfl, h5⟩
        exact ⟨t1, a1, by rw [← t1.limit]; exact h5⟩
/-- a member is flushed -/
theorem aflush1_sat {r : Rig} {m : Nat} (hm : m < r.ds.length) :
    (aflush1 m r).Sat (fun e r' => Tr S0 r r' ∧ Apart m r r' ∧ ((e = 0 ∧ r'.broken = r.broken ∧ ((m : Int) = r'.stale ∨ ∀ q : Int, 0 ≤ q → q < (r.at m).on.length → Firm (r'.at m) q ((r.at m).see q)) ∧ (Live (r.at m) → ∀ q : Int, 0 ≤ q → q < (r.at m).on.length → Firm (r'.at m) q ((r.at m).see q))) ∨ (e = 3 ∧ r'.broken = true))) (fun r' => Tr0 S0 r r' ∧ 0 ≤ r.pow.limit) := by
  unfold aflush1
  have h := flush_sat hm
  refine Out.Sat.bind (h.mono (fun _ _ h => h) (fun s h => by rw [h.1]; exact ⟨Tr0.refl _, h.2⟩)) ?_
  rintro e r1 ⟨t1, a1, n1, b1, h1⟩
  rcases h1 with ⟨rfl, h2, hv⟩ | ⟨rfl, h2, hd⟩
  · rw [if_neg (by simp)]
    exact ⟨t1.tell a1 (.inl hv), a1, .inl ⟨rfl, b1, .inr h2, fun _ => h2⟩⟩
  · by_cases h3 : (m : Int) = r1.stale
    · rw [if_neg (by simp [h3])]
      exact ⟨t1.tell a1 (.inr (.inl h3)), a1, .inl ⟨rfl, b1, .inl h3, fun h => absurd h h2⟩⟩
    · rw [if_pos ⟨by decide, h3⟩]
      have hm1 : m < r1.ds.length := by rw [t1.len]; exact hm
      refine (lost_sat hm1 (not_live hd)).mono ?_ ?_
      · rintro e2 r2 ⟨t2, a2, h4⟩
        refine ⟨(t1.trans t2 (fun _ _ x => x) (fun _ _ x => x)).tell (a1.trans (fun i _ => a2 i)) (.inr (h4.imp (fun h => h.2.1.symm) (fun h => h.2.1))), a1.trans (fun i _ => a2 i), ?_⟩
        rcases h4 with ⟨rfl, h5, h6⟩ | ⟨rfl, h5, h6⟩
        · exact .inl ⟨rfl, h6.trans b1, .inl h5.symm, fun h => absurd h h2⟩
        · exact .inr ⟨rfl, h5⟩
      · rintro r2 ⟨rfl, h5⟩
        exact ⟨t1, by rw [← t1.limit]; exact h5⟩

/-- one behind the other: what each keeps, and what holds of those that were done -/
theorem each_sat {α : Type} {f : α → Rig → Out Rig Int} (I : Nat → Rig → Prop) (B : Rig → Prop) (G : Rig → Prop) (l : List α) :
    ∀ (n : Nat) (r : Rig), I n r → (∀ i r, n ≤ i → (hi : i < l.length) → I i r → (f l[i] r).Sat (fun e r' => (e = 0 ∧ I (i + 1) r') ∨ (e ≠ 0 ∧ e = 3 ∧ B r')) G) → n ≤ l.length →
    (each f (l.drop n) r).Sat (fun e r' => (e = 0 ∧ I l.length r') ∨ (e = 3 ∧ B r')) G := by
  intro n r hI hstep hn
  obtain ⟨k, hk⟩ : ∃ k, k = l.length - n := ⟨_, rfl⟩
  induction k generalizing n r with
  | zero =>
    have : n = l.length := by omega
    subst this
    rw [List.drop_of_length_le (by simp)]
    exact .inl ⟨rfl, hI⟩
  | succ k ih =>
    have hlt : n < l.length := by omega
    rw [List.drop_eq_getElem_cons hlt]
    unfold each
    refine Out.Sat.bind (hstep n r (Nat.le_refl _) hlt hI) ?_
    rintro e r1 (⟨rfl, h1⟩ | ⟨h0, rfl, h1⟩)
    · rw [if_pos rfl]
      exact ih (n + 1) r1 h1 (fun i r hi hl hI => hstep i r (by omega) hl hI) (by omega) (by omega)
    · rw [if_neg (by decide)]
      exact .inr ⟨rfl, h1⟩

/-- all members are flushed -/
theorem aflush_sat {r : Rig} :
    (aflush r).Sat (fun e r' => Tr S0 r r' ∧ ((e = 0 ∧ r'.broken = r.broken ∧ (∀ i, i < r.ds.length → (i : Int) = r'.stale ∨ ∀ q : Int, 0 ≤ q → q < (r.at i).on.length → Firm (r'.at i) q ((r.at i).see q)) ∧ (∀ i, i < r.ds.length → Live (r.at i) → ∀ q : Int, 0 ≤ q → q < (r.at i).on.length → Firm (r'.at i) q ((r.at i).see q))) ∨ (e = 3 ∧ r'.broken = true))) (fun r' => Tr0 S0 r r' ∧ 0 ≤ r.pow.limit) := by
  unfold aflush
  cases hb : r.broken with
  | true => rw [if_pos rfl]; exact ⟨Tr.refl r, .inr ⟨rfl, hb⟩⟩
  | false =>
    rw [if_neg (by decide)]
    have key := each_sat (f := aflush1) (l := List.range r.ds.length)
      (fun n r' => Tr S0 r r' ∧ r'.broken = false ∧ (∀ i, n ≤ i → r'.at i = r.at i) ∧ (∀ i, i < n → (i : Int) = r'.stale ∨ ∀ q : Int, 0 ≤ q → q < (r.at i).on.length → Firm (r'.at i) q ((r.at i).see q)) ∧ (∀ i, i < n → Live (r.at i) → ∀ q : Int, 0 ≤ q → q < (r.at i).on.length → Firm (r'.at i) q ((r.at i).see q)))
      (fun r' => Tr S0 r r' ∧ r'.broken = true) (fun r' => Tr0 S0 r r' ∧ 0 ≤ r.pow.limit) 0 r ⟨Tr.refl r, hb, fun _ _ => rfl, fun i hi => by omega, fun i hi => by omega⟩ ?_ (by omega)
    · rw [List.drop_zero] at key
      refine key.mono ?_ (fun _ h => h)
      rintro e r1 (⟨rfl, t1, b1, _, h2, h3⟩ | ⟨rfl, t1, h2⟩)
      · rw [List.length_range] at h2 h3
        exact ⟨t1, .inl ⟨rfl, b1, h2, h3⟩⟩
      · exact ⟨t1, .inr ⟨rfl, h2⟩⟩
    · rintro i r1 _ hi ⟨t1, b1, h1, h2, h3⟩
      rw [List.getElem_range]
      have hi' : i < r.ds.length := by simpa using hi
      have he := h1 i (Nat.le_refl _)
      refine (aflush1_sat (by rw [t1.len]; exact hi')).mono ?_ ?_
      · rintro e r2 ⟨t2, a2, h4⟩
        rw [he] at h4
        have t3 := t1.trans (T := S0) t2 (fun _ _ x => x) (fun _ _ x => x)
        rcases h4 with ⟨rfl, b2, h5, h6⟩ | ⟨rfl, h5⟩
        · refine .inl ⟨rfl, t3, b2.trans b1, fun k hk => ?_, fun k hk => ?_, fun k hk => ?_⟩
          · rw [a2 k (by omega)]; exact h1 k (by omega)
          · by_cases hki : k = i
            · subst hki; exact h5
            · rcases h2 k (by omega) with h7 | h7
              · left; rw [h7]; exact (t2.stale_is (by rw [← h7]; omega)).symm
              · right; rw [a2 k hki]; exact h7
          · by_cases hki : k = i
            · subst hki; exact h6
            · rw [a2 k hki]; exact h3 k (by omega)
        · exact .inr ⟨by decide, rfl, t3, h5⟩
      · rintro r2 ⟨t2, h4⟩
        exact ⟨t1.toTr0.trans (T := S0) t2 (fun _ _ x => x) (fun _ _ x => x), by rw [← t1.limit]; exact h4⟩
end Go.Sl
end
