/- several texts, one behind the other -/
import Derived.Test.YtohienhoifgmaaaGreatP26

section
/- A log in plain Lean: as many blocks live in each segment as its table has. No program. -/
namespace Go.Sl
open Go

theorem countP_set {α : Type} (P : α → Bool) (l : List α) (i : Nat) (h : i < l.length) (x : α) : (l.set i x).countP P + (if P l[i] = true then 1 else 0) = l.countP P + if P x = true then 1 else 0 := by
  induction l generalizing i with
  | nil => cases h
  | cons y l ih =>
    cases i with
    | zero =>
      simp only [List.set_cons_zero, List.countP_cons, List.getElem_cons_zero]
      omega
    | succ i =>
      simp only [List.set_cons_succ, List.countP_cons, List.getElem_cons_succ]
      have := ih i (by simpa using h)
      omega
namespace Lg
/-- how many blocks live in a segment -/
def lives (s : Shp) (m : Lm) (i : Int) : Nat := m.countP fun p => decide (0 ≤ p ∧ home s p = i)
theorem lives_le (s : Shp) (m : Lm) (i : Int) : lives s m i ≤ m.length := List.countP_le_length
theorem lives_put {s : Shp} {m : Lm} {l : Int} (hl : 0 ≤ l ∧ l < m.length) (p i : Int) :
    (lives s (m.put l p) i : Int) + (if 0 ≤ m.look l ∧ home s (m.look l) = i then 1 else 0) = lives s m i + if 0 ≤ p ∧ home s p = i then 1 else 0 := by
  have hh : m.has l = true := by unfold Lm.has; simpa using hl
  have hn : l.toNat < m.length := by omega
  unfold lives Lm.put Lm.look
  rw [if_pos hh, if_pos hh]
  have h := countP_set (fun p => decide (0 ≤ p ∧ home s p = i)) m l.toNat hn (max p (-1))
  have e1 : m.getD l.toNat (-1) = m[l.toNat] := by simp [List.getD, hn]
  rw [e1]
  simp only [decide_eq_true_eq] at h
  have e2 : (0 ≤ max p (-1) ∧ home s (max p (-1)) = i) ↔ (0 ≤ p ∧ home s p = i) := by
    constructor
    · rintro ⟨a, b⟩
      have : max p (-1) = p := by omega
      rw [this] at a b
      exact ⟨a, b⟩
    · rintro ⟨a, b⟩
      have : max p (-1) = p := by omega
      rw [this]
      exact ⟨a, b⟩
  simp only [e2] at h
  by_cases h1 : 0 ≤ m[l.toNat] ∧ home s m[l.toNat] = i <;> by_cases h2 : 0 ≤ p ∧ home s p = i <;> simp only [h1, h2, if_true, if_false, and_self] at h ⊢ <;> omega
/-- the table is as long as the shape says, the map too; what lives is counted -/
structure Ok (g : Lg) : Prop where
  map : g.map.Ok
  len : (g.map.length : Int) = g.sh.logical
  small : g.map.length < 1000000000
  live : ∀ i, g.tbl.has i = true → (g.tbl.see i).live = lives g.sh g.map i
theorem w64_small {x : Int} (h : -1000000001 ≤ x ∧ x ≤ 1000000001) : w64 x = x := by
  show IntKind.i64.wrap x = x
  exact wrap_i64 (by omega) (by omega)
theorem see_live (t : Tbl) (i j more : Int) : (t.live i more).see j = if j = i ∧ t.has i = true then { t.see i with live := w64 ((t.see i).live + more) } else t.see j := Tbl.see_upd t i j _
theorem has_live (t : Tbl) (i j more : Int) : (t.live i more).has j = t.has j := Tbl.has_upd t i j _
theorem Ok.put {g : Lg} (h : g.Ok) {lba place : Int} (hl : 0 ≤ lba ∧ lba < g.sh.logical) : (g.put lba place).Ok := by
  have hlen := h.len
  have hin : 0 ≤ lba ∧ lba < g.map.length := by omega
  refine ⟨h.map.put _ _, by rw [show (g.put lba place).map = g.map.put lba place from rfl, Lm.put_length]; exact h.len, by rw [show (g.put lba place).map = g.map.put lba place from rfl, Lm.put_length]; exact h.small, fun i hi => ?_⟩
  have key := lives_put (s := g.sh) (m := g.map) hin place i
  have hsm := h.small
  have b1 := lives_le g.sh g.map i
  have b2 := lives_le g.sh (g.map.put lba place) i
  rw [Lm.put_length] at b2
  show Seg.live (Tbl.see _ i) = _
  rw [show (g.put lba place).sh = g.sh from rfl, show (g.put lba place).map = g.map.put lba place from rfl]
  have hti : g.tbl.has i = true := by
    have hi' : Tbl.has (Lg.put g lba place).tbl i = true := hi
    unfold Lg.put at hi'
    dsimp only at hi'
    split at hi' <;> split at hi' <;> simpa only [has_live] using hi'
  have hv := h.live i hti
  unfold Lg.put
  dsimp only
  by_cases h1 : 0 ≤ g.map.look lba
  · rw [if_pos h1]
    by_cases h2 : 0 ≤ place
    · rw [if_pos ⟨h2, hl.2⟩, see_live, has_live]
      by_cases e2 : i = home g.sh place
      · rw [if_pos ⟨e2, e2 ▸ hti⟩, ← e2, see_live]
        by_cases e1 : i = home g.sh (g.map.look lba)
        · rw [if_pos ⟨e1, e1 ▸ hti⟩, ← e1]
          dsimp only
          rw [hv, w64_small (x := (lives g.sh g.map i : Int) + -1) (by omega), w64_small (by omega)]
          rw [if_pos ⟨h1, e1.symm⟩, if_pos ⟨h2, e2.symm⟩] at key
          omega
        · rw [if_neg (fun x => e1 x.1)]
          dsimp only
          rw [hv, w64_small (by omega)]
          rw [if_neg (fun x => e1 x.2.symm), if_pos ⟨h2, e2.symm⟩] at key
          omega
      · rw [if_neg (fun x => e2 x.1), see_live]
        by_cases e1 : i = home g.sh (g.map.look lba)
        · rw [if_pos ⟨e1, e1 ▸ hti⟩, ← e1]
          dsimp only
          rw [hv, w64_small (by omega)]
          rw [if_pos ⟨h1, e1.symm⟩, if_neg (fun x => e2 x.2.symm)] at key
          omega
        · rw [if_neg (fun x => e1 x.1), hv]
          rw [if_neg (fun x => e1 x.2.symm), if_neg (fun x => e2 x.2.symm)] at key
          omega
    · rw [if_neg (fun x => h2 x.1), see_live]
      rw [if_neg (fun x : 0 ≤ place ∧ home g.sh place = i => h2 x.1)] at key
      by_cases e1 : i = home g.sh (g.map.look lba)
      · rw [if_pos ⟨e1, e1 ▸ hti⟩, ← e1]
        dsimp only
        rw [hv, w64_small (by omega)]
        rw [if_pos ⟨h1, e1.symm⟩] at key
        omega
      · rw [if_neg (fun x => e1 x.1), hv]
        rw [if_neg (fun x => e1 x.2.symm)] at key
        omega
  · rw [if_neg h1]
    rw [if_neg (fun x : 0 ≤ g.map.look lba ∧ home g.sh (g.map.look lba) = i => h1 x.1)] at key
    by_cases h2 : 0 ≤ place
    · rw [if_pos ⟨h2, hl.2⟩, see_live]
      by_cases e2 : i = home g.sh place
      · rw [if_pos ⟨e2, e2 ▸ hti⟩, ← e2]
        dsimp only
        rw [hv, w64_small (by omega)]
        rw [if_pos ⟨h2, e2.symm⟩] at key
        omega
      · rw [if_neg (fun x => e2 x.1), hv]
        rw [if_neg (fun x => e2 x.2.symm)] at key
        omega
    · rw [if_neg (fun x => h2 x.1), hv]
      rw [if_neg (fun x : 0 ≤ place ∧ home g.sh place = i => h2 x.1)] at key
      omega
end Lg
end Go.Sl
end

section
/- What is staged, in plain Lean: of each block its last record, in order. No program. -/
namespace Go.Sl
open Go
section
variable {α β : Type}
/-- those behind which there is none with the same key -/
def vw (key : α → Int) : List α → List α
  | [] => []
  | r :: l => if l.any (fun x => key x = key r) then vw key l else r :: vw key l
theorem vw_map (key : β → Int) (f : α → β) (l : List α) : (vw (fun a => key (f a)) l).map f = vw key (l.map f) := by
  induction l with
  | nil => rfl
  | cons r l ih =>
    simp only [vw, List.map_cons, List.any_map]
    have : (l.any (fun x => decide (key (f x) = key (f r)))) = l.any ((fun x => decide (key x = key (f r))) ∘ f) := rfl
    rw [this]
    split
    · exact ih
    · rw [List.map_cons, ih]
theorem vw_mem {key : α → Int} {l : List α} {r : α} (h : r ∈ vw key l) : r ∈ l := by
  induction l with
  | nil => cases h
  | cons x l ih =>
    unfold vw at h
    split at h
    · exact List.mem_cons_of_mem _ (ih h)
    · rcases List.mem_cons.1 h with rfl | h
      · exact List.mem_cons_self
      · exact List.mem_cons_of_mem _ (ih h)
theorem vw_length (key : α → Int) (l : List α) : (vw key l).length ≤ l.length := by
  induction l with
  | nil => exact Nat.le_refl _
  | cons x l ih =>
    unfold vw
    split
    · exact Nat.le_succ_of_le ih
    · simpa using ih
/-- is it the last one with its key? -/
def isLast (key : α → Int) (l : List α) (i : Nat) : Bool := match l[i]? with
  | none => false
  | some r => !(l.drop (i + 1)).any fun x => key x = key r
/-- the view of the first ones -/
def vwN (key : α → Int) (l : List α) : Nat → List α
  | 0 => []
  | k + 1 => vwN key l k ++ (if isLast key l k then (l[k]?).toList else [])
theorem vwN_cons (key : α → Int) (r : α) (l : List α) (k : Nat) : vwN key (r :: l) (k + 1) = (if isLast key (r :: l) 0 then [r] else []) ++ vwN key l k := by
  induction k with
  | zero => simp [vwN]
  | succ k ih =>
    rw [vwN, ih, vwN, List.append_assoc]
    rfl
theorem vwN_all (key : α → Int) (l : List α) : vwN key l l.length = vw key l := by
  induction l with
  | nil => rfl
  | cons r l ih =>
    rw [List.length_cons, vwN_cons, ih, show vw key (r :: l) = if l.any (fun x => key x = key r) then vw key l else r :: vw key l from rfl]
    unfold isLast
    simp only [List.getElem?_cons_zero, List.drop_succ_cons, List.drop_zero]
    cases h : l.any (fun x => decide (key x = key r)) <;> simp
theorem vwN_succ {key : α → Int} {l : List α} {k : Nat} (hk : k < l.length) : vwN key l (k + 1) = vwN key l k ++ if isLast key l k then [l[k]] else [] := by
  rw [vwN, List.getElem?_eq_getElem hk]; rfl
theorem vwN_length (key : α → Int) (l : List α) (k : Nat) : (vwN key l k).length ≤ k := by
  induction k with
  | zero => exact Nat.le_refl _
  | succ k ih =>
    rw [vwN, List.length_append]
    have : (if isLast key l k then (l[k]?).toList else []).length ≤ 1 := by
      split
      · cases l[k]? <;> simp
      · simp
    omega
theorem isLast_iff {key : α → Int} {l : List α} {k : Nat} (hk : k < l.length) : isLast key l k = true ↔ ∀ j (h : j < l.length), k < j → key l[j] ≠ key l[k] := by
  unfold isLast
  rw [List.getElem?_eq_getElem hk]
  simp only [Bool.not_eq_true', List.any_eq_false, decide_eq_true_eq]
  constructor
  · intro h j hj hkj
    refine h _ ?_
    rw [List.mem_drop_iff_getElem]
    exact ⟨j - (k + 1), by omega, by congr 1; omega⟩
  · intro h x hx
    rw [List.mem_drop_iff_getElem] at hx
    obtain ⟨i, hi, rfl⟩ := hx
    exact h (k + 1 + i) (by omega) (by omega)
/-- where the last one with a key lies, of the first ones -/
def LastAt (key : α → Int) (l : List α) (k : Nat) (m : IMap Int) : Prop :=
  ∀ i (h : i < k) (h' : i < l.length), ∃ j : Nat, mget m (key l[i]) = some (j : Int) ∧ ∃ (hj : j < l.length), i ≤ j ∧ j < k ∧ key l[j] = key l[i] ∧ ∀ n (hn : n < l.length), j < n → n < k → key l[n] ≠ key l[i]
theorem LastAt.zero (key : α → Int) (l : List α) (m : IMap Int) : LastAt key l 0 m := fun i h => by omega
theorem LastAt.step {key : α → Int} {l : List α} {k : Nat} {m : IMap Int} (h : LastAt key l k m) (hk : k < l.length) : LastAt key l (k + 1) (mset m (key l[k]) k) := by
  intro i hi hi'
  rw [mget_mset]
  by_cases e : key l[i] = key l[k]
  · rw [if_pos e]
    exact ⟨k, rfl, hk, by omega, by omega, e.symm, fun n hn h1 h2 => by omega⟩
  · rw [if_neg e]
    have hik : i < k := by
      rcases Nat.lt_or_ge i k with h1 | h1
      · exact h1
      · obtain rfl : i = k := by omega
        exact absurd rfl e
    obtain ⟨j, h1, hj, h2, h3, h4, h5⟩ := h i hik hi'
    refine ⟨j, h1, hj, h2, by omega, h4, fun n hn hjn hnk => ?_⟩
    rcases Nat.lt_or_ge n k with h6 | h6
    · exact h5 n hn hjn h6
    · obtain rfl : n = k := by omega
      exact fun e' => e e'.symm
theorem LastAt.eq {key : α → Int} {l : List α} {m : IMap Int} (h : LastAt key l l.length m) {i : Nat} (hi : i < l.length) : ∃ j : Nat, mget m (key l[i]) = some (j : Int) ∧ (((j : Int) = i) ↔ isLast key l i = true) := by
  obtain ⟨j, h1, hj, h2, h3, h4, h5⟩ := h i hi hi
  refine ⟨j, h1, ?_⟩
  rw [isLast_iff hi]
  constructor
  · intro e n hn hin
    have : j = i := by omega
    subst this
    exact h5 n hn hin hn
  · intro hl
    rcases Nat.lt_or_ge i j with h6 | h6
    · exact absurd h4 (hl j hj h6)
    · omega
end
theorem view_vw (l : List Rec) : view l = vw (fun r => r.lba) l := by
  induction l with
  | nil => rfl
  | cons r l ih => unfold view vw; rw [ih]
end Go.Sl
end
