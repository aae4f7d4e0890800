/- A disk, and its book: what is asked of both answers alike. No program. -/
import Derived.Test.YtapgejjjgeiihaaBk
namespace Go.Sl
open Go

def dact (k : Nat) (i : Int) (fill : UInt8) (long : Bool) (keep : Nat) (s : DP) : Out DP (Bytes × Int) :=
  if k < 2 then dread i s
  else if k < 5 then (dwrite i (List.replicate (if long then 4 else 3) fill) s).bind fun e s => .ok ([], e) s
  else if k = 5 then (dflush s).bind fun e s => .ok ([], e) s
  else if k = 6 then .ok ([], 0) (s.1.cycle keep, s.2)
  else if k = 7 then .ok ([], 0) (s.1.failing (w64 (s.2.used + i)), s.2)
  else if k = 8 then .ok ([], 0) (s.1.fail, s.2)
  else .ok ([], 0) (s.1.anew, s.2)

structure Rel (b : Bk) (s : DP) : Prop where
  limit : s.2.limit = -1
  used : s.2.used = b.used
  size : s.1.size = 3
  len : s.1.on.length = 6
  wlen : s.1.writes.length = 6
  on : ∀ i, i < 6 → s.1.on[i]? = some (b.on i).2
  wait : ∀ i : Nat, i < 6 → mget s.1.cache (i : Int) = (b.wait i).map (·.2)
  out : ∀ e ∈ s.1.cache, 0 ≤ e.1 ∧ e.1 < 6
  keys : (s.1.cache.map (·.1)).Nodup
  writes : ∀ i, i < 6 → s.1.writes[i]? = some (b.writes i)
  dead : s.1.dead = b.dead
  failAt : s.1.failAt = b.failAt

theorem Rel.step {b : Bk} {s : DP} (h : Rel b s) : ∃ s', dstep s = .ok (if b.op.dead then 8 else 0) s' ∧ Rel b.op s' := by
  obtain ⟨d, ⟨u, l⟩⟩ := s
  have hl := h.limit
  dsimp only at hl
  subst hl
  have hu := h.used
  dsimp only at hu
  subst hu
  refine ⟨(d.begun ⟨w64 (b.used + 1), -1⟩, ⟨w64 (b.used + 1), -1⟩), ?_, ⟨rfl, rfl, h.size, h.len, h.wlen, h.on, h.wait, h.out, h.keys, h.writes, ?_, h.failAt⟩⟩
  · unfold dstep Pow.tick
    dsimp only
    rw [if_neg (by omega)]
    dsimp only
    have hd : (d.begun ⟨w64 (b.used + 1), -1⟩).dead = b.op.dead := by
      simp only [Dsk.begun, Bk.op]
      rw [← h.dead, ← h.failAt]
    rw [hd]
  · simp only [Dsk.begun, Bk.op]
    rw [← h.dead, ← h.failAt]
/-- the sectors that wait, rising: so many are looked at -/
def waitsN (w : Nat → Option Row) : Nat → List Int
  | 0 => []
  | n + 1 => waitsN w n ++ if (w n).isSome then [(n : Int)] else []
theorem mem_waitsN {w : Nat → Option Row} {n : Nat} {x : Int} : x ∈ waitsN w n ↔ ∃ j : Nat, j < n ∧ (w j).isSome ∧ x = j := by
  induction n with
  | zero => simp [waitsN]
  | succ n ih =>
    unfold waitsN
    rw [List.mem_append, ih]
    constructor
    · rintro (⟨j, h1, h2, rfl⟩ | h)
      · exact ⟨j, by omega, h2, rfl⟩
      · split at h
        · rename_i hw
          exact ⟨n, by omega, hw, by simpa using h⟩
        · cases h
    · rintro ⟨j, h1, h2, rfl⟩
      by_cases hj : j = n
      · subst hj; right; rw [if_pos h2]; simp
      · exact .inl ⟨j, by omega, h2, rfl⟩
theorem waitsN_sorted (w : Nat → Option Row) (n : Nat) : (waitsN w n).Pairwise (· < ·) := by
  induction n with
  | zero => exact List.Pairwise.nil
  | succ n ih =>
    unfold waitsN
    rw [List.pairwise_append]
    refine ⟨ih, ?_, fun x hx y hy => ?_⟩
    · split
      · simp
      · exact List.Pairwise.nil
    · obtain ⟨j, h1, _, rfl⟩ := mem_waitsN.1 hx
      split at hy
      · have : y = n := by simpa using hy
        omega
      · cases hy
theorem waitsN_rank (b : Bk) (n : Nat) : (waitsN b.wait n).length = b.rank n := by
  induction n with
  | zero => rfl
  | succ n ih =>
    unfold waitsN Bk.rank
    rw [List.length_append, ih]
    split <;> simp
theorem waitsN_idx (b : Bk) (n j : Nat) (hj : j < n) (hw : (b.wait j).isSome) : (waitsN b.wait n).idxOf (j : Int) = b.rank j := by
  induction n with
  | zero => omega
  | succ n ih =>
    unfold waitsN
    rw [List.idxOf_append]
    by_cases h : j < n
    · rw [if_pos (mem_waitsN.2 ⟨j, h, hw, rfl⟩)]
      exact ih h
    · have : j = n := by omega
      subst this
      rw [if_neg (fun hm => by obtain ⟨i, h1, _, h3⟩ := mem_waitsN.1 hm; omega), if_pos hw, waitsN_rank]
      simp
theorem sorted_ext : ∀ {l l' : List Int}, l.Pairwise (· < ·) → l'.Pairwise (· < ·) → (∀ x, x ∈ l ↔ x ∈ l') → l = l'
  | [], [], _, _, _ => rfl
  | [], y :: _, _, _, hm => by have := (hm y).2 List.mem_cons_self; cases this
  | x :: _, [], _, _, hm => by have := (hm x).1 List.mem_cons_self; cases this
  | x :: l, y :: l', h, h', hm => by
    rw [List.pairwise_cons] at h h'
    have hxy : x = y := by
      have h1 := (hm x).1 List.mem_cons_self
      have h2 := (hm y).2 List.mem_cons_self
      rcases List.mem_cons.1 h1 with h1 | h1
      · exact h1
      · rcases List.mem_cons.1 h2 with h2 | h2
        · exact h2.symm
        · have := h'.1 x h1
          have := h.1 y h2
          omega
    subst hxy
    rw [sorted_ext h.2 h'.2 (fun z => ?_)]
    constructor
    · intro hz
      rcases List.mem_cons.1 ((hm z).1 (List.mem_cons_of_mem _ hz)) with e | hz'
      · have := h.1 z hz; omega
      · exact hz'
    · intro hz
      rcases List.mem_cons.1 ((hm z).2 (List.mem_cons_of_mem _ hz)) with e | hz'
      · have := h'.1 z hz; omega
      · exact hz'
theorem mget_isSome {m : IMap Bytes} {k : Int} : (mget m k).isSome ↔ k ∈ m.map (·.1) := by
  induction m with
  | nil => simp [mget]
  | cons p r ih =>
    obtain ⟨a, u⟩ := p
    simp only [mget, List.map_cons, List.mem_cons]
    split
    · rename_i h; simp_all
    · rename_i h
      rw [ih]
      constructor
      · exact .inr
      · rintro (rfl | h')
        · simp at h
        · exact h'
theorem Rel.waiting {b : Bk} {s : DP} (h : Rel b s) : s.1.waiting = waitsN b.wait 6 := by
  have hp : s.1.waiting.Perm (s.1.cache.map (·.1)) := List.mergeSort_perm _ _
  have hs : s.1.waiting.Pairwise (fun x y => decide (x ≤ y) = true) := List.pairwise_mergeSort (fun a b c h1 h2 => by simp at *; omega) (fun a b => by simp; omega) _
  have hn : s.1.waiting.Nodup := hp.nodup_iff.2 h.keys
  refine sorted_ext ?_ (waitsN_sorted _ _) (fun x => ?_)
  · refine List.Pairwise.imp₂ (fun a b h1 h2 => ?_) hs hn
    have h1 : a ≤ b := by simpa using h1
    have h2 : a ≠ b := h2
    show a < b
    omega
  · rw [hp.mem_iff, mem_waitsN, ← mget_isSome]
    constructor
    · intro hx
      obtain ⟨e, he, rfl⟩ := List.mem_map.1 (mget_isSome.1 hx)
      have := h.out e he
      obtain ⟨j, hj⟩ : ∃ j : Nat, e.1 = j := ⟨e.1.toNat, by omega⟩
      rw [hj] at hx ⊢
      rw [h.wait j (by omega)] at hx
      exact ⟨j, by omega, by simpa using hx, rfl⟩
    · rintro ⟨j, h1, h2, rfl⟩
      rw [h.wait j h1]
      simpa using h2
theorem Rel.settle {b : Bk} {s : DP} (h : Rel b s) (keep : Nat) (kp : Int → Bool) (hk : ∀ j : Nat, j < 6 → (b.wait j).isSome → kp j = bitOf keep (b.rank j)) : Rel (b.settle keep) (s.1.settle kp, s.2) := by
  have hr := b.laid_rest keep 6
  refine ⟨h.limit, by rw [show (b.settle keep).used = b.used from hr.2.2.2]; exact h.used, h.size, by simp [Dsk.settle, h.len], h.wlen, fun i hi => ?_, fun i hi => ?_, fun e he => (by cases he), List.nodup_nil, fun i hi => ?_, ?_, ?_⟩
  · simp only [Dsk.settle]
    rw [List.getElem?_mapIdx, h.on i hi, h.wait i hi]
    show _ = some ((b.laid keep 6).1.on i).2
    rw [b.laid_on]
    cases hw : b.wait i with
    | none => simp
    | some r =>
      rw [hk i hi (by rw [hw]; rfl)]
      cases bitOf keep (b.rank i) <;> simp [hi]
  · show none = ((b.laid keep 6).1.wait i).map _
    rw [b.laid_wait, if_pos hi]; rfl
  · rw [show (b.settle keep).writes = b.writes from hr.1]; exact h.writes i hi
  · rw [show (b.settle keep).dead = b.dead from hr.2.1]; exact h.dead
  · rw [show (b.settle keep).failAt = b.failAt from hr.2.2.1]; exact h.failAt
theorem Bk.rank_le (b : Bk) (n : Nat) : b.rank n ≤ n := by
  induction n with
  | zero => simp [Bk.rank]
  | succ n ih => unfold Bk.rank; split <;> omega
theorem Rel.has {b : Bk} {s : DP} (h : Rel b s) (i : Int) : s.1.has i = decide (0 ≤ i ∧ i < 6) := by
  unfold Dsk.has
  rw [h.len]; rfl
theorem Rel.see {b : Bk} {s : DP} (h : Rel b s) {n : Nat} (hn : n < 6) : s.1.see n = ((b.wait n).getD (b.on n)).2 := by
  unfold Dsk.see
  rw [h.wait n hn]
  have ho := h.on n hn
  cases b.wait n with
  | none => simp [List.getD, ho]
  | some r => rfl
theorem Rel.put {b : Bk} {s : DP} (h : Rel b s) {n : Nat} (hn : n < 6) (data : Row) : Rel ((b.setWait n (some data)).setWrites n (w64 (b.writes n + 1))) (s.1.put n data.2, s.2) := by
  refine ⟨h.limit, h.used, h.size, h.len, by simp [Dsk.put, h.wlen], h.on, fun i hi => ?_, fun e he => ?_, mset_nodup h.keys _ _, fun i hi => ?_, h.dead, h.failAt⟩
  · simp only [Dsk.put, Bk.setWrites, Bk.setWait]
    rw [mget_mset]
    by_cases e : i = n
    · subst e; simp
    · rw [if_neg e, if_neg (by omega), h.wait i hi]
  · rcases mset_in he with rfl | he
    · dsimp only; omega
    · exact h.out e he
  · simp only [Dsk.put, Bk.setWrites, Bk.setWait, Int.toNat_natCast]
    rw [List.getElem?_set]
    by_cases e : i = n
    · subst e
      obtain ⟨_, h'⟩ := List.getElem?_eq_some_iff.1 (h.writes i hi)
      simp [h.wlen, hi, List.getD, h']
    · rw [if_neg (fun x => e x.symm), if_neg e, h.writes i hi]
theorem Rel.act {b : Bk} {s : DP} (h : Rel b s) {k : Nat} (hk : k < 10) (i : Int) (fill : UInt8) (long : Bool) (keep : Nat) (data : Row) (f : Nat → Row) (hd : data.2 = List.replicate 3 fill) (hf : k = 9 → ∀ i, i < 6 → (f i).2 = [0, 0, 0]) :
    ∃ s', dact k i fill long keep s = .ok (((b.act k i long keep data f).1.1.map (·.2)).getD [], (b.act k i long keep data f).1.2) s' ∧ Rel (b.act k i long keep data f).2 s' := by
  obtain ⟨s1, hs1, hr1⟩ := h.step
  unfold dact Bk.act
  by_cases h2 : k < 2
  · rw [if_pos h2, if_pos h2]
    unfold dread
    rw [h.has]
    by_cases hi : 0 ≤ i ∧ i < 6
    · obtain ⟨n, rfl⟩ : ∃ n : Nat, i = n := ⟨i.toNat, by omega⟩
      rw [if_pos (by simpa using hi), if_pos hi, hs1]
      cases hdd : b.op.dead
      · refine ⟨s1, ?_, hr1⟩
        simp only [Out.bind_ok, Bool.false_eq_true, if_false, if_true]
        rw [hr1.see (by omega)]; rfl
      · exact ⟨s1, rfl, hr1⟩
    · rw [if_neg (by simpa using hi), if_neg hi]
      exact ⟨s, rfl, h⟩
  rw [if_neg h2, if_neg h2]
  by_cases h5 : k < 5
  · rw [if_pos h5, if_pos h5]
    unfold dwrite
    rw [h.has, h.size]
    by_cases hi : (0 ≤ i ∧ i < 6) ∧ long = false
    · obtain ⟨hi, rfl⟩ := hi
      obtain ⟨n, rfl⟩ : ∃ n : Nat, i = n := ⟨i.toNat, by omega⟩
      have hc : decide (0 ≤ (n : Int) ∧ (n : Int) < 6) = true ∧ ((List.replicate (if false = true then 4 else 3) fill).length : Int) = 3 := ⟨by simpa using hi, by simp⟩
      have hc2 : (0 ≤ (n : Int) ∧ (n : Int) < 6) ∧ false = false := ⟨hi, rfl⟩
      rw [if_pos hc, if_pos hc2, hs1]
      cases hdd : b.op.dead
      · refine ⟨(s1.1.put n data.2, s1.2), ?_, ?_⟩
        · rw [hd]; rfl
        · simp only [Bool.false_eq_true, if_false, Int.toNat_natCast]
          exact hr1.put (by omega) data
      · exact ⟨s1, rfl, hr1⟩
    · have hc : ¬ (decide (0 ≤ i ∧ i < 6) = true ∧ ((List.replicate (if long = true then 4 else 3) fill).length : Int) = 3) := by
        rintro ⟨a, c⟩
        refine hi ⟨by simpa using a, ?_⟩
        cases long
        · rfl
        · simp at c
      rw [if_neg hc, if_neg hi]
      exact ⟨s, rfl, h⟩
  rw [if_neg h5, if_neg h5]
  by_cases h5' : k = 5
  · rw [if_pos h5', if_pos h5']
    unfold dflush
    rw [hs1]
    cases hdd : b.op.dead
    · refine ⟨(s1.1.settle (fun _ => true), s1.2), rfl, ?_⟩
      refine hr1.settle _ _ (fun j hj _ => ?_)
      have := b.op.rank_le j
      obtain ⟨q, hq⟩ : ∃ q, q = b.op.rank j := ⟨_, rfl⟩
      rw [← hq] at this ⊢
      have : q < 6 := by omega
      rcases lt6 this with rfl | rfl | rfl | rfl | rfl | rfl <;> rfl
    · exact ⟨s1, rfl, hr1⟩
  rw [if_neg h5', if_neg h5']
  by_cases h6 : k = 6
  · rw [if_pos h6, if_pos h6]
    refine ⟨_, rfl, ?_⟩
    unfold Dsk.cycle
    refine h.settle keep _ (fun j hj hw => ?_)
    rw [h.waiting, waitsN_idx b 6 j hj hw]
    have := b.rank_le j
    unfold keepBit bitOf
    rw [show b.rank j % 64 = b.rank j from Nat.mod_eq_of_lt (by omega)]
  rw [if_neg h6, if_neg h6]
  by_cases h7 : k = 7
  · rw [if_pos h7, if_pos h7]
    refine ⟨_, rfl, h.limit, h.used, h.size, h.len, h.wlen, h.on, h.wait, h.out, h.keys, h.writes, h.dead, ?_⟩
    simp only [Dsk.failing]
    rw [h.used]
  rw [if_neg h7, if_neg h7]
  by_cases h8 : k = 8
  · rw [if_pos h8, if_pos h8]
    exact ⟨_, rfl, h.limit, h.used, h.size, h.len, h.wlen, h.on, h.wait, h.out, h.keys, h.writes, rfl, h.failAt⟩
  rw [if_neg h8, if_neg h8]
  refine ⟨_, rfl, h.limit, h.used, h.size, ?_, ?_, fun i hi => ?_, fun i hi => rfl, fun e he => (by cases he), List.nodup_nil, fun i hi => ?_, rfl, rfl⟩
  · simp [Dsk.anew, Dsk.blank, h.len]
  · simp [Dsk.anew, Dsk.blank, h.len]
  · simp only [Dsk.anew, Dsk.blank, h.len, h.size]
    rw [List.getElem?_replicate, if_pos hi]
    show _ = some (f i).2
    rw [hf (by omega) i hi]; rfl
  · simp only [Dsk.anew, Dsk.blank, h.len, h.size]
    rw [List.getElem?_replicate, if_pos hi]; rfl
end Go.Sl
