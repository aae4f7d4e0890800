/- xor.Of: bytes, bit by bit. -/
import Derived.Test.YtapgejjjgeiihaaDrw
import Derived.Test.YtapgejjjgeiihaaTab
import Derived.Test.YtapgejjjgeiihaaAm
namespace Go.Proofs.Ytapgejjjgeiihaa
open Go Go.Sl
attribute [local irreducible] Yl WL WC WQ WD

/-- the first of others are put onto bytes -/
def xorTo (j : Nat) (out b : Bytes) : Bytes := out.mapIdx fun i x => if i < j ∧ i < b.length then x ^^^ b.getD i 0 else x
theorem xorTo_zero (out b : Bytes) : xorTo 0 out b = out := by
  apply List.ext_getElem? ; intro i; simp [xorTo]
theorem xorTo_all (out b : Bytes) : xorTo b.length out b = xorIn out b := by
  apply List.ext_getElem? ; intro i; simp [xorTo, xorIn]
theorem xorTo_len (j : Nat) (out b : Bytes) : (xorTo j out b).length = out.length := by simp [xorTo]
theorem xorTo_next {j : Nat} {out b : Bytes} (hj : j < b.length) (ho : j < out.length) : (xorTo j out b).set j ((xorTo j out b)[j]'(by rw [xorTo_len]; exact ho) ^^^ b[j]) = xorTo (j + 1) out b := by
  apply List.ext_getElem (by simp [xorTo])
  intro i h1 h2
  rw [List.getElem_set]
  have h3 : i < out.length := by simpa [xorTo] using h2
  by_cases h : j = i
  · subst h; simp [xorTo, hj]
  · rw [if_neg h]
    simp only [xorTo, List.getElem_mapIdx]
    by_cases h4 : i < j
    · simp [h4, (by omega : i < j + 1)]
    · rw [if_neg (by omega), if_neg (by omega)]
theorem xorIn_len (out b : Bytes) : (xorIn out b).length = out.length := by simp [xorIn]
theorem longest_snoc (l : List Bytes) (b : Bytes) : longest (l ++ [b]) = max (longest l) b.length := by simp [longest]
theorem longest_le {l : List Bytes} {b : Bytes} (h : b ∈ l) : b.length ≤ longest l := by
  obtain ⟨s, t, rfl⟩ := List.append_of_mem h
  have h1 : ∀ (t : List Bytes) n, n ≤ t.foldl (fun n b => max n b.length) n := fun t => by
    induction t with
    | nil => intro n; simp
    | cons c t ih => intro n; simp only [List.foldl_cons]; exact Nat.le_trans (Nat.le_max_left _ _) (ih _)
  unfold longest
  rw [List.foldl_append, List.foldl_cons]
  exact Nat.le_trans (Nat.le_max_right _ _) (h1 t _)
theorem xors_len (l : List Bytes) (out : Bytes) : (l.foldl xorIn out).length = out.length := by
  induction l generalizing out with
  | nil => rfl
  | cons b l ih => rw [List.foldl_cons, ih, xorIn_len]

def xorUp (l : List Bytes) (k : Nat) : Bytes := (l.take k).foldl xorIn (List.replicate (longest l) 0)
theorem xorUp_zero (l : List Bytes) : xorUp l 0 = List.replicate (longest l) 0 := rfl
theorem xorUp_next {l : List Bytes} {k : Nat} (hk : k < l.length) : xorUp l (k + 1) = xorIn (xorUp l k) l[k] := by
  unfold xorUp
  rw [List.take_succ_eq_append_getElem hk, List.foldl_append]; rfl
theorem xorUp_all (l : List Bytes) : xorUp l l.length = xorOf l := by
  unfold xorUp xorOf
  rw [List.take_length]
theorem xorUp_len (l : List Bytes) (k : Nat) : (xorUp l k).length = longest l := by
  unfold xorUp
  rw [xors_len, List.length_replicate]
theorem xorOf_len (l : List Bytes) : (xorOf l).length = longest l := by rw [← xorUp_all, xorUp_len]

theorem xorOf_spec (v : Value) (rows : List Row) (hn : rows.length ≤ 1048576) (hb : ∀ r ∈ rows, r.2.length ≤ 1099511627776) :
    Spec0 Try.prog 74 [v] (fun h => Rd v 1 (rows.map (·.1)) h ∧ ∀ r ∈ rows, Rd r.1 1 (r.2.map vb) h) (fun F => F) (fun _ : Value => True) (fun r => r) (fun r F => SlB r (xorOf (rows.map (·.2))) :: F) := by
  (refine spec_of Try.func74 rfl Try.ntmps74 rfl (fun F w0 hrd => ?_))
  haveI : RdIn F v 1 (rows.map (·.1)) := ⟨fun h hs => (hrd h hs).1⟩
  have hrow : ∀ r ∈ rows, RdIn F r.1 1 (r.2.map vb) := fun r hr => ⟨fun h hs => (hrd h hs).2 r hr⟩
  have hlen : ∀ k, longest ((rows.take k).map (·.2)) ≤ 1099511627776 := fun k => by
    induction k with
    | zero => simp [longest]
    | succ k ih =>
      by_cases hk : k < rows.length
      · rw [List.take_succ_eq_append_getElem hk, List.map_append, List.map_singleton, longest_snoc]
        have := hb _ (List.getElem_mem hk)
        omega
      · rwa [List.take_of_length_le (by omega), ← List.take_of_length_le (l := rows) (i := k) (by omega)]
  refine walk ?_
  refine wc_loop (X := Nat) (fun k => [(0, v), (3, vi (longest ((rows.take k).map (·.2)) : Nat)), (11, v), (12, vi rows.length), (13, vi k)]) (fun _ => F) (fun k => k ≤ rows.length) (fun k => rows.length - k) 0 (by omega) envs perm (fun k hk => ?_)
  refine walk ?_
  refine wif_dec (fun hlt => ?_) (fun hlt => ?_)
  · have hlt : k < rows.length := by omega
    have htake := List.take_succ_eq_append_getElem hlt
    have hr := List.getElem_mem hlt
    refine walk ?_
    generalize rows[k] = r at *
    haveI := hrow r hr
    refine walk ?_
    refine wq_round (k + 1) (by omega) (by omega) ?_ perm
    rw [htake, List.map_append, List.map_singleton, longest_snoc, show ((max (longest ((rows.take k).map (·.2))) r.2.length : Nat) : Int) = max (longest ((rows.take k).map (·.2)) : Int) r.2.length from by omega]
    exact envs
  · have hk' : k = rows.length := by omega
    subst hk'
    rw [List.take_length]
    have hle := hlen rows.length
    rw [List.take_length] at hle
    refine walk ?_
    intro o _ _
    rw [Int.toNat_natCast]
    refine walk ?_
    have hl : (rows.map (·.2)).length = rows.length := by simp
    refine wc_loop (X := Nat) (fun k => [(6, o), (24, v), (25, vi rows.length), (26, vi k)]) (fun k => SlB o (xorUp (rows.map (·.2)) k) :: F) (fun k => k ≤ rows.length) (fun k => rows.length - k) 0 (by omega) envs (by rw [xorUp_zero]; exact perm) (fun k hk => ?_)
    have hzk := xorUp_len (rows.map (·.2)) k
    refine walk ?_
    refine wif_dec (fun hlt => ?_) (fun hlt => ?_)
    · have hlt : k < rows.length := by omega
      have hnext := xorUp_next (l := rows.map (·.2)) (k := k) (by omega)
      rw [List.getElem_map] at hnext
      have hr := List.getElem_mem hlt
      have hll : rows[k].2.length ≤ longest (rows.map (·.2)) := longest_le (List.mem_map.2 ⟨_, hr, rfl⟩)
      have hb1 := hb _ hr
      refine walk ?_
      generalize rows[k] = r at *
      haveI := hrow r hr
      refine walk ?_
      refine wc_loop (X := Nat) (fun j => [(6, o), (24, v), (25, vi rows.length), (26, vi k), (30, r.1), (31, vi r.2.length), (32, vi j)]) (fun j => SlB o (xorTo j (xorUp (rows.map (·.2)) k) r.2) :: F) (fun j => j ≤ r.2.length) (fun j => r.2.length - j) 0 (by omega) envs (by rw [xorTo_zero]; exact perm) (fun j hj => ?_)
      have hzj := xorTo_len j (xorUp (rows.map (·.2)) k) r.2
      refine walk ?_
      refine wif_dec (fun hlt => ?_) (fun hlt => ?_)
      · have hlt : j < r.2.length := by omega
        have hjo : j < (xorTo j (xorUp (rows.map (·.2)) k) r.2).length := by omega
        have hset := xorTo_next (out := xorUp (rows.map (·.2)) k) hlt (by omega)
        refine walk ?_
        refine wq_round (j + 1) (by omega) (by omega) envs ?_
        rw [← hset]
        exact Ent.refl
      · have hj' : j = r.2.length := by omega
        subst hj'
        rw [xorTo_all, ← hnext]
        refine walk ?_
        exact wq_round (k + 1) (by omega) (by omega) envs perm
    · have hk' : k = rows.length := by omega
      subst hk'
      have hall := xorUp_all (rows.map (·.2))
      rw [hl] at hall
      rw [hall]
      refine walk ?_
      exact wq_ret1 rfl rfl o rfl trivial perm
end Go.Proofs.Ytapgejjjgeiihaa
