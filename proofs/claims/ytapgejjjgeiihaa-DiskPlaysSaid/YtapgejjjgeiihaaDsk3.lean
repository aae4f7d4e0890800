/- Disks: Flush; a blank disk. -/
import Derived.Test.YtapgejjjgeiihaaDsk2
namespace Go.Proofs.Ytapgejjjgeiihaa
open Go Go.Sl
attribute [local irreducible] Yl WL WC WQ WD

theorem toMapS {Γ Γ' : List HP} (b : Nat) {m : IMap Value} {h : Hp} [p : PickM Γ b m Γ'] (hs : Sat Γ h) : ∃ x : Array MapEntry × Nat, True ∧ Sat (MapS b x.1 x.2 m :: Γ') h := by
  obtain ⟨x, hx⟩ := MapI.ex.1 (p.pick _ hs)
  exact ⟨x, trivial, hx⟩
theorem nodup_bound {js : List Nat} (h : js.Nodup) {n : Nat} (hb : ∀ j ∈ js, j < n) : js.length ≤ n := by
  induction n generalizing js with
  | zero =>
    cases js with
    | nil => simp
    | cons j r => exact absurd (hb j (by simp)) (by omega)
  | succ n ih =>
    have h1 := ih (h.erase n) (fun j hj => by
      have h2 := (h.mem_erase_iff).1 hj
      have := hb j h2.2
      have := h2.1
      omega)
    by_cases hm : n ∈ js
    · rw [List.length_erase_of_mem hm] at h1; omega
    · rw [List.erase_of_not_mem hm] at h1; omega
theorem nodup_snoc {js : List Nat} {j : Nat} (h : js.Nodup) (hn : j ∉ js) : (js ++ [j]).Nodup := List.nodup_append.2 ⟨h, by simp, fun a ha b' hb' => by
  have : b' = j := by simpa using hb'
  subst this
  exact fun h => hn (h ▸ ha)⟩

/-- the keys that were met -/
def keysAt (m : Both) (js : List Nat) : List Int := js.filterMap fun j => (m[j]?).map (·.1)
theorem keysAt_snoc {m : Both} {js : List Nat} {j : Nat} {k : Int} {r : Row} (h : m[j]? = some (k, r)) : keysAt m (js ++ [j]) = keysAt m js ++ [k] := by
  simp [keysAt, h]
/-- the rows when the waiting ones of these keys were laid -/
def LaidOf (m : Both) (ks : List Int) (ons0 ons : List Row) : Prop := ons.length = ons0.length ∧ ∀ i : Nat, ons[i]? = if i < ons0.length ∧ (i : Int) ∈ ks then (mget m i) else ons0[i]?

theorem keysAt_mem {m : Both} (hn : (m.map (·.1)).Nodup) {js : List Nat} (hall : ∀ j, j < m.length → j ∈ js) (k : Int) : k ∈ keysAt m js ↔ (mget m k).isSome := by
  unfold keysAt
  rw [List.mem_filterMap]
  constructor
  · rintro ⟨j, _, hj⟩
    cases hm : m[j]? with
    | none => rw [hm] at hj; cases hj
    | some e =>
      rw [hm] at hj
      obtain rfl : e.1 = k := Option.some.inj hj
      rw [mget_of_mem hn (List.mem_of_getElem? hm)]; rfl
  · intro h
    obtain ⟨r, hr⟩ := Option.isSome_iff_exists.1 h
    obtain ⟨j, hj⟩ := List.getElem?_of_mem (mget_mem hr)
    exact ⟨j, hall j (List.getElem?_eq_some_iff.1 hj).1, by rw [hj]; rfl⟩
theorem vals_at {m : Both} {j : Nat} {e : Int × Value} (h : m.vals[j]? = some e) : ∃ r : Row, m[j]? = some (e.1, r) ∧ e.2 = r.1 := by
  unfold Both.vals at h
  rw [List.getElem?_map] at h
  cases hm : m[j]? with
  | none => rw [hm] at h; cases h
  | some q => rw [hm] at h; obtain rfl := Option.some.inj h; exact ⟨q.2, rfl, rfl⟩
theorem _root_.Go.Sl.Dsk.Ok.settle {d : Dsk} (h : d.Ok) (keep : Int → Bool) : (d.settle keep).Ok := by
  refine ⟨h.size0, h.size, by simpa [Dsk.settle] using h.many, by simpa [Dsk.settle] using h.writes, ?_, (fun e he => by cases he), (by simp [Dsk.settle])⟩
  intro b hb
  simp only [Dsk.settle, List.mem_mapIdx] at hb
  obtain ⟨i, hi, rfl⟩ := hb
  show (List.length _ : Int) = d.size
  split
  · cases hg : mget d.cache i with
    | none => exact h.on _ (List.getElem_mem hi)
    | some c => exact (h.cache _ (mget_mem hg)).2
  · exact h.on _ (List.getElem_mem hi)
/-- all that waited was laid -/
theorem LaidOf.settled {d : Dsk} {x : DV} (hf : DFits x d) {ks : List Int} {ons : List Row} (h : LaidOf x.cs ks x.ons ons) (keep : Int → Bool)
    (hk : ∀ k r, mget x.cs k = some r → (k ∈ ks ↔ keep k = true)) (hk2 : ∀ k ∈ ks, (mget x.cs k).isSome) : ons.map (·.2) = (d.settle keep).on := by
  have hc : ∀ k, mget d.cache k = (mget x.cs k).map (·.2) := fun k => by rw [← hf.cache, Both.data_get]
  refine List.ext_getElem? fun i => ?_
  simp only [Dsk.settle]
  rw [List.getElem?_map, h.2 i, List.getElem?_mapIdx, ← hf.on, List.getElem?_map]
  by_cases hi : i < x.ons.length
  · rw [List.getElem?_eq_getElem hi]
    cases hg : mget x.cs (i : Int) with
    | none =>
      have : ¬ (i : Int) ∈ ks := fun hm => by have := hk2 _ hm; rw [hg] at this; cases this
      rw [if_neg (fun h => this h.2)]
      simp [hc, hg]
    | some r =>
      have h1 := hk _ _ hg
      by_cases hm : (i : Int) ∈ ks
      · rw [if_pos ⟨hi, hm⟩]; simp [hc, hg, h1.1 hm]
      · rw [if_neg (fun h => hm h.2)]
        have : keep i = false := by cases hkk : keep i with
          | false => rfl
          | true => exact absurd (h1.2 hkk) hm
        simp [this]
  · rw [if_neg (fun h => hi h.1), List.getElem?_eq_none (by omega)]; rfl
theorem LaidOf.next {m : Both} {ks : List Int} {ons0 ons : List Row} (h : LaidOf m ks ons0 ons) {k : Int} {r : Row} (hg : mget m k = some r) (hk : 0 ≤ k) : LaidOf m (ks ++ [k]) ons0 (ons.set k.toNat r) := by
  refine ⟨by simp [h.1], fun i => ?_⟩
  rw [List.getElem?_set]
  by_cases hi : k.toNat = i
  · subst hi
    have hkk : (k.toNat : Int) = k := Int.toNat_of_nonneg hk
    rw [if_pos rfl, hkk]
    by_cases hlt : k.toNat < ons0.length
    · rw [if_pos (by rw [h.1]; exact hlt), if_pos ⟨hlt, by simp⟩, hg]
    · rw [if_neg (by rw [h.1]; exact hlt), if_neg (fun h => hlt h.1), List.getElem?_eq_none (by omega)]
  · rw [if_neg hi, h.2 i]
    have : ((i : Int) ∈ ks ++ [k]) ↔ (i : Int) ∈ ks := by
      rw [List.mem_append]
      constructor
      · rintro (h | h)
        · exact h
        · have : (i : Int) = k := by simpa using h
          omega
      · exact Or.inl
    simp only [this]

set_option maxHeartbeats 1000000 in
theorem dflush_spec (d pp : Nat) (s : DP) :
    SpecG Try.prog outage 52 [vp d] (fun _ => True) (fun s F => DiskAt d pp s.1 :: PowAt pp s.2 :: F) (dflush s) s (fun (_ : Unit) _ => True) (fun _ e => vi e) (fun _ _ F => F) := by
  (refine spec_of Try.func52 rfl Try.ntmps52 rfl (fun F w0 hrd => ?_))
  have hm : dflush s = (dstep s).bind fun e s => if e = 0 then .ok 0 (s.1.settle (fun _ => true), s.2) else .ok e s := rfl
  refine walk ?_
  refine gcall (step_spec d pp s) (fun s' hg => ⟨s', ?_, ?_⟩) (fun _ e s' hs _ => ?_)
  · rw [hm, hg]; rfl
  · exact ent
  rw [hs] at hm
  refine walk ?_
  refine wif_dec (fun he => ?_) (fun he => ?_) <;> refine walk ?_
  · exact wq_ret1 rfl rfl ((), e, s') rfl ⟨by rw [hm]; simp [he], trivial⟩ ent
  have he : e = 0 := by omega
  have hm : dflush s = .ok 0 (s'.1.settle (fun _ => true), s'.2) := by rw [hm]; simp [he]
  (first | refine WC.ex (fun y => DiskAt.opened) (fun x hf => ?_) | refine WL.ex (fun y => DiskAt.opened) (fun x hf => ?_) | refine WQ.ex (fun y => DiskAt.opened) (fun x hf => ?_))
  (first | refine WC.ex (fun y => (fun h => toMapS x.c h)) (fun es _h => ?_) | refine WL.ex (fun y => (fun h => toMapS x.c h)) (fun es _h => ?_) | refine WQ.ex (fun y => (fun h => toMapS x.c h)) (fun es _h => ?_))
  have hl : x.ons.length = s'.1.on.length := by have := congrArg List.length hf.on; simpa using this
  have hnd : (x.cs.map (·.1)).Nodup := by rw [← Both.data_keys, hf.cache]; exact hf.ok.keys
  have hlen : x.cs.vals.length = x.cs.length := by simp [Both.vals]
  refine walk ?_
  intro r
  refine walk ?_
  refine wc_loop (X := List Nat × List Row) (fun _ => [(0, vp d), (15, vp r)])
    (fun y => ItAt r x.c es.1 es.2 y.1 :: MapS x.c es.1 es.2 x.cs.vals :: DCells d pp x s'.1 :: Sl x.onv 1 (y.2.map (·.1)) :: Sl x.wv 1 (s'.1.writes.map vi) :: Pool x.rows :: PowAt pp s'.2 :: F)
    (fun y => (y.1.Nodup ∧ ∀ j ∈ y.1, j < x.cs.length) ∧ LaidOf x.cs (keysAt x.cs y.1) x.ons y.2 ∧ ∀ r ∈ y.2, r ∈ x.rows) (fun y => x.cs.length - y.1.length) ([], x.ons) ⟨⟨by simp, by simp⟩, ⟨rfl, fun i => by simp [keysAt]⟩, hf.mem⟩ envs perm (fun y hy => ?_)
  obtain ⟨js, ons⟩ := y
  dsimp only at hy ⊢
  obtain ⟨⟨hjn, hjb⟩, hlaid, hmem⟩ := hy
  refine walk ?_
  refine wl_next rfl rfl (fun hall => ?_) (fun j e he hnew => ?_)
  · refine walk ?_
    have hk1 := keysAt_mem hnd (js := js) (fun j hj => hall j (by omega))
    have hon := hlaid.settled hf (fun _ => true) (fun k r h => by rw [hk1, h]; simp) (fun k hk => (hk1 k).1 hk)
    refine wq_ret1 rfl rfl ((), 0, (s'.1.settle (fun _ => true), s'.2)) rfl ⟨hm, trivial⟩ ?_
    refine Ent.trans (Γ' := DCells d pp x s'.1 :: Sl x.onv 1 (ons.map (·.1)) :: Sl x.wv 1 (s'.1.writes.map vi) :: MapI x.c [] :: Pool x.rows :: PowAt pp s'.2 :: F) perm ?_
    exact (DiskAt.shut (s := s'.1.settle (fun _ => true)) { x with ons := ons, cs := [] } ⟨hf.ok.settle _, hon, rfl, hmem, (fun e he => by cases he)⟩)
  · obtain ⟨row, hrow, he2⟩ := vals_at he
    have hjm : j < x.cs.length := (List.getElem?_eq_some_iff.1 hrow).1
    have hg := mget_of_mem hnd (List.mem_of_getElem? hrow)
    have hkin := (hf.ok.cache (e.1, row.2) (by rw [← hf.cache]; exact List.mem_map.2 ⟨_, List.mem_of_getElem? hrow, rfl⟩)).1
    have hol := hlaid.1
    obtain ⟨k, v⟩ := e
    dsimp only at he2 hkin hg hrow ⊢
    subst he2
    haveI : RdIn (Pool x.rows :: PowAt pp s'.2 :: F) row.1 1 (row.2.map vb) := Pool.rdIn (hf.mem2 _ (List.mem_of_getElem? hrow))
    refine walk ?_
    dsimp only
    refine walk ?_
    have h1 := nodup_snoc hjn hnew
    have h2 : ∀ i ∈ js ++ [j], i < x.cs.length := fun i hi => by
      rcases List.mem_append.1 hi with hi | hi
      · exact hjb i hi
      · have : i = j := by simpa using hi
        omega
    refine wq_round (js ++ [j], ons.set k.toNat row) ⟨⟨h1, h2⟩, ?_, ?_⟩ ?_ envs ?_
    · dsimp only
      rw [keysAt_snoc hrow]
      exact hlaid.next hg hkin.1
    · intro r hr
      rcases List.mem_or_eq_of_mem_set hr with hr | rfl
      · exact hmem r hr
      · exact hf.mem2 _ (List.mem_of_getElem? hrow)
    · have h3 := nodup_bound h1 h2
      dsimp only
      simp at h3 ⊢
      omega
    · dsimp only
      rw [List.map_set]
      exact perm
end Go.Proofs.Ytapgejjjgeiihaa
