/- several texts, one behind the other -/
import Derived.Test.YtohienhoifgmaaaGreatP15
import Derived.Test.YtohienhoifgmaaaGreatP08

section
/- Disks: Flush; a blank disk. -/
namespace Go.Proofs.YtohienhoifgmaaaGreat
open Go Go.Sl
attribute [local irreducible] Yl WL WC WQ WD

theorem toMapS {Γ Γ' : List HP} (b : Nat) {m : IMap Value} {h : Hp} [p : PickM Γ b m Γ'] (hs : Sat Γ h) : ∃ x : Array MapEntry × Nat, True ∧ Sat (MapS b x.1 x.2 m :: Γ') h := by
  obtain ⟨x, hx⟩ := MapI.ex.1 (p.pick _ hs)
  exact ⟨x, trivial, hx⟩
theorem nodup_bound {js : List Nat} (h : js.Nodup) {n : Nat} (hb : ∀ j ∈ js, j < n) : js.length ≤ n := by
  induction n generalizing js with
  | zero =>
    cases js with
    | nil => simp
    | cons j r => exact absurd (hb j (by simp)) (by omega)
  | succ n ih =>
    have h1 := ih (h.erase n) (fun j hj => by
      have h2 := (h.mem_erase_iff).1 hj
      have := hb j h2.2
      have := h2.1
      omega)
    by_cases hm : n ∈ js
    · rw [List.length_erase_of_mem hm] at h1; omega
    · rw [List.erase_of_not_mem hm] at h1; omega
theorem nodup_snoc {js : List Nat} {j : Nat} (h : js.Nodup) (hn : j ∉ js) : (js ++ [j]).Nodup := List.nodup_append.2 ⟨h, by simp, fun a ha b' hb' => by
  have : b' = j := by simpa using hb'
  subst this
  exact fun h => hn (h ▸ ha)⟩

/-- the keys that were met -/
def keysAt (m : Both) (js : List Nat) : List Int := js.filterMap fun j => (m[j]?).map (·.1)
theorem keysAt_snoc {m : Both} {js : List Nat} {j : Nat} {k : Int} {r : Row} (h : m[j]? = some (k, r)) : keysAt m (js ++ [j]) = keysAt m js ++ [k] := by
  simp [keysAt, h]
/-- the rows when the waiting ones of these keys were laid -/
def LaidOf (m : Both) (ks : List Int) (ons0 ons : List Row) : Prop := ons.length = ons0.length ∧ ∀ i : Nat, ons[i]? = if i < ons0.length ∧ (i : Int) ∈ ks then (mget m i) else ons0[i]?

theorem keysAt_mem {m : Both} (hn : (m.map (·.1)).Nodup) {js : List Nat} (hall : ∀ j, j < m.length → j ∈ js) (k : Int) : k ∈ keysAt m js ↔ (mget m k).isSome := by
  unfold keysAt
  rw [List.mem_filterMap]
  constructor
  · rintro ⟨j, _, hj⟩
    cases hm : m[j]? with
    | none => rw [hm] at hj; cases hj
    | some e =>
      rw [hm] at hj
      obtain rfl : e.1 = k := Option.some.inj hj
      rw [mget_of_mem hn (List.mem_of_getElem? hm)]; rfl
  · intro h
    obtain ⟨r, hr⟩ := Option.isSome_iff_exists.1 h
    obtain ⟨j, hj⟩ := List.getElem?_of_mem (mget_mem hr)
    exact ⟨j, hall j (List.getElem?_eq_some_iff.1 hj).1, by rw [hj]; rfl⟩
theorem vals_at {m : Both} {j : Nat} {e : Int × Value} (h : m.vals[j]? = some e) : ∃ r : Row, m[j]? = some (e.1, r) ∧ e.2 = r.1 := by
  unfold Both.vals at h
  rw [List.getElem?_map] at h
  cases hm : m[j]? with
  | none => rw [hm] at h; cases h
  | some q => rw [hm] at h; obtain rfl := Option.some.inj h; exact ⟨q.2, rfl, rfl⟩
theorem _root_.Go.Sl.Dsk.Ok.settle {d : Dsk} (h : d.Ok) (keep : Int → Bool) : (d.settle keep).Ok := by
  refine ⟨h.size0, h.size, by simpa [Dsk.settle] using h.many, by simpa [Dsk.settle] using h.writes, ?_, (fun e he => by cases he), (by simp [Dsk.settle])⟩
  intro b hb
  simp only [Dsk.settle, List.mem_mapIdx] at hb
  obtain ⟨i, hi, rfl⟩ := hb
  show (List.length _ : Int) = d.size
  split
  · cases hg : mget d.cache i with
    | none => exact h.on _ (List.getElem_mem hi)
    | some c => exact (h.cache _ (mget_mem hg)).2
  · exact h.on _ (List.getElem_mem hi)
/-- all that waited was laid -/
theorem LaidOf.settled {d : Dsk} {x : DV} (hf : DFits x d) {ks : List Int} {ons : List Row} (h : LaidOf x.cs ks x.ons ons) (keep : Int → Bool)
    (hk : ∀ k r, mget x.cs k = some r → (k ∈ ks ↔ keep k = true)) (hk2 : ∀ k ∈ ks, (mget x.cs k).isSome) : ons.map (·.2) = (d.settle keep).on := by
  have hc : ∀ k, mget d.cache k = (mget x.cs k).map (·.2) := fun k => by rw [← hf.cache, Both.data_get]
  refine List.ext_getElem? fun i => ?_
  simp only [Dsk.settle]
  rw [List.getElem?_map, h.2 i, List.getElem?_mapIdx, ← hf.on, List.getElem?_map]
  by_cases hi : i < x.ons.length
  · rw [List.getElem?_eq_getElem hi]
    cases hg : mget x.cs (i : Int) with
    | none =>
      have : ¬ (i : Int) ∈ ks := fun hm => by have := hk2 _ hm; rw [hg] at this; cases this
      rw [if_neg (fun h => this h.2)]
      simp [hc, hg]
    | some r =>
      have h1 := hk _ _ hg
      by_cases hm : (i : Int) ∈ ks
      · rw [if_pos ⟨hi, hm⟩]; simp [hc, hg, h1.1 hm]
      · rw [if_neg (fun h => hm h.2)]
        have : keep i = false := by cases hkk : keep i with
          | false => rfl
          | true => exact absurd (h1.2 hkk) hm
        simp [this]
  · rw [if_neg (fun h => hi h.1), List.getElem?_eq_none (by omega)]; rfl
theorem LaidOf.next {m : Both} {ks : List Int} {ons0 ons : List Row} (h : LaidOf m ks ons0 ons) {k : Int} {r : Row} (hg : mget m k = some r) (hk : 0 ≤ k) : LaidOf m (ks ++ [k]) ons0 (ons.set k.toNat r) := by
  refine ⟨by simp [h.1], fun i => ?_⟩
  rw [List.getElem?_set]
  by_cases hi : k.toNat = i
  · subst hi
    have hkk : (k.toNat : Int) = k := Int.toNat_of_nonneg hk
    rw [if_pos rfl, hkk]
    by_cases hlt : k.toNat < ons0.length
    · rw [if_pos (by rw [h.1]; exact hlt), if_pos ⟨hlt, by simp⟩, hg]
    · rw [if_neg (by rw [h.1]; exact hlt), if_neg (fun h => hlt h.1), List.getElem?_eq_none (by omega)]
  · rw [if_neg hi, h.2 i]
    have : ((i : Int) ∈ ks ++ [k]) ↔ (i : Int) ∈ ks := by
      rw [List.mem_append]
      constructor
      · rintro (h | h)
        · exact h
        · have : (i : Int) = k := by simpa using h
          omega
      · exact Or.inl
    simp only [this]

set_option maxHeartbeats 1000000 in
theorem dflush_spec (d pp : Nat) (s : DP) :
    SpecG Tryz.prog outage 196 [vp d] (fun _ => True) (fun s F => DiskAt d pp s.1 :: PowAt pp s.2 :: F) (dflush s) s (fun (_ : Unit) _ => True) (fun _ e => vi e) (fun _ _ F => F) := by
  (refine spec_of Tryz.func196 rfl Tryz.ntmps196 rfl (fun F w0 hrd => ?_))
  have hm : dflush s = (dstep s).bind fun e s => if e = 0 then .ok 0 (s.1.settle (fun _ => true), s.2) else .ok e s := rfl
  refine walk ?_
  refine gcall (step_spec d pp s) (fun s' hg => ⟨s', ?_, ?_⟩) (fun _ e s' hs _ => ?_)
  · rw [hm, hg]; rfl
  · exact ent
  rw [hs] at hm
  refine walk ?_
  refine wif_dec (fun he => ?_) (fun he => ?_) <;> refine walk ?_
  · exact wq_ret1 rfl rfl ((), e, s') rfl ⟨by rw [hm]; simp [he], trivial⟩ ent
  have he : e = 0 := by omega
  have hm : dflush s = .ok 0 (s'.1.settle (fun _ => true), s'.2) := by rw [hm]; simp [he]
  (first | refine WC.ex (fun y => DiskAt.opened) (fun x hf => ?_) | refine WL.ex (fun y => DiskAt.opened) (fun x hf => ?_) | refine WQ.ex (fun y => DiskAt.opened) (fun x hf => ?_))
  (first | refine WC.ex (fun y => (fun h => toMapS x.c h)) (fun es _h => ?_) | refine WL.ex (fun y => (fun h => toMapS x.c h)) (fun es _h => ?_) | refine WQ.ex (fun y => (fun h => toMapS x.c h)) (fun es _h => ?_))
  have hl : x.ons.length = s'.1.on.length := by have := congrArg List.length hf.on; simpa using this
  have hnd : (x.cs.map (·.1)).Nodup := by rw [← Both.data_keys, hf.cache]; exact hf.ok.keys
  have hlen : x.cs.vals.length = x.cs.length := by simp [Both.vals]
  refine walk ?_
  intro r
  refine walk ?_
  refine wc_loop (X := List Nat × List Row) (fun _ => [(0, vp d), (15, vp r)])
    (fun y => ItAt r x.c es.1 es.2 y.1 :: MapS x.c es.1 es.2 x.cs.vals :: DCells d pp x s'.1 :: Sl x.onv 1 (y.2.map (·.1)) :: Sl x.wv 1 (s'.1.writes.map vi) :: Pool x.rows :: PowAt pp s'.2 :: F)
    (fun y => (y.1.Nodup ∧ ∀ j ∈ y.1, j < x.cs.length) ∧ LaidOf x.cs (keysAt x.cs y.1) x.ons y.2 ∧ ∀ r ∈ y.2, r ∈ x.rows) (fun y => x.cs.length - y.1.length) ([], x.ons) ⟨⟨by simp, by simp⟩, ⟨rfl, fun i => by simp [keysAt]⟩, hf.mem⟩ envs perm (fun y hy => ?_)
  obtain ⟨js, ons⟩ := y
  dsimp only at hy ⊢
  obtain ⟨⟨hjn, hjb⟩, hlaid, hmem⟩ := hy
  refine walk ?_
  refine wl_next rfl rfl (fun hall => ?_) (fun j e he hnew => ?_)
  · refine walk ?_
    have hk1 := keysAt_mem hnd (js := js) (fun j hj => hall j (by omega))
    have hon := hlaid.settled hf (fun _ => true) (fun k r h => by rw [hk1, h]; simp) (fun k hk => (hk1 k).1 hk)
    refine wq_ret1 rfl rfl ((), 0, (s'.1.settle (fun _ => true), s'.2)) rfl ⟨hm, trivial⟩ ?_
    refine Ent.trans (Γ' := DCells d pp x s'.1 :: Sl x.onv 1 (ons.map (·.1)) :: Sl x.wv 1 (s'.1.writes.map vi) :: MapI x.c [] :: Pool x.rows :: PowAt pp s'.2 :: F) perm ?_
    exact (DiskAt.shut (s := s'.1.settle (fun _ => true)) { x with ons := ons, cs := [] } ⟨hf.ok.settle _, hon, rfl, hmem, (fun e he => by cases he)⟩)
  · obtain ⟨row, hrow, he2⟩ := vals_at he
    have hjm : j < x.cs.length := (List.getElem?_eq_some_iff.1 hrow).1
    have hg := mget_of_mem hnd (List.mem_of_getElem? hrow)
    have hkin := (hf.ok.cache (e.1, row.2) (by rw [← hf.cache]; exact List.mem_map.2 ⟨_, List.mem_of_getElem? hrow, rfl⟩)).1
    have hol := hlaid.1
    obtain ⟨k, v⟩ := e
    dsimp only at he2 hkin hg hrow ⊢
    subst he2
    haveI : RdIn (Pool x.rows :: PowAt pp s'.2 :: F) row.1 1 (row.2.map vb) := Pool.rdIn (hf.mem2 _ (List.mem_of_getElem? hrow))
    refine walk ?_
    dsimp only
    refine walk ?_
    have h1 := nodup_snoc hjn hnew
    have h2 : ∀ i ∈ js ++ [j], i < x.cs.length := fun i hi => by
      rcases List.mem_append.1 hi with hi | hi
      · exact hjb i hi
      · have : i = j := by simpa using hi
        omega
    refine wq_round (js ++ [j], ons.set k.toNat row) ⟨⟨h1, h2⟩, ?_, ?_⟩ ?_ envs ?_
    · dsimp only
      rw [keysAt_snoc hrow]
      exact hlaid.next hg hkin.1
    · intro r hr
      rcases List.mem_or_eq_of_mem_set hr with hr | rfl
      · exact hmem r hr
      · exact hf.mem2 _ (List.mem_of_getElem? hrow)
    · have h3 := nodup_bound h1 h2
      dsimp only
      simp at h3 ⊢
      omega
    · dsimp only
      rw [List.map_set]
      exact perm
end Go.Proofs.YtohienhoifgmaaaGreat
end

section
/- Operations of one statement that may be done in any order: one goal for each that may be the next. No program. -/
namespace Go.Sl
open Go
section fork
variable {P : Program} {Q : Exit → Act → World → Prop} {w0 : World} {n : Nat} {env : Env} {Γ : List HP} {ops : Array Oper} {fuel : Nat} {L : Obl} {listed : Array Bool}
theorem fork {l : List Nat} (hr : Region.ready .any ops listed = l) (hne : l ≠ [])
    (h : ∀ i ∈ l, ∃ o, ops[i]? = some o ∧ WL P ops [o] (DrawQ P ops fuel L (listed.setIfInBounds i true) Q) w0 n env Γ) : WD P ops Q (fuel + 1) L listed w0 n env Γ := fun a w s ho => by
  refine ⟨ho, fun h0 => absurd (hr ▸ h0) hne, fun j hj => ?_⟩
  rw [hr] at hj
  obtain ⟨o, hi, h1⟩ := h j hj
  exact wpOp_mono (fun a' w' h' => wpAnyL_mono _ _ _ _ _ _ (fun q hq => .inl (List.mem_filter.1 hq).1) h') (wpOp_of_list hi (h1 a w s))
theorem fork2 (i j : Nat) {oi oj : Oper} (h1 : WL P ops [oi] (DrawQ P ops fuel L (listed.setIfInBounds i true) Q) w0 n env Γ)
    (h2 : WL P ops [oj] (DrawQ P ops fuel L (listed.setIfInBounds j true) Q) w0 n env Γ) (hr : Region.ready .any ops listed = [i, j] := by kernel_rfl) (hi : ops[i]? = some oi := by rfl) (hj : ops[j]? = some oj := by rfl) : WD P ops Q (fuel + 1) L listed w0 n env Γ :=
  fork hr (by simp) fun q hq => by
    have : q = i ∨ q = j := by simpa using hq
    rcases this with rfl | rfl
    · exact ⟨_, hi, h1⟩
    · exact ⟨_, hj, h2⟩
theorem fork3 (i j k : Nat) {oi oj ok : Oper} (h1 : WL P ops [oi] (DrawQ P ops fuel L (listed.setIfInBounds i true) Q) w0 n env Γ)
    (h2 : WL P ops [oj] (DrawQ P ops fuel L (listed.setIfInBounds j true) Q) w0 n env Γ)
    (h3 : WL P ops [ok] (DrawQ P ops fuel L (listed.setIfInBounds k true) Q) w0 n env Γ) (hr : Region.ready .any ops listed = [i, j, k] := by kernel_rfl) (hi : ops[i]? = some oi := by rfl) (hj : ops[j]? = some oj := by rfl) (hk : ops[k]? = some ok := by rfl) : WD P ops Q (fuel + 1) L listed w0 n env Γ :=
  fork hr (by simp) fun q hq => by
    have : q = i ∨ q = j ∨ q = k := by simpa using hq
    rcases this with rfl | rfl | rfl
    · exact ⟨_, hi, h1⟩
    · exact ⟨_, hj, h2⟩
    · exact ⟨_, hk, h3⟩
theorem fork4 (i j k l : Nat) {oi oj ok ol : Oper} (h1 : WL P ops [oi] (DrawQ P ops fuel L (listed.setIfInBounds i true) Q) w0 n env Γ)
    (h2 : WL P ops [oj] (DrawQ P ops fuel L (listed.setIfInBounds j true) Q) w0 n env Γ)
    (h3 : WL P ops [ok] (DrawQ P ops fuel L (listed.setIfInBounds k true) Q) w0 n env Γ)
    (h4 : WL P ops [ol] (DrawQ P ops fuel L (listed.setIfInBounds l true) Q) w0 n env Γ) (hr : Region.ready .any ops listed = [i, j, k, l] := by kernel_rfl) (hi : ops[i]? = some oi := by rfl) (hj : ops[j]? = some oj := by rfl) (hk : ops[k]? = some ok := by rfl) (hl : ops[l]? = some ol := by rfl) : WD P ops Q (fuel + 1) L listed w0 n env Γ :=
  fork hr (by simp) fun q hq => by
    have : q = i ∨ q = j ∨ q = k ∨ q = l := by simpa using hq
    rcases this with rfl | rfl | rfl | rfl
    · exact ⟨_, hi, h1⟩
    · exact ⟨_, hj, h2⟩
    · exact ⟨_, hk, h3⟩
    · exact ⟨_, hl, h4⟩
/-- all ways through a piece of code meet -/
theorem wc_join {x : Code} {K : Act → World → Prop} {X : Type} (env' : X → Env) (Γ' : X → List HP) (φ : X → Prop)
    (h : WC P x (Exit.then (fun a w => ∃ x, φ x ∧ St w0 n (env' x) (Γ' x) a w) Q) w0 n env Γ)
    (k : ∀ x, φ x → WQ (Exit.then K Q) .normal w0 n (env' x) (Γ' x)) : WC P x (Exit.then K Q) w0 n env Γ := fun a w s =>
  Code.wp_mono (fun e a w q => by
    cases e with
    | normal => obtain ⟨x, hx, hs⟩ := q; exact k x hx a w hs
    | exit i => exact q
    | goto l => exact q
    | ret => exact q
    | panic c => exact q
    | outgrown => exact q) (h a w s)
end fork
end Go.Sl
end

section
/- Disks: a blank one. -/
namespace Go.Proofs.YtohienhoifgmaaaGreat
open Go Go.Sl
attribute [local irreducible] Yl WL WC WQ WD

set_option maxHeartbeats 4000000 in
/-- a slice of new slices of noughts -/
theorem blank_spec (d pp : Nat) (n : Int) (hn : 0 ≤ n ∧ n ≤ 1073741824) (size : Int) (hs : 0 ≤ size ∧ size ≤ 1099511627776) (v2 v3 v4 v5 v6 : Value) :
    Spec0 Tryz.prog 146 [vp d, vi n] (fun _ => True) (fun F => Cells d [vp pp, vi size, v2, v3, v4, v5, v6] :: F) (fun y : Value × Nat × Value × List Value => y.2.2.2.length = n.toNat) (fun _ => .tuple #[])
      (fun y F => Cells d [vp pp, vi size, y.1, .map (some y.2.1), y.2.2.1, v5, v6] :: Sl y.1 1 y.2.2.2 :: Sl y.2.2.1 1 ((List.replicate n.toNat (0 : Int)).map vi) :: MapI y.2.1 [] :: Pool (y.2.2.2.map fun v => (v, List.replicate size.toNat 0)) :: F) := by
  (refine spec_of Tryz.func146 rfl Tryz.ntmps146 rfl (fun F w0 hrd => ?_))
  refine walk ?_
  refine wc_join (X := Value × Nat × Value) (fun _ => [(0, vp d), (1, vi n)]) (fun y => Cells d [vp pp, vi size, y.1, .map (some y.2.1), y.2.2, v5, v6] :: Sl y.1 1 (List.replicate n.toNat (.slice none 0 0)) :: Sl y.2.2 1 (List.replicate n.toNat (vi 0)) :: MapI y.2.1 [] :: F) (fun _ => True) ?_ (fun y _ => ?_)
  refine draw ?_; refine dy 0 ?_; refine dy 1 ?_; refine dy 2 ?_; refine dy 3 ?_; refine dy 6 ?_; refine fork3 4 5 7 ?_ ?_ ?_
  · (first | refine wl_makeb rfl (by omega) (by omega) (by omega) rfl (fun v9 hl9 hn9 => ?_) | refine wl_make1 rfl (by omega) (by omega) (by omega) (by rfl) rfl (fun v9 hl9 hn9 => ?_)); refine wl_nil ?_; refine wq_draw ?_
    refine dy 8 ?_; refine dy 9 ?_; refine fork3 5 7 10 ?_ ?_ ?_
    · refine wl_makeMap rfl (fun v10 => ?_); refine wl_nil ?_; refine wq_draw ?_
      refine fork2 7 10 ?_ ?_
      · (first | refine wl_makeb rfl (by omega) (by omega) (by omega) rfl (fun v12 hl12 hn12 => ?_) | refine wl_make1 rfl (by omega) (by omega) (by omega) (by rfl) rfl (fun v12 hl12 hn12 => ?_)); refine wl_nil ?_; refine wq_draw ?_
        refine ddo 10 ?_; (first | (refine wl_store rfl rfl rfl (by decide) ?_; refine wl_nil ?_; refine wq_draw ?_) | refine walk ?_); refine dy 11 ?_; refine dy 12 ?_; refine ddo 13 ?_; (first | (refine wl_store rfl rfl rfl (by decide) ?_; refine wl_nil ?_; refine wq_draw ?_) | refine walk ?_); refine dy 14 ?_; refine dy 15 ?_; refine ddo 16 ?_; refine walk ?_; (refine wq_meet _ _ _ (v9, v10, v12) trivial envs perm)
      · (first | (refine wl_store rfl rfl rfl (by decide) ?_; refine wl_nil ?_; refine wq_draw ?_) | refine walk ?_)
        refine dy 11 ?_; refine dy 12 ?_; refine fork2 7 13 ?_ ?_
        · (first | refine wl_makeb rfl (by omega) (by omega) (by omega) rfl (fun v12 hl12 hn12 => ?_) | refine wl_make1 rfl (by omega) (by omega) (by omega) (by rfl) rfl (fun v12 hl12 hn12 => ?_)); refine wl_nil ?_; refine wq_draw ?_
          refine ddo 13 ?_; (first | (refine wl_store rfl rfl rfl (by decide) ?_; refine wl_nil ?_; refine wq_draw ?_) | refine walk ?_); refine dy 14 ?_; refine dy 15 ?_; refine ddo 16 ?_; refine walk ?_; (refine wq_meet _ _ _ (v9, v10, v12) trivial envs perm)
        · (first | (refine wl_store rfl rfl rfl (by decide) ?_; refine wl_nil ?_; refine wq_draw ?_) | refine walk ?_)
          refine ddo 7 ?_; (first | refine wl_makeb rfl (by omega) (by omega) (by omega) rfl (fun v12 hl12 hn12 => ?_) | refine wl_make1 rfl (by omega) (by omega) (by omega) (by rfl) rfl (fun v12 hl12 hn12 => ?_)); refine wl_nil ?_; refine wq_draw ?_; refine dy 14 ?_; refine dy 15 ?_; refine ddo 16 ?_; refine walk ?_; (refine wq_meet _ _ _ (v9, v10, v12) trivial envs perm)
    · (first | refine wl_makeb rfl (by omega) (by omega) (by omega) rfl (fun v12 hl12 hn12 => ?_) | refine wl_make1 rfl (by omega) (by omega) (by omega) (by rfl) rfl (fun v12 hl12 hn12 => ?_)); refine wl_nil ?_; refine wq_draw ?_
      refine fork2 5 10 ?_ ?_
      · refine wl_makeMap rfl (fun v10 => ?_); refine wl_nil ?_; refine wq_draw ?_
        refine ddo 10 ?_; (first | (refine wl_store rfl rfl rfl (by decide) ?_; refine wl_nil ?_; refine wq_draw ?_) | refine walk ?_); refine dy 11 ?_; refine dy 12 ?_; refine ddo 13 ?_; (first | (refine wl_store rfl rfl rfl (by decide) ?_; refine wl_nil ?_; refine wq_draw ?_) | refine walk ?_); refine dy 14 ?_; refine dy 15 ?_; refine ddo 16 ?_; refine walk ?_; (refine wq_meet _ _ _ (v9, v10, v12) trivial envs perm)
      · (first | (refine wl_store rfl rfl rfl (by decide) ?_; refine wl_nil ?_; refine wq_draw ?_) | refine walk ?_)
        refine ddo 5 ?_; refine wl_makeMap rfl (fun v10 => ?_); refine wl_nil ?_; refine wq_draw ?_; refine dy 11 ?_; refine dy 12 ?_; refine ddo 13 ?_; (first | (refine wl_store rfl rfl rfl (by decide) ?_; refine wl_nil ?_; refine wq_draw ?_) | refine walk ?_); refine dy 14 ?_; refine dy 15 ?_; refine ddo 16 ?_; refine walk ?_; (refine wq_meet _ _ _ (v9, v10, v12) trivial envs perm)
    · (first | (refine wl_store rfl rfl rfl (by decide) ?_; refine wl_nil ?_; refine wq_draw ?_) | refine walk ?_)
      refine fork2 5 7 ?_ ?_
      · refine wl_makeMap rfl (fun v10 => ?_); refine wl_nil ?_; refine wq_draw ?_
        refine dy 11 ?_; refine dy 12 ?_; refine fork2 7 13 ?_ ?_
        · (first | refine wl_makeb rfl (by omega) (by omega) (by omega) rfl (fun v12 hl12 hn12 => ?_) | refine wl_make1 rfl (by omega) (by omega) (by omega) (by rfl) rfl (fun v12 hl12 hn12 => ?_)); refine wl_nil ?_; refine wq_draw ?_
          refine ddo 13 ?_; (first | (refine wl_store rfl rfl rfl (by decide) ?_; refine wl_nil ?_; refine wq_draw ?_) | refine walk ?_); refine dy 14 ?_; refine dy 15 ?_; refine ddo 16 ?_; refine walk ?_; (refine wq_meet _ _ _ (v9, v10, v12) trivial envs perm)
        · (first | (refine wl_store rfl rfl rfl (by decide) ?_; refine wl_nil ?_; refine wq_draw ?_) | refine walk ?_)
          refine ddo 7 ?_; (first | refine wl_makeb rfl (by omega) (by omega) (by omega) rfl (fun v12 hl12 hn12 => ?_) | refine wl_make1 rfl (by omega) (by omega) (by omega) (by rfl) rfl (fun v12 hl12 hn12 => ?_)); refine wl_nil ?_; refine wq_draw ?_; refine dy 14 ?_; refine dy 15 ?_; refine ddo 16 ?_; refine walk ?_; (refine wq_meet _ _ _ (v9, v10, v12) trivial envs perm)
      · (first | refine wl_makeb rfl (by omega) (by omega) (by omega) rfl (fun v12 hl12 hn12 => ?_) | refine wl_make1 rfl (by omega) (by omega) (by omega) (by rfl) rfl (fun v12 hl12 hn12 => ?_)); refine wl_nil ?_; refine wq_draw ?_
        refine ddo 5 ?_; refine wl_makeMap rfl (fun v10 => ?_); refine wl_nil ?_; refine wq_draw ?_; refine dy 11 ?_; refine dy 12 ?_; refine ddo 13 ?_; (first | (refine wl_store rfl rfl rfl (by decide) ?_; refine wl_nil ?_; refine wq_draw ?_) | refine walk ?_); refine dy 14 ?_; refine dy 15 ?_; refine ddo 16 ?_; refine walk ?_; (refine wq_meet _ _ _ (v9, v10, v12) trivial envs perm)
  · refine wl_makeMap rfl (fun v10 => ?_); refine wl_nil ?_; refine wq_draw ?_
    refine fork2 4 7 ?_ ?_
    · (first | refine wl_makeb rfl (by omega) (by omega) (by omega) rfl (fun v9 hl9 hn9 => ?_) | refine wl_make1 rfl (by omega) (by omega) (by omega) (by rfl) rfl (fun v9 hl9 hn9 => ?_)); refine wl_nil ?_; refine wq_draw ?_
      refine dy 8 ?_; refine dy 9 ?_; refine fork2 7 10 ?_ ?_
      · (first | refine wl_makeb rfl (by omega) (by omega) (by omega) rfl (fun v12 hl12 hn12 => ?_) | refine wl_make1 rfl (by omega) (by omega) (by omega) (by rfl) rfl (fun v12 hl12 hn12 => ?_)); refine wl_nil ?_; refine wq_draw ?_
        refine ddo 10 ?_; (first | (refine wl_store rfl rfl rfl (by decide) ?_; refine wl_nil ?_; refine wq_draw ?_) | refine walk ?_); refine dy 11 ?_; refine dy 12 ?_; refine ddo 13 ?_; (first | (refine wl_store rfl rfl rfl (by decide) ?_; refine wl_nil ?_; refine wq_draw ?_) | refine walk ?_); refine dy 14 ?_; refine dy 15 ?_; refine ddo 16 ?_; refine walk ?_; (refine wq_meet _ _ _ (v9, v10, v12) trivial envs perm)
      · (first | (refine wl_store rfl rfl rfl (by decide) ?_; refine wl_nil ?_; refine wq_draw ?_) | refine walk ?_)
        refine dy 11 ?_; refine dy 12 ?_; refine fork2 7 13 ?_ ?_
        · (first | refine wl_makeb rfl (by omega) (by omega) (by omega) rfl (fun v12 hl12 hn12 => ?_) | refine wl_make1 rfl (by omega) (by omega) (by omega) (by rfl) rfl (fun v12 hl12 hn12 => ?_)); refine wl_nil ?_; refine wq_draw ?_
          refine ddo 13 ?_; (first | (refine wl_store rfl rfl rfl (by decide) ?_; refine wl_nil ?_; refine wq_draw ?_) | refine walk ?_); refine dy 14 ?_; refine dy 15 ?_; refine ddo 16 ?_; refine walk ?_; (refine wq_meet _ _ _ (v9, v10, v12) trivial envs perm)
        · (first | (refine wl_store rfl rfl rfl (by decide) ?_; refine wl_nil ?_; refine wq_draw ?_) | refine walk ?_)
          refine ddo 7 ?_; (first | refine wl_makeb rfl (by omega) (by omega) (by omega) rfl (fun v12 hl12 hn12 => ?_) | refine wl_make1 rfl (by omega) (by omega) (by omega) (by rfl) rfl (fun v12 hl12 hn12 => ?_)); refine wl_nil ?_; refine wq_draw ?_; refine dy 14 ?_; refine dy 15 ?_; refine ddo 16 ?_; refine walk ?_; (refine wq_meet _ _ _ (v9, v10, v12) trivial envs perm)
    · (first | refine wl_makeb rfl (by omega) (by omega) (by omega) rfl (fun v12 hl12 hn12 => ?_) | refine wl_make1 rfl (by omega) (by omega) (by omega) (by rfl) rfl (fun v12 hl12 hn12 => ?_)); refine wl_nil ?_; refine wq_draw ?_
      refine ddo 4 ?_; (first | refine wl_makeb rfl (by omega) (by omega) (by omega) rfl (fun v9 hl9 hn9 => ?_) | refine wl_make1 rfl (by omega) (by omega) (by omega) (by rfl) rfl (fun v9 hl9 hn9 => ?_)); refine wl_nil ?_; refine wq_draw ?_; refine dy 8 ?_; refine dy 9 ?_; refine ddo 10 ?_; (first | (refine wl_store rfl rfl rfl (by decide) ?_; refine wl_nil ?_; refine wq_draw ?_) | refine walk ?_); refine dy 11 ?_; refine dy 12 ?_; refine ddo 13 ?_; (first | (refine wl_store rfl rfl rfl (by decide) ?_; refine wl_nil ?_; refine wq_draw ?_) | refine walk ?_); refine dy 14 ?_; refine dy 15 ?_; refine ddo 16 ?_; refine walk ?_; (refine wq_meet _ _ _ (v9, v10, v12) trivial envs perm)
  · (first | refine wl_makeb rfl (by omega) (by omega) (by omega) rfl (fun v12 hl12 hn12 => ?_) | refine wl_make1 rfl (by omega) (by omega) (by omega) (by rfl) rfl (fun v12 hl12 hn12 => ?_)); refine wl_nil ?_; refine wq_draw ?_
    refine fork2 4 5 ?_ ?_
    · (first | refine wl_makeb rfl (by omega) (by omega) (by omega) rfl (fun v9 hl9 hn9 => ?_) | refine wl_make1 rfl (by omega) (by omega) (by omega) (by rfl) rfl (fun v9 hl9 hn9 => ?_)); refine wl_nil ?_; refine wq_draw ?_
      refine dy 8 ?_; refine dy 9 ?_; refine fork2 5 10 ?_ ?_
      · refine wl_makeMap rfl (fun v10 => ?_); refine wl_nil ?_; refine wq_draw ?_
        refine ddo 10 ?_; (first | (refine wl_store rfl rfl rfl (by decide) ?_; refine wl_nil ?_; refine wq_draw ?_) | refine walk ?_); refine dy 11 ?_; refine dy 12 ?_; refine ddo 13 ?_; (first | (refine wl_store rfl rfl rfl (by decide) ?_; refine wl_nil ?_; refine wq_draw ?_) | refine walk ?_); refine dy 14 ?_; refine dy 15 ?_; refine ddo 16 ?_; refine walk ?_; (refine wq_meet _ _ _ (v9, v10, v12) trivial envs perm)
      · (first | (refine wl_store rfl rfl rfl (by decide) ?_; refine wl_nil ?_; refine wq_draw ?_) | refine walk ?_)
        refine ddo 5 ?_; refine wl_makeMap rfl (fun v10 => ?_); refine wl_nil ?_; refine wq_draw ?_; refine dy 11 ?_; refine dy 12 ?_; refine ddo 13 ?_; (first | (refine wl_store rfl rfl rfl (by decide) ?_; refine wl_nil ?_; refine wq_draw ?_) | refine walk ?_); refine dy 14 ?_; refine dy 15 ?_; refine ddo 16 ?_; refine walk ?_; (refine wq_meet _ _ _ (v9, v10, v12) trivial envs perm)
    · refine wl_makeMap rfl (fun v10 => ?_); refine wl_nil ?_; refine wq_draw ?_
      refine ddo 4 ?_; (first | refine wl_makeb rfl (by omega) (by omega) (by omega) rfl (fun v9 hl9 hn9 => ?_) | refine wl_make1 rfl (by omega) (by omega) (by omega) (by rfl) rfl (fun v9 hl9 hn9 => ?_)); refine wl_nil ?_; refine wq_draw ?_; refine dy 8 ?_; refine dy 9 ?_; refine ddo 10 ?_; (first | (refine wl_store rfl rfl rfl (by decide) ?_; refine wl_nil ?_; refine wq_draw ?_) | refine walk ?_); refine dy 11 ?_; refine dy 12 ?_; refine ddo 13 ?_; (first | (refine wl_store rfl rfl rfl (by decide) ?_; refine wl_nil ?_; refine wq_draw ?_) | refine walk ?_); refine dy 14 ?_; refine dy 15 ?_; refine ddo 16 ?_; refine walk ?_; (refine wq_meet _ _ _ (v9, v10, v12) trivial envs perm)
  obtain ⟨on, c, wr⟩ := y
  dsimp only
  refine walk ?_
  refine wc_loop (X := List Value) (fun us => [(0, vp d), (23, vi n), (24, vi us.length)])
    (fun us => Cells d [vp pp, vi size, on, .map (some c), wr, v5, v6] :: Sl on 1 (us ++ List.replicate (n.toNat - us.length) (.slice none 0 0)) :: Sl wr 1 (List.replicate n.toNat (vi 0)) :: MapI c [] :: Pool (us.map fun v => (v, List.replicate size.toNat 0)) :: F)
    (fun us => (us.length : Int) ≤ n) (fun us => n.toNat - us.length) [] (by simp; omega) ?_ ?_ (fun us hus => ?_)
  · refine ⟨rfl, ?_, rfl, trivial⟩
    show some _ = some _
    congr 2
    simp; omega
  · refine Ent.trans Pool.nil ?_
    simp only [List.nil_append, List.length_nil, Nat.sub_zero, List.map_nil]
    exact perm
  have hlen : (us ++ List.replicate (n.toNat - us.length) (Value.slice none 0 0)).length = n.toNat := by simp; omega
  refine walk ?_
  refine wif_dec (fun hlt => ?_) (fun hlt => ?_)
  · refine walk ?_
    (refine draw ?_; refine dy 0 ?_; refine dy 1 ?_; refine dy 2 ?_; refine dy 3 ?_; refine dy 4 ?_; refine dy 5 ?_; refine dy 6 ?_; refine dy 7 ?_; refine dy 8 ?_; refine ddo 9 ?_)
    refine walk ?_
    intro v hvl hvn
    haveI : OneC [v] := ⟨fun u hu => by simp at hu; subst hu; obtain ⟨a, m, c, rfl⟩ := hvn; rfl⟩
    (refine walk ?_; refine dy 10 ?_; refine dlast 11 ?_)
    refine walk ?_
    have e1 : (us ++ List.replicate (n.toNat - us.length) (Value.slice none 0 0)).set (us.length : Int).toNat v = (us ++ [v]) ++ List.replicate (n.toNat - (us ++ [v]).length) (.slice none 0 0) := by
      obtain ⟨m, hm⟩ : ∃ m, n.toNat - us.length = m + 1 := ⟨n.toNat - us.length - 1, by omega⟩
      have hm2 : n.toNat - (us ++ [v]).length = m := by simp; omega
      rw [hm, hm2, List.replicate_succ]
      simp
    rw [e1]
    refine wq_round (us ++ [v]) (by simp; omega) (by simp; omega) ?_ ?_
    · refine ⟨rfl, rfl, ?_, trivial⟩
      show some _ = some _
      congr 2
      simp
    · refine Ent.trans (Γ' := SlB v (List.replicate size.toNat 0) :: Pool (us.map fun v => (v, List.replicate size.toNat 0)) :: Sl on 1 ((us ++ [v]) ++ List.replicate (n.toNat - (us ++ [v]).length) (.slice none 0 0)) :: Cells d [vp pp, vi size, on, .map (some c), wr, v5, v6] :: Sl wr 1 (List.replicate n.toNat (vi 0)) :: MapI c [] :: F) perm ?_
      refine Pool.put.trans ((Pool.sub (rows' := (us ++ [v]).map fun v => (v, List.replicate size.toNat 0)) (fun r hr => ?_)).trans perm)
      obtain ⟨u, hu, rfl⟩ := List.mem_map.1 hr
      rcases List.mem_append.1 hu with hu | hu
      · exact List.mem_cons_of_mem _ (List.mem_map.2 ⟨u, hu, rfl⟩)
      · have : u = v := by simpa using hu
        subst this; exact List.mem_cons_self
  · refine walk ?_
    have he : us.length = n.toNat := by omega
    refine wq_end0 rfl (on, c, wr, us) rfl he ?_
    rw [he, Nat.sub_self, List.map_replicate]
    simp only [List.replicate_zero, List.append_nil]
    exact perm
/-- what a blank disk has in memory -/
theorem blankFits (n : Nat) (size : Int) (hn : n ≤ 1073741824) (hs : 0 ≤ size ∧ size ≤ 1099511627776) (on wv : Value) (c : Nat) (us : List Value) (hus : us.length = n) :
    DFits ⟨on, wv, c, us.map fun v => (v, List.replicate size.toNat 0), [], us.map fun v => (v, List.replicate size.toNat 0)⟩ (Dsk.blank n size) := by
  refine ⟨⟨hs.1, hs.2, by simpa [Dsk.blank] using hn, by simp [Dsk.blank], ?_, (fun e he => by cases he), by simp [Dsk.blank]⟩, ?_, rfl, fun r hr => hr, (fun e he => by cases he)⟩
  · intro b hb
    obtain rfl := (List.mem_replicate.1 hb).2
    simp [Dsk.blank]; omega
  · simp only [Dsk.blank, List.map_map]
    rw [← hus]
    exact List.map_const' ..

theorem dnew_spec (pp : Nat) (n size : Int) (hn : n ≤ 1073741824) (hs : size ≤ 1099511627776) :
    Spec0 Tryz.prog 99 [vp pp, vi n, vi size] (fun _ => True) (fun F => F) (fun _ : Nat => True) (fun d => vp d) (fun d F => DiskAt d pp (Dsk.blank (max n 0).toNat (max size 0)) :: F) := by
  (refine spec_of Tryz.func99 rfl Tryz.ntmps99 rfl (fun F w0 hrd => ?_))
  refine walk ?_
  intro d
  refine walk ?_
  refine call (blank_spec d pp (max n 0) (by omega) (max size 0) (by omega) _ _ _ _ _) ?_
  intro y hy
  obtain ⟨on, c, wr, us⟩ := y
  dsimp only at hy ⊢
  refine walk ?_
  refine wq_ret1 rfl rfl d rfl trivial ?_
  have hf := blankFits (max n 0).toNat (max size 0) (by omega) (by omega) on wr c us hy
  refine Ent.trans ?_ (DiskAt.shut (pp := pp) (d := d) _ hf)
  have e : (us.map fun v => (v, List.replicate (max size 0).toNat (0 : UInt8))).map (·.1) = us := by simp [List.map_map, Function.comp_def]
  show Ent _ (Cells d [vp pp, vi (max size 0), on, .map (some c), wr, .bool false, vi (-1)] :: Sl on 1 ((us.map fun v => (v, List.replicate (max size 0).toNat (0 : UInt8))).map (·.1)) :: Sl wr 1 ((List.replicate (max n 0).toNat (0 : Int)).map vi) :: MapI c [] :: Pool (us.map fun v => (v, List.replicate (max size 0).toNat (0 : UInt8))) :: F)
  rw [e]
  exact perm


end Go.Proofs.YtohienhoifgmaaaGreat
end
