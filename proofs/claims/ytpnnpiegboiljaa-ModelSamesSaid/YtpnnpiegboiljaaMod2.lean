/- Clone and Same of the package model. -/
import Derived.Test.YtpnnpiegboiljaaMod
import Derived.Test.YtpnnpiegboiljaaItr
namespace Go.Proofs.Ytpnnpiegboiljaa
open Go Go.Sl
attribute [local irreducible] Yl WL WC WQ WD

/-- a model in memory, its map entry by entry -/
def ModS (p : Nat) (n size : Int) (c : Nat) (es : Array MapEntry) (ck : Nat) (vs : IMap Value) (m : IMap Bytes) : HP := fun h =>
  vs.map (·.1) = m.map (·.1) ∧ Sat (Cells p [vi n, vi size, .map (some c)] :: MapS c es ck vs :: Ow vs m) h
theorem ModS.opened {p : Nat} {n size : Int} {c : Nat} {es : Array MapEntry} {ck : Nat} {vs : IMap Value} {m : IMap Bytes} {Γ : List HP} {h : Hp} (hs : Sat (ModS p n size c es ck vs m :: Γ) h) :
    vs.map (·.1) = m.map (·.1) ∧ Sat (Cells p [vi n, vi size, .map (some c)] :: MapS c es ck vs :: (Ow vs m ++ Γ)) h := by
  obtain ⟨h1, _, hk, _⟩ := hs.one
  exact ⟨hk, Sat.flat.1 (hs.imp fun _ e => e.2)⟩
theorem ModS.shut {p : Nat} {n size : Int} {c : Nat} {es : Array MapEntry} {ck : Nat} {vs : IMap Value} {m : IMap Bytes} {Γ : List HP} (hk : vs.map (·.1) = m.map (·.1)) :
    Ent (Cells p [vi n, vi size, .map (some c)] :: MapS c es ck vs :: (Ow vs m ++ Γ)) (ModS p n size c es ck vs m :: Γ) :=
  fun _ hs => (Sat.flat.2 hs).imp fun _ e => ⟨hk, e⟩
theorem ModAt.asS {p : Nat} {n size : Int} {m : IMap Bytes} {Γ : List HP} {h : Hp} (hs : Sat (ModAt p n size m :: Γ) h) :
    ∃ x : Nat × Array MapEntry × Nat × IMap Value, (x.2.2.2.map (·.1) = m.map (·.1) ∧ (m.map (·.1)).Nodup) ∧ Sat (ModS p n size x.1 x.2.1 x.2.2.1 x.2.2.2 m :: Γ) h := by
  obtain ⟨⟨c, vs⟩, hk, h1⟩ := ModAt.opened.1 hs
  obtain ⟨⟨es, ck⟩, h2⟩ := MapI.ex.1 h1.swap
  have hn := (MapS.at h2).2.keys
  exact ⟨(c, es, ck, vs), ⟨hk, hk ▸ hn⟩, ModS.shut hk _ h2.swap⟩
theorem ModS.asAt {p : Nat} {n size : Int} {c : Nat} {es : Array MapEntry} {ck : Nat} {vs : IMap Value} {m : IMap Bytes} {Γ : List HP} :
    Ent (ModS p n size c es ck vs m :: Γ) (ModAt p n size m :: Γ) := fun h hs => by
  obtain ⟨hk, h1⟩ := ModS.opened hs
  exact ModAt.shut' hk _ (MapI.ex.2 ⟨(es, ck), h1.swap⟩)
instance {p : Nat} {n size : Int} {c : Nat} {es : Array MapEntry} {ck : Nat} {vs : IMap Value} {m : IMap Bytes} {Γ : List HP} : PickE (ModS p n size c es ck vs m :: Γ) c es ck vs Γ := ⟨fun h hs => by
  obtain ⟨hk, h1⟩ := ModS.opened hs
  exact (Ent.skip (fun _ h => (Sat.app.1 h).tail)) _ (h1.tail)⟩

instance {p : Nat} {n size : Int} {c : Nat} {es : Array MapEntry} {ck : Nat} {vs : IMap Value} {m : IMap Bytes} {Γ : List HP} : PickC (ModS p n size c es ck vs m :: Γ) p [vi n, vi size, .map (some c)] Γ := ⟨fun h hs => by
  obtain ⟨hk, h1⟩ := ModS.opened hs
  exact (Ent.skip (Ent.drop (fun _ h => (Sat.app.1 h).tail))) _ h1⟩

set_option maxHeartbeats 1000000 in
theorem reads_spec (p : Nat) (n size : Int) (c : Nat) (es : Array MapEntry) (ck : Nat) (vs : IMap Value) (m : IMap Bytes) (i : Int) (hs : 0 ≤ size ∧ size ≤ 65536) (hm : ∀ k b, mget m k = some b → b.length ≤ 1099511627776) :
    Spec0 Try.prog 11 [vp p, vi i] (fun _ => True) (fun F => ModS p n size c es ck vs m :: F) (fun _ : Value => True) (fun r => r) (fun r F => SlB r (mread n size m i) :: ModS p n size c es ck vs m :: F) := by
  (refine spec_of Try.func11 rfl Try.ntmps11 rfl (fun F w0 hrd => ?_))
  refine WC.tell (fun x h => (ModS.opened h).1) (fun hk => ?_)
  refine WC.ent (fun x h => (ModS.opened h).2) ?_
  have hno : ¬ (0 ≤ i ∧ i < n) → mread n size m i = [] := fun h => if_neg h
  refine walk ?_
  refine wif_dec (fun h0 => ?_) (fun h0 => ?_) <;> refine walk ?_
  · exact wq_ret1 rfl rfl _ rfl trivial (by rw [hno (by omega)]; exact (ModS.shut hk).trans (sl_nil 1))
  refine wif_dec (fun h1 => ?_) (fun h1 => ?_) <;> refine walk ?_
  · exact wq_ret1 rfl rfl _ rfl trivial (by rw [hno (by omega)]; exact (ModS.shut hk).trans (sl_nil 1))
  refine WIf.both (fun hc => ?_) (fun hc => ?_) <;> refine walk ?_
  · obtain ⟨b, hb⟩ : ∃ b, mget m i = some b := by
      rw [keys_get hk] at hc
      exact Option.isSome_iff_exists.1 hc
    obtain ⟨v, hv, hr⟩ := Ow.look hk hb
    have hv' : (mget vs i).getD (.slice none 0 0) = v := by rw [hv]; rfl
    haveI : RdIn (Ow vs m ++ F) v 1 (b.map vb) := ⟨fun h hs => by
      obtain ⟨h1, x, y⟩ := (Sat.app.1 hs).one; exact (hr _ y).mono x⟩
    rw [hv']
    refine call (clone_spec v b (hm _ _ hb)) ?_
    intro x hx
    refine walk ?_
    refine wq_ret1 rfl rfl _ rfl trivial ?_
    have : mread n size m i = b := by unfold mread; rw [if_pos (by omega), hb]; rfl
    rw [this]; exact Ent.skip (ModS.shut hk)
  · intro v hvl hvn
    refine walk ?_
    have hb : mget m i = none := by
      rw [keys_get hk] at hc
      simpa using hc
    refine wq_ret1 rfl rfl _ rfl trivial ?_
    have : mread n size m i = List.replicate size.toNat 0 := by unfold mread; rw [if_pos (by omega), hb]; rfl
    rw [this]; exact Ent.skip (ModS.shut hk)

theorem nodup_bound {js : List Nat} (h : js.Nodup) {n : Nat} (hb : ∀ j ∈ js, j < n) : js.length ≤ n := by
  induction n generalizing js with
  | zero =>
    cases js with
    | nil => simp
    | cons j r => exact absurd (hb j (by simp)) (by omega)
  | succ n ih =>
    have h1 := ih (h.erase n) (fun j hj => by
      have h2 := (h.mem_erase_iff).1 hj
      have := hb j h2.2
      have := h2.1
      omega)
    by_cases hm : n ∈ js
    · rw [List.length_erase_of_mem hm] at h1; omega
    · rw [List.erase_of_not_mem hm] at h1; omega
theorem same_at {vs : IMap Value} {m : IMap Bytes} (hk : vs.map (·.1) = m.map (·.1)) {j : Nat} {e : Int × Value} (he : vs[j]? = some e) : ∃ b, m[j]? = some (e.1, b) := by
  have h1 : (vs.map (·.1))[j]? = some e.1 := by rw [List.getElem?_map, he]; rfl
  rw [hk, List.getElem?_map] at h1
  cases hm : m[j]? with
  | none => rw [hm] at h1; cases h1
  | some q =>
    rw [hm] at h1
    obtain ⟨a, b⟩ := q
    have h2 : a = e.1 := Option.some.inj h1
    exact ⟨b, by rw [← h2]⟩
theorem at_nodup {α : Type} {m : IMap α} (hn : (m.map (·.1)).Nodup) {i j : Nat} {k : Int} {b b' : α} (hi : m[i]? = some (k, b)) (hj : m[j]? = some (k, b')) : i = j := by
  have h1 : (m.map (·.1))[i]? = some k := by rw [List.getElem?_map, hi]; rfl
  have h2 : (m.map (·.1))[j]? = some k := by rw [List.getElem?_map, hj]; rfl
  exact (List.getElem?_inj (List.getElem?_eq_some_iff.1 h1).1 hn).1 (h1.trans h2.symm)
/-- those of m that stand at these places -/
def Part (m : IMap Bytes) (js : List Nat) (m' : IMap Bytes) : Prop := ∀ k b, mget m' k = some b ↔ ∃ j ∈ js, m[j]? = some (k, b)
theorem Part.put {m m' : IMap Bytes} {js : List Nat} (h : Part m js m') (hn : (m.map (·.1)).Nodup) {j : Nat} {k : Int} {b : Bytes} (hj : m[j]? = some (k, b)) : Part m (js ++ [j]) (mset m' k b) := by
  intro k' b'
  rw [mget_mset]
  by_cases hk : k' = k
  · subst hk
    rw [if_pos rfl]
    constructor
    · intro e; cases e; exact ⟨j, by simp, hj⟩
    · rintro ⟨i, _, hi⟩
      have := at_nodup hn hi hj
      subst this
      rw [hj] at hi; cases hi; rfl
  · rw [if_neg hk, h]
    constructor
    · rintro ⟨i, hi, e⟩; exact ⟨i, List.mem_append_left _ hi, e⟩
    · rintro ⟨i, hi, e⟩
      rcases List.mem_append.1 hi with hi | hi
      · exact ⟨i, hi, e⟩
      · have : i = j := by simpa using hi
        subst this
        rw [hj] at e; cases e; exact absurd rfl hk
theorem Part.all {m m' : IMap Bytes} {js : List Nat} (h : Part m js m') (hn : (m.map (·.1)).Nodup) (ha : ∀ j, j < m.length → j ∈ js) (k : Int) : mget m' k = mget m k := by
  cases hm : mget m k with
  | some b =>
    rw [h]
    obtain ⟨j, hj⟩ := List.getElem?_of_mem (mget_mem hm)
    exact ⟨j, ha j (List.getElem?_eq_some_iff.1 hj).1, hj⟩
  | none =>
    cases hm' : mget m' k with
    | none => rfl
    | some b =>
      obtain ⟨j, _, hj⟩ := (h k b).1 hm'
      rw [mget_of_mem hn (List.mem_of_getElem? hj)] at hm; cases hm

set_option maxHeartbeats 2000000 in
theorem mclone_spec (p : Nat) (n size : Int) (m : IMap Bytes) (hn : 0 ≤ n) (hs : 0 ≤ size ∧ size ≤ 65536) (hm : ∀ k b, mget m k = some b → (0 ≤ k ∧ k < n) ∧ (b.length : Int) = size) :
    Spec0 Try.prog 16 [vp p] (fun _ => True) (fun F => ModAt p n size m :: F) (fun x : Nat × IMap Bytes => ∀ k, mget x.2 k = mget m k) (fun x => vp x.1) (fun x F => ModAt x.1 n size x.2 :: ModAt p n size m :: F) := by
  (refine spec_of Try.func16 rfl Try.ntmps16 rfl (fun F w0 hrd => ?_))
  refine WC.ex (fun y => ModAt.asS) (fun x hk => ?_); obtain ⟨c, es, ck, vs⟩ := x; dsimp only at hk ⊢
  obtain ⟨hk, hnd⟩ := hk
  refine WC.ent (fun x h => (ModS.opened h).2) ?_
  refine walk ?_
  (refine draw ?_; refine dy 0 ?_; refine dy 1 ?_; refine dy 2 ?_; refine dy 3 ?_; refine dy 4 ?_; refine dy 5 ?_; refine dy 6 ?_; refine dy 7 ?_; refine ddo 8 ?_)
  refine call (new_spec n size) ?_
  rw [show max n 0 = n from by omega, show min (max size 0) 65536 = size from by omega]
  intro q _
  (refine walk ?_; refine dy 9 ?_; refine walk ?_)
  intro r
  refine walk ?_
  have hlen : vs.length = m.length := by simpa using congrArg List.length hk
  refine wc_loop (X := List Nat × IMap Bytes) (fun _ => [(0, vp p), (3, vp q), (19, vp r)])
    (fun y => ItAt r c es ck y.1 :: ModAt q n size y.2 :: Cells p [vi n, vi size, .map (some c)] :: MapS c es ck vs :: (Ow vs m ++ F))
    (fun y => (y.1.Nodup ∧ ∀ j ∈ y.1, j < m.length) ∧ Part m y.1 y.2) (fun y => m.length - y.1.length) ([], []) ⟨⟨by simp, by simp⟩, fun k b => by simp [mget]⟩ envs Ent.refl (fun y hy => ?_)
  obtain ⟨js, m'⟩ := y
  dsimp only at hy ⊢
  obtain ⟨⟨hjn, hjb⟩, hpart⟩ := hy
  refine walk ?_
  refine wl_next rfl rfl (fun hall => ?_) (fun j e he hnew => ?_)
  · refine walk ?_
    refine wq_ret1 rfl rfl (q, m') rfl (hpart.all hnd (fun j hj => hall j (by omega))) ?_
    exact Ent.drop (Ent.skip ((ModS.shut hk).trans ModS.asAt))
  · obtain ⟨b, hb⟩ := same_at hk he
    have hjm : j < m.length := (List.getElem?_eq_some_iff.1 hb).1
    have hmb := mget_of_mem hnd (List.mem_of_getElem? hb)
    have hvb := mget_of_mem (hk ▸ hnd) (List.mem_of_getElem? (l := vs) (i := j) (a := (e.1, e.2)) he)
    obtain ⟨v, hv, hr⟩ := Ow.look hk hmb
    obtain rfl : v = e.2 := Option.some.inj (hv.symm.trans hvb)
    haveI : RdIn (Ow vs m ++ F) e.2 1 (b.map vb) := ⟨fun h hs => by
      obtain ⟨h1, x, y⟩ := (Sat.app.1 hs).one; exact (hr _ y).mono x⟩
    refine walk ?_
    refine call (write_spec q n size m' e.1 e.2 b (fun _ => by omega)) ?_
    intro _ _
    refine walk ?_
    have h1 := hm _ _ hmb
    rw [show mwrite n size m' e.1 b = mset m' e.1 b from if_pos (by omega)]
    have h2 := nodup_bound hjn hjb
    have h3 : (js ++ [j]).Nodup := List.nodup_append.2 ⟨hjn, by simp, fun a ha b' hb' => by
      have : b' = j := by simpa using hb'
      subst this
      exact fun h => hnew (h ▸ ha)⟩
    have h4 : ∀ i ∈ js ++ [j], i < m.length := fun i hi => by
      rcases List.mem_append.1 hi with hi | hi
      · exact hjb i hi
      · have : i = j := by simpa using hi
        omega
    refine wq_round (js ++ [j], mset m' e.1 b) ⟨⟨h3, h4⟩, hpart.put hnd hb⟩ ?_ envs ?_
    · have := nodup_bound h3 h4
      dsimp only
      simp at this ⊢
      omega
    · exact Ent.swap

/-- what is alike in two models, as Same looks at them -/
def alike (n1 s1 : Int) (m1 : IMap Bytes) (n2 s2 : Int) (m2 : IMap Bytes) : Prop :=
  n1 = n2 ∧ s1 = s2 ∧ (∀ e ∈ m1, mread n1 s1 m1 e.1 = mread n2 s2 m2 e.1) ∧ (∀ e ∈ m2, mread n1 s1 m1 e.1 = mread n2 s2 m2 e.1)

set_option maxHeartbeats 4000000 in
theorem same_spec (p q : Nat) (n1 s1 : Int) (m1 : IMap Bytes) (n2 s2 : Int) (m2 : IMap Bytes) (hs1 : 0 ≤ s1 ∧ s1 ≤ 65536) (hs2 : 0 ≤ s2 ∧ s2 ≤ 65536)
    (hm1 : ∀ k b, mget m1 k = some b → b.length ≤ 65536) (hm2 : ∀ k b, mget m2 k = some b → b.length ≤ 65536) :
    Spec0 Try.prog 17 [vp p, vp q] (fun _ => True) (fun F => ModAt p n1 s1 m1 :: ModAt q n2 s2 m2 :: F) (fun b : Bool => b = true ↔ alike n1 s1 m1 n2 s2 m2) (fun b => .bool b) (fun _ F => ModAt p n1 s1 m1 :: ModAt q n2 s2 m2 :: F) := by
  (refine spec_of Try.func17 rfl Try.ntmps17 rfl (fun F w0 hrd => ?_))
  refine WC.ex (fun y => ModAt.asS) (fun x hk => ?_); obtain ⟨c, es, ck, vs⟩ := x; dsimp only at hk ⊢
  obtain ⟨hk, hnd⟩ := hk
  refine WC.ent Ent.swap ?_
  refine WC.ex (fun y => ModAt.asS) (fun x hk2 => ?_); obtain ⟨c2, es2, ck2, vs2⟩ := x; dsimp only at hk2 ⊢
  obtain ⟨hk2, hnd2⟩ := hk2
  refine WC.ent Ent.swap ?_
  have hlen : vs.length = m1.length := by simpa using congrArg List.length hk
  have hlen2 : vs2.length = m2.length := by simpa using congrArg List.length hk2
  have hb1 : ∀ k, (mread n1 s1 m1 k).length ≤ 1099511627776 := fun k => by
    unfold mread
    split
    · cases hg : mget m1 k with
      | none => simp; omega
      | some b => have := hm1 _ _ hg; simp; omega
    · simp
  have hbd1 : ∀ k b, mget m1 k = some b → b.length ≤ 1099511627776 := fun k b h => by have := hm1 k b h; omega
  have hbd2 : ∀ k b, mget m2 k = some b → b.length ≤ 1099511627776 := fun k b h => by have := hm2 k b h; omega
  have hend : Ent (ModS p n1 s1 c es ck vs m1 :: ModS q n2 s2 c2 es2 ck2 vs2 m2 :: F) (ModAt p n1 s1 m1 :: ModAt q n2 s2 m2 :: F) := ModS.asAt.trans (Ent.skip ModS.asAt)
  refine walk ?_
  (refine draw ?_; refine dy 0 ?_; refine dy 1 ?_; refine dy 2 ?_; refine dy 3 ?_; refine dy 4 ?_; refine dy 5 ?_; refine dy 6 ?_; refine dy 7 ?_; refine dy 8 ?_; refine dy 9 ?_; refine dwhich 16 ?_)
  refine wif_dec (fun hne => ?_) (fun heq => ?_)
  · (refine dn 10 ?_; refine dn 11 ?_; refine dn 12 ?_; refine dn 13 ?_; refine dn 14 ?_; refine dn 15 ?_; refine dn 16 ?_; refine dn 17 ?_; refine dn 18 ?_; refine dy 19 ?_; refine walk ?_)
    exact wq_ret1 rfl rfl false rfl ⟨fun h => (by cases h), fun h => absurd h.1 hne⟩ hend
  (refine dg 10 ?_; refine dg 11 ?_; refine dg 12 ?_; refine dg 13 ?_; refine dg 14 ?_; refine dg 15 ?_; refine dg 16 ?_; refine dg 17 ?_; refine dg 18 ?_; refine dy 19 ?_; refine walk ?_)
  refine wif_dec (fun hne => ?_) (fun heq2 => ?_)
  · refine walk ?_
    exact wq_ret1 rfl rfl false rfl ⟨fun h => (by cases h), fun h => absurd h.2.1 hne⟩ hend
  have heq : n1 = n2 := by omega
  have heq2 : s1 = s2 := by omega
  refine walk ?_
  intro r
  refine walk ?_
  refine wc_loop (X := List Nat) (fun _ => [(0, vp p), (1, vp q), (31, vp r)])
    (fun y => ItAt r c es ck y :: ModS p n1 s1 c es ck vs m1 :: ModS q n2 s2 c2 es2 ck2 vs2 m2 :: F)
    (fun y => (y.Nodup ∧ ∀ j ∈ y, j < m1.length) ∧ ∀ j ∈ y, ∀ e, m1[j]? = some e → mread n1 s1 m1 e.1 = mread n2 s2 m2 e.1) (fun y => m1.length - y.length) [] ⟨⟨by simp, by simp⟩, by simp⟩ envs Ent.refl (fun js hy => ?_)
  obtain ⟨⟨hjn, hjb⟩, hall1⟩ := hy
  refine walk ?_
  refine wl_next rfl rfl (fun hall => ?_) (fun j e he hnew => ?_)
  · refine walk ?_
    intro r2
    refine walk ?_
    refine wc_loop (X := List Nat) (fun _ => [(0, vp p), (1, vp q), (48, vp r2)])
      (fun y => ItAt r2 c2 es2 ck2 y :: ModS p n1 s1 c es ck vs m1 :: ModS q n2 s2 c2 es2 ck2 vs2 m2 :: F)
      (fun y => (y.Nodup ∧ ∀ j ∈ y, j < m2.length) ∧ ∀ j ∈ y, ∀ e, m2[j]? = some e → mread n1 s1 m1 e.1 = mread n2 s2 m2 e.1) (fun y => m2.length - y.length) [] ⟨⟨by simp, by simp⟩, by simp⟩ envs ent (fun js2 hy => ?_)
    obtain ⟨⟨hjn2, hjb2⟩, hall2⟩ := hy
    refine walk ?_
    refine wl_next rfl rfl (fun hallb => ?_) (fun j e he hnew => ?_)
    · refine walk ?_
      refine wq_ret1 rfl rfl true rfl ⟨fun _ => ⟨heq, heq2, fun e he => ?_, fun e he => ?_⟩, fun _ => rfl⟩ (Ent.drop hend)
      · obtain ⟨j, hj⟩ := List.getElem?_of_mem he
        exact hall1 j (hall j (by have := (List.getElem?_eq_some_iff.1 hj).1; omega)) e hj
      · obtain ⟨j, hj⟩ := List.getElem?_of_mem he
        exact hall2 j (hallb j (by have := (List.getElem?_eq_some_iff.1 hj).1; omega)) e hj
    · obtain ⟨b, hb⟩ := same_at hk2 he
      have hjm : j < m2.length := (List.getElem?_eq_some_iff.1 hb).1
      refine walk ?_
      refine call (reads_spec p n1 s1 c es ck vs m1 e.1 hs1 hbd1) ?_
      intro x1 _
      refine walk ?_
      refine call (reads_spec q n2 s2 c2 es2 ck2 vs2 m2 e.1 hs2 hbd2) ?_
      intro x2 _
      refine walk ?_
      refine call (equal_spec x1 x2 (mread n1 s1 m1 e.1) (mread n2 s2 m2 e.1) (hb1 _)) ?_
      intro _ _
      refine walk ?_
      refine wif_dec (fun hsame => ?_) (fun hdiff => ?_)
      · refine walk ?_
        have h3 : (js2 ++ [j]).Nodup := List.nodup_append.2 ⟨hjn2, by simp, fun a ha b' hb' => by
          have : b' = j := by simpa using hb'
          subst this
          exact fun h => hnew (h ▸ ha)⟩
        have h4 : ∀ i ∈ js2 ++ [j], i < m2.length := fun i hi => by
          rcases List.mem_append.1 hi with hi | hi
          · exact hjb2 i hi
          · have : i = j := by simpa using hi
            omega
        refine wq_round (js2 ++ [j]) ⟨⟨h3, h4⟩, fun i hi e' he' => ?_⟩ ?_ envs ent
        · rcases List.mem_append.1 hi with hi | hi
          · exact hall2 i hi e' he'
          · have : i = j := by simpa using hi
            subst this
            rw [hb] at he'; cases he'; exact hsame
        · have := nodup_bound h3 h4
          simp at this ⊢
          omega
      · refine walk ?_
        refine wq_ret1 rfl rfl false rfl ⟨fun h => (by cases h), fun h => absurd (h.2.2.2 _ (List.mem_of_getElem? hb)) hdiff⟩ ?_
        refine Ent.trans ?_ hend
        exact perm
  · obtain ⟨b, hb⟩ := same_at hk he
    have hjm : j < m1.length := (List.getElem?_eq_some_iff.1 hb).1
    refine walk ?_
    refine call (reads_spec p n1 s1 c es ck vs m1 e.1 hs1 hbd1) ?_
    intro x1 _
    refine walk ?_
    refine call (reads_spec q n2 s2 c2 es2 ck2 vs2 m2 e.1 hs2 hbd2) ?_
    intro x2 _
    refine walk ?_
    refine call (equal_spec x1 x2 (mread n1 s1 m1 e.1) (mread n2 s2 m2 e.1) (hb1 _)) ?_
    intro _ _
    refine walk ?_
    refine wif_dec (fun hsame => ?_) (fun hdiff => ?_)
    · refine walk ?_
      have h3 : (js ++ [j]).Nodup := List.nodup_append.2 ⟨hjn, by simp, fun a ha b' hb' => by
        have : b' = j := by simpa using hb'
        subst this
        exact fun h => hnew (h ▸ ha)⟩
      have h4 : ∀ i ∈ js ++ [j], i < m1.length := fun i hi => by
        rcases List.mem_append.1 hi with hi | hi
        · exact hjb i hi
        · have : i = j := by simpa using hi
          omega
      refine wq_round (js ++ [j]) ⟨⟨h3, h4⟩, fun i hi e' he' => ?_⟩ ?_ envs ent
      · rcases List.mem_append.1 hi with hi | hi
        · exact hall1 i hi e' he'
        · have : i = j := by simpa using hi
          subst this
          rw [hb] at he'; cases he'; exact hsame
      · have := nodup_bound h3 h4
        simp at this ⊢
        omega
    · refine walk ?_
      refine wq_ret1 rfl rfl false rfl ⟨fun h => (by cases h), fun h => absurd (h.2.2.1 _ (List.mem_of_getElem? hb)) hdiff⟩ ?_
      refine Ent.trans ?_ hend
      exact perm
end Go.Proofs.Ytpnnpiegboiljaa
