/- DiskStays: what was flushed stays, whatever the power does, till it is written again; what wasn't is what it was, or what it was to be. -/
import Derived.Test.YtapgejjjgeiihaaLawDOwn
namespace Go.Proofs.Ytapgejjjgeiihaa
open Go Go.Sl
attribute [local irreducible] Yl WL WC WQ WD

/-- six sectors of a byte, of which so many wait -/
structure Wrote (on : Nat → UInt8) (l : Bytes) (k : Nat) (s : DP) : Prop where
  fine : Fine s
  size : s.1.size = 1
  len : s.1.on.length = 6
  on : ∀ i, i < 6 → s.1.on[i]? = some [on i]
  cache : ∀ i : Int, mget s.1.cache i = if 0 ≤ i ∧ i < k then some [l.getD i.toNat 0] else none
theorem Wrote.next {on : Nat → UInt8} {l : Bytes} {k : Nat} {s : DP} (h : Wrote on l k s) (hk : k < l.length) : Wrote on l (k + 1) (s.1.put k [l[k]], s.2.more) := by
  refine ⟨(h.fine.put _ _).more, h.size, h.len, h.on, fun i => ?_⟩
  show mget (mset s.1.cache (k : Int) [l[k]]) i = _
  rw [mget_mset]
  by_cases hi : i = (k : Int)
  · subst hi
    rw [if_pos rfl, if_pos (by omega)]
    simp [List.getD, hk]
  · rw [if_neg hi, h.cache]
    by_cases h2 : 0 ≤ i ∧ i < k
    · rw [if_pos h2, if_pos (by omega)]
    · rw [if_neg h2, if_neg (by omega)]
/-- what lies there, when the cache was laid, or some of it -/
theorem Wrote.laid {on : Nat → UInt8} {l : Bytes} {s : DP} (h : Wrote on l l.length s) (keep : Int → Bool) (on' : Nat → UInt8) (hon : ∀ i, i < 6 → on' i = if keep i ∧ i < l.length then l.getD i 0 else on i) (p : Pow) (hp : p.limit = -1) :
    Wrote on' [] 0 (s.1.settle keep, p) := by
  refine ⟨⟨hp, h.fine.dead, h.fine.failAt⟩, h.size, by simp [Dsk.settle, h.len], fun i hi => ?_, fun i => ?_⟩
  · simp only [Dsk.settle]
    rw [List.getElem?_mapIdx, h.on i hi, h.cache]
    rw [hon i hi]
    by_cases hk : keep i = true
    · by_cases h2 : i < l.length
      · simp [hk, h2]
      · simp [hk, h2]
    · simp [hk]
  · rw [if_neg (by omega)]; rfl

set_option maxHeartbeats 4000000 in
theorem stays_spec (v0 v1 : Value) (l1 l2 : Bytes) (keep : Nat) (hkeep : keep < 18446744073709551616) (hb1 : l1.length ≤ 9223372036854775807) (hb2 : l2.length ≤ 9223372036854775807) :
    Spec0 Try.prog 12 [v0, v1, .int .u64 keep] (fun h => Rd v0 1 (l1.map vb) h ∧ Rd v1 1 (l2.map vb) h) (fun F => F) (fun _ : Unit => True) (fun _ => .bool true) (fun _ F => F) := by
  (refine spec_of Try.func12 rfl Try.ntmps12 rfl (fun F w0 hrd => ?_))
  haveI : RdIn F v0 1 (l1.map vb) := ⟨fun h hs => (hrd h hs).1⟩
  haveI : RdIn F v1 1 (l2.map vb) := ⟨fun h hs => (hrd h hs).2⟩
  refine walk ?_
  refine call (awake04_spec) ?_
  intro _ _
  refine walk ?_
  (first | (refine wif_cut 4 26 (.bool (decide ((l1.length : Int) > 6 ∨ (l2.length : Int) > 6))) (fun K => ?_) ?_; refine wif_dec (fun hc => ?_) (fun hc => ?_); (iterate 4 ((first | (refine wl_guard_yes rfl rfl rfl ?_; refine wl_ya ?_) | (refine wl_guard_no rfl rfl rfl rfl rfl ?_) | (refine wl_ya ?_)))); exact K true _ _ rfl (by (repeat (first | exact trivial | refine And.intro (by first | exact trivial | rfl) ?_))) (by simp [hc]) (by first | rfl | (simp; done) | (simp; omega) | (simp [*]; done) | (simp [*]; omega)); (iterate 4 ((first | (refine wl_guard_yes rfl rfl rfl ?_; refine wl_ya ?_) | (refine wl_guard_no rfl rfl rfl rfl rfl ?_) | (refine wl_ya ?_)))); exact K false _ _ rfl (by (repeat (first | exact trivial | refine And.intro (by first | exact trivial | rfl) ?_))) (by simp [hc]) (by first | rfl | (simp; done) | (simp; omega) | (simp [*]; done) | (simp [*]; omega)); try (refine wl_nil ?_)) | (refine wif_cutn 4 26 (.bool (decide ((l1.length : Int) > 6 ∨ (l2.length : Int) > 6))) (fun K => ?_) ?_; refine wif_dec (fun hc => ?_) (fun hc => ?_); (iterate 4 ((first | (refine wl_guard_yes rfl rfl rfl ?_; refine wl_ya ?_) | (refine wl_guard_no rfl rfl rfl rfl rfl ?_) | (refine wl_ya ?_)))); exact K false _ _ rfl (by (repeat (first | exact trivial | refine And.intro (by first | exact trivial | rfl) ?_))) (by simp [hc]) (by first | rfl | (simp; done) | (simp; omega) | (simp [*]; done) | (simp [*]; omega)); (iterate 4 ((first | (refine wl_guard_yes rfl rfl rfl ?_; refine wl_ya ?_) | (refine wl_guard_no rfl rfl rfl rfl rfl ?_) | (refine wl_ya ?_)))); exact K true _ _ rfl (by (repeat (first | exact trivial | refine And.intro (by first | exact trivial | rfl) ?_))) (by simp [hc]) (by first | rfl | (simp; done) | (simp; omega) | (simp [*]; done) | (simp [*]; omega)); try (refine wl_nil ?_)))
  refine walk ?_
  refine wif_dec (fun hc => ?_) (fun hc => ?_) <;> refine walk ?_
  · exact wq_ret1 rfl rfl () rfl trivial perm
  have h1 : l1.length ≤ 6 := by omega
  have h2 : l2.length ≤ 6 := by omega
  refine call (pnew_spec (-1)) ?_
  intro p _
  refine walk ?_
  refine call (dnew_spec p 6 1 (by omega) (by omega)) ?_
  intro d _
  rw [show (max (6 : Int) 0).toNat = 6 from rfl, show max (1 : Int) 0 = 1 from rfl]
  have hw0 : Wrote (fun _ => 0) l1 0 (Dsk.blank 6 1, ⟨0, -1⟩) := ⟨⟨rfl, rfl, rfl⟩, rfl, rfl, fun i hi => by
    show (List.replicate 6 (List.replicate 1 (0 : UInt8)))[i]? = _
    rw [List.getElem?_replicate, if_pos hi]; rfl, fun i => by rw [if_neg (by omega)]; rfl⟩
  refine walk ?_
  refine wc_loop (X := Nat × DP) (fun y => [(0, v0), (1, v1), (2, .int .u64 keep), (6, .bool false), (7, vp d), (29, v0), (30, vi l1.length), (31, vi y.1)])
    (fun y => DiskAt d p y.2.1 :: PowAt p y.2.2 :: F) (fun y => y.1 ≤ l1.length ∧ Wrote (fun _ => 0) l1 y.1 y.2) (fun y => l1.length - y.1) (0, (Dsk.blank 6 1, ⟨0, -1⟩)) ⟨by simp, hw0⟩ envs perm (fun y hy => ?_)
  obtain ⟨k, s⟩ := y
  dsimp only at hy ⊢
  obtain ⟨hk, hw⟩ := hy
  refine walk ?_
  refine wif_dec (fun hlt => ?_) (fun hlt => ?_)
  · have hlt : k < l1.length := by omega
    refine walk ?_
    intro v hvl hvn
    refine walk ?_
    refine call ((dwrite_spec d p s k v [l1[k]]).sure _ _ (dwrite_fine hw.fine (by rw [hw.len]; omega) (by rw [hw.size]; rfl))) ?_
    intro _ _
    dsimp only
    refine walk ?_
    exact wq_round (k + 1, (s.1.put k [l1[k]], s.2.more)) ⟨by dsimp only; omega, hw.next hlt⟩ (by dsimp only; omega) envs perm
  have hk' : k = l1.length := by omega
  subst hk'
  refine walk ?_
  refine call ((dflush_spec d p s).sure _ _ (dflush_fine hw.fine)) ?_
  intro _ _
  dsimp only
  have hw1 : Wrote (fun i => l1.getD i 0) [] 0 (s.1.settle (fun _ => true), s.2.more) := hw.laid (fun _ => true) (fun i => l1.getD i 0) (fun i _ => by
    by_cases h : i < l1.length
    · simp [h]
    · simp [h, List.getD]) _ hw.fine.limit
  generalize s.1.settle (fun _ => true) = d1 at *
  generalize s.2.more = p1 at *
  have hw2 : Wrote (fun i => l1.getD i 0) l2 0 (d1, p1) := ⟨hw1.fine, hw1.size, hw1.len, hw1.on, fun i => by rw [hw1.cache, if_neg (by omega), if_neg (by omega)]⟩
  refine walk ?_
  refine wc_loop (X := Nat × DP) (fun y => [(0, v0), (1, v1), (2, .int .u64 keep), (6, .bool false), (7, vp d), (44, v1), (45, vi l2.length), (46, vi y.1)])
    (fun y => DiskAt d p y.2.1 :: PowAt p y.2.2 :: F) (fun y => y.1 ≤ l2.length ∧ Wrote (fun i => l1.getD i 0) l2 y.1 y.2) (fun y => l2.length - y.1) (0, (d1, p1)) ⟨by simp, hw2⟩ envs perm (fun y hy => ?_)
  obtain ⟨k, s⟩ := y
  dsimp only at hy ⊢
  obtain ⟨hk, hw⟩ := hy
  refine walk ?_
  refine wif_dec (fun hlt => ?_) (fun hlt => ?_)
  · have hlt : k < l2.length := by omega
    refine walk ?_
    intro v hvl hvn
    refine walk ?_
    refine call ((dwrite_spec d p s k v [l2[k]]).sure _ _ (dwrite_fine hw.fine (by rw [hw.len]; omega) (by rw [hw.size]; rfl))) ?_
    intro _ _
    dsimp only
    refine walk ?_
    exact wq_round (k + 1, (s.1.put k [l2[k]], s.2.more)) ⟨by dsimp only; omega, hw.next hlt⟩ (by dsimp only; omega) envs perm
  have hk' : k = l2.length := by omega
  subst hk'
  refine walk ?_
  refine call (cycle_spec d p s.1 keep hkeep) ?_
  intro _ _
  obtain ⟨on3, hon3⟩ : ∃ on3 : Nat → UInt8, on3 = fun (i : Nat) => if keepBit keep (s.1.waiting.idxOf (i : Int)) ∧ i < l2.length then l2.getD i 0 else l1.getD i 0 := ⟨_, rfl⟩
  have hw3 : Wrote on3 [] 0 (s.1.cycle keep, s.2) := hw.laid (fun i => keepBit keep (s.1.waiting.idxOf i)) on3 (fun i _ => by rw [hon3]) _ hw.fine.limit
  have hor : ∀ i, on3 i = l1.getD i 0 ∨ (i < l2.length ∧ on3 i = l2.getD i 0) := fun i => by
    rw [hon3]
    dsimp only
    split
    · rename_i h; exact .inr ⟨h.2, rfl⟩
    · exact .inl rfl
  clear hon3
  refine walk ?_
  refine wc_loop (X := Nat × DP) (fun y => [(0, v0), (1, v1), (6, .bool false), (7, vp d), (60, vi y.1)])
    (fun y => DiskAt d p y.2.1 :: PowAt p y.2.2 :: F) (fun y => y.1 ≤ 6 ∧ Wrote on3 [] 0 y.2) (fun y => 6 - y.1) (0, (s.1.cycle keep, s.2)) ⟨by simp, hw3⟩ envs perm (fun y hy => ?_)
  obtain ⟨k, s⟩ := y
  dsimp only at hy ⊢
  obtain ⟨hk, hw⟩ := hy
  refine walk ?_
  refine wif_dec (fun hlt => ?_) (fun hlt => ?_)
  · have hlt : k < 6 := by omega
    refine walk ?_
    refine wif_meet (X := Unit) (fun _ => [(0, v0), (1, v1), (6, .bool false), (7, vp d), (60, vi k), (12, vi k), (13, vb (l1.getD k 0))]) (fun _ => DiskAt d p s.1 :: PowAt p s.2 :: F) (fun _ => True) (wif_dec (fun h => ?_) (fun h => ?_)) (fun _ _ => ?_)
    · have h : k < l1.length := by omega
      refine walk ?_
      refine wq_meet _ _ _ () trivial ?_ Ent.refl
      rw [show l1.getD k 0 = l1[k] from by simp [List.getD, h]]
      exact envs
    · refine walk ?_
      refine wq_meet _ _ _ () trivial ?_ Ent.refl
      rw [show l1.getD k 0 = 0 from by simp [List.getD, show ¬ k < l1.length from by omega]]
      exact envs
    refine walk ?_
    obtain ⟨now, hnow⟩ : ∃ now : UInt8, now = if k < l2.length then l2.getD k 0 else l1.getD k 0 := ⟨_, rfl⟩
    refine wif_meet (X := Unit) (fun _ => [(0, v0), (1, v1), (6, .bool false), (7, vp d), (60, vi k), (12, vi k), (13, vb (l1.getD k 0)), (14, vb now)]) (fun _ => DiskAt d p s.1 :: PowAt p s.2 :: F) (fun _ => True) (wif_dec (fun h => ?_) (fun h => ?_)) (fun _ _ => ?_)
    · have h : k < l2.length := by omega
      refine walk ?_
      refine wq_meet _ _ _ () trivial ?_ Ent.refl
      rw [show now = l2[k] from by rw [hnow, if_pos h]; simp [List.getD, h]]
      exact envs
    · refine walk ?_
      refine wq_meet _ _ _ () trivial ?_ Ent.refl
      rw [show now = l1.getD k 0 from by rw [hnow, if_neg (by omega)]]
      exact envs
    refine walk ?_
    have hsee : s.1.see k = [on3 k] := by
      have := hw.on k hlt
      unfold Dsk.see
      rw [hw.cache, if_neg (by omega)]
      simp [List.getD, this]
    have hcn : on3 k = l1.getD k 0 ∨ on3 k = now := by
      rcases hor k with h | ⟨h, h'⟩
      · exact .inl h
      · right; rw [hnow, if_pos h]; exact h'
    refine call ((dread_spec d p s k).sure _ _ (dread_fine hw.fine (by rw [hw.len]; omega))) ?_
    rw [hsee]
    intro r _
    dsimp only
    generalize on3 k = c at *
    generalize l1.getD k 0 = old at *
    have hend : (k + 1 ≤ 6 ∧ Wrote on3 [] 0 (s.1, s.2.more)) := ⟨by omega, ⟨hw.fine.more, hw.size, hw.len, hw.on, hw.cache⟩⟩
    have hl1 : ([c] : Bytes).length = 1 := rfl
    rcases hcn with rfl | rfl
    · refine walk ?_
      refine wif_dec (fun h => (h rfl).elim) (fun _ => ?_)
      refine walk ?_
      exact wq_round (k + 1, (s.1, s.2.more)) hend (by dsimp only; omega) envs perm
    · refine walk ?_
      refine wif_dec (fun h => ?_) (fun _ => ?_)
      · refine walk ?_
        refine wif_dec (fun h => (h rfl).elim) (fun _ => ?_)
        refine walk ?_
        exact wq_round (k + 1, (s.1, s.2.more)) hend (by dsimp only; omega) envs perm
      · refine walk ?_
        exact wq_round (k + 1, (s.1, s.2.more)) hend (by dsimp only; omega) envs perm
  · refine walk ?_
    refine call (waiting_spec d p s.1) ?_
    intro r _
    have hwt : s.1.waiting = [] := by
      have : s.1.cache = [] := by
        cases hc : s.1.cache with
        | nil => rfl
        | cons e r =>
          have := hw.cache e.1
          rw [hc, if_neg (by omega)] at this
          simp [mget] at this
      unfold Dsk.waiting
      rw [this]; simp
    rw [hwt]
    refine walk ?_
    exact wq_ret1 rfl rfl () rfl trivial perm
theorem stays_spec' (v0 v1 : Value) (l1 l2 : Bytes) (keep : Int) (hkeep : 0 ≤ keep ∧ keep ≤ 18446744073709551615) (hb1 : l1.length ≤ 9223372036854775807) (hb2 : l2.length ≤ 9223372036854775807) :
    Spec0 Try.prog 12 [v0, v1, .int .u64 keep] (fun h => Rd v0 1 (l1.map vb) h ∧ Rd v1 1 (l2.map vb) h) (fun F => F) (fun _ : Unit => True) (fun _ => .bool true) (fun _ F => F) := by
  obtain ⟨k, rfl⟩ := Int.eq_ofNat_of_zero_le hkeep.1
  exact stays_spec v0 v1 l1 l2 k (by omega) hb1 hb2

set_option maxRecDepth 100000 in
open Go.RowKit Go.ChangeShapes Go.WideShapes in
theorem diskStays_lifted (os : Os) (started : os.Started) (H : Type) (enc : TypeId × Value → H) :
    ReturnsInHanded {} Try.checked os 12 .any (Rows.diskStaysSpec.pre6 enc Try.prog Try.f12 Rows.diskStaysRow.domain false) (Rows.diskStaysSpec.post enc Try.prog Try.f12 false true false false) := by
  refine returnsInHanded_of_change (C := Try.checked) Try.own started (by kernel_rfl) Try.func12
    (ChangeSpec.witness6 (enc := enc) (C := Try.checked) false ⟨#[], #[.slice none 0 0, .slice none 0 0, .int .u64 0], []⟩ 8 (by kernel_rfl) (by kernel_rfl) (by kernel_rfl) (by kernel_rfl)) ?_
  intro W base args ds gs before hval0 hW hcnd _
  rw [Try.same] at hval0 hW hcnd ⊢
  have hval : ∀ (j : Nat) t v, Try.f12.params[j]? = some t → args[j]? = some v → Value.okWide Try.prog W .any base t v := hval0
  have hW' := hW
  obtain ⟨p, q, hA, hV, rfl, hfz, hnd⟩ := hW
  have hA : DataW.TrodAll enc Try.prog W 0 (fun _ => true) true [41, 41, 69] args.toList ds p := hA
  obtain ⟨v0, vs0, d0, ds0, q0, m0, y0, e0, rfl, t0, h0⟩ := trodAll_split1 hA
  obtain ⟨v1, vs1, d1, ds1, q1, m1, y1, e1, rfl, t1, h1⟩ := trodAll_split1 h0
  obtain ⟨v2, vs2, d2, ds2, q2, m2, y2, e2, rfl, t2, h2⟩ := trodAll_split1 h1
  obtain ⟨e3, rfl⟩ := trodAll_split0 h2
  have ea : args = [v0, v1, v2].toArray := by apply Array.toList_inj.1; rw [e0, e1, e2, e3]
  subst ea
  obtain ⟨b0, w0, f0, hr0, hb0⟩ := arg_slice (@rdr_bytes Try.prog 41 5 _ _ (by kernel_rfl)) (hval 0 41 v0 rfl rfl) t0
  obtain rfl : v0 = w0 := by simpa using f0
  obtain ⟨b1, w1, f1, hr1, hb1⟩ := arg_slice (@rdr_bytes Try.prog 41 5 _ _ (by kernel_rfl)) (hval 1 41 v1 rfl rfl) t1
  obtain rfl : v1 = w1 := by simpa using f1
  obtain ⟨n2, rfl, a2⟩ := arg_int (k := .u64) (hval 2 69 v2 rfl rfl) t2
  refine (stays_spec' v0 v1 b0 b1 n2 a2 hb0 hb1 [Old W] W (fun h hs => ⟨(Old.rd hr0).rd h hs, (Old.rd hr1).rd h hs⟩) (sat_old W)).mono fun e W' he => ?_
  obtain ⟨hev, ⟨_, _, rfl, hs⟩ | ⟨_, hf, _⟩⟩ := he
  · exact ⟨_, rfl, law_post Try.laidOut rfl hW' rfl Try.underlying4 (by decide +kernel) (by cases gs <;> first | rfl | exact False.elim hV) (Sat.below hev hs)⟩
  · exact hf.elim

set_option maxRecDepth 100000 in
theorem diskStays_holds : Rows.DiskStaysSaid :=
  OpenClaim.holds_of_wide 12 Try.f12 rfl rfl rfl rfl rfl rfl rfl ⟨rfl, rfl, rfl, rfl, rfl⟩ rfl rfl rfl rfl rfl (by kernel_rfl) Try.func12 (Try.joined (by kernel_rfl))
    (of_decide_eq_true (by kernel_rfl)) (by unfold Func.isWrapper; first | (rw [if_pos (by decide +kernel)]; kernel_rfl) | (rw [if_neg (by decide +kernel)]; exact ⟨rfl, rfl⟩))
    (fun os started H enc _ => diskStays_lifted os started H enc)
#print axioms diskStays_holds
end Go.Proofs.Ytapgejjjgeiihaa
