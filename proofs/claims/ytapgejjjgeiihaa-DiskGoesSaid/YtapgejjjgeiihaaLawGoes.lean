/- DiskGoes: when the power goes at an operation it isn't done. -/
import Derived.Test.YtapgejjjgeiihaaLawDOwn
import Derived.Test.YtapgejjjgeiihaaRun2
namespace Go.Proofs.Ytapgejjjgeiihaa
open Go Go.Sl
attribute [local irreducible] Yl WL WC WQ WD

/-- so many sectors of a byte wait; so many operations may be done -/
structure Went (m : Int) (k : Nat) (s : DP) : Prop where
  limit : s.2.limit = m
  used : s.2.used = k
  dead : s.1.dead = false
  failAt : s.1.failAt = -1
  size : s.1.size = 1
  len : s.1.on.length = 6
  keys : s.1.cache.map (·.1) = (List.range k).map fun (i : Nat) => (i : Int)
/-- the closure's sectors, one by one -/
def wr6 : List UInt8 → Nat → DP → Out DP Unit
  | [], _, s => .ok () s
  | x :: l, k, s => (dwrite k [x] s).bind fun _ s => wr6 l (k + 1) s

set_option maxHeartbeats 2000000 in
theorem clo_spec (b1 b2 d p : Nat) (v : Value) (l : Bytes) (hl : l.length ≤ 6) (s : DP) :
    SpecG Try.prog outage 57 [vp b1, vp b2] (Rd v 1 (l.map vb)) (fun s F => Cells b1 [v] :: Cells b2 [vp d] :: DiskAt d p s.1 :: PowAt p s.2 :: F) (wr6 l 0 s) s (fun (_ : Unit) _ => True) (fun _ _ => .tuple #[]) (fun _ _ F => F) := by
  (refine spec_of Try.func57 rfl Try.ntmps57 rfl (fun F w0 hrd => ?_))
  haveI : RdIn F v 1 (l.map vb) := ⟨hrd⟩
  refine walk ?_
  refine wc_loop (X := Nat × DP) (fun y => [(0, vp b1), (1, vp b2), (4, v), (5, vi l.length), (6, vi y.1)])
    (fun y => Cells b1 [v] :: Cells b2 [vp d] :: DiskAt d p y.2.1 :: PowAt p y.2.2 :: F) (fun y => y.1 ≤ l.length ∧ wr6 l 0 s = wr6 (l.drop y.1) y.1 y.2) (fun y => l.length - y.1) (0, s) ⟨by simp, rfl⟩ envs perm (fun y hy => ?_)
  obtain ⟨k, t⟩ := y
  dsimp only at hy ⊢
  obtain ⟨hk, hw⟩ := hy
  refine walk ?_
  refine wif_dec (fun hlt => ?_) (fun hlt => ?_)
  · have hlt : k < l.length := by omega
    have hd : l.drop k = l[k] :: l.drop (k + 1) := List.drop_eq_getElem_cons hlt
    rw [hd] at hw
    refine walk ?_
    intro v' hvl hvn
    refine walk ?_
    refine gcall (dwrite_spec d p t k v' [l[k]]) (fun s' hg => ⟨s', ?_, ?_⟩) (fun _ e s' hs _ => ?_)
    · rw [hw]; unfold wr6; rw [hg]; rfl
    · exact perm
    refine walk ?_
    refine wq_round (k + 1, s') ⟨by dsimp only; omega, ?_⟩ (by dsimp only; omega) envs perm
    rw [hw]
    conv => lhs; unfold wr6
    rw [hs]; rfl
  · have hk' : k = l.length := by omega
    subst hk'
    rw [List.drop_length] at hw
    refine walk ?_
    exact wq_end0 rfl ((), (), t) rfl ⟨hw, trivial⟩ perm

theorem Went.write {m : Int} {k : Nat} {s : DP} (h : Went m k s) (hk : k < 6) (hm : 0 ≤ m) (hkm : (k : Int) ≤ m) (x : UInt8) :
    if (k : Int) = m then dwrite k [x] s = .gone s else ∃ s', dwrite k [x] s = .ok 0 s' ∧ Went m (k + 1) s' := by
  have h1 : (s.1.has (k : Int)) = true ∧ (([x] : Bytes).length : Int) = s.1.size := by
    refine ⟨?_, by rw [h.size]; rfl⟩
    unfold Dsk.has
    rw [h.len]
    simp; omega
  unfold dwrite
  rw [if_pos h1]
  obtain ⟨d, q⟩ := s
  obtain ⟨u, l⟩ := q
  have hu : u = k := h.used
  have hl : l = m := h.limit
  subst hu hl
  split
  · rename_i he
    unfold dstep Pow.tick
    rw [if_pos (by dsimp only; omega)]
    rfl
  · rename_i he
    unfold dstep Pow.tick
    rw [if_neg (by dsimp only; omega)]
    have hb : d.begun ⟨w64 ((k : Int) + 1), l⟩ = d := by
      have h3 : d.failAt = -1 := h.failAt
      have h4 : d.dead = false := h.dead
      obtain ⟨a, b, c, e, f, g⟩ := d
      simp only at h3 h4
      subst h3 h4
      simp [Dsk.begun]
    have hd : d.dead = false := h.dead
    dsimp only
    rw [hb, hd]
    refine ⟨_, rfl, ⟨rfl, ?_, h.dead, h.failAt, h.size, h.len, ?_⟩⟩
    · show w64 ((k : Int) + 1) = ((k + 1 : Nat) : Int)
      unfold w64
      rw [wrap_i64 (by omega) (by omega)]; rfl
    · show (mset d.cache (k : Int) [x]).map (·.1) = _
      have hkeys : d.cache.map (·.1) = (List.range k).map fun (i : Nat) => (i : Int) := h.keys
      have hn : mget d.cache (k : Int) = none := by
        rw [mget_none, hkeys]
        intro hmem
        obtain ⟨i, hi, he⟩ := List.mem_map.1 hmem
        have := List.mem_range.1 hi
        omega
      rw [mset_keys, hn, hkeys, List.range_succ]
      simp
theorem Went.writes {m : Int} (hm : 0 ≤ m) : ∀ (l : List UInt8) (k : Nat) (s : DP), Went m k s → k + l.length ≤ 6 → (k : Int) ≤ m →
    if (k + l.length : Int) ≤ m then ∃ s', wr6 l k s = .ok () s' ∧ Went m (k + l.length) s' else ∃ s', wr6 l k s = .gone s' ∧ Went m m.toNat s'
  | [], k, s, h, hk, hkm => by
    rw [if_pos (by simpa using hkm)]
    exact ⟨s, rfl, h⟩
  | x :: l, k, s, h, hk, hkm => by
    simp only [List.length_cons] at hk ⊢
    have h1 := h.write (by omega) hm hkm x
    split at h1
    · rename_i he
      rw [if_neg (by omega)]
      refine ⟨s, by unfold wr6; rw [h1]; rfl, ?_⟩
      have : m.toNat = k := by omega
      rw [this]; exact h
    · rename_i he
      obtain ⟨s', e1, h2⟩ := h1
      have ih := Went.writes hm l (k + 1) s' h2 (by omega) (by omega)
      have e2 : wr6 (x :: l) k s = wr6 l (k + 1) s' := by
        conv => lhs; unfold wr6
        rw [e1]; rfl
      rw [e2]
      split at ih
      · rw [if_pos (by omega)]
        obtain ⟨t, a, b⟩ := ih
        exact ⟨t, a, by rw [show k + (l.length + 1) = k + 1 + l.length from by omega]; exact b⟩
      · rw [if_neg (by omega)]
        exact ih
theorem Went.waits {m : Int} {k : Nat} {s : DP} (h : Went m k s) : s.1.waiting.length = k := by
  have h1 := (waiting_perm s.1).length_eq
  rw [h.keys] at h1
  simpa using h1

set_option maxHeartbeats 2000000 in
theorem goes_spec (x : UInt8) (v : Value) (l : List UInt8) (hl : l.length ≤ 9223372036854775807) :
    Spec0 Try.prog 14 [vb x, v] (Rd v 1 (l.map vb)) (fun F => F) (fun _ : Unit => True) (fun _ => .bool true) (fun _ F => F) := by
  (refine spec_of Try.func14 rfl Try.ntmps14 rfl (fun F w0 hrd => ?_))
  haveI : RdIn F v 1 (l.map vb) := ⟨hrd⟩
  have hx := x.toNat_lt
  refine WC.tell (fun h hs => (hrd h hs).isSlice) (fun hv1 => ?_)
  have hv2 : v.cells.toList = [v] := by cases v <;> simp [Value.cells, Value.oneCell'] at hv1 ⊢
  refine walk ?_
  intro b1
  rw [hv2]
  refine walk ?_
  refine call (awake04_spec) ?_
  intro _ _
  refine walk ?_
  refine wif_dec (fun hc => ?_) (fun hc => ?_) <;> refine walk ?_
  · exact wq_ret1 rfl rfl () rfl trivial perm
  have hl6 : l.length ≤ 6 := by omega
  obtain ⟨m, hm⟩ : ∃ m : Int, m = (x.toNat : Int) % 8 := ⟨_, rfl⟩
  rw [← hm]
  have hm8 : 0 ≤ m ∧ m < 8 := by omega
  refine call (pnew_spec m) ?_
  intro p _
  refine walk ?_
  refine call (dnew_spec p 6 1 (by omega) (by omega)) ?_
  intro d _
  rw [show (max (6 : Int) 0).toNat = 6 from rfl, show max (1 : Int) 0 = 1 from rfl]
  have h0 : Went m 0 (Dsk.blank 6 1, ⟨0, m⟩) := ⟨rfl, rfl, rfl, rfl, rfl, rfl, rfl⟩
  have hws := Went.writes hm8.1 l 0 _ h0 (by omega) (by omega)
  refine walk ?_
  intro b2
  refine walk ?_
  refine call (run_spec (caps := [vp b1, vp b2]) (clo_spec b1 b2 d p v l hl6 (Dsk.blank 6 1, ⟨0, m⟩)) (fun A F => perm) (fun x A F => perm) (fun y A F => perm)) ?_
  intro r hr
  rcases r with ⟨_, _, s'⟩ | s'
  · have hr1 : wr6 l 0 (Dsk.blank 6 1, ⟨0, m⟩) = .ok () s' := hr.1
    rw [hr1] at hws
    split at hws
    · rename_i hle
      obtain ⟨t, e, hw⟩ := hws
      cases e
      have hwl := hw.waits
      dsimp only [Sum.elim_inl, Sum.isRight_inl]
      refine walk ?_
      refine wif_beq (fun _ => ?_) (fun h => ?_)
      rotate_left
      · exfalso
        refine h ?_
        simp
        omega
      refine walk ?_
      refine call (waiting_spec d p s'.1) ?_
      intro r _
      refine walk ?_
      refine wq_ret1 rfl rfl () ?_ trivial perm
      simp [hwl]
      omega
    · obtain ⟨t, e, _⟩ := hws
      cases e
  · have hr1 : wr6 l 0 (Dsk.blank 6 1, ⟨0, m⟩) = .gone s' := hr
    rw [hr1] at hws
    split at hws
    · obtain ⟨t, e, _⟩ := hws
      cases e
    · rename_i hle
      obtain ⟨t, e, hw⟩ := hws
      cases e
      have hwl := hw.waits
      dsimp only [Sum.elim_inr, Sum.isRight_inr]
      refine walk ?_
      refine wif_beq (fun _ => ?_) (fun h => ?_)
      rotate_left
      · exfalso
        refine h ?_
        simp
        omega
      refine walk ?_
      refine call (waiting_spec d p s'.1) ?_
      intro r _
      refine walk ?_
      refine wq_ret1 rfl rfl () ?_ trivial perm
      simp [hwl]
      omega

set_option maxRecDepth 100000 in
open Go.RowKit Go.ChangeShapes Go.WideShapes in
theorem diskGoes_lifted (os : Os) (started : os.Started) (H : Type) (enc : TypeId × Value → H) :
    ReturnsInHanded {} Try.checked os 14 .any (Rows.diskGoesSpec.pre6 enc Try.prog Try.f14 Rows.diskGoesRow.domain false) (Rows.diskGoesSpec.post enc Try.prog Try.f14 false true false false) := by
  refine returnsInHanded_of_change (C := Try.checked) Try.own started (by kernel_rfl) Try.func14
    (ChangeSpec.witness6 (enc := enc) (C := Try.checked) false ⟨#[], #[.int .u8 0, .slice none 0 0], []⟩ 8 (by kernel_rfl) (by kernel_rfl) (by kernel_rfl) (by kernel_rfl)) ?_
  intro W base args ds gs before hval0 hW hcnd _
  rw [Try.same] at hval0 hW hcnd ⊢
  have hval : ∀ (j : Nat) t v, Try.f14.params[j]? = some t → args[j]? = some v → Value.okWide Try.prog W .any base t v := hval0
  have hW' := hW
  obtain ⟨p, q, hA, hV, rfl, hfz, hnd⟩ := hW
  have hA : DataW.TrodAll enc Try.prog W 0 (fun _ => true) true [5, 41] args.toList ds p := hA
  obtain ⟨v0, vs0, d0, ds0, q0, m0, y0, e0, rfl, t0, h0⟩ := trodAll_split1 hA
  obtain ⟨v1, vs1, d1, ds1, q1, m1, y1, e1, rfl, t1, h1⟩ := trodAll_split1 h0
  obtain ⟨e2, rfl⟩ := trodAll_split0 h1
  have ea : args = [v0, v1].toArray := by apply Array.toList_inj.1; rw [e0, e1, e2]
  subst ea
  obtain ⟨x0, rfl⟩ := arg_u8 (hval 0 5 v0 rfl rfl) t0
  obtain ⟨b1, w1, f1, hr1, hb1⟩ := arg_slice (@rdr_bytes Try.prog 41 5 _ _ (by kernel_rfl)) (hval 1 41 v1 rfl rfl) t1
  obtain rfl : v1 = w1 := by simpa using f1
  refine (goes_spec x0 v1 b1 hb1 [Old W] W (fun h hs => (Old.rd hr1).rd h hs) (sat_old W)).mono fun e W' he => ?_
  obtain ⟨hev, ⟨_, _, rfl, hs⟩ | ⟨_, hf, _⟩⟩ := he
  · exact ⟨_, rfl, law_post Try.laidOut rfl hW' rfl Try.underlying4 (by decide +kernel) (by cases gs <;> first | rfl | exact False.elim hV) (Sat.below hev hs)⟩
  · exact hf.elim

set_option maxRecDepth 100000 in
theorem diskGoes_holds : Rows.DiskGoesSaid :=
  OpenClaim.holds_of_wide 14 Try.f14 rfl rfl rfl rfl rfl rfl rfl ⟨rfl, rfl, rfl, rfl, rfl⟩ rfl rfl rfl rfl rfl (by kernel_rfl) Try.func14 (Try.joined (by kernel_rfl))
    (of_decide_eq_true (by kernel_rfl)) (by unfold Func.isWrapper; first | (rw [if_pos (by decide +kernel)]; kernel_rfl) | (rw [if_neg (by decide +kernel)]; exact ⟨rfl, rfl⟩))
    (fun os started H enc _ => diskGoes_lifted os started H enc)
#print axioms diskGoes_holds
end Go.Proofs.Ytapgejjjgeiihaa
