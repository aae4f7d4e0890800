/- ArrayMends: any stripes, a member lost, replaced, made anew stripe by stripe, others put meanwhile: all members are current then, and without any other one all reads as it was put. -/
import Derived.Test.YtapgejjjgeiihaaLawDead
import Derived.Test.YtapgejjjgeiihaaDrw
import Derived.Test.YtapgejjjgeiihaaUnd
namespace Go.Proofs.Ytapgejjjgeiihaa
open Go Go.Sl
attribute [local irreducible] Yl WL WC WQ WD

/-- one member failing; nothing is asked of what is known -/
structure JHold (s : Shp) (k : Nat) (m : IMap UInt8) (r : Rig) : Prop where
  base : Base s (· = k) r
  all : Stripes s m r
  whole : r.broken = false
theorem JHold.gets {s : Shp} (hs : s.Ok) (k : Nat) (m : IMap UInt8) : GetJ s false (JHold s k m) m := fun r t f c ht hc hg hj => by
  have hL := chunksOf_chunks hs f
  refine (achunk_sat hs hj.base.fits hj.base.lt ht hL (c := c) (by have := hL.many; omega) (hj.all.2 t f ht hg)).mono ?_ (fun r' h => no_gone hj.base.lim h)
  rintro x r' ⟨t1, ⟨rfl, _⟩ | ⟨rfl, h1⟩⟩
  · exact ⟨⟨hj.base.tr t1.toTr0, hj.all.tr t1.toTr0, hj.base.whole hj.whole t1.toTr0⟩, .inl (by rw [chunksOf_get f hc])⟩
  · rw [hj.base.whole hj.whole t1.toTr0] at h1; cases h1
section
variable {s : Shp} {k : Nat} {C : Int → Bytes} {D : Int → Prop} {m : IMap UInt8} {r r' : Rig}
theorem JM.sub (hj : JM s k C D m r) {D' : Int → Prop} (h : ∀ t, D' t → D t) : JM s k C D' m r :=
  ⟨hj.base, hj.whole, hj.told, hj.nodup, hj.comm, fun t ht => by obtain ⟨L, l1, l2, l3, l4⟩ := hj.lie t ht; exact ⟨L, l1, l2, l3, fun hd => l4 (h t hd)⟩, fun ⟨t, ht⟩ => hj.alive ⟨t, h t ht⟩⟩
theorem JM.putSame (hj : JM s k C D m r) (hs : s.Ok) (hk : (k : Int) < s.members) {q : Int} (hq : 1 ≤ q ∧ q < s.stripeAt 0) {b : Bytes} (hb : (b.length : Int) = s.block) :
    (aputSame s q b r).Sat (fun e r' => e = 0 ∧ JM s k (fun x => if x = q then b else C x) D m r') (fun _ => False) := by
  have hkl : k < r.ds.length := by have := hj.base.fits.many; omega
  have hqs : q < s.sectors := low_sec hs hq.2
  refine (aputSame_sat hj.base.fits ⟨by omega, hqs⟩ hb).mono ?_ (fun r' h => no_gone hj.base.lim h)
  rintro e r' ⟨t1, ⟨rfl, _, h1⟩ | ⟨_, h1⟩⟩
  rotate_left
  · rw [(hj.kept t1).2.1] at h1; cases h1
  obtain ⟨g1, g2, g3, g4⟩ := hj.kept t1
  refine ⟨rfl, g1, g2, g3, hj.nodup, fun x x1 x2 => ?_, fun t' ht' => ?_, g4⟩
  · by_cases hx : x = q
    · simp only [hx, if_true]
      exact ⟨hb, fun i hi hne => (h1 i (by rw [← t1.len]; exact hi)).2 (hj.base.live i (by rw [← t1.len]; exact hi) hne)⟩
    · simp only [if_neg hx]
      refine ⟨(hj.comm x x1 x2).1, fun i hi hne => ?_⟩
      have hi' : i < r.ds.length := by rw [← t1.len]; exact hi
      rw [t1.see i x (fun e => hx e) (by omega) (on_len hj.base.fits hi' (low_sec hs x2))]
      exact (hj.comm x x1 x2).2 i hi' hne
  · obtain ⟨L, l1, l2, l3, l4⟩ := hj.lie t' ht'
    have hne : s.stripeAt t' ≠ q := fun e => stripe_high s ht'.1 hq.2 e.symm
    refine ⟨L, l1, l2.tr t1.toTr0 (fun _ x => hne x), l3, fun hd => ?_⟩
    rw [t1.see k _ (fun x => hne x) (hs.at_ ht').1 (on_len hj.base.fits hkl (hs.at_ ht').2)]; exact l4 hd
theorem set_at (r : Rig) (k : Nat) : ({ r with ds := r.ds.set k (r.at k) } : Rig) = r := by
  have e : r.ds.set k (r.at k) = r.ds := by
    unfold Rig.at
    apply List.ext_getElem? ; intro i
    rw [List.getElem?_set]
    split
    · rename_i h; subst h
      by_cases h2 : k < r.ds.length
      · simp [h2, List.getD]
      · simp [h2]
    · rfl
  rw [e]
theorem JM.lose' (hj : JM s k C (fun _ => False) m r) (hs : s.Ok) (hk : (k : Int) < s.members) : ∃ r', alose k r = .ok 0 r' ∧ JM s k C (fun _ => False) m r' ∧ r'.stale = k := by
  obtain ⟨e, r', he, rfl, h1, h2, _⟩ := sat_ok (hj.lose hs hk (r.at k) rfl rfl rfl)
  rw [set_at] at he
  exact ⟨r', he, h1, h2⟩
/-- all was made anew -/
theorem JM.finish (hj : JM s k C D m r) (hs : s.Ok) (hk : (k : Int) < s.members) (hst : r.stale = k) (hl : Live (r.at k)) (hD : ∀ t, 0 ≤ t ∧ t < s.all → D t) {first : Bytes} (hfi : (first.length : Int) = s.block) :
    ∃ r', afinish s first r = .ok 0 r' ∧ r'.stale = -1 ∧ JHold s k m r' ∧ Live (r'.at k) ∧ (r'.at k).see 0 = first ∧ ∀ q, 1 ≤ q → q < s.stripeAt 0 → (r'.at k).see q = C q := by
  have hkl : k < r.ds.length := by have := hj.base.fits.many; omega
  have hmm := hs.members
  have hm := hj.base.fits.many
  obtain ⟨e, r', he, h1⟩ := sat_ok ((afinish_sat hs hj.base.fits hkl hst hj.whole hfi (C := C) (fun q q1 q2 => hj.comm q q1 q2)).mono (fun _ _ h => h) (fun r' h => no_gone hj.base.lim h))
  rcases h1 with ⟨rfl, b1, s1, r2, t2, s2, d1, l1, n1, f0, f1, f2, dd⟩ | ⟨t1, h2⟩
  rotate_left
  · exfalso
    rcases h2 with ⟨_, _, h2⟩ | ⟨_, h2 | h2⟩
    · exact h2 hl
    · rw [(hj.kept t1).2.1] at h2; cases h2
    · have h3 := h2 0 (by omega); have h4 := h2 1 (by omega); omega
  have hB2 := hj.base.tr t2.toTr0
  have hat : ∀ i, r'.at i = r2.at i := fun i => Rig.at_congr d1 i
  have hlen : r'.ds.length = r.ds.length := by rw [d1, t2.len]
  refine ⟨r', he, s1, ⟨⟨⟨by rw [d1]; exact hB2.fits.many, fun i hi => by rw [hat]; exact hB2.fits.size i (by rw [← d1]; exact hi), fun i hi => by rw [hat]; exact hB2.fits.on i (by rw [← d1]; exact hi)⟩, by rw [l1]; exact hB2.lim, fun i hi hne => by rw [hat]; exact hB2.live i (by rw [← d1]; exact hi) hne, .inl s1⟩, ⟨hj.nodup, fun t f ht hg => ?_⟩, b1⟩, by rw [hat]; exact t2.live k hl, by rw [hat]; exact f0.see, fun q q1 q2 => by rw [hat]; exact (f1 q q1 q2).see⟩
  obtain ⟨L, l1', l2, l3, l4⟩ := hj.lie t ht
  have := l3 f hg
  subst this
  intro i hi _
  rw [hat]
  by_cases hik : i = k
  · subst hik
    have := f2 (s.stripeAt t) (by unfold Shp.stripeAt; omega) (hs.at_ ht).2
    rwa [l4 (hD t ht)] at this
  · exact t2.firm i _ _ (fun x => hik x.1) (l2 i (by rw [← hlen]; exact hi) (by rw [hst]; omega))
end
theorem live_read {r : Rig} {m : Nat} (hm : m < r.ds.length) (hlim : r.pow.limit = -1) {q : Int} (hq : 0 ≤ q ∧ q < (r.at m).on.length) (hl : Live (r.at m)) :
    ∃ r', r.dev m (dread q) = .ok ((r.at m).see q, 0) r' ∧ Tr S0 r r' ∧ r'.nv = r.nv := by
  obtain ⟨x, r', he, t1, a1, n1, b1, h1⟩ := sat_ok ((read_sat hm hq).mono (fun _ _ h => h) (fun r' h => by have := h.2; omega))
  rcases h1 with ⟨h2, h3, h4⟩ | ⟨_, h2, _⟩
  · exact ⟨r', by rw [he, ← h3, ← h2], t1.tell a1 (.inl h4), n1⟩
  · exact absurd hl h2
theorem JHold.tr {s : Shp} {k : Nat} {m : IMap UInt8} {r r' : Rig} (hj : JHold s k m r) (t : Tr S0 r r') : JHold s k m r' := ⟨hj.base.tr t.toTr0, hj.all.tr t.toTr0, hj.base.whole hj.whole t.toTr0⟩

/-- all are current; another one fails -/
theorem JHold.other {s : Shp} {k : Nat} {m : IMap UInt8} {r : Rig} (hj : JHold s k m r) (hst : r.stale = -1) (hl : Live (r.at k)) {o : Nat} (ho : o < r.ds.length) : JHold s o m { r with ds := r.ds.set o (r.at o).fail } := by
  have hB : Base s (· = o) r := ⟨hj.base.fits, hj.base.lim, fun i hi _ => by
    by_cases hik : i = k
    · rw [hik]; exact hl
    · exact hj.base.live i hi hik, .inl hst⟩
  obtain ⟨h1, h2⟩ := failing_tr hB ho rfl (r.at o).fail rfl rfl rfl
  exact ⟨h1, h2 m hj.all, hj.whole⟩
set_option maxHeartbeats 8000000 in
theorem mends_spec (x : Small) (v1 v2 : Value) (xs ys : List (UInt8 × UInt8)) (m other : UInt8) (hb1 : xs.length ≤ 9223372036854775807) (hb2 : ys.length ≤ 9223372036854775807) :
    Spec0 Try.prog 9 [Small.val x, v1, v2, vb m, vb other] (fun h => Rd v1 2 (xs.flatMap strCells) h ∧ Rd v2 2 (ys.flatMap strCells) h) (fun F => F) (fun _ : Unit => True) (fun _ => .bool true) (fun _ F => F) := by
  (refine spec_of Try.func9 rfl Try.ntmps9 rfl (fun F w0 hrd => ?_))
  haveI : RdIn F v1 2 (xs.flatMap strCells) := ⟨fun h hs => (hrd h hs).1⟩
  haveI : RdIn F v2 2 (ys.flatMap strCells) := ⟨fun h hs => (hrd h hs).2⟩
  refine walk ?_
  intro c
  refine walk ?_
  refine call (awake11_spec) ?_
  intro _ _
  refine walk ?_
  (first | (refine wif_cut 4 29 (.bool (decide ((xs.length : Int) > 8 ∨ (ys.length : Int) > 8))) (fun K => ?_) ?_; refine wif_dec (fun hc => ?_) (fun hc => ?_); (iterate 4 ((first | (refine wl_guard_yes rfl rfl rfl ?_; refine wl_ya ?_) | (refine wl_guard_no rfl rfl rfl rfl rfl ?_) | (refine wl_ya ?_)))); exact K true _ _ rfl (by (repeat (first | exact trivial | refine And.intro (by first | exact trivial | rfl) ?_))) (by simp [hc]) (by first | rfl | (simp; done) | (simp; omega) | (simp [*]; done) | (simp [*]; omega)); (iterate 4 ((first | (refine wl_guard_yes rfl rfl rfl ?_; refine wl_ya ?_) | (refine wl_guard_no rfl rfl rfl rfl rfl ?_) | (refine wl_ya ?_)))); exact K false _ _ rfl (by (repeat (first | exact trivial | refine And.intro (by first | exact trivial | rfl) ?_))) (by simp [hc]) (by first | rfl | (simp; done) | (simp; omega) | (simp [*]; done) | (simp [*]; omega)); try (refine wl_nil ?_)) | (refine wif_cutn 4 29 (.bool (decide ((xs.length : Int) > 8 ∨ (ys.length : Int) > 8))) (fun K => ?_) ?_; refine wif_dec (fun hc => ?_) (fun hc => ?_); (iterate 4 ((first | (refine wl_guard_yes rfl rfl rfl ?_; refine wl_ya ?_) | (refine wl_guard_no rfl rfl rfl rfl rfl ?_) | (refine wl_ya ?_)))); exact K false _ _ rfl (by (repeat (first | exact trivial | refine And.intro (by first | exact trivial | rfl) ?_))) (by simp [hc]) (by first | rfl | (simp; done) | (simp; omega) | (simp [*]; done) | (simp [*]; omega)); (iterate 4 ((first | (refine wl_guard_yes rfl rfl rfl ?_; refine wl_ya ?_) | (refine wl_guard_no rfl rfl rfl rfl rfl ?_) | (refine wl_ya ?_)))); exact K true _ _ rfl (by (repeat (first | exact trivial | refine And.intro (by first | exact trivial | rfl) ?_))) (by simp [hc]) (by first | rfl | (simp; done) | (simp; omega) | (simp [*]; done) | (simp [*]; omega)); try (refine wl_nil ?_)))
  refine walk ?_
  refine wif_dec (fun hc => ?_) (fun hc => ?_) <;> refine walk ?_
  · exact wq_ret1 rfl rfl () rfl trivial perm
  have h1 : xs.length ≤ 8 := by omega
  have h2 : ys.length ≤ 8 := by omega
  refine call (shape5_spec x) ?_
  intro _ _
  have hs := shapeOf_ok x
  generalize shapeOf x = s at *
  have hmm := hs.members
  have hbl := hs.block
  have hp := hs.pages0
  refine walk ?_
  refine call (new11_spec s hs) ?_
  intro l hl
  obtain ⟨g, dv, ⟨a, nv, pp, ps, lv, sh⟩⟩ := l
  obtain ⟨hk, hsh⟩ := hl
  dsimp only [LRigAt] at hk hsh ⊢
  subst hsh
  have hps := hk.mem
  dsimp only at hps
  have hall := (bounds hs).all
  have hall0 : 8 ≤ sh.all := hall.1
  have hall1 : sh.all ≤ 1024 := hall.2
  have hm8 := m.toNat_lt
  have ho8 := other.toNat_lt
  obtain ⟨kk, hkk⟩ : ∃ kk : Nat, (m.toNat : Int) % sh.members = kk := ⟨((m.toNat : Int) % sh.members).toNat, by have := Int.emod_nonneg (m.toNat : Int) (show sh.members ≠ 0 by omega); omega⟩
  have hkl : kk < ps.length := by have := Int.emod_lt_of_pos (m.toNat : Int) (show 0 < sh.members by omega); omega
  have hkm : (kk : Int) < sh.members := by omega
  refine walk ?_
  intro hb
  refine walk ?_
  rw [show (MapI hb [] : HP) = MapB hb [] from rfl, hkk]
  (refine draw ?_; refine dy 0 ?_; refine dy 1 ?_; refine dy 2 ?_; refine ddx 3 ?_)
  refine walk ?_
  refine call (rput_spec ⟨g, dv, ⟨a, nv, pp, ps, lv, sh⟩⟩ hk (JM sh kk (fun _ => List.replicate sh.block.toNat 0) (fun _ => False)) false (JM.puts hs hkm) v1 xs (by omega) [] (Rig.fresh sh) (fresh_jm hs hkm) hb) ?_
  intro y1 hj1
  obtain ⟨m1, r1⟩ := y1
  dsimp only [LRigAt] at hj1 ⊢
  generalize (fun _ : Int => List.replicate sh.block.toNat (0 : UInt8)) = C0 at *
  have hb9 : ((blockOf sh 9).length : Int) = sh.block := blockOf_len sh (by omega) 9
  have hst0 : 1 < sh.stripeAt 0 := by unfold Shp.stripeAt; omega
  obtain ⟨e2, r2, he2, rfl, hj2⟩ := sat_ok (hj1.putSame hs hkm (q := 1) ⟨by omega, hst0⟩ hb9)
  obtain ⟨C, hC⟩ : ∃ C : Int → Bytes, C = fun x => if x = 1 then blockOf sh 9 else C0 x := ⟨_, rfl⟩
  rw [← hC] at hj2
  have hC1 : C 1 = blockOf sh 9 := by rw [hC]; rfl
  clear hC
  obtain ⟨r3, he3, hj3, hst3⟩ := hj2.lose' hs hkm
  obtain ⟨he4, hj4, hl4⟩ := hj3.replace hkm hst3
  have hj4' := hj4.sub (D' := fun t => 0 ≤ t ∧ t < ((0 : Nat) : Int)) (fun t ht => by omega)
  have hst4 : ({ r3 with ds := r3.ds.set kk (r3.at kk).anew } : Rig).stale = kk := hst3
  generalize ({ r3 with ds := r3.ds.set kk (r3.at kk).anew } : Rig) = r4 at *
  (refine walk ?_; refine dy 4 ?_; refine dy 5 ?_; refine dg 6 ?_; refine dg 7 ?_; refine dg 8 ?_; refine dg 9 ?_; refine dg 10 ?_; refine dg 11 ?_; refine dg 12 ?_; refine dg 13 ?_; refine ddx 14 ?_)
  refine walk ?_
  refine call (block_spec sh (by omega) 9) ?_
  intro bv _
  (refine walk ?_; refine ddx 15 ?_)
  refine walk ?_
  refine call ((aputSame_spec ⟨a, nv, pp, ps, lv, sh⟩ hk r1 1 bv (blockOf sh 9)).sure 0 r2 he2) ?_
  intro _ _
  (refine walk ?_; refine dg 16 ?_; refine dy 17 ?_; refine dy 18 ?_; refine dg 19 ?_; refine dg 20 ?_; refine dg 21 ?_; refine dg 22 ?_; refine dg 23 ?_; refine ddx 24 ?_)
  refine walk ?_
  refine call ((alose_spec ⟨a, nv, pp, ps, lv, sh⟩ hk r2 kk).sure 0 r3 he3) ?_
  intro _ _
  (refine walk ?_; refine dg 25 ?_; refine dy 26 ?_; refine dy 27 ?_; refine dg 28 ?_; refine dg 29 ?_; refine dg 30 ?_; refine dg 31 ?_; refine dg 32 ?_; refine ddx 33 ?_)
  refine walk ?_
  refine call ((areplace_spec ⟨a, nv, pp, ps, lv, sh⟩ hk r3 kk).sure 0 r4 he4) ?_
  intro _ _
  (refine walk ?_; refine dg 34 ?_; refine dy 35 ?_; refine walk ?_)
  refine walk ?_
  refine wif_dec (fun h => (h rfl).elim) (fun _ => ?_)
  refine walk ?_
  refine call (all_spec sh hs) ?_
  intro _ _
  have hj5 : JM sh kk C (fun t => 0 ≤ t ∧ t < ((0 : Nat) : Int)) m1 r4 := hj4'
  refine walk ?_
  refine wc_loop (X := Nat × IMap UInt8 × Rig) (fun y => [(0, Small.val x), (1, v1), (2, v2), (3, vb m), (4, vb other), (10, .bool false), (11, vp g), (13, .int .i64 kk), (14, .map (some hb)), (87, vi sh.all), (88, vi y.1)])
    (fun y => LRigAt ⟨g, dv, ⟨a, nv, pp, ps, lv, sh⟩⟩ y.2.2 (MapB hb y.2.1 :: F))
    (fun y => (y.1 : Int) ≤ sh.all ∧ JM sh kk C (fun t => 0 ≤ t ∧ t < (y.1 : Int)) y.2.1 y.2.2 ∧ y.2.2.stale = kk ∧ Live (y.2.2.at kk)) (fun y => sh.all.toNat - y.1) (0, m1, r4) ⟨by dsimp only; omega, hj5, hst4, hl4⟩ envs perm (fun y hy => ?_)
  obtain ⟨i, m5, r5⟩ := y
  dsimp only [LRigAt] at hy ⊢
  obtain ⟨hi, hj5, hst5, hl5⟩ := hy
  refine walk ?_
  refine wif_dec (fun hlt => ?_) (fun hlt => ?_)
  · obtain ⟨r6, he6, hj6, hst6⟩ := live_mend hj5 hs hkm hst5 hl5 (t := i) (by omega)
    have hl6 := hj6.alive ⟨i, .inr rfl⟩
    have hj6' : JM sh kk C (fun t => 0 ≤ t ∧ t < ((i + 1 : Nat) : Int)) m5 r6 := hj6.sub (fun t ht => by omega)
    have hlt5 : r5.stale < ps.length := by omega
    refine walk ?_
    refine call ((amend_spec ⟨a, nv, pp, ps, lv, sh⟩ hk r5 hlt5 i).sure 0 r6 he6) ?_
    intro _ _
    refine walk ?_
    refine wif_dec (fun h1 => ?_) (fun h1 => ?_)
    · refine walk ?_
      refine call (rput_spec ⟨g, dv, ⟨a, nv, pp, ps, lv, sh⟩⟩ hk (fun m r => JM sh kk C (fun t => 0 ≤ t ∧ t < ((i + 1 : Nat) : Int)) m r ∧ r.stale = kk) false (JM.puts' hs hkm) v2 ys (by omega) m5 r6 ⟨hj6', hst6⟩ hb) ?_
      intro y7 hj7
      obtain ⟨m7, r7⟩ := y7
      dsimp only [LRigAt] at hj7 ⊢
      obtain ⟨hj7, hst7⟩ := hj7
      have hl7 := hj7.alive ⟨i, by omega, by omega⟩
      refine walk ?_
      exact wq_round (i + 1, m7, r7) ⟨by dsimp only; omega, hj7, hst7, hl7⟩ (by dsimp only; omega) envs perm
    · refine walk ?_
      exact wq_round (i + 1, m5, r6) ⟨by dsimp only; omega, hj6', hst6, hl6⟩ (by dsimp only; omega) envs perm
  have hb5 : ((blockOf sh 5).length : Int) = sh.block := blockOf_len sh (by omega) 5
  obtain ⟨r6, he6, hst6, hj6, hl6, hs0, hsq⟩ := hj5.finish hs hkm hst5 hl5 (fun t ht => by omega) hb5
  have hkl6 : kk < r6.ds.length := by have := hj6.base.fits.many; omega
  have hon : ((r6.at kk).on.length : Int) = sh.sectors := hj6.base.fits.on kk hkl6
  have hsec := low_sec hs hst0
  obtain ⟨r7, he7, t7, n7⟩ := live_read hkl6 hj6.base.lim (q := 0) (by omega) hl6
  have hj7 := hj6.tr t7
  obtain ⟨r8, he8, t8, n8⟩ := live_read (r := r7) (m := kk) (by rw [t7.len]; exact hkl6) hj7.base.lim (q := 1) (by rw [(t7.size kk).2]; omega) (t7.live kk hl6)
  have hj8 := hj7.tr t8
  rw [hs0] at he7
  rw [t7.see kk 1 (fun x => x) (by omega) (by omega), hsq 1 (by omega) hst0, hC1] at he8
  have hst8 : r8.stale = -1 := by unfold Rig.stale at hst6 ⊢; rw [n8, n7]; exact hst6
  have hm0 : amend sh 0 r6 = .ok 10 r6 := by unfold amend; rw [if_neg (by omega), if_neg (by simp [hj6.whole]), if_pos (by omega)]
  have hlt5 : r5.stale < ps.length := by omega
  have hlt6 : r6.stale < ps.length := by omega
  refine walk ?_
  (refine draw ?_; refine dy 0 ?_; refine dy 1 ?_; refine dy 2 ?_; refine dy 3 ?_; refine dy 4 ?_; refine dy 5 ?_; refine dy 6 ?_; refine dy 7 ?_; refine ddx 8 ?_)
  refine walk ?_
  refine call (block_spec sh (by omega) 5) ?_
  intro bv _
  (refine walk ?_; refine ddx 9 ?_)
  refine walk ?_
  refine call ((afinish_spec ⟨a, nv, pp, ps, lv, sh⟩ hk r5 hlt5 bv (blockOf sh 5)).sure 0 r6 he6) ?_
  intro _ _
  (refine walk ?_; refine dy 10 ?_; refine dy 11 ?_; refine dg 12 ?_; refine dg 13 ?_; refine dg 14 ?_; refine dg 15 ?_; refine ddx 16 ?_)
  refine walk ?_
  refine call (stale_spec ⟨a, nv, pp, ps, lv, sh⟩ r6) ?_
  intro _ _
  rw [hst6]
  (refine walk ?_; refine dg 17 ?_; refine dy 18 ?_; refine dy 19 ?_; refine dg 20 ?_; refine dg 21 ?_; refine dg 22 ?_; refine dg 23 ?_; refine ddx 24 ?_)
  refine walk ?_
  refine call ((amend_spec ⟨a, nv, pp, ps, lv, sh⟩ hk r6 hlt6 0).sure 10 r6 hm0) ?_
  intro _ _
  (refine walk ?_; refine dg 25 ?_; refine dy 26 ?_; refine walk ?_)
  refine walk ?_
  refine wif_dec (fun h => (h rfl).elim) (fun _ => ?_)
  refine walk ?_
  refine call ((rread_spec ⟨a, nv, pp, ps, lv, sh⟩ r6 kk (by dsimp only; omega) 0).sure (blockOf sh 5, 0) r7 he7) ?_
  intro w0' _
  refine walk ?_
  refine call ((rread_spec ⟨a, nv, pp, ps, lv, sh⟩ r7 kk (by dsimp only; omega) 1).sure (blockOf sh 9, 0) r8 he8) ?_
  intro w1 _
  refine walk ?_
  refine call (block_spec sh (by omega) 5) ?_
  intro w2 _
  refine walk ?_
  refine call (equal_spec w0' w2 (blockOf sh 5) (blockOf sh 5) (by omega)) ?_
  intro _ _
  rw [decide_eq_true rfl]
  refine walk ?_
  refine call (block_spec sh (by omega) 9) ?_
  intro w3 _
  refine walk ?_
  refine call (equal_spec w1 w3 (blockOf sh 9) (blockOf sh 9) (by omega)) ?_
  intro _ _
  rw [decide_eq_true rfl]
  refine walk ?_
  have q1 := Int.emod_nonneg (other.toNat : Int) (show sh.members - 1 ≠ 0 by omega)
  have q2 := Int.emod_lt_of_pos (other.toNat : Int) (show 0 < sh.members - 1 by omega)
  obtain ⟨q, hq⟩ : ∃ q, q = (other.toNat : Int) % (sh.members - 1) := ⟨_, rfl⟩
  have q3 := Int.emod_nonneg ((kk : Int) + 1 + (other.toNat : Int) % (sh.members - 1)) (show sh.members ≠ 0 by omega)
  have q4 := Int.emod_lt_of_pos ((kk : Int) + 1 + (other.toNat : Int) % (sh.members - 1)) (show 0 < sh.members by omega)
  obtain ⟨o, ho⟩ : ∃ o : Nat, ((kk : Int) + 1 + (other.toNat : Int) % (sh.members - 1)) % sh.members = o := ⟨_, (Int.toNat_of_nonneg q3).symm⟩
  have hol : o < ps.length := by omega
  (refine draw ?_; refine dy 0 ?_; refine dy 1 ?_; refine dy 2 ?_; refine dy 3 ?_; refine dy 4 ?_; refine dy 5 ?_; refine dy 6 ?_; refine dy 7 ?_; refine dy 8 ?_; refine dy 9 ?_; refine dy 10 ?_; refine dy 11 ?_; refine dy 12 ?_; refine dy 13 ?_; refine dy 14 ?_; refine dy 15 ?_; refine dy 16 ?_; refine dy 17 ?_; refine dy 18 ?_; refine dy 19 ?_; refine dy 20 ?_; refine dy 21 ?_; refine dy 22 ?_; refine dy 23 ?_; refine ddx 24 ?_)
  simp only [ho, Int.toNat_natCast]
  have hj9 := hj8.other hst8 (t8.live kk (t7.live kk hl6)) (o := o) (by have := hj8.base.fits.many; omega)
  refine call (rfail_spec ⟨a, nv, pp, ps, lv, sh⟩ r8 o (by dsimp only; omega)) ?_
  intro _ _
  refine walk ?_
  refine call (rholds_spec ⟨g, dv, ⟨a, nv, pp, ps, lv, sh⟩⟩ hk m5 (JHold sh o m5) false (JHold.gets hs o m5) _ hj9 hb) ?_
  intro r10 _
  refine walk ?_
  exact wq_ret1 rfl rfl () rfl trivial perm
set_option maxRecDepth 100000 in
open Go.RowKit Go.ChangeShapes Go.WideShapes in
theorem arrayMends_lifted (os : Os) (started : os.Started) (H : Type) (enc : TypeId × Value → H) :
    ReturnsInHanded {} Try.checked os 9 .any (Rows.arrayMendsSpec.pre6 enc Try.prog Try.f9 Rows.arrayMendsRow.domain false) (Rows.arrayMendsSpec.post enc Try.prog Try.f9 false true false false) := by
  refine returnsInHanded_of_change (C := Try.checked) Try.own started (by kernel_rfl) Try.func9
    (ChangeSpec.witness6 (enc := enc) (C := Try.checked) false ⟨#[], #[.agg #[.int .u8 0, .int .u8 0, .int .u8 0, .int .u8 0, .int .u8 0, .int .u8 0], .slice none 0 0, .slice none 0 0, .int .u8 0, .int .u8 0], []⟩ 8 (by kernel_rfl) (by kernel_rfl) (by kernel_rfl) (by kernel_rfl)) ?_
  intro W base args ds gs before hval0 hW hcnd _
  rw [Try.same] at hval0 hW hcnd ⊢
  have hval : ∀ (j : Nat) t v, Try.f9.params[j]? = some t → args[j]? = some v → Value.okWide Try.prog W .any base t v := hval0
  have hW' := hW
  obtain ⟨p, q, hA, hV, rfl, hfz, hnd⟩ := hW
  have hA : DataW.TrodAll enc Try.prog W 0 (fun _ => true) true [23, 24, 24, 5, 5] args.toList ds p := hA
  obtain ⟨v0, vs0, d0, ds0, q0, m0, y0, e0, rfl, t0, h0⟩ := trodAll_split1 hA
  obtain ⟨v1, vs1, d1, ds1, q1, m1, y1, e1, rfl, t1, h1⟩ := trodAll_split1 h0
  obtain ⟨v2, vs2, d2, ds2, q2, m2, y2, e2, rfl, t2, h2⟩ := trodAll_split1 h1
  obtain ⟨v3, vs3, d3, ds3, q3, m3, y3, e3, rfl, t3, h3⟩ := trodAll_split1 h2
  obtain ⟨v4, vs4, d4, ds4, q4, m4, y4, e4, rfl, t4, h4⟩ := trodAll_split1 h3
  obtain ⟨e5, rfl⟩ := trodAll_split0 h4
  have ea : args = [v0, v1, v2, v3, v4].toArray := by apply Array.toList_inj.1; rw [e0, e1, e2, e3, e4, e5]
  subst ea
  obtain ⟨b0, c0, rfl, rfl, hx0⟩ := arg_struct Try.underlying23 @rdr_small (hval 0 23 v0 rfl rfl) t0
  obtain ⟨b1, w1, f1, hr1, hb1, hx1⟩ := arg_slice (@rdr_slicef Try.prog 24 102 2 (UInt8×UInt8) strCells _ _ (by kernel_rfl) (by decide) @rdr_stripe) (hval 1 24 v1 rfl rfl) t1
  obtain rfl : v1 = w1 := by simpa using f1
  obtain ⟨b2, w2, f2, hr2, hb2, hx2⟩ := arg_slice (@rdr_slicef Try.prog 24 102 2 (UInt8×UInt8) strCells _ _ (by kernel_rfl) (by decide) @rdr_stripe) (hval 2 24 v2 rfl rfl) t2
  obtain rfl : v2 = w2 := by simpa using f2
  obtain ⟨x3, rfl⟩ := arg_u8 (hval 3 5 v3 rfl rfl) t3
  obtain ⟨x4, rfl⟩ := arg_u8 (hval 4 5 v4 rfl rfl) t4
  refine (mends_spec b0 v1 v2 b1 b2 x3 x4 hb1 hb2 [Old W] W (fun h hs => ⟨(Old.rd hr1).rd h hs, (Old.rd hr2).rd h hs⟩) (sat_old W)).mono fun e W' he => ?_
  obtain ⟨hev, ⟨_, _, rfl, hs⟩ | ⟨_, hf, _⟩⟩ := he
  · exact ⟨_, rfl, law_post Try.laidOut rfl hW' rfl Try.underlying4 (by decide +kernel) (by cases gs <;> first | rfl | exact False.elim hV) (Sat.below hev hs)⟩
  · exact hf.elim

set_option maxRecDepth 100000 in
theorem arrayMends_holds : Rows.ArrayMendsSaid :=
  OpenClaim.holds_of_wide 9 Try.f9 rfl rfl rfl rfl rfl rfl rfl ⟨rfl, rfl, rfl, rfl, rfl⟩ rfl rfl rfl rfl rfl (by kernel_rfl) Try.func9 (Try.joined (by kernel_rfl))
    (of_decide_eq_true (by kernel_rfl)) (by unfold Func.isWrapper; first | (rw [if_pos (by decide +kernel)]; kernel_rfl) | (rw [if_neg (by decide +kernel)]; exact ⟨rfl, rfl⟩))
    (fun os started H enc _ => arrayMends_lifted os started H enc)
#print axioms arrayMends_holds
end Go.Proofs.Ytapgejjjgeiihaa
