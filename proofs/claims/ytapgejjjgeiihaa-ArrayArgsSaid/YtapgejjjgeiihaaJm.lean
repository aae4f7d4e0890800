/- What holds of a rig of which one member may fail, be replaced, and made anew. -/
import Derived.Test.YtapgejjjgeiihaaJrg
namespace Go.Proofs.Ytapgejjjgeiihaa
open Go Go.Sl

structure JM (s : Shp) (k : Nat) (C : Int → Bytes) (D : Int → Prop) (m : IMap UInt8) (r : Rig) : Prop where
  base : Base s (· = k) r
  whole : r.broken = false
  told : (r.at k).dead = true → r.stale = k
  nodup : (m.map (·.1)).Nodup
  comm : ∀ q, 1 ≤ q → q < s.stripeAt 0 → ((C q).length : Int) = s.block ∧ ∀ i, i < r.ds.length → i ≠ k → (r.at i).see q = C q
  lie : ∀ t, 0 ≤ t ∧ t < s.all → ∃ L, Chunks s L ∧ Holds s r t L ∧ (∀ f, mget m t = some f → L = chunksOf s f) ∧ (D t → (r.at k).see (s.stripeAt t) = cellOf s t L k)
  alive : (∃ t, D t) → Live (r.at k)
variable {s : Shp} {k : Nat} {C : Int → Bytes} {D : Int → Prop} {m : IMap UInt8} {r r' : Rig}

theorem JM.kept (hj : JM s k C D m r) {S : Nat → Int → Prop} (t : Tr S r r') : Base s (· = k) r' ∧ r'.broken = false ∧ ((r'.at k).dead = true → r'.stale = k) ∧ ((∃ t, D t) → Live (r'.at k)) :=
  ⟨hj.base.tr t.toTr0, hj.base.whole hj.whole t.toTr0, (fun hd => by
    rcases t.told k hd with h | h | h
    · have := hj.told h
      rw [← this]; exact t.stale_is (by rw [this]; omega)
    · exact h.symm
    · rw [hj.base.whole hj.whole t.toTr0] at h; cases h), fun h => t.live k (hj.alive h)⟩
theorem stripe_high (s : Shp) {t q : Int} (ht : 0 ≤ t) (hq : q < s.stripeAt 0) : q ≠ s.stripeAt t := by unfold Shp.stripeAt at hq ⊢; omega
theorem on_len (hf : Fits s r) {i : Nat} (hi : i < r.ds.length) {q : Int} (hq : q < s.sectors) : q < (r.at i).on.length := by rw [hf.on i hi]; exact hq
theorem low_sec (hs : s.Ok) {q : Int} (hq : q < s.stripeAt 0) : q < s.sectors := by
  have h1 := hs.segments; have h2 := hs.stripes
  have := Int.mul_pos (show 0 < s.segments by omega) (show 0 < s.stripes by omega)
  unfold Shp.stripeAt at hq; unfold Shp.sectors Shp.all; omega
theorem JM.puts (hs : s.Ok) (hk : (k : Int) < s.members) : PutJ s false (JM s k C D) := fun m r t f ht hj => by
  have hL := chunksOf_chunks hs f
  have hkl : k < r.ds.length := by have := hj.base.fits.many; omega
  refine (aput_sat hs hj.base.fits ht hL).mono ?_ (fun r' h => no_gone hj.base.lim h)
  rintro e r' ⟨t1, ⟨rfl, _, h1, h2⟩ | ⟨rfl, h1⟩⟩
  rotate_left
  · rw [hj.base.whole hj.whole t1.toTr0] at h1; cases h1
  obtain ⟨g1, g2, g3, g4⟩ := hj.kept t1
  refine .inl ⟨rfl, g1, g2, g3, mset_nodup hj.nodup t f, fun q q1 q2 => ⟨(hj.comm q q1 q2).1, fun i hi hne => ?_⟩, fun t' ht' => ?_, g4⟩
  · have hi' : i < r.ds.length := by rw [← t1.len]; exact hi
    rw [t1.see i q (fun x => stripe_high s ht.1 q2 x) (by omega) (on_len hj.base.fits hi' (low_sec hs q2))]
    exact (hj.comm q q1 q2).2 i hi' hne
  · by_cases hc : t' = t
    · subst hc
      refine ⟨chunksOf s f, hL, h1, fun f' hf' => ?_, fun hd => ?_⟩
      · rw [mget_mset, if_pos rfl] at hf'; cases hf'; rfl
      · exact (h2 k hkl (hj.alive ⟨_, hd⟩)).see
    · obtain ⟨L, l1, l2, l3, l4⟩ := hj.lie t' ht'
      have hne : s.stripeAt t' ≠ s.stripeAt t := fun x => hc (stripeAt_inj x)
      refine ⟨L, l1, l2.tr t1.toTr0 (fun _ x => hne x), fun f' hf' => ?_, fun hd => ?_⟩
      · rw [mget_mset, if_neg hc] at hf'; exact l3 f' hf'
      · rw [t1.see k _ (fun x => hne x) (hs.at_ ht').1 (on_len hj.base.fits hkl (hs.at_ ht').2)]; exact l4 hd
/-- nothing is written, but of the member that isn't current -/
theorem JM.quiet (hj : JM s k C D m r) (hs : s.Ok) (hk : (k : Int) < s.members) (t : Tr S0 r r') : JM s k C D m r' := by
  have hkl : k < r.ds.length := by have := hj.base.fits.many; omega
  obtain ⟨g1, g2, g3, g4⟩ := hj.kept t
  refine ⟨g1, g2, g3, hj.nodup, fun q q1 q2 => ⟨(hj.comm q q1 q2).1, fun i hi hne => ?_⟩, fun t' ht' => ?_, g4⟩
  · have hi' : i < r.ds.length := by rw [← t.len]; exact hi
    rw [t.see i q (fun x => x) (by omega) (on_len hj.base.fits hi' (low_sec hs q2))]
    exact (hj.comm q q1 q2).2 i hi' hne
  · obtain ⟨L, l1, l2, l3, l4⟩ := hj.lie t' ht'
    refine ⟨L, l1, l2.tr t.toTr0 (fun _ x => x), l3, fun hd => ?_⟩
    rw [t.see k _ (fun x => x) (hs.at_ ht').1 (on_len hj.base.fits hkl (hs.at_ ht').2)]; exact l4 hd
theorem JM.gets (hs : s.Ok) (hk : (k : Int) < s.members) (m : IMap UInt8) : GetJ s false (JM s k C D m) m := fun r t f c ht hc hg hj => by
  obtain ⟨L, l1, l2, l3, l4⟩ := hj.lie t ht
  have := l3 f hg
  subst this
  refine (achunk_sat hs hj.base.fits hj.base.lt ht l1 (c := c) (by have := l1.many; omega) l2).mono ?_ (fun r' h => no_gone hj.base.lim h)
  rintro x r' ⟨t1, ⟨rfl, _⟩ | ⟨rfl, h1⟩⟩
  · exact ⟨hj.quiet hs hk t1, .inl (by rw [chunksOf_get f hc])⟩
  · rw [hj.base.whole hj.whole t1.toTr0] at h1; cases h1

/-- noughts -/
theorem zero_cell (hs : s.Ok) (t : Int) (i : Nat) : Chunks s (List.replicate (s.members - 1).toNat (List.replicate s.block.toNat 0)) ∧ cellOf s t (List.replicate (s.members - 1).toNat (List.replicate s.block.toNat 0)) i = List.replicate s.block.toNat 0 := by
  have hm := hs.members
  have hb := hs.block
  have hL : Chunks s (List.replicate (s.members - 1).toNat (List.replicate s.block.toNat 0)) := ⟨by simp; omega, fun b hb' => by rw [List.eq_of_mem_replicate hb']; simp; omega⟩
  refine ⟨hL, ?_⟩
  unfold cellOf
  dsimp only
  split
  · rename_i h
    have h' : (((i : Int) - t - 1) % s.members).toNat < (s.members - 1).toNat := by simpa using h
    rw [List.getD, List.getElem?_replicate, if_pos h']; rfl
  · have hall : ∀ b ∈ List.replicate (s.members - 1).toNat (List.replicate s.block.toNat (0 : UInt8)), b.length = s.block.toNat := fun b hb' => by rw [List.eq_of_mem_replicate hb']; simp
    have hne : List.replicate (s.members - 1).toNat (List.replicate s.block.toNat (0 : UInt8)) ≠ [] := by
      intro e
      have := congrArg List.length e
      simp at this; omega
    apply List.ext_getElem (by rw [xorOf_length hall hne]; simp)
    intro j h1 h2
    have h3 : j < s.block.toNat := by simpa using h2
    have e1 := xorOf_get hall hne h3
    rw [List.getD, List.getElem?_eq_getElem h1, Option.getD_some] at e1
    rw [e1, List.getElem_replicate]
    have key : ∀ n, (List.replicate n (List.replicate s.block.toNat (0 : UInt8))).foldl (fun a b => a ^^^ b.getD j 0) 0 = 0 := fun n => by
      induction n with
      | zero => rfl
      | succ n ih => rw [List.replicate_succ, List.foldl_cons]; rw [show (0 : UInt8) ^^^ (List.replicate s.block.toNat (0 : UInt8)).getD j 0 = 0 from by simp [List.getD, h3]]; exact ih
    exact key _
theorem blank_firm {n : Nat} {size : Int} {q : Int} (hq : 0 ≤ q ∧ q < n) : Firm (Dsk.blank n size) q (List.replicate size.toNat 0) := by
  refine ⟨hq.1, ?_, rfl⟩
  have : q.toNat < n := by omega
  show (List.replicate n (List.replicate size.toNat (0 : UInt8))).getD q.toNat [] = _
  rw [List.getD, List.getElem?_replicate, if_pos this]; rfl
theorem fresh_jm (hs : s.Ok) (hk : (k : Int) < s.members) : JM s k (fun _ => List.replicate s.block.toNat 0) (fun _ => False) [] (Rig.fresh s) := by
  have hb := hs.block
  have h1 := fresh_base hs (· = k)
  have hsec := (hs.at_ (t := 0) ⟨by omega, by have h1 := hs.segments; have h2 := hs.stripes; exact Int.mul_pos (by omega) (by omega)⟩)
  have hfirm : ∀ i, i < (Rig.fresh s).ds.length → ∀ q, 0 ≤ q → q < s.sectors → Firm ((Rig.fresh s).at i) q (List.replicate s.block.toNat 0) := fun i hi q q1 q2 => by
    rw [fresh_at hi]; exact blank_firm ⟨q1, by omega⟩
  refine ⟨h1, rfl, fun hd => ?_, List.nodup_nil, fun q q1 q2 => ⟨by simp; omega, fun i hi _ => (hfirm i hi q (by omega) (low_sec hs q2)).see⟩, fun t ht => ⟨_, (zero_cell hs t 0).1, fun i hi _ => ?_, fun f hf => (by cases hf), fun x => x.elim⟩, fun ⟨_, x⟩ => x.elim⟩
  · rw [fresh_at (by have := h1.fits.many; omega)] at hd; cases hd
  · rw [(zero_cell hs t i).2]; exact hfirm i hi _ (hs.at_ ht).1 (hs.at_ ht).2
/-- the member fails -/
theorem JM.fail (hj : JM s k C D m r) (hk : (k : Int) < s.members) (hst : r.stale = k ∨ True) : Base s (· = k) { r with ds := r.ds.set k (r.at k).fail } := by
  have hkl : k < r.ds.length := by have := hj.base.fits.many; omega
  exact (failing_tr hj.base hkl rfl (r.at k).fail rfl rfl rfl).1
/-- .. and is known to have failed -/
theorem JM.lose (hj : JM s k C (fun _ => False) m r) (hs : s.Ok) (hk : (k : Int) < s.members) (d : Dsk) (h1 : d.on = (r.at k).on) (h2 : d.cache = (r.at k).cache) (h3 : d.size = (r.at k).size) :
    (alose k { r with ds := r.ds.set k d }).Sat (fun e r' => e = 0 ∧ JM s k C (fun _ => False) m r' ∧ r'.stale = k ∧ (r'.at k) = d) (fun _ => False) := by
  have hkl : k < r.ds.length := by have := hj.base.fits.many; omega
  have hB := (failing_tr hj.base hkl rfl d h1 h2 h3).1
  have hat := fun i => at_set (r := r) (m := k) (d := d) rfl hkl (r' := { r with ds := r.ds.set k d }) rfl i
  have hlen : ({ r with ds := r.ds.set k d } : Rig).ds.length = r.ds.length := by simp
  have hst : ({ r with ds := r.ds.set k d } : Rig).stale = r.stale := rfl
  have hbr : ({ r with ds := r.ds.set k d } : Rig).broken = false := hj.whole
  generalize ({ r with ds := r.ds.set k d } : Rig) = r1 at *
  have key : ∀ r2 : Rig, r2.ds = r1.ds → r2.broken = r1.broken → r2.stale = k → r2.pow.limit = r1.pow.limit → JM s k C (fun _ => False) m r2 ∧ r2.stale = k ∧ r2.at k = d := fun r2 e1 e2 e3 e4 => by
    have hat2 : ∀ i, r2.at i = if i = k then d else r.at i := fun i => by rw [Rig.at_congr e1, hat]
    refine ⟨⟨⟨?_, ?_, ?_, .inr ⟨k, by rw [e1, hlen]; exact hkl, e3, rfl⟩⟩, by rw [e2, hbr], fun _ => e3, hj.nodup, fun q q1 q2 => ⟨(hj.comm q q1 q2).1, fun i hi hne => ?_⟩, fun t ht => ?_, fun ⟨_, x⟩ => x.elim⟩, e3, by rw [hat2, if_pos rfl]⟩
    · exact ⟨by rw [e1]; exact hB.fits.many, fun i hi => by rw [Rig.at_congr e1]; exact hB.fits.size i (by rw [← e1]; exact hi), fun i hi => by rw [Rig.at_congr e1]; exact hB.fits.on i (by rw [← e1]; exact hi)⟩
    · rw [e4]; exact hB.lim
    · intro i hi hne; rw [Rig.at_congr e1]; exact hB.live i (by rw [← e1]; exact hi) hne
    · rw [hat2, if_neg hne]; exact (hj.comm q q1 q2).2 i (by rw [← hlen, ← e1]; exact hi) hne
    · obtain ⟨L, l1, l2, l3, l4⟩ := hj.lie t ht
      refine ⟨L, l1, fun i hi hne => ?_, l3, fun x => x.elim⟩
      have hik : i ≠ k := fun e => hne (by rw [e, e3])
      rw [hat2, if_neg hik]
      refine l2 i (by rw [← hlen, ← e1]; exact hi) ?_
      rcases hj.base.stale with h | ⟨j, _, h, h'⟩
      · rw [h]; omega
      · rw [h, h']; omega
  unfold alose
  rw [if_neg (by rw [hlen]; omega), if_neg (by simp [hbr])]
  unfold alost
  by_cases h4 : r1.stale = k
  · rw [if_pos h4]; exact ⟨rfl, key r1 rfl rfl h4 rfl⟩
  · have h5 : r1.stale = -1 := by
      rcases hB.stale with h | ⟨j, _, h, h'⟩
      · exact h
      · exact absurd (by rw [h, h']) h4
    rw [if_neg h4, if_pos h5]
    refine Out.Sat.bind ((set_sat r1 _).mono (fun _ _ h => h) (fun r' h => by have := h.2; rw [hB.lim] at this; omega)) ?_
    rintro u r2 ⟨a1, a2, a3, a4⟩
    exact ⟨rfl, key r2 a1 a2 (by unfold Rig.stale; rw [a3]) a4⟩
/-- a stripe is made anew -/
theorem JM.mend (hj : JM s k C D m r) (hs : s.Ok) (hk : (k : Int) < s.members) (hst : r.stale = k) {t : Int} (ht : 0 ≤ t ∧ t < s.all) :
    (amend s t r).Sat (fun e r' => r'.stale = k ∧ ((e = 0 ∧ (Live (r.at k) → JM s k C (fun t' => D t' ∨ t' = t) m r') ∧ (r'.at k).dead = false ∧ JM s k C D m r') ∨ (e = 8 ∧ ¬ Live (r.at k) ∧ (¬ (∃ t, D t) → JM s k C D m r'))) ∧ ((r.at k).dead = true → (r'.at k).dead = true)) (fun _ => False) := by
  have hkl : k < r.ds.length := by have := hj.base.fits.many; omega
  obtain ⟨L, l1, l2, l3, l4⟩ := hj.lie t ht
  refine (amend_sat hs hj.base.fits hkl hst hj.whole ht l1 l2).mono ?_ (fun r' h => no_gone hj.base.lim h)
  rintro e r' ⟨t1, h1⟩
  obtain ⟨g1, g2, g3, g4⟩ := hj.kept t1
  have hst' : r'.stale = k := by rw [t1.stale_is (by rw [hst]; omega), hst]
  have key : ∀ D' : Int → Prop, (∀ t', D' t' → t' ≠ t → D t') → (D' t → (r'.at k).see (s.stripeAt t) = cellOf s t L k) → ((∃ t, D' t) → Live (r'.at k)) → JM s k C D' m r' := fun D' hD1 hD2 hD3 => by
    refine ⟨g1, g2, g3, hj.nodup, fun q q1 q2 => ⟨(hj.comm q q1 q2).1, fun i hi hne => ?_⟩, fun t' ht' => ?_, hD3⟩
    · have hi' : i < r.ds.length := by rw [← t1.len]; exact hi
      rw [t1.see i q (fun x => hne x.1) (by omega) (on_len hj.base.fits hi' (low_sec hs q2))]
      exact (hj.comm q q1 q2).2 i hi' hne
    · by_cases hc : t' = t
      · subst hc
        exact ⟨L, l1, l2.tr' t1.toTr0 (fun i hne x => hne (by rw [x.1, hst'])), l3, hD2⟩
      · obtain ⟨L', m1, m2, m3, m4⟩ := hj.lie t' ht'
        refine ⟨L', m1, m2.tr' t1.toTr0 (fun i hne x => hne (by rw [x.1, hst'])), m3, fun hd => ?_⟩
        rw [t1.see k _ (fun x => hc (stripeAt_inj x.2)) (hs.at_ ht').1 (on_len hj.base.fits hkl (hs.at_ ht').2)]
        exact m4 (hD1 t' hd hc)
  refine ⟨hst', ?_, t1.dead k⟩
  rcases h1 with ⟨rfl, _, h2, h3⟩ | ⟨rfl, _, h2⟩ | ⟨_, h2⟩
  · refine .inl ⟨rfl, fun hl => key _ (fun t' h hc => h.resolve_right hc) (fun _ => h2) (fun _ => t1.live k hl), h3, ?_⟩
    exact key D (fun _ h _ => h) (fun _ => h2) g4
  · refine .inr ⟨rfl, h2, fun hn => key D (fun _ h _ => h) (fun hd => absurd ⟨t, hd⟩ hn) g4⟩
  · rw [g2] at h2; cases h2
/-- what is read while a member isn't current -/
theorem JM.gets' (hs : s.Ok) (hk : (k : Int) < s.members) (m : IMap UInt8) : GetJ s false (fun r => JM s k C D m r ∧ r.stale = k) m := fun r t f c ht hc hg hj => by
  obtain ⟨hj, hst⟩ := hj
  obtain ⟨L, l1, l2, l3, l4⟩ := hj.lie t ht
  have := l3 f hg
  subst this
  refine (achunk_sat hs hj.base.fits hj.base.lt ht l1 (c := c) (by have := l1.many; omega) l2).mono ?_ (fun r' h => no_gone hj.base.lim h)
  rintro x r' ⟨t1, ⟨rfl, _⟩ | ⟨rfl, h1⟩⟩
  · exact ⟨⟨hj.quiet hs hk t1, by rw [t1.stale_is (by rw [hst]; omega), hst]⟩, .inl (by rw [chunksOf_get f hc])⟩
  · rw [hj.base.whole hj.whole t1.toTr0] at h1; cases h1
theorem JM.puts' (hs : s.Ok) (hk : (k : Int) < s.members) : PutJ s false (fun m r => JM s k C D m r ∧ r.stale = k) := fun m r t f ht hj => by
  obtain ⟨hj, hst⟩ := hj
  have hL := chunksOf_chunks hs f
  have h0 := JM.puts (C := C) (D := D) hs hk m r t f ht hj
  have h1 := (aput_sat hs hj.base.fits ht hL).mono (fun _ _ h => h) (fun r' h => no_gone hj.base.lim h)
  obtain ⟨e, r', hm, h2⟩ := sat_ok h0
  rw [hm] at h1 ⊢
  rcases h2 with ⟨h2, h3⟩ | ⟨h2, _⟩
  · exact .inl ⟨h2, h3, by rw [h1.1.stale_is (by rw [hst]; omega), hst]⟩
  · cases h2
/-- sectors ahead of the stripes, of the one that isn't current -/
theorem JM.low (hj : JM s k C (fun _ => False) m r) (hs : s.Ok) (hk : (k : Int) < s.members) (t : Tr (SB s k) r r') : JM s k C (fun _ => False) m r' := by
  have hkl : k < r.ds.length := by have := hj.base.fits.many; omega
  obtain ⟨g1, g2, g3, g4⟩ := hj.kept t
  refine ⟨g1, g2, g3, hj.nodup, fun q q1 q2 => ⟨(hj.comm q q1 q2).1, fun i hi hne => ?_⟩, fun t' ht' => ?_, g4⟩
  · have hi' : i < r.ds.length := by rw [← t.len]; exact hi
    rw [t.see i q (fun x => hne x.1) (by omega) (on_len hj.base.fits hi' (low_sec hs q2))]
    exact (hj.comm q q1 q2).2 i hi' hne
  · obtain ⟨L, l1, l2, l3, l4⟩ := hj.lie t' ht'
    exact ⟨L, l1, l2.tr t.toTr0 (fun _ x => by have := x.2; unfold Shp.stripeAt at this; omega), l3, fun x => x.elim⟩
/-- another disk takes the place -/
theorem JM.replace (hj : JM s k C (fun _ => False) m r) (hk : (k : Int) < s.members) (hst : r.stale = k) :
    areplace k r = .ok 0 { r with ds := r.ds.set k (r.at k).anew } ∧ JM s k C (fun _ => False) m { r with ds := r.ds.set k (r.at k).anew } ∧ Live (({ r with ds := r.ds.set k (r.at k).anew } : Rig).at k) := by
  have hkl : k < r.ds.length := by have := hj.base.fits.many; omega
  have hat := fun i => at_set (r := r) (m := k) (d := (r.at k).anew) rfl hkl (r' := { r with ds := r.ds.set k (r.at k).anew }) rfl i
  have hl : ({ r with ds := r.ds.set k (r.at k).anew } : Rig).ds.length = r.ds.length := by simp
  refine ⟨by unfold areplace; rw [if_neg (by simp [hj.whole]), if_neg (by omega), Int.toNat_natCast], ⟨⟨⟨by rw [hl]; exact hj.base.fits.many, fun i hi => ?_, fun i hi => ?_⟩, hj.base.lim, fun i hi hne => ?_, .inr ⟨k, by rw [hl]; exact hkl, hst, rfl⟩⟩, hj.whole, fun _ => hst, hj.nodup, fun q q1 q2 => ⟨(hj.comm q q1 q2).1, fun i hi hne => ?_⟩, fun t ht => ?_, fun ⟨_, x⟩ => x.elim⟩, ?_⟩
  · rw [hl] at hi; rw [hat]; split
    · rename_i e; subst e; exact hj.base.fits.size i hi
    · exact hj.base.fits.size i hi
  · rw [hl] at hi; rw [hat]; split
    · rename_i e; subst e
      show ((List.replicate (r.at i).on.length (List.replicate (r.at i).size.toNat (0 : UInt8))).length : Int) = _
      rw [List.length_replicate]; exact hj.base.fits.on i hi
    · exact hj.base.fits.on i hi
  · rw [hl] at hi; rw [hat, if_neg hne]; exact hj.base.live i hi hne
  · rw [hl] at hi; rw [hat, if_neg hne]; exact (hj.comm q q1 q2).2 i hi hne
  · obtain ⟨L, l1, l2, l3, l4⟩ := hj.lie t ht
    refine ⟨L, l1, fun i hi hne => ?_, l3, fun x => x.elim⟩
    rw [hl] at hi
    have hik : i ≠ k := fun e => hne (by rw [e]; exact hst.symm)
    rw [hat, if_neg hik]; exact l2 i hi hne
  · rw [hat, if_pos rfl]; exact ⟨rfl, show (-1 : Int) < 0 by decide⟩
end Go.Proofs.Ytapgejjjgeiihaa
