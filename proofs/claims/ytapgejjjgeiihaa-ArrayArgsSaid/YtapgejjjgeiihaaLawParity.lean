/- ArrayParity: of each stripe that was put, all members being current, what the members have is, bit by bit, noughts; each chunk lies on its member. -/
import Derived.Test.YtapgejjjgeiihaaLawMends
import Derived.Test.YtapgejjjgeiihaaDrw
import Derived.Test.YtapgejjjgeiihaaUnd
namespace Go.Proofs.Ytapgejjjgeiihaa
open Go Go.Sl
attribute [local irreducible] Yl WL WC WQ WD

/-- what the first members have, bit by bit -/
def accum (s : Shp) (t : Int) (L : List Bytes) (i : Nat) : Bytes := ((List.range i).map (cellOf s t L)).foldl xorIn (List.replicate s.block.toNat 0)
theorem accum_zero (s : Shp) (t : Int) (L : List Bytes) : accum s t L 0 = List.replicate s.block.toNat 0 := rfl
theorem accum_next (s : Shp) (t : Int) (L : List Bytes) (i : Nat) : accum s t L (i + 1) = xorIn (accum s t L i) (cellOf s t L i) := by
  unfold accum; rw [List.range_succ, List.map_append, List.foldl_append]; rfl
theorem accum_len (s : Shp) (t : Int) (L : List Bytes) (i : Nat) : (accum s t L i).length = s.block.toNat := by
  unfold accum; rw [xors_len, List.length_replicate]
theorem accum_all {s : Shp} (hs : s.Ok) (t : Int) {L : List Bytes} (hL : Chunks s L) : accum s t L s.members.toNat = List.replicate s.block.toNat 0 := by
  have hm := hs.members
  apply List.ext_getElem (by rw [accum_len]; simp)
  intro j h1 h2
  have h3 : j < s.block.toNat := by simpa using h2
  have hb : ∀ b ∈ (List.range s.members.toNat).map (cellOf s t L), b.length = s.block.toNat := fun b hb => by
    obtain ⟨i, _, rfl⟩ := List.mem_map.1 hb
    have := cellOf_len (by omega : 2 ≤ s.members) (t := t) hL i; omega
  have e := fold_xor_get _ (List.replicate s.block.toNat 0) s.block.toNat (by simp) hb j h3
  rw [fold_map_range, cells_xsum (by omega) hL (by omega)] at e
  have e1 : (accum s t L s.members.toNat).getD j 0 = (accum s t L s.members.toNat)[j] := by simp [List.getD, h1]
  rw [← e1]
  unfold accum
  rw [e]
  simp [List.getD, h3]
/-- no member fails -/
def JP (s : Shp) (m : IMap UInt8) (r : Rig) : Prop := JM s 0 (fun _ => List.replicate s.block.toNat 0) (fun _ => False) m r ∧ Base s (fun _ => False) r
theorem JP.puts {s : Shp} (hs : s.Ok) (hk : (0 : Int) < s.members) : PutJ s false (JP s) := fun m r t f ht hj => by
  obtain ⟨hj, hB⟩ := hj
  have hL := chunksOf_chunks hs f
  have h0 := JM.puts (C := fun _ => List.replicate s.block.toNat 0) (D := fun _ => False) hs (k := 0) (by simpa using hk) m r t f ht hj
  have h1 := (aput_sat hs hj.base.fits ht hL).mono (fun _ _ h => h) (fun r' h => no_gone hj.base.lim h)
  obtain ⟨e, r', hm, h2⟩ := sat_ok h0
  rw [hm] at h1 ⊢
  rcases h2 with ⟨h2, h3⟩ | ⟨h2, _⟩
  · exact .inl ⟨h2, h3, hB.tr h1.1.toTr0⟩
  · cases h2
theorem JP.stale {s : Shp} {m : IMap UInt8} {r : Rig} (hj : JP s m r) : r.stale = -1 := by
  rcases hj.2.stale with h | ⟨_, _, _, h⟩
  · exact h
  · exact h.elim
theorem JP.read {s : Shp} {m : IMap UInt8} {r : Rig} (hj : JP s m r) (hs : s.Ok) {t : Int} (ht : 0 ≤ t ∧ t < s.all) {L : List Bytes} (hL : Holds s r t L) {i : Nat} (hi : i < r.ds.length) :
    ∃ r', r.dev i (dread (s.stripeAt t)) = .ok (cellOf s t L i, 0) r' ∧ JP s m r' ∧ Holds s r' t L ∧ r'.ds.length = r.ds.length := by
  have hq := hs.at_ ht
  obtain ⟨r', he, t1, _⟩ := live_read hi hj.2.lim (q := s.stripeAt t) ⟨hq.1, by rw [hj.2.fits.on i hi]; exact hq.2⟩ (hj.2.live i hi (fun x => x))
  have hm := hs.members
  refine ⟨r', ?_, ⟨hj.1.quiet hs (by omega) t1, hj.2.tr t1.toTr0⟩, hL.tr t1.toTr0 (fun _ x => x), t1.len⟩
  rw [he, (hL i hi (by rw [hj.stale]; omega)).see]
set_option maxHeartbeats 8000000 in
theorem parity_law_spec (x : Small) (v1 : Value) (xs : List (UInt8 × UInt8)) (hb1 : xs.length ≤ 9223372036854775807) :
    Spec0 Try.prog 3 [Small.val x, v1] (Rd v1 2 (xs.flatMap strCells)) (fun F => F) (fun _ : Unit => True) (fun _ => .bool true) (fun _ F => F) := by
  (refine spec_of Try.func3 rfl Try.ntmps3 rfl (fun F w0 hrd => ?_))
  haveI : RdIn F v1 2 (xs.flatMap strCells) := ⟨hrd⟩
  refine walk ?_
  intro c
  refine walk ?_
  refine call (awake11_spec) ?_
  intro _ _
  refine walk ?_
  refine wif_dec (fun hc => ?_) (fun hc => ?_) <;> refine walk ?_
  · exact wq_ret1 rfl rfl () rfl trivial perm
  have h1 : xs.length ≤ 12 := by omega
  refine call (shape5_spec x) ?_
  intro _ _
  have hs := shapeOf_ok x
  generalize shapeOf x = s at *
  have hmm := hs.members
  have hbl := hs.block
  refine walk ?_
  refine call (new11_spec s hs) ?_
  intro l hl
  obtain ⟨g, dv, ⟨a, nv, pp, ps, lv, sh⟩⟩ := l
  obtain ⟨hk, hsh⟩ := hl
  dsimp only [LRigAt] at hk hsh ⊢
  subst hsh
  have hps := hk.mem
  dsimp only at hps
  have hall := (bounds hs).all
  have hall0 : 8 ≤ sh.all := hall.1
  have hall1 : sh.all ≤ 1024 := hall.2
  refine walk ?_
  intro hb
  refine walk ?_
  rw [show (MapI hb [] : HP) = MapB hb [] from rfl]
  refine call (rput_spec ⟨g, dv, ⟨a, nv, pp, ps, lv, sh⟩⟩ hk (JP sh) false (JP.puts hs (by dsimp only; omega)) v1 xs (by omega) [] (Rig.fresh sh) ⟨fresh_jm hs (by omega), fresh_base hs _⟩ hb) ?_
  intro y1 hj1
  obtain ⟨m1, r1⟩ := y1
  dsimp only [LRigAt] at hj1 ⊢
  refine walk ?_
  refine call (all_spec sh hs) ?_
  intro _ _
  refine walk ?_
  refine wc_loop (X := Nat × Rig) (fun y => [(0, Small.val x), (1, v1), (4, .bool false), (5, vp g), (7, .map (some hb)), (46, vi sh.all), (47, vi y.1)])
    (fun y => LRigAt ⟨g, dv, ⟨a, nv, pp, ps, lv, sh⟩⟩ y.2 (MapB hb m1 :: F))
    (fun y => (y.1 : Int) ≤ sh.all ∧ JP sh m1 y.2) (fun y => sh.all.toNat - y.1) (0, r1) ⟨by dsimp only; omega, hj1⟩ envs perm (fun y hy => ?_)
  obtain ⟨t, r2⟩ := y
  dsimp only [LRigAt] at hy ⊢
  obtain ⟨hi, hj2⟩ := hy
  refine walk ?_
  refine wif_dec (fun hlt => ?_) (fun hlt => ?_)
  rotate_left
  · refine walk ?_
    exact wq_ret1 rfl rfl () rfl trivial perm
  obtain ⟨L, hL, hH, hF, _⟩ := hj2.1.lie t (by omega)
  have hcl : ∀ i, (cellOf sh t L i).length = sh.block.toNat := fun i => by have := cellOf_len (by omega : 2 ≤ sh.members) (t := t) hL i; omega
  refine walk ?_
  intro v _ _
  refine walk ?_
  refine wc_loop (X := Nat × Rig) (fun y => [(0, Small.val x), (1, v1), (4, .bool false), (5, vp g), (7, .map (some hb)), (46, vi sh.all), (47, vi t), (8, vi t), (9, v), (59, dv), (60, vi ps.length), (61, vi y.1)])
    (fun y => SlB v (accum sh t L y.1) :: LRigAt ⟨g, dv, ⟨a, nv, pp, ps, lv, sh⟩⟩ y.2 (MapB hb m1 :: F))
    (fun y => y.1 ≤ ps.length ∧ JP sh m1 y.2 ∧ Holds sh y.2 t L) (fun y => ps.length - y.1) (0, r2) ⟨by dsimp only; omega, hj2, hH⟩ envs (by dsimp only; rw [accum_zero]; exact perm) (fun y hy => ?_)
  obtain ⟨i, r3⟩ := y
  dsimp only [LRigAt] at hy ⊢
  obtain ⟨hi2, hj3, hH3⟩ := hy
  refine walk ?_
  refine wif_dec (fun hlt2 => ?_) (fun hlt2 => ?_)
  · have hlt2 : i < ps.length := by omega
    have hil : i < r3.ds.length := by have := hj3.2.fits.many; omega
    obtain ⟨r4, he4, hj4, hH4, _⟩ := hj3.read hs (by omega) hH3 hil
    have hal := accum_len sh t L i
    have hcl := hcl i
    refine walk ?_
    refine call (stripeAt_spec sh hs t (by omega)) ?_
    intro _ _
    refine walk ?_
    refine call ((rread_spec ⟨a, nv, pp, ps, lv, sh⟩ r3 i (by dsimp only; omega) (sh.stripeAt t)).sure (cellOf sh t L i, 0) r4 he4) ?_
    intro bv _
    dsimp only
    refine walk ?_
    refine wif_dec (fun h => absurd h (by omega)) (fun _ => ?_)
    refine walk ?_
    refine wc_loop (X := Nat) (fun y => [(0, Small.val x), (1, v1), (4, .bool false), (5, vp g), (7, .map (some hb)), (46, vi sh.all), (47, vi t), (8, vi t), (9, v), (59, dv), (60, vi ps.length), (61, vi i), (12, bv), (86, vi sh.block.toNat), (87, vi y)])
      (fun y => SlB v (xorTo y (accum sh t L i) (cellOf sh t L i)) :: SlB bv (cellOf sh t L i) :: LRigAt ⟨g, dv, ⟨a, nv, pp, ps, lv, sh⟩⟩ r4 (MapB hb m1 :: F))
      (fun y => y ≤ sh.block.toNat) (fun y => sh.block.toNat - y) 0 (by omega) (by rw [← hal]; exact envs) (by rw [xorTo_zero]; exact perm) (fun j hj => ?_)
    dsimp only [LRigAt]
    have hxl := xorTo_len j (accum sh t L i) (cellOf sh t L i)
    refine walk ?_
    refine wif_dec (fun hlt3 => ?_) (fun hlt3 => ?_)
    · have hlt3 : j < sh.block.toNat := by omega
      have hjc : j < (cellOf sh t L i).length := by omega
      have hset := xorTo_next (out := accum sh t L i) (b := cellOf sh t L i) hjc (by omega)
      refine walk ?_
      (refine draw ?_; refine dy 0 ?_; refine dy 1 ?_; refine dy 2 ?_; refine dy 3 ?_; refine dy 4 ?_; refine dy 5 ?_; refine dy 6 ?_; refine dy 7 ?_; refine dy 8 ?_; refine dy 9 ?_; refine ddx 10 ?_)
      refine walk ?_
      refine wq_round (j + 1) (by omega) (by omega) envs ?_
      rw [← hset]
      exact perm
    · have hj' : j = (cellOf sh t L i).length := by omega
      rw [hj', xorTo_all, ← accum_next]
      refine walk ?_
      exact wq_round (i + 1, r4) ⟨by dsimp only; omega, hj4, hH4⟩ (by dsimp only; omega) envs perm
  have hi' : i = sh.members.toNat := by omega
  rw [hi', accum_all hs t hL]
  refine walk ?_
  intro z _ _
  refine walk ?_
  refine call (equal_spec v z (List.replicate sh.block.toNat 0) (List.replicate sh.block.toNat 0) (by rw [List.length_replicate]; omega)) ?_
  intro _ _
  rw [decide_eq_true rfl]
  refine walk ?_
  obtain ⟨f0, hf0⟩ : ∃ f0 : UInt8, ((mget m1 (t : Int)).map vb).getD (.int .u8 0) = vb f0 := by
    cases mget m1 (t : Int) with
    | none => exact ⟨0, rfl⟩
    | some f => exact ⟨f, rfl⟩
  have hf1 : ∀ f, mget m1 (t : Int) = some f → f = f0 := fun f hf => by
    rw [hf] at hf0
    have h2 : vb f = vb f0 := hf0
    simp only [vb, Value.int.injEq, true_and] at h2
    exact UInt8.toNat_inj.1 (by omega)
  (refine draw ?_; refine dy 0 ?_; refine dy 1 ?_; refine dy 2 ?_; refine dy 3 ?_; refine dy 4 ?_; refine dy 5 ?_; refine dy 6 ?_; refine dy 9 ?_; refine ddx 7 ?_)
  rw [mget_map vb, hf0]
  refine call (chunks_spec sh (by omega) (by omega) f0) ?_
  intro y hy
  obtain ⟨cv, rows⟩ := y
  dsimp only at hy ⊢
  have hch : rows.map (fun q : Row => q.2) = chunksOf sh f0 := hy
  have hrl : (rows.length : Int) = sh.members - 1 := by have := congrArg List.length hy; simp [chunksOf] at this; omega
  (refine walk ?_; refine dy 8 ?_; refine walk ?_)
  clear hcl hi2 hlt2 hi'
  refine wc_loop (X := Nat × Rig) (fun y => [(0, Small.val x), (1, v1), (4, .bool false), (5, vp g), (7, .map (some hb)), (46, vi sh.all), (47, vi t), (8, vi t), (118, cv), (119, vi rows.length), (120, vi y.1)])
    (fun y => LRigAt ⟨g, dv, ⟨a, nv, pp, ps, lv, sh⟩⟩ y.2 (Sl cv 1 (rows.map (·.1)) :: Pool rows :: MapB hb m1 :: F))
    (fun y => y.1 ≤ rows.length ∧ JP sh m1 y.2 ∧ Holds sh y.2 t L) (fun y => rows.length - y.1) (0, r3) ⟨by dsimp only; omega, hj3, hH3⟩ envs (Ent.take (by (first | (with_reducible exact Ent.refl) | (with_reducible exact Ent.there Ent.refl) | (with_reducible exact Ent.there (Ent.there Ent.refl)) | (with_reducible exact Ent.there (Ent.there (Ent.there Ent.refl))) | (with_reducible exact Ent.there (Ent.there (Ent.there (Ent.there Ent.refl)))) | (with_reducible exact Ent.there (Ent.there (Ent.there (Ent.there (Ent.there Ent.refl))))) | (with_reducible exact Ent.there (Ent.there (Ent.there (Ent.there (Ent.there (Ent.there Ent.refl)))))) | (with_reducible exact Ent.there (Ent.there (Ent.there (Ent.there (Ent.there (Ent.there (Ent.there Ent.refl))))))) | (with_reducible exact Ent.there (Ent.there (Ent.there (Ent.there (Ent.there (Ent.there (Ent.there (Ent.there Ent.refl)))))))) | (with_reducible exact Ent.there (Ent.there (Ent.there (Ent.there (Ent.there (Ent.there (Ent.there (Ent.there (Ent.there Ent.refl))))))))) | (with_reducible exact Ent.there (Ent.there (Ent.there (Ent.there (Ent.there (Ent.there (Ent.there (Ent.there (Ent.there (Ent.there Ent.refl)))))))))) | (with_reducible exact Ent.there (Ent.there (Ent.there (Ent.there (Ent.there (Ent.there (Ent.there (Ent.there (Ent.there (Ent.there (Ent.there Ent.refl))))))))))) | (with_reducible exact Ent.there (Ent.there (Ent.there (Ent.there (Ent.there (Ent.there (Ent.there (Ent.there (Ent.there (Ent.there (Ent.there (Ent.there Ent.refl)))))))))))) | (with_reducible exact Ent.there (Ent.there (Ent.there (Ent.there (Ent.there (Ent.there (Ent.there (Ent.there (Ent.there (Ent.there (Ent.there (Ent.there (Ent.there Ent.refl))))))))))))))) (Ent.take (by (first | (with_reducible exact Ent.refl) | (with_reducible exact Ent.there Ent.refl) | (with_reducible exact Ent.there (Ent.there Ent.refl)) | (with_reducible exact Ent.there (Ent.there (Ent.there Ent.refl))) | (with_reducible exact Ent.there (Ent.there (Ent.there (Ent.there Ent.refl)))) | (with_reducible exact Ent.there (Ent.there (Ent.there (Ent.there (Ent.there Ent.refl))))) | (with_reducible exact Ent.there (Ent.there (Ent.there (Ent.there (Ent.there (Ent.there Ent.refl)))))) | (with_reducible exact Ent.there (Ent.there (Ent.there (Ent.there (Ent.there (Ent.there (Ent.there Ent.refl))))))) | (with_reducible exact Ent.there (Ent.there (Ent.there (Ent.there (Ent.there (Ent.there (Ent.there (Ent.there Ent.refl)))))))) | (with_reducible exact Ent.there (Ent.there (Ent.there (Ent.there (Ent.there (Ent.there (Ent.there (Ent.there (Ent.there Ent.refl))))))))) | (with_reducible exact Ent.there (Ent.there (Ent.there (Ent.there (Ent.there (Ent.there (Ent.there (Ent.there (Ent.there (Ent.there Ent.refl)))))))))) | (with_reducible exact Ent.there (Ent.there (Ent.there (Ent.there (Ent.there (Ent.there (Ent.there (Ent.there (Ent.there (Ent.there (Ent.there Ent.refl))))))))))) | (with_reducible exact Ent.there (Ent.there (Ent.there (Ent.there (Ent.there (Ent.there (Ent.there (Ent.there (Ent.there (Ent.there (Ent.there (Ent.there Ent.refl)))))))))))) | (with_reducible exact Ent.there (Ent.there (Ent.there (Ent.there (Ent.there (Ent.there (Ent.there (Ent.there (Ent.there (Ent.there (Ent.there (Ent.there (Ent.there Ent.refl))))))))))))))) perm)) (fun y hy => ?_)
  obtain ⟨k, r5⟩ := y
  dsimp only [LRigAt] at hy ⊢
  obtain ⟨hk2, hj5, hH5⟩ := hy
  refine walk ?_
  refine wif_dec (fun hlt2 => ?_) (fun hlt2 => ?_)
  rotate_left
  · refine walk ?_
    exact wq_round (t + 1, r5) ⟨by dsimp only; omega, hj5⟩ (by dsimp only; omega) envs perm
  have hlt2 : k < rows.length := by omega
  have hr := List.getElem_mem hlt2
  have hd : rows[k].2 = blockOf sh (chunkFill f0 k) := by
    have h1 : (rows.map (fun q : Row => q.2))[k]? = (chunksOf sh f0)[k]? := by rw [hch]
    rw [List.getElem?_map, List.getElem?_eq_getElem hlt2] at h1
    have h2 := chunksOf_get (s := sh) f0 (c := k) (by omega)
    rw [List.getD, ← h1] at h2
    exact h2
  obtain ⟨mm, hme, hmlt⟩ := member_nat ⟨a, nv, pp, ps, lv, sh⟩ hk t k
  dsimp only at hme hmlt
  have hkL : k < L.length := by have := hL.many; omega
  have hcm := cellOf_member (by omega : 2 ≤ sh.members) (t := t) hL hkL
  rw [hme, Int.toNat_natCast] at hcm
  obtain ⟨r6, he6, hj6, hH6, _⟩ := hj5.read hs (by omega) hH5 (i := mm) (by have := hj5.2.fits.many; omega)
  rw [hcm] at he6
  refine walk ?_
  generalize rows[k] = row at *
  haveI hri : ∀ Γ, RdIn (Pool rows :: Γ) row.1 1 (row.2.map vb) := fun Γ => Pool.rdIn hr
  refine walk ?_
  (refine draw ?_; refine dy 0 ?_; refine dy 1 ?_; refine dy 2 ?_; refine dy 3 ?_; refine dy 4 ?_; refine dy 5 ?_; refine dy 6 ?_; refine dy 7 ?_; refine dy 8 ?_; refine dy 9 ?_; refine dy 13 ?_; refine dy 14 ?_; refine dy 15 ?_; refine dy 16 ?_; refine dy 17 ?_; refine ddx 10 ?_)
  refine call (member_spec sh hs t k (by omega) (by omega)) ?_
  intro _ _
  rw [hme]
  (refine walk ?_; refine dy 11 ?_; refine dy 12 ?_; refine ddx 18 ?_)
  refine call (stripeAt_spec sh hs t (by omega)) ?_
  intro _ _
  (refine walk ?_; refine ddx 19 ?_)
  refine call ((rread_spec ⟨a, nv, pp, ps, lv, sh⟩ r5 mm (by dsimp only; omega) (sh.stripeAt t)).sure (L.getD k [], 0) r6 he6) ?_
  intro bv _
  dsimp only
  (refine walk ?_; refine dy 20 ?_; refine dy 21 ?_; refine dy 22 ?_; refine dy 23 ?_; refine dy 24 ?_; refine walk ?_)
  refine walk ?_
  rw [mget_map vb]
  cases hg : mget m1 (t : Int) with
  | none =>
    simp only [Option.map_none, Option.isSome_none, Option.getD_none]
    refine walk ?_
    exact wq_round (k + 1, r6) ⟨by dsimp only; omega, hj6, hH6⟩ (by dsimp only; omega) envs (Ent.take (by (first | (with_reducible exact Ent.refl) | (with_reducible exact Ent.there Ent.refl) | (with_reducible exact Ent.there (Ent.there Ent.refl)) | (with_reducible exact Ent.there (Ent.there (Ent.there Ent.refl))) | (with_reducible exact Ent.there (Ent.there (Ent.there (Ent.there Ent.refl)))) | (with_reducible exact Ent.there (Ent.there (Ent.there (Ent.there (Ent.there Ent.refl))))) | (with_reducible exact Ent.there (Ent.there (Ent.there (Ent.there (Ent.there (Ent.there Ent.refl)))))) | (with_reducible exact Ent.there (Ent.there (Ent.there (Ent.there (Ent.there (Ent.there (Ent.there Ent.refl))))))) | (with_reducible exact Ent.there (Ent.there (Ent.there (Ent.there (Ent.there (Ent.there (Ent.there (Ent.there Ent.refl)))))))) | (with_reducible exact Ent.there (Ent.there (Ent.there (Ent.there (Ent.there (Ent.there (Ent.there (Ent.there (Ent.there Ent.refl))))))))) | (with_reducible exact Ent.there (Ent.there (Ent.there (Ent.there (Ent.there (Ent.there (Ent.there (Ent.there (Ent.there (Ent.there Ent.refl)))))))))) | (with_reducible exact Ent.there (Ent.there (Ent.there (Ent.there (Ent.there (Ent.there (Ent.there (Ent.there (Ent.there (Ent.there (Ent.there Ent.refl))))))))))) | (with_reducible exact Ent.there (Ent.there (Ent.there (Ent.there (Ent.there (Ent.there (Ent.there (Ent.there (Ent.there (Ent.there (Ent.there (Ent.there Ent.refl)))))))))))) | (with_reducible exact Ent.there (Ent.there (Ent.there (Ent.there (Ent.there (Ent.there (Ent.there (Ent.there (Ent.there (Ent.there (Ent.there (Ent.there (Ent.there Ent.refl))))))))))))))) (Ent.take (by (first | (with_reducible exact Ent.refl) | (with_reducible exact Ent.there Ent.refl) | (with_reducible exact Ent.there (Ent.there Ent.refl)) | (with_reducible exact Ent.there (Ent.there (Ent.there Ent.refl))) | (with_reducible exact Ent.there (Ent.there (Ent.there (Ent.there Ent.refl)))) | (with_reducible exact Ent.there (Ent.there (Ent.there (Ent.there (Ent.there Ent.refl))))) | (with_reducible exact Ent.there (Ent.there (Ent.there (Ent.there (Ent.there (Ent.there Ent.refl)))))) | (with_reducible exact Ent.there (Ent.there (Ent.there (Ent.there (Ent.there (Ent.there (Ent.there Ent.refl))))))) | (with_reducible exact Ent.there (Ent.there (Ent.there (Ent.there (Ent.there (Ent.there (Ent.there (Ent.there Ent.refl)))))))) | (with_reducible exact Ent.there (Ent.there (Ent.there (Ent.there (Ent.there (Ent.there (Ent.there (Ent.there (Ent.there Ent.refl))))))))) | (with_reducible exact Ent.there (Ent.there (Ent.there (Ent.there (Ent.there (Ent.there (Ent.there (Ent.there (Ent.there (Ent.there Ent.refl)))))))))) | (with_reducible exact Ent.there (Ent.there (Ent.there (Ent.there (Ent.there (Ent.there (Ent.there (Ent.there (Ent.there (Ent.there (Ent.there Ent.refl))))))))))) | (with_reducible exact Ent.there (Ent.there (Ent.there (Ent.there (Ent.there (Ent.there (Ent.there (Ent.there (Ent.there (Ent.there (Ent.there (Ent.there Ent.refl)))))))))))) | (with_reducible exact Ent.there (Ent.there (Ent.there (Ent.there (Ent.there (Ent.there (Ent.there (Ent.there (Ent.there (Ent.there (Ent.there (Ent.there (Ent.there Ent.refl))))))))))))))) perm))
  | some f =>
  obtain rfl := hf1 f hg
  have hLc := hF f hg
  have hle : (blockOf sh (chunkFill f k)).length ≤ 1099511627776 := by have := blockOf_len sh (by omega) (chunkFill f k); omega
  rw [hLc, chunksOf_get f (c := k) (by omega)]
  simp only [Option.map_some, Option.isSome_some, Option.getD_some]
  refine walk ?_
  refine call (equal_spec bv row.1 (blockOf sh (chunkFill f k)) row.2 hle) ?_
  intro _ _
  rw [hd, decide_eq_true rfl]
  refine walk ?_
  rw [← hLc]
  exact wq_round (k + 1, r6) ⟨by dsimp only; omega, hj6, hH6⟩ (by dsimp only; omega) envs (Ent.take (by (first | (with_reducible exact Ent.refl) | (with_reducible exact Ent.there Ent.refl) | (with_reducible exact Ent.there (Ent.there Ent.refl)) | (with_reducible exact Ent.there (Ent.there (Ent.there Ent.refl))) | (with_reducible exact Ent.there (Ent.there (Ent.there (Ent.there Ent.refl)))) | (with_reducible exact Ent.there (Ent.there (Ent.there (Ent.there (Ent.there Ent.refl))))) | (with_reducible exact Ent.there (Ent.there (Ent.there (Ent.there (Ent.there (Ent.there Ent.refl)))))) | (with_reducible exact Ent.there (Ent.there (Ent.there (Ent.there (Ent.there (Ent.there (Ent.there Ent.refl))))))) | (with_reducible exact Ent.there (Ent.there (Ent.there (Ent.there (Ent.there (Ent.there (Ent.there (Ent.there Ent.refl)))))))) | (with_reducible exact Ent.there (Ent.there (Ent.there (Ent.there (Ent.there (Ent.there (Ent.there (Ent.there (Ent.there Ent.refl))))))))) | (with_reducible exact Ent.there (Ent.there (Ent.there (Ent.there (Ent.there (Ent.there (Ent.there (Ent.there (Ent.there (Ent.there Ent.refl)))))))))) | (with_reducible exact Ent.there (Ent.there (Ent.there (Ent.there (Ent.there (Ent.there (Ent.there (Ent.there (Ent.there (Ent.there (Ent.there Ent.refl))))))))))) | (with_reducible exact Ent.there (Ent.there (Ent.there (Ent.there (Ent.there (Ent.there (Ent.there (Ent.there (Ent.there (Ent.there (Ent.there (Ent.there Ent.refl)))))))))))) | (with_reducible exact Ent.there (Ent.there (Ent.there (Ent.there (Ent.there (Ent.there (Ent.there (Ent.there (Ent.there (Ent.there (Ent.there (Ent.there (Ent.there Ent.refl))))))))))))))) (Ent.take (by (first | (with_reducible exact Ent.refl) | (with_reducible exact Ent.there Ent.refl) | (with_reducible exact Ent.there (Ent.there Ent.refl)) | (with_reducible exact Ent.there (Ent.there (Ent.there Ent.refl))) | (with_reducible exact Ent.there (Ent.there (Ent.there (Ent.there Ent.refl)))) | (with_reducible exact Ent.there (Ent.there (Ent.there (Ent.there (Ent.there Ent.refl))))) | (with_reducible exact Ent.there (Ent.there (Ent.there (Ent.there (Ent.there (Ent.there Ent.refl)))))) | (with_reducible exact Ent.there (Ent.there (Ent.there (Ent.there (Ent.there (Ent.there (Ent.there Ent.refl))))))) | (with_reducible exact Ent.there (Ent.there (Ent.there (Ent.there (Ent.there (Ent.there (Ent.there (Ent.there Ent.refl)))))))) | (with_reducible exact Ent.there (Ent.there (Ent.there (Ent.there (Ent.there (Ent.there (Ent.there (Ent.there (Ent.there Ent.refl))))))))) | (with_reducible exact Ent.there (Ent.there (Ent.there (Ent.there (Ent.there (Ent.there (Ent.there (Ent.there (Ent.there (Ent.there Ent.refl)))))))))) | (with_reducible exact Ent.there (Ent.there (Ent.there (Ent.there (Ent.there (Ent.there (Ent.there (Ent.there (Ent.there (Ent.there (Ent.there Ent.refl))))))))))) | (with_reducible exact Ent.there (Ent.there (Ent.there (Ent.there (Ent.there (Ent.there (Ent.there (Ent.there (Ent.there (Ent.there (Ent.there (Ent.there Ent.refl)))))))))))) | (with_reducible exact Ent.there (Ent.there (Ent.there (Ent.there (Ent.there (Ent.there (Ent.there (Ent.there (Ent.there (Ent.there (Ent.there (Ent.there (Ent.there Ent.refl))))))))))))))) perm))

set_option maxRecDepth 100000 in
open Go.RowKit Go.ChangeShapes Go.WideShapes in
theorem arrayParity_lifted (os : Os) (started : os.Started) (H : Type) (enc : TypeId × Value → H) :
    ReturnsInHanded {} Try.checked os 3 .any (Rows.arrayParitySpec.pre6 enc Try.prog Try.f3 Rows.arrayParityRow.domain false) (Rows.arrayParitySpec.post enc Try.prog Try.f3 false true false false) := by
  refine returnsInHanded_of_change (C := Try.checked) Try.own started (by kernel_rfl) Try.func3
    (ChangeSpec.witness6 (enc := enc) (C := Try.checked) false ⟨#[], #[.agg #[.int .u8 0, .int .u8 0, .int .u8 0, .int .u8 0, .int .u8 0, .int .u8 0], .slice none 0 0], []⟩ 8 (by kernel_rfl) (by kernel_rfl) (by kernel_rfl) (by kernel_rfl)) ?_
  intro W base args ds gs before hval0 hW hcnd _
  rw [Try.same] at hval0 hW hcnd ⊢
  have hval : ∀ (j : Nat) t v, Try.f3.params[j]? = some t → args[j]? = some v → Value.okWide Try.prog W .any base t v := hval0
  have hW' := hW
  obtain ⟨p, q, hA, hV, rfl, hfz, hnd⟩ := hW
  have hA : DataW.TrodAll enc Try.prog W 0 (fun _ => true) true [23, 24] args.toList ds p := hA
  obtain ⟨v0, vs0, d0, ds0, q0, m0, y0, e0, rfl, t0, h0⟩ := trodAll_split1 hA
  obtain ⟨v1, vs1, d1, ds1, q1, m1, y1, e1, rfl, t1, h1⟩ := trodAll_split1 h0
  obtain ⟨e2, rfl⟩ := trodAll_split0 h1
  have ea : args = [v0, v1].toArray := by apply Array.toList_inj.1; rw [e0, e1, e2]
  subst ea
  obtain ⟨b0, c0, rfl, rfl, hx0⟩ := arg_struct Try.underlying23 @rdr_small (hval 0 23 v0 rfl rfl) t0
  obtain ⟨b1, w1, f1, hr1, hb1, hx1⟩ := arg_slice (@rdr_slicef Try.prog 24 102 2 (UInt8×UInt8) strCells _ _ (by kernel_rfl) (by decide) @rdr_stripe) (hval 1 24 v1 rfl rfl) t1
  obtain rfl : v1 = w1 := by simpa using f1
  refine (parity_law_spec b0 v1 b1 hb1 [Old W] W (fun h hs => (Old.rd hr1).rd h hs) (sat_old W)).mono fun e W' he => ?_
  obtain ⟨hev, ⟨_, _, rfl, hs⟩ | ⟨_, hf, _⟩⟩ := he
  · exact ⟨_, rfl, law_post Try.laidOut rfl hW' rfl Try.underlying4 (by decide +kernel) (by cases gs <;> first | rfl | exact False.elim hV) (Sat.below hev hs)⟩
  · exact hf.elim

set_option maxRecDepth 100000 in
theorem arrayParity_holds : Rows.ArrayParitySaid :=
  OpenClaim.holds_of_wide 3 Try.f3 rfl rfl rfl rfl rfl rfl rfl ⟨rfl, rfl, rfl, rfl, rfl⟩ rfl rfl rfl rfl rfl (by kernel_rfl) Try.func3 (Try.joined (by kernel_rfl))
    (of_decide_eq_true (by kernel_rfl)) (by unfold Func.isWrapper; first | (rw [if_pos (by decide +kernel)]; kernel_rfl) | (rw [if_neg (by decide +kernel)]; exact ⟨rfl, rfl⟩))
    (fun os started H enc _ => arrayParity_lifted os started H enc)
#print axioms arrayParity_holds
end Go.Proofs.Ytapgejjjgeiihaa
