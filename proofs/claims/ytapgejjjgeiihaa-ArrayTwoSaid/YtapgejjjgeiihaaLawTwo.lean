/- ArrayTwo: any stripes, while two members fail, at any operations: what is read is as it was put, or ErrDegraded; once it is broken all is. -/
import Derived.Test.YtapgejjjgeiihaaJrg
import Derived.Test.YtapgejjjgeiihaaDrw
import Derived.Test.YtapgejjjgeiihaaUnd
import Derived.Test.YtapgejjjgeiihaaArx
import Derived.OpenShut
namespace Go.Proofs.Ytapgejjjgeiihaa
open Go Go.Sl
attribute [local irreducible] Yl WL WC WQ WD

abbrev two (x : UInt8 × UInt8) : List Value := [vb x.1, vb x.2]
set_option maxRecDepth 100000 in
theorem rdr_two : Rdr Try.prog 75 (UInt8 × UInt8) (fun a cs _ => cs = two a ∧ True) := by
  intro H enc W fuel cs x h
  obtain ⟨xs, n, _, _, hl, hx, hf⟩ := DataW.trod_array (P := Try.prog) Try.underlying75 h
  have hl : cs.length = 2 := hl.trans (by kernel_rfl)
  obtain ⟨c0, c1, rfl⟩ : ∃ a b, cs = [a, b] := by
    match cs, hl with
    | [a, b], _ => exact ⟨a, b, rfl⟩
  have h0 := hf 0 (by omega)
  have h1 := hf 1 (by omega)
  rw [List.getElem?_eq_getElem (by omega)] at h0 h1
  obtain ⟨b0, hb0, _⟩ := rdr_u8 (P := Try.prog) (t := 5) enc W n [c0] _ h0
  obtain ⟨b1, hb1, _⟩ := rdr_u8 (P := Try.prog) (t := 5) enc W n [c1] _ h1
  simp only [List.cons.injEq, and_true] at hb0 hb1
  subst hb0 hb1
  exact ⟨(b0, b1), rfl, trivial⟩
theorem arg_array {H : Type} {enc : TypeId × Value → H} {P : Program} {W : World} {r : Reach} {b0 : Nat} {t : TypeId} {v : Value} {fuel : Nat} {x : DataW H × List MemPlace} {n : Nat} {e : TypeId} {α : Type} {R : α → List Value → Hp → Prop} (u : P.underlying t = some (.array n e)) (hR : Rdr P t α R) (hok : Value.okWide P W r b0 t v) (h : DataW.trod enc P W 0 (fun _ => true) true fuel t v.cells.toList = some x) :
    ∃ (y : α) (cs : List Value), v = .agg cs.toArray ∧ R y cs (hpOf W) := by
  have : ∃ a : Array Value, v = .agg a := by
    simp only [Value.okWide, u] at hok
    obtain ⟨a, h1, _⟩ := hok
    exact ⟨a, h1⟩
  obtain ⟨a, rfl⟩ := this
  obtain ⟨y, hy⟩ := hR enc W fuel _ x h
  exact ⟨y, a.toList, rfl, hy⟩
theorem broken_all {s : Shp} (hs : s.Ok) {r : Rig} (hB : r.broken = true) (hm : (r.ds.length : Int) = s.members) {b : Bytes} (hb : (b.length : Int) = s.block) :
    achunk s 0 0 r = .ok ([], 3) r ∧ asame s 0 r = .ok ([], 3) r ∧ aflush r = .ok 3 r ∧ amend s 0 r = .ok 3 r ∧ areplace 0 r = .ok 3 r ∧ alose 0 r = .ok 3 r ∧ aputSame s 0 b r = .ok 3 r ∧ afinish s b r = .ok 3 r := by
  have h1 := hs.members
  have h2 := hs.segments
  have h3 := hs.stripes
  have h4 := Int.mul_pos (show 0 < s.segments by omega) (show 0 < s.stripes by omega)
  have h5 : s.all = s.segments * s.stripes := rfl
  have h6 : s.slots = s.members - 2 := rfl
  have h7 := hs.at_ (t := 0) (by omega)
  refine ⟨?_, ?_, ?_, ?_, ?_, ?_, ?_, ?_⟩
  · unfold achunk; rw [if_neg (by omega), if_pos hB]
  · unfold asame; rw [if_neg (by omega), if_pos hB]
  · unfold aflush; rw [if_pos hB]
  · unfold amend; rw [if_neg (by omega), if_pos hB]
  · unfold areplace; rw [if_pos hB]
  · unfold alose; rw [if_neg (by omega), if_pos hB]
  · unfold aputSame; rw [if_neg (by omega), if_pos hB]
  · unfold afinish; rw [if_neg (by simp [hb]), if_pos hB]
set_option maxHeartbeats 4000000 in
theorem two_spec (x : Small) (v1 v2 : Value) (xs ys : List (UInt8 × UInt8)) (m ops : UInt8 × UInt8) (hb1 : xs.length ≤ 9223372036854775807) (hb2 : ys.length ≤ 9223372036854775807) :
    Spec0 Try.prog 10 [Small.val x, v1, v2, .agg (two m).toArray, .agg (two ops).toArray] (fun h => Rd v1 2 (xs.flatMap strCells) h ∧ Rd v2 2 (ys.flatMap strCells) h) (fun F => F) (fun _ : Unit => True) (fun _ => .bool true) (fun _ F => F) := by
  (refine spec_of Try.func10 rfl Try.ntmps10 rfl (fun F w0 hrd => ?_))
  haveI : RdIn F v1 2 (xs.flatMap strCells) := ⟨fun h hs => (hrd h hs).1⟩
  haveI : RdIn F v2 2 (ys.flatMap strCells) := ⟨fun h hs => (hrd h hs).2⟩
  refine walk ?_
  intro c
  refine walk ?_
  intro c8
  refine walk ?_
  intro c9
  refine walk ?_
  refine call (awake11_spec) ?_
  intro _ _
  refine walk ?_
  (first | (refine wif_cut 4 28 (.bool (decide ((xs.length : Int) > 8 ∨ (ys.length : Int) > 8))) (fun K => ?_) ?_; refine wif_dec (fun hc => ?_) (fun hc => ?_); (iterate 4 ((first | (refine wl_guard_yes rfl rfl rfl ?_; refine wl_ya ?_) | (refine wl_guard_no rfl rfl rfl rfl rfl ?_) | (refine wl_ya ?_)))); exact K true _ _ rfl (by (repeat (first | exact trivial | refine And.intro (by first | exact trivial | rfl) ?_))) (by simp [hc]) (by first | rfl | (simp; done) | (simp; omega) | (simp [*]; done) | (simp [*]; omega)); (iterate 4 ((first | (refine wl_guard_yes rfl rfl rfl ?_; refine wl_ya ?_) | (refine wl_guard_no rfl rfl rfl rfl rfl ?_) | (refine wl_ya ?_)))); exact K false _ _ rfl (by (repeat (first | exact trivial | refine And.intro (by first | exact trivial | rfl) ?_))) (by simp [hc]) (by first | rfl | (simp; done) | (simp; omega) | (simp [*]; done) | (simp [*]; omega)); try (refine wl_nil ?_)) | (refine wif_cutn 4 28 (.bool (decide ((xs.length : Int) > 8 ∨ (ys.length : Int) > 8))) (fun K => ?_) ?_; refine wif_dec (fun hc => ?_) (fun hc => ?_); (iterate 4 ((first | (refine wl_guard_yes rfl rfl rfl ?_; refine wl_ya ?_) | (refine wl_guard_no rfl rfl rfl rfl rfl ?_) | (refine wl_ya ?_)))); exact K false _ _ rfl (by (repeat (first | exact trivial | refine And.intro (by first | exact trivial | rfl) ?_))) (by simp [hc]) (by first | rfl | (simp; done) | (simp; omega) | (simp [*]; done) | (simp [*]; omega)); (iterate 4 ((first | (refine wl_guard_yes rfl rfl rfl ?_; refine wl_ya ?_) | (refine wl_guard_no rfl rfl rfl rfl rfl ?_) | (refine wl_ya ?_)))); exact K true _ _ rfl (by (repeat (first | exact trivial | refine And.intro (by first | exact trivial | rfl) ?_))) (by simp [hc]) (by first | rfl | (simp; done) | (simp; omega) | (simp [*]; done) | (simp [*]; omega)); try (refine wl_nil ?_)))
  refine walk ?_
  refine wif_dec (fun hc => ?_) (fun hc => ?_) <;> refine walk ?_
  · exact wq_ret1 rfl rfl () rfl trivial perm
  have h1 : xs.length ≤ 8 := by omega
  have h2 : ys.length ≤ 8 := by omega
  refine call (shape5_spec x) ?_
  intro _ _
  have hs := shapeOf_ok x
  generalize shapeOf x = s at *
  have hmm := hs.members
  have hbl := hs.block
  refine walk ?_
  refine call (new11_spec s hs) ?_
  intro l hl
  obtain ⟨g, dv, ⟨a, nv, pp, ps, lv, sh⟩⟩ := l
  obtain ⟨hk, hsh⟩ := hl
  dsimp only [LRigAt] at hk hsh ⊢
  subst hsh
  have hps := hk.mem
  dsimp only at hps
  refine walk ?_
  intro hb
  refine walk ?_
  rw [show (MapI hb [] : HP) = MapB hb [] from rfl]
  obtain ⟨bad, hbad⟩ : ∃ bad : Nat → Prop, bad = fun (i : Nat) => (i : Int) = (m.1.toNat : Int) % sh.members ∨ (i : Int) = (m.2.toNat : Int) % sh.members := ⟨_, rfl⟩
  refine wc_loop (X := Nat × Rig) (fun y => [(0, Small.val x), (1, v1), (2, v2), (8, vp c8), (9, vp c9), (10, .bool false), (11, vp g), (13, .map (some hb)), (38, vi y.1)]) (fun y => LRigAt ⟨g, dv, ⟨a, nv, pp, ps, lv, sh⟩⟩ y.2 (Cells c8 (two m) :: Cells c9 (two ops) :: MapB hb [] :: F))
    (fun y => y.1 ≤ 2 ∧ Base sh bad y.2) (fun y => 2 - y.1) (0, Rig.fresh sh) ⟨by omega, fresh_base hs bad⟩ envs (Ent.take (by (first | (with_reducible exact Ent.refl) | (with_reducible exact Ent.there Ent.refl) | (with_reducible exact Ent.there (Ent.there Ent.refl)) | (with_reducible exact Ent.there (Ent.there (Ent.there Ent.refl))) | (with_reducible exact Ent.there (Ent.there (Ent.there (Ent.there Ent.refl)))) | (with_reducible exact Ent.there (Ent.there (Ent.there (Ent.there (Ent.there Ent.refl))))) | (with_reducible exact Ent.there (Ent.there (Ent.there (Ent.there (Ent.there (Ent.there Ent.refl)))))) | (with_reducible exact Ent.there (Ent.there (Ent.there (Ent.there (Ent.there (Ent.there (Ent.there Ent.refl))))))) | (with_reducible exact Ent.there (Ent.there (Ent.there (Ent.there (Ent.there (Ent.there (Ent.there (Ent.there Ent.refl)))))))) | (with_reducible exact Ent.there (Ent.there (Ent.there (Ent.there (Ent.there (Ent.there (Ent.there (Ent.there (Ent.there Ent.refl))))))))) | (with_reducible exact Ent.there (Ent.there (Ent.there (Ent.there (Ent.there (Ent.there (Ent.there (Ent.there (Ent.there (Ent.there Ent.refl)))))))))) | (with_reducible exact Ent.there (Ent.there (Ent.there (Ent.there (Ent.there (Ent.there (Ent.there (Ent.there (Ent.there (Ent.there (Ent.there Ent.refl))))))))))) | (with_reducible exact Ent.there (Ent.there (Ent.there (Ent.there (Ent.there (Ent.there (Ent.there (Ent.there (Ent.there (Ent.there (Ent.there (Ent.there Ent.refl)))))))))))) | (with_reducible exact Ent.there (Ent.there (Ent.there (Ent.there (Ent.there (Ent.there (Ent.there (Ent.there (Ent.there (Ent.there (Ent.there (Ent.there (Ent.there Ent.refl))))))))))))))) (Ent.take (by (first | (with_reducible exact Ent.refl) | (with_reducible exact Ent.there Ent.refl) | (with_reducible exact Ent.there (Ent.there Ent.refl)) | (with_reducible exact Ent.there (Ent.there (Ent.there Ent.refl))) | (with_reducible exact Ent.there (Ent.there (Ent.there (Ent.there Ent.refl)))) | (with_reducible exact Ent.there (Ent.there (Ent.there (Ent.there (Ent.there Ent.refl))))) | (with_reducible exact Ent.there (Ent.there (Ent.there (Ent.there (Ent.there (Ent.there Ent.refl)))))) | (with_reducible exact Ent.there (Ent.there (Ent.there (Ent.there (Ent.there (Ent.there (Ent.there Ent.refl))))))) | (with_reducible exact Ent.there (Ent.there (Ent.there (Ent.there (Ent.there (Ent.there (Ent.there (Ent.there Ent.refl)))))))) | (with_reducible exact Ent.there (Ent.there (Ent.there (Ent.there (Ent.there (Ent.there (Ent.there (Ent.there (Ent.there Ent.refl))))))))) | (with_reducible exact Ent.there (Ent.there (Ent.there (Ent.there (Ent.there (Ent.there (Ent.there (Ent.there (Ent.there (Ent.there Ent.refl)))))))))) | (with_reducible exact Ent.there (Ent.there (Ent.there (Ent.there (Ent.there (Ent.there (Ent.there (Ent.there (Ent.there (Ent.there (Ent.there Ent.refl))))))))))) | (with_reducible exact Ent.there (Ent.there (Ent.there (Ent.there (Ent.there (Ent.there (Ent.there (Ent.there (Ent.there (Ent.there (Ent.there (Ent.there Ent.refl)))))))))))) | (with_reducible exact Ent.there (Ent.there (Ent.there (Ent.there (Ent.there (Ent.there (Ent.there (Ent.there (Ent.there (Ent.there (Ent.there (Ent.there (Ent.there Ent.refl))))))))))))))) perm)) (fun y hy => ?_)
  obtain ⟨i, r⟩ := y
  dsimp only [LRigAt] at hy ⊢
  obtain ⟨hi, hB⟩ := hy
  refine walk ?_
  refine wif_dec (fun hlt => ?_) (fun hlt => ?_)
  · obtain ⟨y, o, hy, ho, hym⟩ : ∃ y o : UInt8, (two m)[i]? = some (vb y) ∧ (two ops)[i]? = some (vb o) ∧ (y = m.1 ∨ y = m.2) := by
      have : i = 0 ∨ i = 1 := by omega
      rcases this with rfl | rfl
      · exact ⟨m.1, ops.1, rfl, rfl, .inl rfl⟩
      · exact ⟨m.2, ops.2, rfl, rfl, .inr rfl⟩
    refine walk ?_
    refine draw ?_; refine dy 0 ?_; refine dy 1 ?_; refine dy 2 ?_; refine dy 3 ?_; refine dy 4 ?_
    refine dy 5 ?_ (y := yl_indexA1 (m := 2) rfl rfl (by omega))
    refine dy 6 ?_ (y := yl_load (cs := two m) (v := vb y) rfl (by rw [Nat.zero_add]; exact hy))
    have hy8 := y.toNat_lt
    have ho8 := o.toNat_lt
    have e1 := Int.emod_nonneg (y.toNat : Int) (show sh.members ≠ 0 by omega)
    have e2 := Int.emod_lt_of_pos (y.toNat : Int) (show 0 < sh.members by omega)
    refine dy 7 ?_; refine dy 8 ?_; refine dy 9 ?_; refine dy 10 ?_; refine dy 11 ?_; refine dy 12 ?_; refine dy 13 ?_; refine dy 14 ?_; refine dy 15 ?_; refine dy 16 ?_; refine dy 17 ?_; refine dy 18 ?_; refine dy 19 ?_
    refine dy 21 ?_
    refine dy 22 ?_ (y := yl_indexA1 (m := 2) rfl rfl (by omega))
    refine dy 23 ?_ (y := yl_load (cs := two ops) (v := vb o) rfl (by rw [Nat.zero_add]; exact ho))
    refine dy 24 ?_
    refine ddx 20 ?_
    refine call (used_spec pp r.pow) ?_
    intro _ _
    refine walk ?_
    refine dy 25 ?_
    refine ddx 26 ?_
    obtain ⟨kk, hkk⟩ : ∃ kk : Nat, (y.toNat : Int) % sh.members = kk := ⟨((y.toNat : Int) % sh.members).toNat, by omega⟩
    have hkl : kk < ps.length := by omega
    simp only [hkk, Int.toNat_natCast]
    refine call (rfailAt_spec ⟨a, nv, pp, ps, lv, sh⟩ r kk (by dsimp only; omega) (w64 (r.pow.used + o.toNat))) ?_
    intro _ _
    have hB' := (failing_tr hB (k := kk) (by have := hB.fits.many; omega) (by rw [hbad]; exact hym.imp (fun e => by rw [← e]; exact hkk.symm) (fun e => by rw [← e]; exact hkk.symm)) ((r.at kk).failing (w64 (r.pow.used + o.toNat))) rfl rfl rfl).1
    refine walk ?_
    exact wq_round (i + 1, _) ⟨by dsimp only; omega, hB'⟩ (by dsimp only; omega) envs (Ent.take (by (first | (with_reducible exact Ent.refl) | (with_reducible exact Ent.there Ent.refl) | (with_reducible exact Ent.there (Ent.there Ent.refl)) | (with_reducible exact Ent.there (Ent.there (Ent.there Ent.refl))) | (with_reducible exact Ent.there (Ent.there (Ent.there (Ent.there Ent.refl)))) | (with_reducible exact Ent.there (Ent.there (Ent.there (Ent.there (Ent.there Ent.refl))))) | (with_reducible exact Ent.there (Ent.there (Ent.there (Ent.there (Ent.there (Ent.there Ent.refl)))))) | (with_reducible exact Ent.there (Ent.there (Ent.there (Ent.there (Ent.there (Ent.there (Ent.there Ent.refl))))))) | (with_reducible exact Ent.there (Ent.there (Ent.there (Ent.there (Ent.there (Ent.there (Ent.there (Ent.there Ent.refl)))))))) | (with_reducible exact Ent.there (Ent.there (Ent.there (Ent.there (Ent.there (Ent.there (Ent.there (Ent.there (Ent.there Ent.refl))))))))) | (with_reducible exact Ent.there (Ent.there (Ent.there (Ent.there (Ent.there (Ent.there (Ent.there (Ent.there (Ent.there (Ent.there Ent.refl)))))))))) | (with_reducible exact Ent.there (Ent.there (Ent.there (Ent.there (Ent.there (Ent.there (Ent.there (Ent.there (Ent.there (Ent.there (Ent.there Ent.refl))))))))))) | (with_reducible exact Ent.there (Ent.there (Ent.there (Ent.there (Ent.there (Ent.there (Ent.there (Ent.there (Ent.there (Ent.there (Ent.there (Ent.there Ent.refl)))))))))))) | (with_reducible exact Ent.there (Ent.there (Ent.there (Ent.there (Ent.there (Ent.there (Ent.there (Ent.there (Ent.there (Ent.there (Ent.there (Ent.there (Ent.there Ent.refl))))))))))))))) (Ent.take (by (first | (with_reducible exact Ent.refl) | (with_reducible exact Ent.there Ent.refl) | (with_reducible exact Ent.there (Ent.there Ent.refl)) | (with_reducible exact Ent.there (Ent.there (Ent.there Ent.refl))) | (with_reducible exact Ent.there (Ent.there (Ent.there (Ent.there Ent.refl)))) | (with_reducible exact Ent.there (Ent.there (Ent.there (Ent.there (Ent.there Ent.refl))))) | (with_reducible exact Ent.there (Ent.there (Ent.there (Ent.there (Ent.there (Ent.there Ent.refl)))))) | (with_reducible exact Ent.there (Ent.there (Ent.there (Ent.there (Ent.there (Ent.there (Ent.there Ent.refl))))))) | (with_reducible exact Ent.there (Ent.there (Ent.there (Ent.there (Ent.there (Ent.there (Ent.there (Ent.there Ent.refl)))))))) | (with_reducible exact Ent.there (Ent.there (Ent.there (Ent.there (Ent.there (Ent.there (Ent.there (Ent.there (Ent.there Ent.refl))))))))) | (with_reducible exact Ent.there (Ent.there (Ent.there (Ent.there (Ent.there (Ent.there (Ent.there (Ent.there (Ent.there (Ent.there Ent.refl)))))))))) | (with_reducible exact Ent.there (Ent.there (Ent.there (Ent.there (Ent.there (Ent.there (Ent.there (Ent.there (Ent.there (Ent.there (Ent.there Ent.refl))))))))))) | (with_reducible exact Ent.there (Ent.there (Ent.there (Ent.there (Ent.there (Ent.there (Ent.there (Ent.there (Ent.there (Ent.there (Ent.there (Ent.there Ent.refl)))))))))))) | (with_reducible exact Ent.there (Ent.there (Ent.there (Ent.there (Ent.there (Ent.there (Ent.there (Ent.there (Ent.there (Ent.there (Ent.there (Ent.there (Ent.there Ent.refl))))))))))))))) perm))
  have hj0 : JAny sh bad [] r := ⟨hB, Stripes.nil _ _⟩
  refine walk ?_
  refine call (rput_spec ⟨g, dv, ⟨a, nv, pp, ps, lv, sh⟩⟩ hk (JAny sh bad) true (JAny.puts hs bad) v1 xs (by omega) [] r hj0 hb) ?_
  intro y1 hj1
  obtain ⟨m1, r1⟩ := y1
  dsimp only [LRigAt] at hj1 ⊢
  refine walk ?_
  refine call (rholds_spec ⟨g, dv, ⟨a, nv, pp, ps, lv, sh⟩⟩ hk m1 (JAny sh bad m1) true (JAny.gets hs bad m1) r1 hj1 hb) ?_
  intro r2 hj2
  dsimp only [LRigAt]
  refine walk ?_
  refine call (rput_spec ⟨g, dv, ⟨a, nv, pp, ps, lv, sh⟩⟩ hk (JAny sh bad) true (JAny.puts hs bad) v2 ys (by omega) m1 r2 hj2 hb) ?_
  intro y3 hj3
  obtain ⟨m3, r3⟩ := y3
  dsimp only [LRigAt] at hj3 ⊢
  refine walk ?_
  refine call (rholds_spec ⟨g, dv, ⟨a, nv, pp, ps, lv, sh⟩⟩ hk m3 (JAny sh bad m3) true (JAny.gets hs bad m3) r3 hj3 hb) ?_
  intro r4 hj4
  dsimp only [LRigAt]
  refine walk ?_
  refine call (broken_spec ⟨a, nv, pp, ps, lv, sh⟩ r4) ?_
  intro _ _
  cases hbr : r4.broken with
  | false =>
    refine walk ?_
    exact wq_ret1 rfl rfl () rfl trivial perm
  | true =>
  have hbf : ((blockOf sh 1).length : Int) = sh.block := blockOf_len sh (by omega) 1
  obtain ⟨q1, q2, q3, q4, q5, q6, q7, q8⟩ := broken_all hs hbr hj4.base.fits.many hbf
  have hlt : r4.stale < ps.length := by have := hj4.base.lt; have := hj4.base.fits.many; omega
  refine walk ?_
  refine call ((achunk_spec ⟨a, nv, pp, ps, lv, sh⟩ hk r4 0 0).sure ([], 3) r4 q1) ?_
  intro b1 _
  refine walk ?_
  refine call ((asame_spec ⟨a, nv, pp, ps, lv, sh⟩ hk r4 0).sure ([], 3) r4 q2) ?_
  intro b2 _
  refine walk ?_
  (refine draw ?_; refine dy 0 ?_; refine dy 1 ?_; refine dy 2 ?_; refine dg 3 ?_; refine dg 4 ?_; refine dy 5 ?_; refine dy 6 ?_; refine dg 7 ?_; refine dg 8 ?_; refine dg 9 ?_; refine dg 10 ?_; refine ddx 11 ?_)
  refine walk ?_
  refine call ((aflush_spec ⟨a, nv, pp, ps, lv, sh⟩ hk r4).sure 3 r4 q3) ?_
  intro _ _
  (refine walk ?_; refine dg 12 ?_; refine dy 13 ?_; refine dy 14 ?_; refine dg 15 ?_; refine dg 16 ?_; refine dg 17 ?_; refine dg 18 ?_; refine ddx 19 ?_)
  refine walk ?_
  refine call ((amend_spec ⟨a, nv, pp, ps, lv, sh⟩ hk r4 hlt 0).sure 3 r4 q4) ?_
  intro _ _
  (refine walk ?_; refine dg 20 ?_; refine dy 21 ?_; refine dy 22 ?_; refine dg 23 ?_; refine dg 24 ?_; refine dg 25 ?_; refine dg 26 ?_; refine ddx 27 ?_)
  refine walk ?_
  refine call ((areplace_spec ⟨a, nv, pp, ps, lv, sh⟩ hk r4 0).sure 3 r4 q5) ?_
  intro _ _
  (refine walk ?_; refine dg 28 ?_; refine dy 29 ?_; refine dy 30 ?_; refine dg 31 ?_; refine dg 32 ?_; refine dg 33 ?_; refine dg 34 ?_; refine ddx 35 ?_)
  refine walk ?_
  refine call ((alose_spec ⟨a, nv, pp, ps, lv, sh⟩ hk r4 0).sure 3 r4 q6) ?_
  intro _ _
  (refine walk ?_; refine dg 36 ?_; refine dy 37 ?_; refine dy 38 ?_; refine dg 39 ?_; refine dg 40 ?_; refine dg 41 ?_; refine dg 42 ?_; refine dg 43 ?_; refine dg 44 ?_; refine dg 45 ?_; refine dg 46 ?_; refine ddx 47 ?_)
  refine walk ?_
  refine call (block_spec sh (by omega) 1) ?_
  intro bv _
  (refine walk ?_; refine ddx 48 ?_)
  refine walk ?_
  refine call ((aputSame_spec ⟨a, nv, pp, ps, lv, sh⟩ hk r4 0 bv (blockOf sh 1)).sure 3 r4 q7) ?_
  intro _ _
  (refine walk ?_; refine dg 49 ?_; refine dy 50 ?_; refine dy 51 ?_; refine dg 52 ?_; refine dg 53 ?_; refine dg 54 ?_; refine dg 55 ?_; refine dg 56 ?_; refine dg 57 ?_; refine dg 58 ?_; refine dg 59 ?_; refine ddx 60 ?_)
  refine walk ?_
  refine call (block_spec sh (by omega) 1) ?_
  intro bv2 _
  (refine walk ?_; refine ddx 61 ?_)
  refine walk ?_
  refine call ((afinish_spec ⟨a, nv, pp, ps, lv, sh⟩ hk r4 hlt bv2 (blockOf sh 1)).sure 3 r4 q8) ?_
  intro _ _
  (refine walk ?_; refine dg 62 ?_; refine dy 63 ?_; refine dy 64 ?_; refine walk ?_)
  refine walk ?_
  exact wq_ret1 rfl rfl () rfl trivial perm

set_option maxRecDepth 100000 in
open Go.RowKit Go.ChangeShapes Go.WideShapes in
theorem arrayTwo_lifted (os : Os) (started : os.Started) (H : Type) (enc : TypeId × Value → H) :
    ReturnsInHanded {} Try.checked os 10 .any (Rows.arrayTwoSpec.pre6 enc Try.prog Try.f10 Rows.arrayTwoRow.domain false) (Rows.arrayTwoSpec.post enc Try.prog Try.f10 false true false false) := by
  refine returnsInHanded_of_change (C := Try.checked) Try.own started (by kernel_rfl) Try.func10
    (ChangeSpec.witness6 (enc := enc) (C := Try.checked) false ⟨#[], #[.agg #[.int .u8 0, .int .u8 0, .int .u8 0, .int .u8 0, .int .u8 0, .int .u8 0], .slice none 0 0, .slice none 0 0, .agg #[.int .u8 0, .int .u8 0], .agg #[.int .u8 0, .int .u8 0]], []⟩ 8 (by kernel_rfl) (by kernel_rfl) (by kernel_rfl) (by kernel_rfl)) ?_
  intro W base args ds gs before hval0 hW hcnd _
  rw [Try.same] at hval0 hW hcnd ⊢
  have hval : ∀ (j : Nat) t v, Try.f10.params[j]? = some t → args[j]? = some v → Value.okWide Try.prog W .any base t v := hval0
  have hW' := hW
  obtain ⟨p, q, hA, hV, rfl, hfz, hnd⟩ := hW
  have hA : DataW.TrodAll enc Try.prog W 0 (fun _ => true) true [23, 24, 24, 75, 75] args.toList ds p := hA
  obtain ⟨v0, vs0, d0, ds0, q0, m0, y0, e0, rfl, t0, h0⟩ := trodAll_split1 hA
  obtain ⟨v1, vs1, d1, ds1, q1, m1, y1, e1, rfl, t1, h1⟩ := trodAll_split1 h0
  obtain ⟨v2, vs2, d2, ds2, q2, m2, y2, e2, rfl, t2, h2⟩ := trodAll_split1 h1
  obtain ⟨v3, vs3, d3, ds3, q3, m3, y3, e3, rfl, t3, h3⟩ := trodAll_split1 h2
  obtain ⟨v4, vs4, d4, ds4, q4, m4, y4, e4, rfl, t4, h4⟩ := trodAll_split1 h3
  obtain ⟨e5, rfl⟩ := trodAll_split0 h4
  have ea : args = [v0, v1, v2, v3, v4].toArray := by apply Array.toList_inj.1; rw [e0, e1, e2, e3, e4, e5]
  subst ea
  obtain ⟨b0, c0, rfl, rfl, hx0⟩ := arg_struct Try.underlying23 @rdr_small (hval 0 23 v0 rfl rfl) t0
  obtain ⟨b1, w1, f1, hr1, hb1, hx1⟩ := arg_slice (@rdr_slicef Try.prog 24 102 2 (UInt8×UInt8) strCells _ _ (by kernel_rfl) (by decide) @rdr_stripe) (hval 1 24 v1 rfl rfl) t1
  obtain rfl : v1 = w1 := by simpa using f1
  obtain ⟨b2, w2, f2, hr2, hb2, hx2⟩ := arg_slice (@rdr_slicef Try.prog 24 102 2 (UInt8×UInt8) strCells _ _ (by kernel_rfl) (by decide) @rdr_stripe) (hval 2 24 v2 rfl rfl) t2
  obtain rfl : v2 = w2 := by simpa using f2
  obtain ⟨b3, c3, rfl, rfl, hx3⟩ := arg_array Try.underlying75 @rdr_two (hval 3 75 v3 rfl rfl) t3
  obtain ⟨b4, c4, rfl, rfl, hx4⟩ := arg_array Try.underlying75 @rdr_two (hval 4 75 v4 rfl rfl) t4
  refine (two_spec b0 v1 v2 b1 b2 b3 b4 hb1 hb2 [Old W] W (fun h hs => ⟨(Old.rd hr1).rd h hs, (Old.rd hr2).rd h hs⟩) (sat_old W)).mono fun e W' he => ?_
  obtain ⟨hev, ⟨_, _, rfl, hs⟩ | ⟨_, hf, _⟩⟩ := he
  · exact ⟨_, rfl, law_post Try.laidOut rfl hW' rfl Try.underlying4 (by decide +kernel) (by cases gs <;> first | rfl | exact False.elim hV) (Sat.below hev hs)⟩
  · exact hf.elim

set_option maxRecDepth 100000 in
theorem arrayTwo_holds : Rows.ArrayTwoSaid :=
  OpenClaim.holds_of_wide 10 Try.f10 rfl rfl rfl rfl rfl rfl rfl ⟨rfl, rfl, rfl, rfl, rfl⟩ rfl rfl rfl rfl rfl (by kernel_rfl) Try.func10 (Try.joined (by kernel_rfl))
    (of_decide_eq_true (by kernel_rfl)) (by unfold Func.isWrapper; first | (rw [if_pos (by decide +kernel)]; kernel_rfl) | (rw [if_neg (by decide +kernel)]; exact ⟨rfl, rfl⟩))
    (fun os started H enc _ => arrayTwo_lifted os started H enc)
#print axioms arrayTwo_holds
end Go.Proofs.Ytapgejjjgeiihaa
