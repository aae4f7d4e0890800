/- The statements' rig: stripes put, and read. -/
import Derived.Test.YtapgejjjgeiihaaLrg
import Derived.Test.YtapgejjjgeiihaaDrw
namespace Go.Proofs.Ytapgejjjgeiihaa
open Go Go.Sl
attribute [local irreducible] Yl WL WC WQ WD

/-- a map of bytes, by number -/
abbrev MapB (c : Nat) (m : IMap UInt8) : HP := MapI c (m.map fun p => (p.1, vb p.2))
abbrev strCells (x : UInt8 × UInt8) : List Value := [vb x.1, vb x.2]
instance : FLen strCells 2 := ⟨fun _ => rfl⟩
instance {cv : Value} {rows : List Row} {Γ : List HP} : ReadIn (Sl cv 1 (rows.map (·.1)) :: Pool rows :: Γ) (fun h => Rd cv 1 (rows.map (·.1)) h ∧ ∀ r ∈ rows, Rd r.1 1 (r.2.map vb) h) := ⟨fun h hs => by
  obtain ⟨h1, a, p⟩ := hs.one
  obtain ⟨h2, a', p'⟩ := hs.tail.one
  exact ⟨(Sl.rd p).mono a, fun r hr => (p' r hr).mono a'⟩⟩

/-- what the statements' shapes are -/
structure Neat (s : Shp) : Prop where
  ok : s.Ok
theorem chunksOf_chunks {s : Shp} (h : s.Ok) (f : UInt8) : Chunks s (chunksOf s f) := by
  have h1 := h.members
  have h2 := h.block
  refine ⟨by simp [chunksOf]; omega, fun b hb => ?_⟩
  obtain ⟨k, _, rfl⟩ := List.mem_map.1 hb
  exact blockOf_len s (by omega) _
theorem chunksOf_get {s : Shp} (f : UInt8) {c : Nat} (hc : (c : Int) < s.members - 1) : (chunksOf s f).getD c [] = blockOf s (chunkFill f c) := by
  have : c < (s.members - 1).toNat := by omega
  unfold chunksOf
  rw [List.getD, List.getElem?_map, List.getElem?_range this]; rfl

/-- stripes are put: what is kept of them all -/
def PutJ (s : Shp) (bk : Bool) (J : IMap UInt8 → Rig → Prop) : Prop := ∀ m r (t : Int) (f : UInt8), 0 ≤ t ∧ t < s.all → J m r →
  (aput s t (chunksOf s f) r).Sat (fun e r' => (e = 0 ∧ J (mset m t f) r') ∨ (bk = true ∧ e = 3 ∧ r'.broken = true ∧ J (mdel m t) r')) (fun _ => False)
theorem sat_ok {σ α : Type} {m : Out σ α} {Q : α → σ → Prop} (h : m.Sat Q (fun _ => False)) : ∃ a s, m = .ok a s ∧ Q a s := by
  cases m with
  | ok a s => exact ⟨a, s, rfl, h⟩
  | gone s => exact h.elim

set_option maxHeartbeats 2000000 in
theorem rput_spec (l : LK) (hk : l.k.Ok) (J : IMap UInt8 → Rig → Prop) (bk : Bool) (hJ : PutJ l.k.sh bk J) (v : Value) (xs : List (UInt8 × UInt8)) (hx : xs.length ≤ 1000) (m0 : IMap UInt8) (r0 : Rig) (h0 : J m0 r0) (hb : Nat) :
    Spec0 Try.prog 20 [vp l.g, v, .map (some hb), .bool bk] (Rd v 2 (xs.flatMap strCells)) (fun F => LRigAt l r0 (MapB hb m0 :: F)) (fun y : IMap UInt8 × Rig => J y.1 y.2) (fun _ => .bool true) (fun y F => LRigAt l y.2 (MapB hb y.1 :: F)) := by
  (refine spec_of Try.func20 rfl Try.ntmps20 rfl (fun F w0 hrd => ?_))
  haveI : RdIn F v 2 (xs.flatMap strCells) := ⟨hrd⟩
  have hmm := hk.sh.members
  have hbl := hk.sh.block
  have hall := (bounds hk.sh).all
  have hall0 : 8 ≤ l.k.sh.all := hall.1
  have hall' : l.k.sh.all ≤ 1024 := hall.2
  refine walk ?_
  refine wc_loop (X := Nat × IMap UInt8 × Rig) (fun y => [(0, vp l.g), (1, v), (2, .map (some hb)), (3, .bool bk), (13, v), (14, vi xs.length), (15, vi y.1)]) (fun y => LRigAt l y.2.2 (MapB hb y.2.1 :: F))
    (fun y => y.1 ≤ xs.length ∧ J y.2.1 y.2.2) (fun y => xs.length - y.1) (0, m0, r0) ⟨by omega, h0⟩ envs perm (fun y hy => ?_)
  obtain ⟨i, m, r⟩ := y
  dsimp only at hy ⊢
  obtain ⟨hi, hj⟩ := hy
  refine walk ?_
  refine wif_dec (fun hlt => ?_) (fun hlt => ?_)
  · have hlt : i < xs.length := by omega
    refine walk ?_
    intro c
    generalize xs[i] = x at *
    have ha := x.1.toNat_lt
    refine walk ?_
    (refine draw ?_; refine dy 0 ?_; refine dy 1 ?_; refine dy 2 ?_; refine dy 3 ?_; refine dy 4 ?_; refine dy 5 ?_; refine dy 6 ?_; refine ddx 7 ?_)
    refine call (all_spec l.k.sh hk.sh) ?_
    intro _ _
    (refine walk ?_; refine dy 8 ?_; refine dy 9 ?_; refine walk ?_)
    obtain ⟨t, ht⟩ : ∃ t : Int, t = (x.1.toNat : Int) % l.k.sh.all := ⟨_, rfl⟩
    rw [← ht]
    have ht1 : 0 ≤ t ∧ t < l.k.sh.all := by
      have h1 := Int.emod_nonneg (x.1.toNat : Int) (show l.k.sh.all ≠ 0 by omega)
      have h2 := Int.emod_lt_of_pos (x.1.toNat : Int) (show 0 < l.k.sh.all by omega)
      omega
    clear ht
    (refine draw ?_; refine dy 0 ?_; refine dy 1 ?_; refine dy 2 ?_; refine dy 3 ?_; refine dy 4 ?_; refine dy 5 ?_; refine dy 6 ?_; refine dy 7 ?_; refine dy 8 ?_; refine dy 9 ?_; refine dy 10 ?_; refine ddx 11 ?_)
    refine call (chunks_spec l.k.sh (by omega) (by omega) x.2) ?_
    intro y hy
    obtain ⟨cv, rows⟩ := y
    dsimp only at hy ⊢
    have hrl : rows.length ≤ 1048576 := by have := congrArg List.length hy; simp [chunksOf] at this; omega
    have hrb : ∀ q ∈ rows, q.2.length ≤ 1099511627776 := fun q hq => by
      have h1 : q.2 ∈ chunksOf l.k.sh x.2 := by rw [← hy]; exact List.mem_map.2 ⟨q, hq, rfl⟩
      have := (chunksOf_chunks hk.sh x.2).each _ h1
      omega
    obtain ⟨e, r', hm, hq⟩ := sat_ok (hJ m r t x.2 ht1 hj)
    rw [← hy] at hm
    (refine walk ?_; refine ddx 12 ?_)
    refine call ((aput_spec l.k hk r t cv rows hrl hrb).sure e r' hm) ?_
    intro _ _
    (refine walk ?_; refine dy 13 ?_; refine walk ?_)
    rcases hq with ⟨rfl, hj'⟩ | ⟨rfl, rfl, hbr, hj'⟩
    · refine wif_dec (fun _ => ?_) (fun h => absurd rfl h)
      refine walk ?_
      refine wq_round (i + 1, mset m t x.2, r') ⟨by dsimp only; omega, hj'⟩ (by dsimp only; omega) envs ?_
      dsimp only
      rw [mset_map vb]
      exact perm
    · refine wif_dec (fun h => absurd h (by decide)) (fun _ => ?_)
      refine walk ?_
      refine call (broken_spec l.k r') ?_
      intro _ _
      rw [hbr]
      refine walk ?_
      refine wq_round (i + 1, mdel m t, r') ⟨by dsimp only; omega, hj'⟩ (by dsimp only; omega) envs ?_
      dsimp only
      rw [mdel_map vb]
      exact perm
  · have hi' : i = xs.length := by omega
    subst hi'
    refine walk ?_
    exact wq_ret1 rfl rfl (m, r) rfl hj perm

/-- stripes are read: what is kept -/
def GetJ (s : Shp) (bk : Bool) (J : Rig → Prop) (m : IMap UInt8) : Prop := ∀ r (t : Int) (f : UInt8) (c : Nat), 0 ≤ t ∧ t < s.all → (c : Int) < s.members - 1 → mget m t = some f → J r →
  (achunk s t c r).Sat (fun x r' => J r' ∧ (x = (blockOf s (chunkFill f c), 0) ∨ (bk = true ∧ x = ([], 3) ∧ r'.broken = true))) (fun _ => False)
set_option maxHeartbeats 2000000 in
theorem rholds_spec (l : LK) (hk : l.k.Ok) (m : IMap UInt8) (J : Rig → Prop) (bk : Bool) (hJ : GetJ l.k.sh bk J m) (r0 : Rig) (h0 : J r0) (hb : Nat) :
    Spec0 Try.prog 28 [vp l.g, .map (some hb), .bool bk] (fun _ => True) (fun F => LRigAt l r0 (MapB hb m :: F)) (fun y : Rig => J y) (fun _ => .bool true) (fun y F => LRigAt l y (MapB hb m :: F)) := by
  (refine spec_of Try.func28 rfl Try.ntmps28 rfl (fun F w0 hrd => ?_))
  have hmm := hk.sh.members
  have hbl := hk.sh.block
  have hall := (bounds hk.sh).all
  have hall0 : 8 ≤ l.k.sh.all := hall.1
  have hall' : l.k.sh.all ≤ 1024 := hall.2
  refine walk ?_
  refine call (all_spec l.k.sh hk.sh) ?_
  intro _ _
  refine walk ?_
  refine wc_loop (X := Nat × Rig) (fun y => [(0, vp l.g), (1, .map (some hb)), (2, .bool bk), (18, vi l.k.sh.all), (19, vi y.1)]) (fun y => LRigAt l y.2 (MapB hb m :: F))
    (fun y => (y.1 : Int) ≤ l.k.sh.all ∧ J y.2) (fun y => l.k.sh.all.toNat - y.1) (0, r0) ⟨by dsimp only; omega, h0⟩ envs perm (fun y hy => ?_)
  obtain ⟨i, r⟩ := y
  dsimp only at hy ⊢
  obtain ⟨hi, hj⟩ := hy
  refine walk ?_
  refine wif_dec (fun hlt => ?_) (fun hlt => ?_)
  rotate_left
  · refine walk ?_
    exact wq_ret1 rfl rfl r rfl hj perm
  refine walk ?_
  rw [mget_map vb]
  cases hg : mget m i with
  | none =>
    simp only [Option.map_none, Option.isSome_none, Option.getD_none]
    refine walk ?_
    exact wq_round (i + 1, r) ⟨by dsimp only; omega, hj⟩ (by dsimp only; omega) envs perm
  | some f =>
  simp only [Option.map_some, Option.isSome_some, Option.getD_some]
  refine walk ?_
  refine call (chunks_spec l.k.sh (by omega) (by omega) f) ?_
  intro y hy
  obtain ⟨cv, rows⟩ := y
  dsimp only at hy ⊢
  have hch : rows.map (fun q : Row => q.2) = chunksOf l.k.sh f := hy
  have hrl : (rows.length : Int) = l.k.sh.members - 1 := by have := congrArg List.length hy; simp [chunksOf] at this; omega
  refine walk ?_
  refine wc_loop (X := Nat × Rig) (fun y => [(0, vp l.g), (1, .map (some hb)), (2, .bool bk), (18, vi l.k.sh.all), (19, vi i), (7, vi i), (35, cv), (36, vi rows.length), (37, vi y.1)]) (fun y => LRigAt l y.2 (Sl cv 1 (rows.map (·.1)) :: Pool rows :: MapB hb m :: F))
    (fun y => y.1 ≤ rows.length ∧ J y.2) (fun y => rows.length - y.1) (0, r) ⟨by omega, hj⟩ envs perm (fun y hy => ?_)
  obtain ⟨k, r1⟩ := y
  dsimp only at hy ⊢
  obtain ⟨hk1, hj1⟩ := hy
  refine walk ?_
  refine wif_dec (fun hlt2 => ?_) (fun hlt2 => ?_)
  rotate_left
  · refine walk ?_
    exact wq_round (i + 1, r1) ⟨by dsimp only; omega, hj1⟩ (by dsimp only; omega) envs perm
  have hlt2 : k < rows.length := by omega
  have hr := List.getElem_mem hlt2
  have hd : rows[k].2 = blockOf l.k.sh (chunkFill f k) := by
    have h1 : (rows.map (fun q : Row => q.2))[k]? = (chunksOf l.k.sh f)[k]? := by rw [hch]
    rw [List.getElem?_map, List.getElem?_eq_getElem hlt2] at h1
    have h2 := chunksOf_get (s := l.k.sh) f (c := k) (by omega)
    rw [List.getD, ← h1] at h2
    exact h2
  obtain ⟨x, r2, hm2, hj2, hx⟩ := sat_ok (hJ r1 i f k ⟨by omega, by omega⟩ (by omega) hg hj1)
  refine walk ?_
  generalize rows[k] = row at *
  haveI hri : ∀ Γ, RdIn (Pool rows :: Γ) row.1 1 (row.2.map vb) := fun Γ => Pool.rdIn hr
  refine walk ?_
  refine call ((achunk_spec l.k hk r1 i k).sure x r2 hm2) ?_
  intro v _
  rcases hx with rfl | ⟨rfl, rfl, hb2⟩
  · have hle : (blockOf l.k.sh (chunkFill f k)).length ≤ 1099511627776 := by have := blockOf_len l.k.sh (by omega) (chunkFill f k); omega
    cases bk
    · refine walk ?_
      refine call (equal_spec v row.1 (blockOf l.k.sh (chunkFill f k)) row.2 hle) ?_
      intro _ _
      rw [hd, decide_eq_true rfl]
      refine walk ?_
      exact wq_round (k + 1, r2) ⟨by dsimp only; omega, hj2⟩ (by dsimp only; omega) envs perm
    · refine walk ?_
      refine call (equal_spec v row.1 (blockOf l.k.sh (chunkFill f k)) row.2 hle) ?_
      intro _ _
      rw [hd, decide_eq_true rfl]
      refine walk ?_
      exact wq_round (k + 1, r2) ⟨by dsimp only; omega, hj2⟩ (by dsimp only; omega) envs perm
  · refine walk ?_
    refine call (broken_spec l.k r2) ?_
    intro _ _
    rw [hb2]
    refine walk ?_
    refine wif_dec (fun _ => ?_) (fun h => absurd rfl h)
    refine walk ?_
    exact wq_round (k + 1, r2) ⟨by dsimp only; omega, hj2⟩ (by dsimp only; omega) envs perm
end Go.Proofs.Ytapgejjjgeiihaa
