/- several texts, one behind the other -/
import Derived.Test.YtohienhoifgmaaaGreatP44
import Derived.Test.YtohienhoifgmaaaGreatP20
import Derived.Test.YtohienhoifgmaaaGreatP24
import Derived.Test.YtohienhoifgmaaaGreatP33
import Derived.Test.YtohienhoifgmaaaGreatP42
import Derived.Test.YtohienhoifgmaaaGreatP17

section
/- An act, in the book and of the log. -/
namespace Go.Proofs.YtohienhoifgmaaaGreat
open Go Go.Sl
attribute [local irreducible] Yl WL WC WQ WD
/-- a log's act -/
structure A15 where
  do_ : UInt8
  lba : UInt8
  fill : UInt8
abbrev a15Cells (a : A15) : List Value := [vb a.do_, vb a.lba, vb a.fill]
def kindL (j : Nat) : Int := [1, 1, 2, 3, 0].getD j 0
def kindOf (a : A15) : Int := kindL (a.do_.toNat % 5)
def lbaOf (s : Shp) (a : A15) : Int := (a.lba.toNat : Int) % s.logical
def dataOf (s : Shp) (a : A15) : Bytes := if kindOf a = 2 then [] else blockOf s a.fill
def actB (a : A15) (b : Bok) : Bok := if kindOf a = 0 then b.destage.2 else (b.append (kindOf a) (lbaOf b.s a) (dataOf b.s a)).2
def actG (a : A15) (g : Lg) : Lg := if kindOf a = 0 then g.dst.last else g.up (nappend (kindOf a) (lbaOf g.sh a) (dataOf g.sh a) g.rig).last
theorem kind_at {j : Nat} (h : j < 5) : ([Value.int .i64 1, .int .i64 1, .int .i64 2, .int .i64 3, .int .i64 0] : List Value)[j]? = some (vi (kindL j)) := by
  rcases (by omega : j = 0 ∨ j = 1 ∨ j = 2 ∨ j = 3 ∨ j = 4) with rfl | rfl | rfl | rfl | rfl <;> rfl
theorem kindL_range {j : Nat} (h : j < 5) : kindL j = 1 ∨ kindL j = 2 ∨ kindL j = 3 ∨ kindL j = 0 := by
  rcases (by omega : j = 0 ∨ j = 1 ∨ j = 2 ∨ j = 3 ∨ j = 4) with rfl | rfl | rfl | rfl | rfl <;> decide
theorem kind_range (a : A15) : kindOf a = 1 ∨ kindOf a = 2 ∨ kindOf a = 3 ∨ kindOf a = 0 := kindL_range (Nat.mod_lt _ (by decide))
theorem act_rec {b : Bok} {g : Lg} (h : Play b g) (a : A15) (hk : kindOf a ≠ 0) : RecOk g.sh ⟨b.next, kindOf a, lbaOf g.sh a, dataOf g.sh a⟩ := by
  have hs := h.inv.shok
  have hl := hs.logical
  have hb := hs.block
  refine ⟨by have := kind_range a; show kindOf a = 1 ∨ kindOf a = 2 ∨ kindOf a = 3; omega, ⟨Int.emod_nonneg _ (by omega), Int.emod_lt_of_pos _ (by omega)⟩, ?_⟩
  show ((dataOf g.sh a).length : Int) ≤ g.sh.block
  unfold dataOf
  split
  · show (0 : Int) ≤ _; omega
  · rw [blockOf_len g.sh (by omega)]; omega
/-- an act keeps the book and the log alike -/
theorem play_act {b : Bok} {g : Lg} (h : Play b g) (a : A15) : Play (actB a b) (actG a g) ∧ (actG a g).sh = g.sh ∧ (actG a g).rig.nv.root.gen = g.rig.nv.root.gen := by
  unfold actB actG
  by_cases hk : kindOf a = 0
  · rw [if_pos hk, if_pos hk]
    obtain ⟨c, g', h1, _, h2, h3, h4, _⟩ := play_dst h
    rw [h1]
    exact ⟨h2, h3, h4⟩
  · rw [if_neg hk, if_neg hk, h.rel.s]
    obtain ⟨c, r', h1, _, h2, _, h3, h4⟩ := play_append h (act_rec h a hk)
    rw [h1]
    exact ⟨h2, h3, by show r'.nv.root.gen = _; rw [h4]⟩
set_option maxHeartbeats 8000000 in
theorem do_spec (p : Nat) (rows : List Row) (K : GK) (hk : K.k.Ok) {b : Bok} {g : Lg} (hp : Play b g) (hsh : g.sh = K.k.sh) (a : A15) :
    Spec0 Tryz.prog 33 [vp p, vp K.lp, .agg (a15Cells a).toArray] (fun _ => True) (fun F => BkAt p rows b :: Pool rows :: LogAt K g F) (fun _ : List Row => True) (fun _ => .bool true) (fun y F => BkAt p y (actB a b) :: Pool y :: LogAt K (actG a g) F) := by
  (refine spec_of Tryz.func33 rfl Tryz.ntmps33 rfl (fun F w0 hrd => ?_))
  have hb := hp.bk
  have hi := hp.inv
  have hr := hp.rel
  have hbs : b.s = K.k.sh := hr.s.trans hsh
  have hlo := hb.ok.logical
  have hlb := (bounds hb.ok).logical
  have hbl := hb.ok.block
  have a1 := a.do_.toNat_lt
  have a2 := a.lba.toNat_lt
  have a3 := a.fill.toNat_lt
  have hrl : g.rig.nv.recs.length ≤ 1048576 := by have := hp.recs; omega
  (first | refine WC.ex (fun y => BkAt.opened) (fun x hx => ?_) | refine WL.ex (fun y => BkAt.opened) (fun x hx => ?_) | refine WQ.ex (fun y => BkAt.opened) (fun x hx => ?_))
  dsimp only [BParts, bcells]
  refine walk ?_
  intro c5
  refine walk ?_
  (refine draw ?_; refine dy 0 ?_; refine dy 1 ?_; refine dy 2 ?_; refine dy 3 ?_; refine dy 4 ?_; refine dy 5 ?_; refine dy 6 ?_; refine dy 7 ?_; refine dy 8 ?_; refine dy 9 ?_; refine dy 10 ?_; refine dy 11 ?_; refine dy 12 ?_; refine dy 13 ?_; refine dy 14 ?_; refine ddo 15 ?_)
  refine call (block_spec b.s (by omega) a.fill) ?_ (hg := frameL)
  intro v _
  (refine walk ?_; refine dy 16 ?_; refine dy 17 ?_; refine walk ?_)
  have hlm := Int.emod_nonneg (a.lba.toNat : Int) (show b.s.logical ≠ 0 by omega)
  have hlm2 := Int.emod_lt_of_pos (a.lba.toNat : Int) (show 0 < b.s.logical by omega)
  obtain ⟨j, hj⟩ : ∃ j : Nat, j = a.do_.toNat % 5 := ⟨_, rfl⟩
  have hj5 : j < 5 := by omega
  refine walk ?_
  intro kv _ _
  refine walk ?_
  rw [show (a.do_.toNat : Int) % 5 = (j : Int) by omega]
  refine walk ?_
  refine wl_y (yl_index1 (vs := [Value.int .i64 1, .int .i64 1, .int .i64 2, .int .i64 3, .int .i64 0]) rfl rfl (by omega) (by show (j : Int) < 5; omega)) rfl ?_
  rw [Int.toNat_natCast]
  refine wl_y (yl_loadx (k' := 1) rfl (kind_at hj5)) rfl ?_
  have hkj : kindL j = kindOf a := by unfold kindOf; rw [hj]
  rw [hkj]
  refine walk ?_
  obtain ⟨rows', hrows'⟩ : ∃ rows' : List Row, rows' = (.slice none 0 0, []) :: (v, blockOf b.s a.fill) :: rows := ⟨_, rfl⟩
  have hrows : ∀ r ∈ rows, r ∈ rows' := fun r hr => by rw [hrows']; exact List.mem_cons_of_mem _ (List.mem_cons_of_mem _ hr)
  have hx' : BFits rows' x b := ⟨hx.recs, fun e he => hrows _ (hx.mem e he), hx.data, fun e he => hrows _ (hx.rows e he)⟩
  haveI : ∀ Γ : List HP, ReadIn (Pool rows' :: Γ) (fun h => ∀ r ∈ rows', Rd r.1 1 (r.2.map vb) h) := fun Γ => ⟨fun h hs r hr => (Pool.rdIn' hr : RdIn (Pool rows' :: Γ) _ _ _).rd h hs⟩
  have hshut : Ent (SlB v (blockOf b.s a.fill) :: Pool rows :: BParts p x b (LogAt K g F)) (BkAt p rows' b :: Pool rows' :: LogAt K g F) := by
    refine Ent.trans Pool.put ?_
    refine Ent.trans (Γ' := SlB (.slice none 0 0) [] :: Pool ((v, blockOf b.s a.fill) :: rows) :: BParts p x b (LogAt K g F)) (sl_nil 1) ?_
    refine Ent.trans Pool.put ?_
    rw [← hrows']
    exact Ent.trans (Γ' := BParts p x b (Pool rows' :: LogAt K g F)) permL (BkAt.shut x hx')
  refine wif_dec (fun hz => ?_) (fun hz => ?_)
  · refine WC.ent (Γ' := BkAt p rows' b :: Pool rows' :: LogAt K g F) (Ent.trans permL hshut) ?_
    obtain ⟨c, g', h1, hc, _, _, _, _⟩ := play_dst hp
    have hG : actG a g = g' := by unfold actG; rw [if_pos hz, h1]; rfl
    have hB : actB a b = b.destage.2 := by unfold actB; rw [if_pos hz]
    rw [hG, hB]
    refine walk ?_
    refine call (bdestage_spec p rows' b hb) ?_ (hr := fun h hs => ReadIn.rd (rd := fun h => ∀ r ∈ rows', Rd r.1 1 (r.2.map vb) h) h hs) (hg := frameL)
    intro _ _
    refine walk ?_
    refine call ((ldestage_spec K hk g hi hp.fits hsh hrl).sure c g' h1) ?_ (hg := frameL)
    intro _ _
    cases hok : b.destage.1 with
    | true =>
      rw [hok, if_pos rfl] at hc
      subst hc
      refine walk ?_
      (repeat (refine wl_guard_un rfl rfl rfl rfl ?_))
      refine walk ?_
      exact wq_ret1 rfl rfl rows' rfl trivial permL
    | false =>
      rw [hok, if_neg (by decide)] at hc
      subst hc
      refine walk ?_
      (repeat (refine wl_guard_un rfl rfl rfl rfl ?_))
      refine walk ?_
      exact wq_ret1 rfl rfl rows' rfl trivial permL
  · refine WC.ent (Γ' := BkAt p rows' b :: Pool rows' :: LogAt K g F) (Ent.trans permL hshut) ?_
    refine WC.slots (env' := [(0, vp p), (1, vp K.lp), (7, vi (lbaOf b.s a)), (8, v), (9, vi (kindOf a))]) envs ?_
    obtain ⟨c, r', h1, hc, _, _, _, _⟩ := play_append hp (act_rec hp a hz)
    rw [← hr.s] at h1 hc
    have hG : actG a g = g.up r' := by unfold actG; rw [if_neg hz, ← hr.s, h1]; rfl
    have hB : actB a b = (b.append (kindOf a) (lbaOf b.s a) (dataOf b.s a)).2 := by unfold actB; rw [if_neg hz]
    rw [hG, hB]
    have hdl : (dataOf b.s a).length ≤ 1099511627776 := by
      unfold dataOf
      split
      · exact Nat.zero_le _
      · have := blockOf_len b.s (by omega) a.fill; omega
    refine walk ?_
    refine wif_meet (X := Value) (fun u => [(0, vp p), (1, vp K.lp), (7, vi (lbaOf b.s a)), (8, u), (9, vi (kindOf a))]) (fun _ => BkAt p rows' b :: Pool rows' :: LogAt K g F) (fun u => (u, dataOf b.s a) ∈ rows') (wif_dec (fun h2 => ?_) (fun h2 => ?_)) (fun u hu => ?_)
    · refine walk ?_
      exact wq_meet _ _ _ (.slice none 0 0) (by rw [hrows']; unfold dataOf; rw [if_pos h2]; exact List.mem_cons_self) envs permL
    · refine walk ?_
      exact wq_meet _ _ _ v (by rw [hrows']; unfold dataOf; rw [if_neg h2]; exact List.mem_cons_of_mem _ List.mem_cons_self) envs permL
    haveI : ∀ Γ : List HP, RdIn (Pool rows' :: Γ) u 1 ((dataOf b.s a).map vb) := fun Γ => Pool.rdIn' hu
    refine walk ?_
    (refine draw ?_; refine dy 0 ?_; refine dy 1 ?_; refine dy 2 ?_; refine dy 3 ?_; refine dy 5 ?_; refine dy 6 ?_; refine dy 7 ?_; refine dy 8 ?_; refine dy 9 ?_; refine dy 10 ?_; refine dy 11 ?_; refine ddo 4 ?_)
    refine call (bappend_spec p rows' b hb (kindOf a) (lbaOf b.s a) u (dataOf b.s a) hu) ?_ (hg := frameL)
    intro _ _
    (refine walk ?_; refine ddo 12 ?_)
    refine call ((rappend_spec K.k g.rig (kindOf a) (lbaOf b.s a) u (dataOf b.s a) hdl hrl).sure c r' h1) ?_ (hg := frameL)
    intro _ _
    (refine walk ?_; refine dy 13 ?_; refine dy 14 ?_; refine walk ?_)
    cases hok : (b.append (kindOf a) (lbaOf b.s a) (dataOf b.s a)).1 with
    | true =>
      rw [hok, if_pos rfl] at hc
      subst hc
      refine walk ?_
      (repeat (refine wl_guard_un rfl rfl rfl rfl ?_))
      refine walk ?_
      refine wq_ret1 rfl rfl rows' rfl trivial ?_
      show Ent _ (BkAt p rows' (b.append (kindOf a) (lbaOf b.s a) (dataOf b.s a)).2 :: Pool rows' :: LCells K g.seg g.idx :: MapAt K.mp g.map :: TblAt K.tp g.tbl :: RigAt K.k r' F)
      exact permL
    | false =>
      rw [hok, if_neg (by decide)] at hc
      subst hc
      refine walk ?_
      (repeat (refine wl_guard_un rfl rfl rfl rfl ?_))
      refine walk ?_
      refine wq_ret1 rfl rfl rows' rfl trivial ?_
      show Ent _ (BkAt p rows' (b.append (kindOf a) (lbaOf b.s a) (dataOf b.s a)).2 :: Pool rows' :: LCells K g.seg g.idx :: MapAt K.mp g.map :: TblAt K.tp g.tbl :: RigAt K.k r' F)
      exact permL
end Go.Proofs.YtohienhoifgmaaaGreat
end

section
/- A log's book: dead segments are free. -/
namespace Go.Proofs.YtohienhoifgmaaaGreat
open Go Go.Sl
attribute [local irreducible] Yl WL WC WQ WD
/-! dead segments are free -/
def freeS (b : Bok) (i : Nat) : List Int := b.state.mapIdx fun j x => if j < i ∧ (x = 2 ∧ Lg.lives b.s b.map j = 0) then 0 else x
def freeB (b : Bok) (i : Nat) : List Int := b.born.mapIdx fun j x => if j < i ∧ (b.state.getD j 0 = 2 ∧ Lg.lives b.s b.map j = 0) then 0 else x
theorem freeS_get {b : Bok} {i j : Nat} (h : j < (freeS b i).length) (h' : j < b.state.length) : (freeS b i)[j] = if j < i ∧ (b.state[j] = 2 ∧ Lg.lives b.s b.map j = 0) then 0 else b.state[j] := List.getElem_mapIdx
theorem freeB_get {b : Bok} {i j : Nat} (h : j < (freeB b i).length) (h' : j < b.born.length) : (freeB b i)[j] = if j < i ∧ (b.state.getD j 0 = 2 ∧ Lg.lives b.s b.map j = 0) then 0 else b.born[j] := List.getElem_mapIdx
theorem freeS_len (b : Bok) (i : Nat) : (freeS b i).length = b.state.length := by unfold freeS; simp
theorem freeB_len (b : Bok) (i : Nat) : (freeB b i).length = b.born.length := by unfold freeB; simp
theorem free_zero (b : Bok) : freeS b 0 = b.state ∧ freeB b 0 = b.born := by
  constructor
  · refine List.ext_getElem (freeS_len b 0) fun j h1 h2 => ?_
    rw [freeS_get h1 h2, if_neg (fun x => absurd x.1 (by omega))]
  · refine List.ext_getElem (freeB_len b 0) fun j h1 h2 => ?_
    rw [freeB_get h1 h2, if_neg (fun x => absurd x.1 (by omega))]
theorem free_end (b : Bok) (hl : b.born.length = b.state.length) : freeS b b.state.length = b.free.state ∧ freeB b b.state.length = b.free.born := by
  constructor
  · refine List.ext_getElem (by rw [freeS_len]; unfold Bok.free; simp) fun j h1 h2 => ?_
    have h3 : j < b.state.length := by rw [freeS_len] at h1; exact h1
    rw [freeS_get h1 h3]
    have : b.free.state[j] = if b.state[j] = 2 ∧ Lg.lives b.s b.map (j : Int) = 0 then 0 else b.state[j] := List.getElem_mapIdx
    rw [this]
    simp only [h3, true_and]
  · refine List.ext_getElem (by rw [freeB_len]; unfold Bok.free; simp) fun j h1 h2 => ?_
    have h3 : j < b.born.length := by rw [freeB_len] at h1; exact h1
    rw [freeB_get h1 h3]
    have : b.free.born[j] = if b.state.getD j 0 = 2 ∧ Lg.lives b.s b.map (j : Int) = 0 then 0 else b.born[j] := List.getElem_mapIdx
    rw [this]
    have h4 : j < b.state.length := by omega
    simp only [h4, true_and]
theorem free_dead {b : Bok} {i : Nat} (hi : i < b.state.length) (_hl : b.born.length = b.state.length) (hc : b.state[i] = 2 ∧ Lg.lives b.s b.map i = 0) : freeS b (i + 1) = (freeS b i).set i 0 ∧ freeB b (i + 1) = (freeB b i).set i 0 := by
  have hg : b.state.getD i 0 = b.state[i] := by simp [List.getD, hi]
  constructor
  · refine List.ext_getElem (by rw [List.length_set, freeS_len, freeS_len]) fun j h1 h2 => ?_
    have h3 : j < b.state.length := by rw [freeS_len] at h1; exact h1
    rw [List.getElem_set, freeS_get h1 h3]
    by_cases e : i = j
    · subst e; rw [if_pos rfl, if_pos ⟨by omega, hc⟩]
    · rw [if_neg e, freeS_get (by rw [freeS_len]; exact h3) h3]
      have : (j < i + 1) ↔ (j < i) := by omega
      simp only [this]
  · refine List.ext_getElem (by rw [List.length_set, freeB_len, freeB_len]) fun j h1 h2 => ?_
    have h3 : j < b.born.length := by rw [freeB_len] at h1; exact h1
    rw [List.getElem_set, freeB_get h1 h3]
    by_cases e : i = j
    · subst e; rw [if_pos rfl, if_pos ⟨by omega, hg.trans hc.1, hc.2⟩]
    · rw [if_neg e, freeB_get (by rw [freeB_len]; exact h3) h3]
      have : (j < i + 1) ↔ (j < i) := by omega
      simp only [this]
theorem free_live {b : Bok} {i : Nat} (hi : i < b.state.length) (hc : ¬ (b.state[i] = 2 ∧ Lg.lives b.s b.map i = 0)) : freeS b (i + 1) = freeS b i ∧ freeB b (i + 1) = freeB b i := by
  have hg : b.state.getD i 0 = b.state[i] := by simp [List.getD, hi]
  constructor
  · refine List.ext_getElem (by rw [freeS_len, freeS_len]) fun j h1 h2 => ?_
    have h3 : j < b.state.length := by rw [freeS_len] at h1; exact h1
    rw [freeS_get h1 h3, freeS_get h2 h3]
    by_cases e : i = j
    · subst e; rw [if_neg (fun x => hc x.2), if_neg (fun x => hc x.2)]
    · have : (j < i + 1) ↔ (j < i) := by omega
      simp only [this]
  · refine List.ext_getElem (by rw [freeB_len, freeB_len]) fun j h1 h2 => ?_
    have h3 : j < b.born.length := by rw [freeB_len] at h1; exact h1
    rw [freeB_get h1 h3, freeB_get h2 h3]
    by_cases e : i = j
    · subst e; rw [if_neg (fun x => hc ⟨hg.symm.trans x.2.1, x.2.2⟩), if_neg (fun x => hc ⟨hg.symm.trans x.2.1, x.2.2⟩)]
    · have : (j < i + 1) ↔ (j < i) := by omega
      simp only [this]
set_option maxHeartbeats 4000000 in
theorem bfreed_spec (p : Nat) (rows : List Row) (b : Bok) (h : BkOk b) :
    Spec0 Tryz.prog 19 [vp p] (fun _ => True) (fun F => BkAt p rows b :: F) (fun _ : Unit => True) (fun _ => .tuple #[]) (fun _ F => BkAt p rows b.free :: F) := by
  (refine spec_of Tryz.func19 rfl Tryz.ntmps19 rfl (fun F w0 hrd => ?_))
  (first | refine WC.ex (fun y => BkAt.opened) (fun x hx => ?_) | refine WL.ex (fun y => BkAt.opened) (fun x hx => ?_) | refine WQ.ex (fun y => BkAt.opened) (fun x hx => ?_))
  refine walk ?_
  refine call (blives_spec0 p b h x) ?_
  intro lv _
  have hsl := h.state
  have hbl := h.born
  have hsg := h.ok.segments
  have hlb : b.born.length = b.state.length := by omega
  have hvl : ((livesL b.s b.map).map vi).length = b.state.length := by rw [List.length_map, livesL_len]; omega
  refine walk ?_
  refine wc_loop (X := Nat) (fun i => [(0, vp p), (2, lv), (10, x.sv), (11, vi b.state.length), (12, vi i)]) (fun i => Sl lv 1 ((livesL b.s b.map).map vi) :: BParts p x { b with state := freeS b i, born := freeB b i } F)
    (fun i => i ≤ b.state.length) (fun i => b.state.length - i) 0 (Nat.zero_le _) envs (by rw [(free_zero b).1, (free_zero b).2]; exact permL) (fun i hi => ?_)
  have hfl : ((freeS b i).map vi).length = b.state.length := by rw [List.length_map, freeS_len]
  dsimp only [BParts, bcells]
  have hfb : ((freeB b i).map fun i => Value.int .u64 i).length = b.state.length := by rw [List.length_map, freeB_len]; exact hlb
  refine walk ?_
  refine wif_dec (fun hlt => ?_) (fun hlt => ?_)
  · have hlt : i < b.state.length := by omega
    have hg1 : (freeS b i)[i]'(by rw [freeS_len]; exact hlt) = b.state[i] := by rw [freeS_get _ hlt, if_neg (fun x => absurd x.1 (by omega))]
    have hg2 : (livesL b.s b.map)[i]'(by rw [livesL_len]; omega) = (Lg.lives b.s b.map i : Int) := by simp [livesL]
    have hlS : i < (freeS b i).length := by rw [freeS_len]; exact hlt
    have hlB : i < (freeB b i).length := by rw [freeB_len]; omega
    have hlV : i < (livesL b.s b.map).length := by rw [livesL_len]; omega
    have hd1 := free_dead hlt hlb
    have hd2 := free_live hlt
    refine walk ?_
    refine wif_dec (fun h2 => ?_) (fun h2 => ?_)
    · rw [hg1] at h2
      refine walk ?_
      refine wif_dec (fun h3 => ?_) (fun h3 => ?_)
      · obtain ⟨hd1, hd1'⟩ := hd1 ⟨h2, by omega⟩
        (refine draw ?_; refine dy 0 ?_; refine dy 1 ?_; refine dy 2 ?_; refine dy 3 ?_; refine dy 4 ?_; refine dy 5 ?_; refine dy 6 ?_; refine dy 7 ?_; refine dy 8 ?_; refine dy 9 ?_; refine dy 10 ?_; refine ddx 11 ?_)
        (refine walk ?_; refine dy 12 ?_; refine ddx 13 ?_)
        (refine walk ?_)
        refine walk ?_
        refine wq_round (i + 1) (by omega) (by omega) envs ?_
        (try dsimp only [BParts, bcells])
        rw [hd1, hd1', List.map_set, List.map_set]
        exact permL
      · obtain ⟨hd2, hd2'⟩ := hd2 (fun x => h3 (by omega))
        refine walk ?_
        refine wq_round (i + 1) (by omega) (by omega) envs ?_
        (try dsimp only [BParts, bcells])
        rw [hd2, hd2']
        exact permL
    · obtain ⟨hd2, hd2'⟩ := hd2 (fun x => h2 (by rw [hg1]; exact x.1))
      refine walk ?_
      refine wq_round (i + 1) (by omega) (by omega) envs ?_
      (try dsimp only [BParts, bcells])
      rw [hd2, hd2']
      exact permL
  · obtain rfl : i = b.state.length := by omega
    refine walk ?_
    refine wq_end0 rfl () rfl trivial (Ent.trans ?_ (BkAt.shut x ⟨hx.recs, hx.mem, hx.data, hx.rows⟩))
    rw [(free_end b hlb).1, (free_end b hlb).2]
    exact permL
end Go.Proofs.YtohienhoifgmaaaGreat
end
