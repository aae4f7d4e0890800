/- several texts, one behind the other -/
import Derived.Test.YtohienhoifgmaaaGreatP45
import Derived.Test.YtohienhoifgmaaaGreatP47
import Derived.Test.YtohienhoifgmaaaGreatP41
import Derived.Test.YtohienhoifgmaaaGreatP43
import Derived.Test.YtohienhoifgmaaaGreatP18
import Derived.Test.YtohienhoifgmaaaGreatP22
import Derived.Test.YtohienhoifgmaaaGreatP28

section
/- An act, or a checkpoint, in the book and of the log. -/
namespace Go.Proofs.YtohienhoifgmaaaGreat
open Go Go.Sl
attribute [local irreducible] Yl WL WC WQ WD
theorem play_born {b : Bok} {g : Lg} (h : Play b g) : (∀ s ∈ g.tbl, 0 ≤ s.born) ∧ 0 ≤ g.rig.nv.root.durable := by
  refine ⟨fun s hs => (h.fair.born s.born (by rw [h.rel.born]; exact List.mem_map.2 ⟨s, hs, rfl⟩)).1, ?_⟩
  have := h.fair.durable
  rw [h.rel.durable] at this
  exact this.1
theorem places_small {s : Shp} (h : s.Ok) : (s.all * s.slots).toNat ≤ 1048576 := by
  have h1 := (bounds h).all
  have h2 := (bounds h).slots
  have h3 : s.all * s.slots ≤ 1024 * 14 := Int.mul_le_mul h1.2 h2.2 (by omega) (by omega)
  omega
/-- a checkpoint, while nothing fails -/
theorem ckpt_calm (K : GK) (hk : K.k.Ok) {b : Bok} {g : Lg} (hp : Play b g) (hsh : g.sh = K.k.sh) :
    Spec0 Tryz.prog 21 [vp K.lp] (fun _ => True) (LogAt K g) (fun _ : Unit => True) (fun _ => .int .i64 0) (fun _ F => LogAt K g.ckpt.last F) := by
  obtain ⟨g', h1, _⟩ := play_ckpt hp rfl
  have hx := hp.rel.fits hp.inv hp.fair
  rw [hsh] at hx
  have := (cwrite_spec K hk g hp.inv hsh (small_of hp.inv hsh) (play_born hp).1 (play_born hp).2 hx (by rw [← hsh]; exact places_small hp.inv.shok)).sure 0 g' h1
  rw [show g.ckpt.last = g' from by rw [h1]; rfl]
  exact this
def actB2 (a : A15 × UInt8) (b : Bok) : Bok := if a.2.toNat % 5 = 0 then b.free else actB a.1 b
def actG2 (a : A15 × UInt8) (g : Lg) : Lg := if a.2.toNat % 5 = 0 then g.ckpt.last else actG a.1 g
abbrev a16Cells (a : A15 × UInt8) : List Value := [vb a.1.do_, vb a.1.lba, vb a.1.fill, vb a.2]
theorem play_act2 {b : Bok} {g : Lg} (h : Play b g) (a : A15 × UInt8) : Play (actB2 a b) (actG2 a g) ∧ (actG2 a g).sh = g.sh ∧ (actG2 a g).rig.nv.root.gen = if a.2.toNat % 5 = 0 then IntKind.u64.wrap (g.rig.nv.root.gen + 1) else g.rig.nv.root.gen := by
  unfold actB2 actG2
  by_cases hk : a.2.toNat % 5 = 0
  · rw [if_pos hk, if_pos hk, if_pos hk]
    obtain ⟨g', h1, h2, h3, h4, _⟩ := play_ckpt h rfl
    rw [h1]
    exact ⟨h2, h3, h4⟩
  · rw [if_neg hk, if_neg hk, if_neg hk]
    exact play_act h a.1
set_option maxHeartbeats 4000000 in
theorem do2_spec (p : Nat) (rows : List Row) (K : GK) (hk : K.k.Ok) {b : Bok} {g : Lg} (hp : Play b g) (hsh : g.sh = K.k.sh) (a : A15 × UInt8) :
    Spec0 Tryz.prog 14 [vp p, vp K.lp, .agg (a16Cells a).toArray] (fun _ => True) (fun F => BkAt p rows b :: Pool rows :: LogAt K g F) (fun _ : List Row => True) (fun _ => .bool true) (fun y F => BkAt p y (actB2 a b) :: Pool y :: LogAt K (actG2 a g) F) := by
  (refine spec_of Tryz.func14 rfl Tryz.ntmps14 rfl (fun F w0 hrd => ?_))
  obtain ⟨⟨d, l, f⟩, c⟩ := a
  have hc := c.toNat_lt
  refine walk ?_
  intro c5
  refine walk ?_
  refine wif_dec (fun hz => ?_) (fun hz => ?_)
  · have hz : (c.toNat : Int) % 5 = 0 := hz
    have hz' : c.toNat % 5 = 0 := by omega
    rw [show actB2 (⟨d, l, f⟩, c) b = b.free from if_pos hz', show actG2 (⟨d, l, f⟩, c) g = g.ckpt.last from if_pos hz']
    refine walk ?_
    refine call (bfreed_spec p rows b hp.bk) ?_ (hg := frameL)
    intro _ _
    refine walk ?_
    refine call (ckpt_calm K hk hp hsh) ?_ (hg := frameL)
    intro _ _
    refine walk ?_
    exact wq_ret1 rfl rfl rows rfl trivial permL
  · have hz : ¬ (c.toNat : Int) % 5 = 0 := hz
    have hz' : ¬ c.toNat % 5 = 0 := by omega
    rw [show actB2 (⟨d, l, f⟩, c) b = actB ⟨d, l, f⟩ b from if_neg hz', show actG2 (⟨d, l, f⟩, c) g = actG ⟨d, l, f⟩ g from if_neg hz']
    refine walk ?_
    refine call (do_spec p rows K hk hp hsh ⟨d, l, f⟩) ?_ (hg := frameL)
    intro rows' _
    refine walk ?_
    exact wq_ret1 rfl rfl rows' rfl trivial permL
end Go.Proofs.YtohienhoifgmaaaGreat
end

section
/- A block's last record, as the program finds it. -/
namespace Go.Proofs.YtohienhoifgmaaaGreat
open Go Go.Sl
attribute [local irreducible] Yl WL WC WQ WD
def lastE (rs : List (Rec × Value)) (lba : Int) : Option (Rec × Value) := rs.reverse.find? fun e => decide (rkey e = lba)
theorem lastE_none {rs : List (Rec × Value)} {lba : Int} (h : ∀ e ∈ rs, rkey e ≠ lba) : lastE rs lba = none := by
  unfold lastE
  rw [List.find?_eq_none]
  intro e he
  simpa using h e (by simpa using he)
theorem lastE_some {rs : List (Rec × Value)} {lba : Int} {j : Nat} (hj : j < rs.length) (hh : rkey rs[j] = lba) (h : ∀ e ∈ rs.drop (j + 1), rkey e ≠ lba) : lastE rs lba = some rs[j] := by
  unfold lastE
  have e : rs.take j ++ rs[j] :: rs.drop (j + 1) = rs := by
    rw [List.getElem_cons_drop, List.take_append_drop]
  have e' : rs.reverse = (rs.drop (j + 1)).reverse ++ (rs[j] :: (rs.take j).reverse) := by
    have := congrArg List.reverse e
    rw [← this]; simp
  rw [e', List.find?_append, List.find?_eq_none.2 (fun x hx => by simpa using h x (by simpa using hx))]
  simp [hh]
theorem lastE_rec {rs : List (Rec × Value)} {lba : Int} {l : List Rec} (h : rs.map (·.1) = l) : (lastE rs lba).map (·.1) = lastOf l lba := by
  unfold lastE lastOf
  rw [← h, ← List.map_reverse, List.find?_map]
  rfl
set_option maxHeartbeats 2000000 in
theorem sfind_spec (v : Value) (rs : List (Rec × Value)) (lba : Int) (hn : rs.length ≤ 1048576) :
    Spec0 Tryz.prog 145 [v, vi lba] (fun h => Rd v 4 (rs.flatMap recCells) h ∧ ∀ e ∈ rs, Rd e.2 1 (e.1.data.map vb) h) (fun F => F) (fun _ : Unit => True) (fun _ => match lastE rs lba with | some e => .tuple #[.agg (recCells e).toArray, .bool true] | none => .tuple #[.agg #[.int .u64 0, vi 0, vi 0, .slice none 0 0], .bool false]) (fun _ F => F) := by
  (refine spec_of Tryz.func145 rfl Tryz.ntmps145 rfl (fun F w0 hrd => ?_))
  haveI : RdIn F v 4 (rs.flatMap recCells) := ⟨fun h hs => (hrd h hs).1⟩
  have hrow : ∀ e ∈ rs, RdIn F e.2 1 (e.1.data.map vb) := fun e he => ⟨fun h hs => (hrd h hs).2 e he⟩
  have hl := rec_len rs
  refine walk ?_
  intro c
  refine walk ?_
  refine wc_loop (X := Nat) (fun k => [(0, v), (1, vi lba), (4, vp c), (5, .bool false), (6, vi ((k : Int) - 1))])
    (fun _ => Cells c [.int .u64 0, vi 0, vi 0, .slice none 0 0] :: F)
    (fun k => k ≤ rs.length ∧ ∀ e ∈ rs.drop k, rkey e ≠ lba) (fun k => k) rs.length ⟨Nat.le_refl _, by simp⟩ envs perm (fun k hy => ?_)
  obtain ⟨hk, hno⟩ := hy
  refine walk ?_
  refine wif_dec (fun hlt => ?_) (fun hlt => ?_)
  · obtain ⟨j, rfl⟩ : ∃ j, k = j + 1 := ⟨k - 1, by omega⟩
    have hj : j < rs.length := by omega
    rw [show ((j + 1 : Nat) : Int) - 1 = (j : Int) by omega]
    refine walk ?_
    refine wl_y (yl_loadx (k' := 4) rfl (show (rs.flatMap recCells)[j * 4 + 2]? = some (vi rs[j].1.lba) from flat_cell rs j 2 hj (by decide))) rfl ?_
    refine walk ?_
    refine wif_dec (fun heq => ?_) (fun heq => ?_)
    · have hls := lastE_some hj heq hno
      rw [hls]
      have hr := hrow _ (List.getElem_mem hj)
      refine walk ?_
      generalize rs[j] = e at hr ⊢
      obtain ⟨r, u⟩ := e
      dsimp only [recCells] at hr ⊢
      refine walk ?_
      exact wq_retc2 rfl rfl rfl rfl () rfl trivial perm
    · refine walk ?_
      refine wq_round j ⟨by omega, fun e he => ?_⟩ (by omega) envs perm
      rw [← List.getElem_cons_drop hj] at he
      rcases List.mem_cons.1 he with rfl | he
      · exact heq
      · exact hno e he
  · obtain rfl : k = 0 := by omega
    rw [List.drop_zero] at hno
    rw [lastE_none hno]
    refine walk ?_
    exact wq_retc2 rfl rfl rfl rfl () rfl trivial perm
end Go.Proofs.YtohienhoifgmaaaGreat
end

section
/- A log, as the program has it: a block is read. -/
namespace Go.Sl
open Go
namespace Lg
/-- a block, staged or not -/
def readB (lba : Int) (g : Lg) : Out Lg (Bytes × Int) :=
  if lba < 0 ∨ lba ≥ g.sh.logical then .ok ([], 1) g
  else if g.rig.broken = true then .ok ([], 3) g
  else match lastOf g.rig.nv.recs lba with
    | some r => .ok (blockB g.sh r.data, 0) g
    | none => if g.map.look lba < 0 then .ok (List.replicate g.sh.block.toNat 0, 0) g
      else (achunk g.sh (g.map.look lba / g.sh.slots) (1 + g.map.look lba % g.sh.slots) g.rig).lift g.up
end Lg
end Go.Sl
namespace Go.Proofs.YtohienhoifgmaaaGreat
open Go Go.Sl
attribute [local irreducible] Yl WL WC WQ WD
set_option maxHeartbeats 8000000 in
theorem lread_spec (K : GK) (hk : K.k.Ok) (g : Lg) (hi : g.Inv) (hsh : g.sh = K.k.sh) (hn : g.rig.nv.recs.length ≤ 1048576) (lba : Int) :
    SpecG Tryz.prog outage 93 [vp K.lp, vi lba] (fun _ => True) (LogAt K) (g.readB lba) g (fun (_ : Value) _ => True) (fun v a => .tuple #[v, vi a.2]) (fun v a F => SlB v a.1 :: F) := by
  (refine spec_of Tryz.func93 rfl Tryz.ntmps93 rfl (fun F w0 hrd => ?_))
  have h := small_of hi hsh
  have hok := h.ok
  have hbl := hok.block
  have hlo := (bounds hok).logical
  have hdl : ∀ r ∈ g.rig.nv.recs, r.data.length ≤ 1099511627776 := fun r hr => by
    have h1 := (hi.recs r hr).data
    have h2 := hi.shok.block
    omega
  obtain ⟨d, hd⟩ : ∃ d, g.readB lba = d := ⟨_, rfl⟩
  rw [hd]
  unfold Lg.readB at hd
  rw [hsh] at hd
  refine walk ?_
  refine wif_dec (fun h0 => ?_) (fun h0 => ?_)
  · rw [if_pos (.inl h0)] at hd
    refine walk ?_
    refine wq_ret2 rfl rfl rfl (.slice none 0 0, ([], 1), g) rfl ⟨hd.symm, trivial⟩ ?_
    exact sl_nil 1
  refine walk ?_
  refine wif_dec (fun h1 => ?_) (fun h1 => ?_)
  · rw [if_pos (.inr h1)] at hd
    refine walk ?_
    refine wq_ret2 rfl rfl rfl (.slice none 0 0, ([], 1), g) rfl ⟨hd.symm, trivial⟩ ?_
    exact sl_nil 1
  rw [if_neg (fun x => x.elim h0 h1)] at hd
  refine walk ?_
  refine call (broken_spec K.k g.rig) ?_ (hg := frameL)
  intro _ _
  cases hb : g.rig.broken with
  | true =>
    rw [if_pos hb] at hd
    refine walk ?_
    refine wq_ret2 rfl rfl rfl (.slice none 0 0, ([], 3), g) rfl ⟨hd.symm, trivial⟩ ?_
    refine Ent.trans (Γ' := LCells K g.seg g.idx :: MapAt K.mp g.map :: TblAt K.tp g.tbl :: RigAt K.k g.rig F) permL (sl_nil 1)
  | false =>
    rw [if_neg (by rw [hb]; decide)] at hd
    refine walk ?_
    intro ov _ _
    refine walk ?_
    refine call (nrecords_spec K.k.n K.k.pp g.rig.nv hn hdl) ?_ (hg := frameL)
    intro y hy
    obtain ⟨rv, rs, rows⟩ := y
    dsimp only at hy ⊢
    obtain ⟨hrs, hmem⟩ := hy
    have hrl : rs.length ≤ 1048576 := by rw [← List.length_map (f := (·.1)), hrs]; exact hn
    haveI : ∀ Γ, ReadIn (Sl rv 4 (rs.flatMap recCells) :: Pool rows :: Γ) (fun h => Rd rv 4 (rs.flatMap recCells) h ∧ ∀ e ∈ rs, Rd e.2 1 (e.1.data.map vb) h) := fun Γ => recsIn hmem
    refine walk ?_
    refine call (sfind_spec rv rs lba hrl) ?_ (hg := frameL)
    intro _ _
    have hle := lastE_rec (lba := lba) hrs
    cases hf : lastE rs lba with
    | some e =>
      rw [hf] at hle
      rw [← hle] at hd
      have hd : Out.ok (Lg.blockB K.k.sh e.1.data, (0 : Int)) g = d := hd
      have hem : e ∈ rs := by
        unfold lastE at hf
        exact List.mem_reverse.1 (List.mem_of_find?_eq_some hf)
      haveI : ∀ Γ : List HP, RdIn (Pool rows :: Γ) e.2 1 (e.1.data.map vb) := fun Γ => Pool.rdIn' (hmem e hem)
      have hel := hdl e.1 (by rw [← hrs]; exact List.mem_map.2 ⟨e, hem, rfl⟩)
      obtain ⟨r, u⟩ := e
      dsimp only [recCells] at this hd hel ⊢
      refine walk ?_
      intro c7
      refine walk ?_
      rw [copy_block, show padTo K.k.sh.block.toNat (r.data.take K.k.sh.block.toNat) = Lg.blockB K.k.sh r.data from rfl]
      refine wq_ret2 rfl rfl rfl (ov, (Lg.blockB K.k.sh r.data, 0), g) rfl ⟨hd.symm, trivial⟩ ?_
      show Ent _ (SlB ov (Lg.blockB K.k.sh r.data) :: LCells K g.seg g.idx :: MapAt K.mp g.map :: TblAt K.tp g.tbl :: RigAt K.k g.rig F)
      exact permL
    | none =>
      rw [hf] at hle
      rw [← hle] at hd
      have hd : (if g.map.look lba < 0 then Out.ok (List.replicate K.k.sh.block.toNat 0, (0 : Int)) g else (achunk K.k.sh (g.map.look lba / K.k.sh.slots) (1 + g.map.look lba % K.k.sh.slots) g.rig).lift g.up) = d := hd
      have hsl := (bounds hok).slots
      have hlk : g.map.look lba ≤ 1048576 := by
        unfold Lm.look
        split
        · rw [List.getD]
          cases hg : g.map[lba.toNat]? with
          | none => show (-1 : Int) ≤ _; omega
          | some z =>
            have hz := hi.places z (List.mem_of_getElem? hg)
            have h1 := (bounds hi.shok).slots
            have h2 := (bounds hi.shok).all
            have h3 : g.sh.all * g.sh.slots ≤ 1024 * 14 := Int.mul_le_mul h2.2 h1.2 (by omega) (by omega)
            show z ≤ _
            omega
        · omega
      dsimp only
      refine walk ?_
      intro c7
      refine walk ?_
      refine call (mget_spec K.mp g.map lba h.map h.big) ?_ (hg := frameL)
      intro _ _
      refine walk ?_
      generalize g.map.look lba = P at hd hlk ⊢
      refine wif_dec (fun hn => ?_) (fun hn => ?_)
      · rw [if_pos hn] at hd
        refine walk ?_
        refine wq_ret2 rfl rfl rfl (ov, (List.replicate K.k.sh.block.toNat 0, 0), g) rfl ⟨hd.symm, trivial⟩ ?_
        show Ent _ (SlB ov (List.replicate K.k.sh.block.toNat 0) :: LCells K g.seg g.idx :: MapAt K.mp g.map :: TblAt K.tp g.tbl :: RigAt K.k g.rig F)
        exact permL
      · rw [if_neg hn] at hd
        refine walk ?_
        refine call (spot_spec K.k.sh hok P (by omega)) ?_ (hg := frameL)
        intro _ _
        refine walk ?_
        intro c10
        refine walk ?_
        (refine draw ?_; refine dy 0 ?_; refine dy 1 ?_; refine dy 2 ?_; refine dy 3 ?_; refine dy 4 ?_; refine dy 5 ?_; refine dy 6 ?_; refine dy 7 ?_; refine ddx 8 ?_)
        refine gcall (achunk_spec K.k hk g.rig (P / K.k.sh.slots) (1 + P % K.k.sh.slots)) (fun s' hg => ⟨g.up s', ?_, ?_⟩) (fun v a r1 h1 _ => ?_) (hg := frameL)
        · rw [hg] at hd; exact hd.symm
        · show Ent _ (LCells K g.seg g.idx :: MapAt K.mp g.map :: TblAt K.tp g.tbl :: RigAt K.k s' F)
          exact permL
        rw [h1] at hd
        have hd : Out.ok a (g.up r1) = d := hd
        (refine walk ?_; refine dy 9 ?_; refine dy 10 ?_; refine dy 11 ?_; refine dy 12 ?_; refine walk ?_)
        refine wq_ret2 rfl rfl rfl (v, a, g.up r1) rfl ⟨hd.symm, trivial⟩ ?_
        show Ent _ (SlB v a.1 :: LCells K g.seg g.idx :: MapAt K.mp g.map :: TblAt K.tp g.tbl :: RigAt K.k r1 F)
        exact permL
end Go.Proofs.YtohienhoifgmaaaGreat
end

section
/- Pages read, step by step. No program. -/
namespace Go.Sl
open Go
def segAt (b : Bytes) (i : Nat) : Int × Nat := ((unle ((b.drop (9 * i)).take 1) : Int), unle ((b.drop (9 * i + 1)).take 8))
def mapAt (b : Bytes) (i : Nat) : Int := (unle ((b.drop (4 * i)).take 4) : Int) - 1
theorem takeN_some {k : Nat} {b : Bytes} (h : k ≤ b.length) : takeN k b = some (unle (b.take k), b.drop k) := by unfold takeN; rw [if_pos h]
theorem takeSegs_eq (k : Nat) : ∀ b : Bytes, 9 * k ≤ b.length → takeSegs k b = ((List.range k).map (segAt b), b.drop (9 * k)) := by
  induction k with
  | zero => intro b _; rfl
  | succ k ih =>
    intro b h
    unfold takeSegs
    rw [takeN_some (by omega)]
    dsimp only [Option.getD_some]
    rw [takeN_some (by rw [List.length_drop]; omega)]
    dsimp only [Option.getD_some]
    rw [List.drop_drop, ih _ (by rw [List.length_drop]; omega)]
    dsimp only
    rw [List.drop_drop, List.range_succ_eq_map, List.map_cons, List.map_map]
    congr 1
    · congr 1
      apply List.map_congr_left
      intro i _
      unfold segAt
      simp only [Function.comp, List.drop_drop]
      rw [show 1 + 8 + 9 * i = 9 * (i + 1) by omega, show 1 + 8 + (9 * i + 1) = 9 * (i + 1) + 1 by omega]
    · congr 1; omega
theorem takeMap_eq (k : Nat) : ∀ b : Bytes, 4 * k ≤ b.length → takeMap k b = ((List.range k).map (mapAt b), b.drop (4 * k)) := by
  induction k with
  | zero => intro b _; rfl
  | succ k ih =>
    intro b h
    unfold takeMap
    rw [takeN_some (by omega)]
    dsimp only [Option.getD_some]
    rw [ih _ (by rw [List.length_drop]; omega)]
    dsimp only
    rw [List.drop_drop, List.range_succ_eq_map, List.map_cons, List.map_map]
    congr 1
    · congr 1
      apply List.map_congr_left
      intro i _
      unfold mapAt
      simp only [Function.comp, List.drop_drop]
      rw [show 4 + 4 * i = 4 * (i + 1) by omega]
    · congr 1; omega
/-- the image of a checkpoint's bytes -/
def Img.of (b : Bytes) (segments logical : Nat) : Img :=
  ⟨unle (b.take 8), (unle ((b.drop 8).take 2) : Int) - 1, unle ((b.drop 10).take 2), (List.range segments).map (segAt (b.drop 12)), (List.range logical).map (mapAt (b.drop (12 + 9 * segments)))⟩
/-- may it be? -/
def Img.may (x : Img) (segments stripes places : Nat) (rest : Bytes) : Prop := x.seg < segments ∧ x.idx < stripes ∧ (∀ e ∈ x.segs, e.1 ≤ 2) ∧ (∀ p ∈ x.map, p < places) ∧ ∀ c ∈ rest, c = 0
instance {x : Img} {a b c : Nat} {r : Bytes} : Decidable (x.may a b c r) := by unfold Img.may; infer_instance
theorem Img.dec_eq {block gen pages segments stripes logical places : Nat} {l : List Bytes} (hl : l.length = pages) : Img.dec block gen pages segments stripes logical places l =
    match pagesIn block gen l 0 with
    | .inr e => .inr e
    | .inl b => if 12 + 9 * segments + 4 * logical ≤ b.length then (if (Img.of b segments logical).may segments stripes places (b.drop (12 + 9 * segments + 4 * logical)) then .inl (Img.of b segments logical) else .inr 4) else Img.dec block gen pages segments stripes logical places l := by
  conv => lhs; unfold Img.dec
  rw [if_neg (by omega)]
  cases h : pagesIn block gen l 0 with
  | inr e => rfl
  | inl b =>
    dsimp only
    by_cases hb : 12 + 9 * segments + 4 * logical ≤ b.length
    · rw [if_pos hb]
      have h1 : takeN 8 b = some (unle (b.take 8), b.drop 8) := takeN_some (by omega)
      have h2 : takeN 2 (b.drop 8) = some (unle ((b.drop 8).take 2), b.drop 10) := by
        rw [takeN_some (by rw [List.length_drop]; omega), List.drop_drop]
      have h3 : takeN 2 (b.drop 10) = some (unle ((b.drop 10).take 2), b.drop 12) := by
        rw [takeN_some (by rw [List.length_drop]; omega), List.drop_drop]
      have h4 : takeSegs segments (b.drop 12) = ((List.range segments).map (segAt (b.drop 12)), b.drop (12 + 9 * segments)) := by
        rw [takeSegs_eq _ _ (by rw [List.length_drop]; omega), List.drop_drop]
      have h5 : takeMap logical (b.drop (12 + 9 * segments)) = ((List.range logical).map (mapAt (b.drop (12 + 9 * segments))), b.drop (12 + 9 * segments + 4 * logical)) := by
        rw [takeMap_eq _ _ (by rw [List.length_drop]; omega), List.drop_drop]
      simp only [h1, h2, h3, h4, h5, Option.getD_some]
      by_cases hm : (Img.of b segments logical).may segments stripes places (b.drop (12 + 9 * segments + 4 * logical))
      · rw [if_pos hm]
        obtain ⟨m1, m2, m3, m4, m5⟩ := hm
        have m2 : ((unle ((b.drop 10).take 2) : Nat) : Int) < (stripes : Int) := m2
        rw [if_pos ⟨m1, by omega, m3, m4, m5⟩]
        rfl
      · rw [if_neg hm, if_neg]
        rintro ⟨m1, m2, m3, m4, m5⟩
        exact hm ⟨m1, by show ((unle ((b.drop 10).take 2) : Nat) : Int) < (stripes : Int); omega, m3, m4, m5⟩
    · rw [if_neg hb]
      conv => rhs; unfold Img.dec
      rw [if_neg (show ¬ (l.length ≠ pages) from by omega), h]
theorem pagesIn_len {block gen : Nat} : ∀ {l : List Bytes} {i : Nat} {b : Bytes}, pagesIn block gen l i = .inl b → 15 ≤ block → (∀ x ∈ l, x.length = block) → b.length = l.length * (block - 15)
  | [], i, b, h, _, _ => by
    have h : (Sum.inl [] : Bytes ⊕ Int) = .inl b := h
    cases h
    simp
  | x :: l, i, b, h, hb, hx => by
    unfold pagesIn at h
    cases h1 : pageOne block gen i x with
    | inr e => rw [h1] at h; cases h
    | inl a =>
      rw [h1] at h
      dsimp only at h
      cases h2 : pagesIn block gen l (i + 1) with
      | inr e => rw [h2] at h; cases h
      | inl r =>
        rw [h2] at h
        cases h
        have h3 := pagesIn_len h2 hb (fun y hy => hx y (List.mem_cons_of_mem _ hy))
        have hxl := hx x List.mem_cons_self
        have h4 : a.length = block - 15 := by
          unfold pageOne at h1
          rw [if_neg (by omega)] at h1
          cases h5 : opened x with
          | inr e => rw [h5] at h1; cases h1
          | inl y =>
            rw [h5] at h1
            dsimp only at h1
            have h6 : y.length = block - 4 := by
              unfold opened at h5
              rw [if_neg (by omega)] at h5
              split at h5
              · cases h5; rw [List.length_take]; omega
              · cases h5
            split at h1
            · cases h1; rw [List.length_drop]; omega
            · cases h1
        rw [List.length_append, h4, h3, List.length_cons, Nat.add_mul, Nat.one_mul, Nat.add_comm]
end Go.Sl
end
