/- several texts, one behind the other -/
import Derived.Test.YtohienhoifgmaaaGreatP37
import Derived.Test.YtohienhoifgmaaaGreatP30
import Derived.Test.YtohienhoifgmaaaGreatP39
import Derived.Test.YtohienhoifgmaaaGreatP16
import Derived.Test.YtohienhoifgmaaaGreatP32
import Derived.Test.YtohienhoifgmaaaGreatP31
import Derived.Test.YtohienhoifgmaaaGreatP41
import Derived.Test.YtohienhoifgmaaaGreatP20
import Derived.Test.YtohienhoifgmaaaGreatP22

section
/- Numbers in slices: is one there; are two alike; a log's image. -/
namespace Go.Proofs.YtohienhoifgmaaaGreat
open Go Go.Sl
attribute [local irreducible] Yl WL WC WQ WD
def idxI (x : Int) (l : List Int) : Int := match l.findIdx? (fun y => decide (x = y)) with
  | none => -1
  | some i => i
theorem idxI_take (x : Int) (t : List Int) {k : Nat} (h : ∀ (j : Nat) (hj : j < t.length), j < k → x ≠ t[j]) : (∀ hk : k < t.length, x = t[k] → idxI x t = k) ∧ (t.length ≤ k → idxI x t = -1) := by
  unfold idxI
  refine ⟨fun hk h0 => ?_, fun hk => ?_⟩
  · have : t.findIdx? (fun y => decide (x = y)) = some k := by
      rw [List.findIdx?_eq_some_iff_getElem]
      exact ⟨hk, by simpa using h0, fun j hj => by simpa using h j (by omega) hj⟩
    rw [this]
  · have : t.findIdx? (fun y => decide (x = y)) = none := by
      rw [List.findIdx?_eq_none_iff]
      intro y hy
      obtain ⟨j, hj, rfl⟩ := List.mem_iff_getElem.1 hy
      simpa using h j hj (by omega)
    rw [this]
theorem idxI_mem (x : Int) (l : List Int) : idxI x l ≥ 0 ↔ x ∈ l := by
  unfold idxI
  cases hf : l.findIdx? (fun y => decide (x = y)) with
  | none =>
    rw [List.findIdx?_eq_none_iff] at hf
    constructor
    · intro h; exact absurd h (by show ¬ ((-1 : Int) ≥ 0); decide)
    · intro h; have := hf x h; simp at this
  | some i =>
    rw [List.findIdx?_eq_some_iff_getElem] at hf
    obtain ⟨hi, hp, _⟩ := hf
    constructor
    · intro _
      have hp : x = l[i] := by simpa using hp
      rw [hp]; exact List.getElem_mem hi
    · intro _; show (i : Int) ≥ 0; omega
theorem cindex_spec (v : Value) (l : List Int) (x : Int) (hn : l.length ≤ 1048576) :
    Spec0 Tryz.prog 106 [v, vi x] (Rd v 1 (l.map vi)) (fun F => F) (fun _ : Unit => True) (fun _ => vi (idxI x l)) (fun _ F => F) := by
  (refine spec_of Tryz.func106 rfl Tryz.ntmps106 rfl (fun F w0 hrd => ?_))
  haveI : RdIn F v 1 (l.map vi) := ⟨hrd⟩
  refine walk ?_
  refine wc_loop (X := Nat) (fun k => [(0, v), (1, vi x), (7, vi l.length), (8, vi k)]) (fun _ => F) (fun k => k ≤ l.length ∧ ∀ (j : Nat) (hj : j < l.length), j < k → x ≠ l[j]) (fun k => l.length - k) 0 ⟨Nat.zero_le _, fun j _ h => by omega⟩ envs perm (fun k hk => ?_)
  obtain ⟨hk, hno⟩ := hk
  obtain ⟨q1, q2⟩ := idxI_take x l hno
  refine walk ?_
  refine wif_dec (fun hlt => ?_) (fun hlt => ?_)
  · have hlt : k < l.length := by omega
    refine walk ?_
    refine wif_dec (fun h0 => ?_) (fun h0 => ?_)
    · refine walk ?_
      refine wq_ret1 rfl rfl () ?_ trivial perm
      rw [q1 hlt h0]
    · refine walk ?_
      refine wq_round (k + 1) ⟨by omega, fun j hj hjk => ?_⟩ (by omega) envs perm
      rcases Nat.lt_or_ge j k with h1 | h1
      · exact hno j hj h1
      · obtain rfl : j = k := by omega
        exact h0
  · have hk' : l.length ≤ k := by omega
    refine walk ?_
    refine wq_ret1 rfl rfl () ?_ trivial perm
    rw [q2 hk']
theorem contains_spec (v : Value) (l : List Int) (x : Int) (hn : l.length ≤ 1048576) :
    Spec0 Tryz.prog 56 [v, vi x] (Rd v 1 (l.map vi)) (fun F => F) (fun _ : Unit => True) (fun _ => .bool (decide (x ∈ l))) (fun _ F => F) := by
  (refine spec_of Tryz.func56 rfl Tryz.ntmps56 rfl (fun F w0 hrd => ?_))
  haveI : RdIn F v 1 (l.map vi) := ⟨hrd⟩
  refine walk ?_
  refine call (cindex_spec v l x hn) ?_
  intro _ _
  refine walk ?_
  refine wq_ret1 rfl rfl () ?_ trivial perm
  rw [decide_eq_decide.2 (idxI_mem x l)]
theorem eqints_spec (v u : Value) (l m : List Int) (hn : l.length ≤ 1048576) (hm : m.length ≤ 1048576) :
    Spec0 Tryz.prog 18 [v, u] (fun h => Rd v 1 (l.map vi) h ∧ Rd u 1 (m.map vi) h) (fun F => F) (fun _ : Unit => True) (fun _ => .bool (decide (l = m))) (fun _ F => F) := by
  (refine spec_of Tryz.func18 rfl Tryz.ntmps18 rfl (fun F w0 hrd => ?_))
  haveI : RdIn F v 1 (l.map vi) := ⟨fun h hs => (hrd h hs).1⟩
  haveI : RdIn F u 1 (m.map vi) := ⟨fun h hs => (hrd h hs).2⟩
  refine walk ?_
  refine wif_dec (fun hne => ?_) (fun hne => ?_)
  · refine walk ?_
    refine wq_ret1 rfl rfl () ?_ trivial perm
    rw [decide_eq_false (fun e => hne (by rw [e]))]
  · have hlen : l.length = m.length := by omega
    refine walk ?_
    refine wc_loop (X := Nat) (fun k => [(0, v), (1, u), (12, vi l.length), (13, vi k)]) (fun _ => F) (fun k => k ≤ l.length ∧ l.take k = m.take k) (fun k => l.length - k) 0 ⟨Nat.zero_le _, by simp⟩ envs perm (fun k hk => ?_)
    obtain ⟨hk, hno⟩ := hk
    refine walk ?_
    refine wif_dec (fun hlt => ?_) (fun hlt => ?_)
    · have hlt : k < l.length := by omega
      have hlt2 : k < m.length := by omega
      refine walk ?_
      (refine draw ?_; refine dy 0 ?_; refine dy 1 ?_; refine dy 2 ?_; refine dy 3 ?_; refine dy 4 ?_; refine dy 5 ?_; refine dy 6 ?_; refine dy 7 ?_; refine dy 8 ?_; refine walk ?_)
      refine walk ?_
      refine wif_dec (fun h0 => ?_) (fun h0 => ?_)
      · refine walk ?_
        refine wq_ret1 rfl rfl () ?_ trivial perm
        rw [decide_eq_false (fun e => h0 (by subst e; rfl))]
      · have h0 : l[k] = m[k] := by
          rcases Classical.em (l[k] = m[k]) with e | e
          · exact e
          · exact absurd e h0
        refine walk ?_
        refine wq_round (k + 1) ⟨by omega, ?_⟩ (by omega) envs perm
        rw [List.take_add_one, List.take_add_one, List.getElem?_eq_getElem hlt, List.getElem?_eq_getElem hlt2, hno, h0]
    · obtain rfl : k = l.length := by omega
      rw [List.take_length, hlen, List.take_length] at hno
      refine walk ?_
      refine wq_ret1 rfl rfl () ?_ trivial perm
      rw [decide_eq_true hno]
end Go.Proofs.YtohienhoifgmaaaGreat
end

section
/- A log's image, as the program makes it. -/
namespace Go.Proofs.YtohienhoifgmaaaGreat
open Go Go.Sl
attribute [local irreducible] Yl WL WC WQ WD
instance cks2fld : Fld1 Tryz.prog 43 2 7 := ⟨fun cs v w h => by simp [Instr.field, Tryz.runUnderlying43, part, asAgg, Tryz.isAgg35, h]⟩
theorem iseg_len (l : List (Int × Nat)) : (l.flatMap isegCells).length = 2 * l.length := by
  induction l with
  | nil => rfl
  | cons a l ih => rw [List.flatMap_cons, List.length_append, ih]; simp; omega
theorem segs_get (g : Lg) {i : Nat} (h : i < g.tbl.length) : g.image.segs[i]? = some (if g.tbl[i].state = 2 ∧ g.tbl[i].live = 0 then (0, 0) else (g.tbl[i].state, g.tbl[i].born.toNat)) := by
  show (g.tbl.map _)[i]? = _
  rw [List.getElem?_map, List.getElem?_eq_getElem h]; rfl
set_option maxHeartbeats 4000000 in
theorem image_spec' (K : GK) (g : Lg) (_hi : g.Inv) (h : Lsm K g) (hborn : ∀ s ∈ g.tbl, 0 ≤ s.born) (hdur : 0 ≤ g.rig.nv.root.durable) :
    Spec0 Tryz.prog 17 [vp K.lp] (fun _ => True) (fun F => LogB K g (NvAt K.k.n K.k.pp g.rig.nv :: F)) (fun _ : Value × Value => True) (fun y => Img.val g.image y.1 y.2)
      (fun y F => Sl y.1 2 (g.image.segs.flatMap isegCells) :: Sl y.2 1 (g.map.map vi) :: LogB K g (NvAt K.k.n K.k.pp g.rig.nv :: F)) := by
  (refine spec_of Tryz.func17 rfl Tryz.ntmps17 rfl (fun F w0 hrd => ?_))
  have ht := h.tbl
  have htl := tflat_len g.tbl
  have hdl : g.tbl.dead.length ≤ 65536 := by
    unfold Tbl.dead
    rw [List.length_map]
    exact Nat.le_trans (List.length_filter_le _ _) (by rw [List.length_range]; exact ht)
  have hsl : g.image.segs.length = g.tbl.length := List.length_map ..
  refine walk ?_
  intro c2
  refine walk ?_
  refine wc_join (X := Nat × Value) (fun y => [(0, vp K.lp), (2, vp c2), (3, vp y.1)]) (fun y => Cells y.1 [.int .u64 g.rig.nv.root.durable, vi g.seg, vi g.idx, .slice none 0 0, y.2] :: Sl y.2 1 (g.map.map vi) :: Cells c2 [.int .u64 0, vi 0, vi 0, .slice none 0 0, .slice none 0 0] :: LogB K g (NvAt K.k.n K.k.pp g.rig.nv :: F)) (fun _ => True) ?_ (fun y _ => ?_)
  · (refine draw ?_; refine dy 0 ?_; refine dy 1 ?_; refine dy 2 ?_; refine dy 3 ?_; refine dy 6 ?_; refine dy 7 ?_; refine dy 8 ?_; refine dy 9 ?_; refine dy 10 ?_; refine dy 11 ?_; refine dy 12 ?_; refine dy 13 ?_; refine dy 14 ?_; refine dy 15 ?_; refine dy 16 ?_; refine dy 17 ?_)
    refine fork2 4 20 ?_ ?_
    · refine call (nroot_spec K.k.n K.k.pp g.rig.nv) ?_ (hg := frameL)
      intro _ _
      (refine walk ?_; refine dy 5 ?_)
      refine fork2 18 20 ?_ ?_
      · refine call (mall_spec K.mp g.map h.map h.big) ?_ (hg := frameL)
        intro mv _
        (refine walk ?_; refine dy 19 ?_)
        (refine ddo 20 ?_)
        refine walk ?_
        intro c3
        (refine walk ?_; refine ddo 21 ?_; refine walk ?_)
        exact wq_meet _ _ _ (c3, mv) trivial envs permL
      · refine walk ?_
        intro c3
        (refine walk ?_; refine ddo 18 ?_)
        refine call (mall_spec K.mp g.map h.map h.big) ?_ (hg := frameL)
        intro mv _
        (refine walk ?_; refine dy 19 ?_)
        (refine ddo 21 ?_; refine walk ?_)
        exact wq_meet _ _ _ (c3, mv) trivial envs permL
    · refine walk ?_
      intro c3
      (refine walk ?_; refine ddo 4 ?_)
      refine call (nroot_spec K.k.n K.k.pp g.rig.nv) ?_ (hg := frameL)
      intro _ _
      (refine walk ?_; refine dy 5 ?_; refine ddo 18 ?_)
      refine call (mall_spec K.mp g.map h.map h.big) ?_ (hg := frameL)
      intro mv _
      (refine walk ?_; refine dy 19 ?_)
      (refine ddo 21 ?_; refine walk ?_)
      exact wq_meet _ _ _ (c3, mv) trivial envs permL
  obtain ⟨c3, mv⟩ := y
  dsimp only
  refine walk ?_
  refine call (tdead_spec K.tp g.tbl ht) ?_
  intro dv _
  refine walk ?_
  refine call (tall_spec K.tp g.tbl ht) ?_
  intro av _
  refine walk ?_
  refine wc_loop (X := Nat × Value) (fun y => [(0, vp K.lp), (2, vp c2), (3, vp c3), (4, dv), (36, av), (37, vi g.tbl.length), (38, vi y.1)])
    (fun y => Cells c3 [.int .u64 g.rig.nv.root.durable, vi g.seg, vi g.idx, y.2, mv] :: Sl y.2 2 ((g.image.segs.take y.1).flatMap isegCells) :: Sl dv 1 (g.tbl.dead.map vi) :: Sl av 3 (g.tbl.flatMap tsegCells) :: Sl mv 1 (g.map.map vi) :: Cells c2 [.int .u64 0, vi 0, vi 0, .slice none 0 0, .slice none 0 0] :: LogB K g (NvAt K.k.n K.k.pp g.rig.nv :: F))
    (fun y => y.1 ≤ g.tbl.length) (fun y => g.tbl.length - y.1) (0, .slice none 0 0) (Nat.zero_le _) envs ?_ (fun y hy => ?_)
  · refine Ent.trans (Γ' := Cells c3 [.int .u64 g.rig.nv.root.durable, vi g.seg, vi g.idx, .slice none 0 0, mv] :: Sl dv 1 (g.tbl.dead.map vi) :: Sl av 3 (g.tbl.flatMap tsegCells) :: Sl mv 1 (g.map.map vi) :: Cells c2 [.int .u64 0, vi 0, vi 0, .slice none 0 0, .slice none 0 0] :: LogB K g (NvAt K.k.n K.k.pp g.rig.nv :: F)) permL ?_
    exact Ent.skip (sl_nil 2)
  obtain ⟨i, sv⟩ := y
  dsimp only at hy ⊢
  have hil := iseg_len (g.image.segs.take i)
  rw [List.length_take] at hil
  refine walk ?_
  refine wif_dec (fun hlt => ?_) (fun hlt => ?_)
  · have hlt : i < g.tbl.length := by omega
    have hsg := segs_get g hlt
    have hmd := Tbl.mem_dead hlt
    have hbn := hborn _ (List.getElem_mem hlt)
    have htk : g.image.segs.take (i + 1) = g.image.segs.take i ++ [if g.tbl[i].state = 2 ∧ g.tbl[i].live = 0 then (0, 0) else (g.tbl[i].state, g.tbl[i].born.toNat)] := by
      rw [List.take_add_one, hsg]; rfl
    obtain ⟨X, hX⟩ : ∃ X, X = (g.image.segs.take i).flatMap isegCells := ⟨_, rfl⟩
    rw [← hX] at hil ⊢
    refine walk ?_
    intro c6
    generalize g.tbl[i] = e at hsg hmd hbn htk ⊢
    obtain ⟨st, lv, bn⟩ := e
    dsimp only [tsegCells] at hsg hmd hbn htk ⊢
    refine walk ?_
    refine call (contains_spec dv g.tbl.dead i (by omega)) ?_
    intro _ _
    refine walk ?_
    refine wif_dec (fun hd => ?_) (fun hd => ?_)
    · rw [if_pos (hmd.1 hd)] at htk
      have hcl : isegCells (0, 0) = [vi 0, .int .u64 0] := rfl
      refine walk ?_
      refine wl_buildOneA (k := 2) rfl rfl (by decide) rfl (fun s1 _ _ => ?_)
      refine walk ?_
      intro sv' _ _
      refine walk ?_
      refine wq_round (i + 1, sv') (by dsimp only; omega) (by dsimp only; omega) envs ?_
      dsimp only
      rw [htk, List.flatMap_append, ← hX, List.flatMap_cons, List.flatMap_nil, List.append_nil, hcl]
      exact permL
    · rw [if_neg (fun hz => hd (hmd.2 hz))] at htk
      have hcl : isegCells (st, bn.toNat) = [vi st, .int .u64 bn] := by
        show [vi st, Value.int .u64 (bn.toNat : Int)] = _
        rw [Int.toNat_of_nonneg hbn]
      refine walk ?_
      refine wl_buildOneA (k := 2) rfl rfl (by decide) rfl (fun s1 _ _ => ?_)
      refine walk ?_
      intro sv' _ _
      refine walk ?_
      refine wq_round (i + 1, sv') (by dsimp only; omega) (by dsimp only; omega) envs ?_
      dsimp only
      rw [htk, List.flatMap_append, ← hX, List.flatMap_cons, List.flatMap_nil, List.append_nil, hcl]
      exact permL
  · obtain rfl : i = g.tbl.length := by omega
    rw [← hsl, List.take_length]
    refine walk ?_
    refine wq_retc rfl rfl rfl (sv, mv) ?_ trivial permL
    show _ = Value.agg #[.int .u64 ((g.rig.nv.root.durable.toNat : Nat) : Int), vi g.seg, vi g.idx, sv, mv]
    rw [Int.toNat_of_nonneg hdur]
end Go.Proofs.YtohienhoifgmaaaGreat
end

section
/- A checkpoint's pages, as the program writes them. -/
namespace Go.Proofs.YtohienhoifgmaaaGreat
open Go Go.Sl
attribute [local irreducible] Yl WL WC WQ WD
theorem _root_.Go.Sl.Img.Fits.len {x : Img} {s : Shp} (h : s.Ok) {places : Nat} (hx : x.Fits s.segments.toNat s.stripes.toNat s.logical.toNat places) : ((x.bytes.length : Nat) : Int) = s.image := by
  rw [Img.bytes_length]
  have h1 := hx.nsegs
  have h2 := hx.nmap
  have h3 := h.segments
  have h4 := h.logical
  unfold Shp.image
  omega
theorem pages_bound {s : Shp} (h : s.Ok) : s.pages * s.page ≤ s.image + s.page - 1 ∧ s.image ≤ s.pages * s.page := by
  have h2 := h.block
  have hp : 0 < s.page := by unfold Shp.page; omega
  unfold Shp.pages
  have h3 := Int.ediv_mul_le (s.image + s.page - 1) (b := s.page) (by omega)
  have h4 := Int.lt_ediv_add_one_mul_self (s.image + s.page - 1) hp
  rw [Int.add_mul, Int.one_mul] at h4
  omega
set_option maxHeartbeats 8000000 in
theorem encode_spec (s : Shp) (h : s.Ok) (gen : Nat) (x : Img) (sv mv : Value) {places : Nat} (hx : x.Fits s.segments.toNat s.stripes.toNat s.logical.toNat places) (hpl : places ≤ 1048576) :
    Spec0 Tryz.prog 57 [Shp.val s, .int .u64 gen, Img.val x sv mv] (fun h => Rd sv 2 (x.segs.flatMap isegCells) h ∧ Rd mv 1 (x.map.map vi) h) (fun F => F)
      (fun r : Value × List Row => r.2.map (·.2) = pagesB s.block.toNat gen s.pages.toNat x.bytes) (fun r => r.1) (fun r F => Sl r.1 1 (r.2.map (·.1)) :: Pool r.2 :: F) := by
  (refine spec_of Tryz.func57 rfl Tryz.ntmps57 rfl (fun F w0 hrd => ?_))
  haveI : RdIn F sv 2 (x.segs.flatMap isegCells) := ⟨fun h hs => (hrd h hs).1⟩
  haveI : RdIn F mv 1 (x.map.map vi) := ⟨fun h hs => (hrd h hs).2⟩
  have g1 := h.segments
  have g2 := h.stripes
  have g3 := h.logical
  have g4 := h.block
  have g5 := bounds h
  have g6 := h.pages0
  have hlen := hx.len h
  have hpb := pages_bound h
  have hns := hx.nsegs
  have hnm := hx.nmap
  have hmost := g5.logical
  have hpn := g5.pages
  have hpp := g5.page
  have him := g5.image
  obtain ⟨B, hB⟩ : ∃ B : Nat, s.block = B := ⟨s.block.toNat, by omega⟩
  obtain ⟨n, hn⟩ : ∃ n : Nat, s.pages = n := ⟨s.pages.toNat, by omega⟩
  obtain ⟨pg, hpg⟩ : ∃ pg : Nat, s.page = pg := ⟨s.page.toNat, by unfold Shp.page; omega⟩
  have hpB : pg = B - 15 := by unfold Shp.page at hpg; omega
  have hfin : pagesB s.block.toNat gen s.pages.toNat x.bytes = (List.range n).map (pageB B gen x.bytes) := by unfold pagesB; rw [hB, hn, Int.toNat_natCast, Int.toNat_natCast]
  rw [hfin]
  rw [hn, hpg] at hpb
  refine walk ?_
  intro c3
  refine walk ?_
  intro c5
  refine walk ?_
  refine call (check_spec s h) ?_
  intro _ _
  refine walk ?_
  refine wif_dec (fun hz => absurd hz (by omega)) (fun _ => ?_)
  refine walk ?_
  refine wif_dec (fun hz => absurd hz (by omega)) (fun _ => ?_)
  refine walk ?_
  refine call (img_bytes_spec x sv mv hx (by omega) (by omega) (by omega) hpl) ?_
  intro v1 _
  obtain ⟨all, hall⟩ : ∃ a, a = x.bytes := ⟨_, rfl⟩
  rw [← hall] at hlen ⊢
  refine walk ?_
  refine call (pages_spec s h) ?_
  intro _ _
  rw [hn]
  refine walk ?_
  refine wc_loop (X := Nat × Value × List Row) (fun y => [(1, .int .u64 (gen : Int)), (3, vp c3), (7, v1), (8, y.2.1), (33, vi n), (34, vi y.1)])
    (fun y => Sl y.2.1 1 (y.2.2.map (·.1)) :: Pool y.2.2 :: SlB v1 all :: Cells c3 (Shp.cells s) :: F)
    (fun y => y.1 ≤ n ∧ y.2.2.map (·.2) = (List.range y.1).map (pageB B gen all)) (fun y => n - y.1) (0, .slice none 0 0, []) ⟨by omega, rfl⟩ envs (Ent.trans (Γ' := SlB v1 all :: Cells c3 (Shp.cells s) :: F) perm ((sl_nil 1).trans (Ent.skip Pool.nil))) (fun y hy => ?_)
  obtain ⟨k, ov, rows⟩ := y
  dsimp only at hy ⊢
  obtain ⟨hk, hr⟩ := hy
  have hrl : rows.length = k := by simpa using congrArg List.length hr
  refine walk ?_
  refine wif_dec (fun hlt => ?_) (fun hlt => ?_)
  · have hlt : k < n := by omega
    have hk1 : (k + 1) * pg ≤ n * pg := Nat.mul_le_mul_right pg hlt
    have hk2 : (k + 1) * pg = k * pg + pg := by rw [Nat.add_mul, Nat.one_mul]
    have hnp : (n : Int) * (pg : Int) = ((n * pg : Nat) : Int) := by push_cast; rfl
    have hkp : (k : Int) * (pg : Int) = ((k * pg : Nat) : Int) := by push_cast; rfl
    have hkp1 : ((k : Int) + 1) * (pg : Int) = (((k + 1) * pg : Nat) : Int) := by push_cast; rfl
    rw [hnp] at hpb
    have hle : k * pg ≤ all.length := by omega
    have hmin : k * pg ≤ min ((k + 1) * pg) all.length := by omega
    refine walk ?_
    intro p
    refine WL.ent WrAt.new ?_
    refine walk ?_
    (refine draw ?_; refine dy 1 ?_; refine dy 3 ?_; refine dy 4 ?_; refine dy 6 ?_; refine dy 7 ?_; refine dy 8 ?_; refine dy 11 ?_; refine dy 12 ?_; refine dy 13 ?_; refine dy 16 ?_; refine dy 17 ?_; refine ddo 0 ?_)
    refine call (wput_spec p [] 1 80 (by omega) (by simp)) ?_
    intro _ _
    (refine walk ?_; refine ddo 2 ?_)
    refine call (wput_spec p ([] ++ le 1 80) 8 gen (by omega) (by simp [le_length])) ?_
    intro _ _
    (refine walk ?_; refine ddo 5 ?_)
    refine call (wput_spec p ([] ++ le 1 80 ++ le 8 gen) 2 k (by omega) (by simp [le_length])) ?_
    intro _ _
    (refine walk ?_; refine ddo 9 ?_)
    refine call (page_spec s h) ?_
    intro _ _
    rw [hpg]
    (refine walk ?_; refine dy 10 ?_; refine ddo 14 ?_)
    refine call (page_spec s h) ?_
    intro _ _
    rw [hpg]
    have e1 : ((k : Int) * (pg : Int)).toNat = k * pg := by rw [hkp]; rfl
    have e2 : (min (((k : Int) + 1) * (pg : Int)) (all.length : Int)).toNat = min ((k + 1) * pg) all.length := by rw [hkp1]; omega
    haveI hsub : ∀ (Γ : List HP) [RdIn Γ v1 1 (all.map vb)], RdIn Γ (slSub v1 1 (k * pg) (min ((k + 1) * pg) all.length)) 1 (((all.drop (k * pg)).take pg).map vb) := fun Γ _ => by
      have := RdIn.subB (Γ := Γ) (v := v1) (b := all) inferInstance hmin (Nat.min_le_right _ _)
      have e : (all.drop (k * pg)).take (min ((k + 1) * pg) all.length - k * pg) = (all.drop (k * pg)).take pg := by
        rcases Nat.le_total ((k + 1) * pg) all.length with h1 | h1
        · rw [Nat.min_eq_left h1, show (k + 1) * pg - k * pg = pg by omega]
        · rw [Nat.min_eq_right h1, List.take_of_length_le (by simp), List.take_of_length_le (by simp; omega)]
      rwa [e] at this
    obtain ⟨C, hC⟩ : ∃ C : Bytes, C = (all.drop (k * pg)).take pg := ⟨_, rfl⟩
    have hCl : C.length ≤ 1000 := by rw [hC, List.length_take]; omega
    rw [← hC] at hsub
    have hpage : pageB B gen all k = seal_ (padTo (B - 4) ([] ++ le 1 80 ++ le 8 gen ++ le 2 k ++ C)) := by
      unfold pageB pageHead
      rw [hC, hpB]; rfl
    have hpl2 : (padTo (B - 4) ([] ++ le 1 80 ++ le 8 gen ++ le 2 k ++ C)).length ≤ 2000 := by
      unfold padTo
      simp only [List.length_append, List.length_replicate, le_length, List.length_nil]
      omega
    (refine walk ?_; refine dy 15 ?_; refine dy 18 ?_)
    refine dy 19 (y := by exact yl_sliceLH rfl rfl rfl (by omega) (by omega) (by omega) (by rw [e2]; simp; omega)) ?_
    rw [e1, e2]
    (refine ddo 20 ?_)
    refine call (wraw_spec p ([] ++ le 1 80 ++ le 8 gen ++ le 2 k) (slSub v1 1 (k * pg) (min ((k + 1) * pg) all.length)) C (by simp [le_length]) (by omega)) ?_
    intro _ _
    refine walk ?_
    rw [show s.block - 4 = ((B - 4 : Nat) : Int) by omega]
    refine call (wbytes_spec p ([] ++ le 1 80 ++ le 8 gen ++ le 2 k ++ C) (B - 4) (by omega) (by simp [le_length]; omega)) ?_
    intro v2 _
    refine walk ?_
    refine call (seal_spec v2 (padTo (B - 4) ([] ++ le 1 80 ++ le 8 gen ++ le 2 k ++ C)) (by omega)) ?_
    intro v3 _
    rw [← hpage]
    refine walk ?_
    intro v4 _ _
    refine walk ?_
    intro ov' _ _
    refine walk ?_
    refine wq_round (k + 1, ov', rows ++ [(v3, pageB B gen all k)]) ⟨by dsimp only; omega, ?_⟩ (by dsimp only; omega) envs ?_
    · dsimp only
      rw [List.map_append, hr, List.range_succ, List.map_append]; rfl
    · dsimp only
      rw [List.map_append]
      refine Ent.trans (Γ' := SlB v3 (pageB B gen all k) :: Pool rows :: Sl ov' 1 (rows.map (·.1) ++ [v3]) :: SlB v1 all :: Cells c3 (Shp.cells s) :: F) perm (Ent.trans Pool.put (Ent.trans (Pool.sub (rows' := rows ++ [(v3, pageB B gen all k)]) (fun q hq => ?_)) perm))
      rcases List.mem_append.1 hq with hq | hq
      · exact List.mem_cons_of_mem _ hq
      · rw [List.mem_singleton.1 hq]; exact List.mem_cons_self
  · obtain rfl : k = n := by omega
    refine walk ?_
    exact wq_ret1 rfl rfl (ov, rows) rfl hr perm
end Go.Proofs.YtohienhoifgmaaaGreat
end
