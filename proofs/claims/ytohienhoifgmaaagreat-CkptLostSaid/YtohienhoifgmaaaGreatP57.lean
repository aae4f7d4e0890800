/- CkptLost: any one member failing at any operation of a checkpoint: it holds all the same. -/
import Derived.Test.YtohienhoifgmaaaGreatP31
import Derived.Test.YtohienhoifgmaaaGreatP41
import Derived.Test.YtohienhoifgmaaaGreatP46
import Derived.Test.YtohienhoifgmaaaGreatP39
import Derived.Test.YtohienhoifgmaaaGreatP34
import Derived.Test.YtohienhoifgmaaaGreatP33
import Derived.Test.YtohienhoifgmaaaGreatP32
import Derived.Test.YtohienhoifgmaaaGreatP16
import Derived.Test.YtohienhoifgmaaaGreatP17
import Derived.Test.YtohienhoifgmaaaGreatP49
import Derived.Test.YtohienhoifgmaaaGreatP19
import Derived.Test.YtohienhoifgmaaaGreatP20
import Derived.Test.YtohienhoifgmaaaGreatP47
import Derived.Test.YtohienhoifgmaaaGreatP48
import Derived.Test.YtohienhoifgmaaaGreatP42
import Derived.Test.YtohienhoifgmaaaGreatP53
import Derived.Test.YtohienhoifgmaaaGreatP37
import Derived.Test.YtohienhoifgmaaaGreatP43
import Derived.Test.YtohienhoifgmaaaGreatP51
import Derived.Test.YtohienhoifgmaaaGreatP52

namespace Go.Proofs.YtohienhoifgmaaaGreat
open Go Go.Sl
instance : ZeroT Tryz.prog 37 (.agg #[.int .u8 0, .int .u8 0, .int .u8 0]) := ⟨Tryz.zeroValue37⟩
instance : Und Tryz.prog 92 (Go.TypeDesc.slice 37) := ⟨Tryz.runUnderlying92, Tryz.underlying92⟩
instance : CallT Tryz.prog 26 := ⟨Tryz.call26⟩
instance : CallT Tryz.prog 29 := ⟨Tryz.call29⟩
instance : CallT Tryz.prog 38 := ⟨Tryz.call38⟩
instance : CallT Tryz.prog 75 := ⟨Tryz.call75⟩
end Go.Proofs.YtohienhoifgmaaaGreat

section
/- A log as an image tells: plain. No program. -/
namespace Go.Sl
open Go
namespace Lg
/-- segments, from the i-th on, are as told -/
def fillS : List (Int × Nat) → Nat → Tbl → Tbl
  | [], _, t => t
  | e :: l, i, t => fillS l (i + 1) (t.put i ⟨e.1, 0, e.2⟩)
/-- blocks, from the i-th on, lie where told -/
def fillM (s : Shp) : List Int → Nat → Lm × Tbl → Lm × Tbl
  | [], _, y => y
  | p :: l, i, y => fillM s l (i + 1) (if 0 ≤ p then (y.1.put i p, y.2.live (home s p) 1) else y)
def fill (x : Img) (g : Lg) : Lg :=
  let y := fillM g.sh x.map 0 (g.map, fillS x.segs 0 g.tbl)
  { g with seg := x.seg, idx := x.idx, map := y.1, tbl := y.2 }
theorem fillS_drop {l : List (Int × Nat)} {i : Nat} (h : i < l.length) (t : Tbl) : fillS (l.drop i) i t = fillS (l.drop (i + 1)) (i + 1) (t.put i ⟨l[i].1, 0, l[i].2⟩) := by
  rw [List.drop_eq_getElem_cons h]
  rfl
theorem fillM_drop {s : Shp} {l : List Int} {i : Nat} (h : i < l.length) (y : Lm × Tbl) : fillM s (l.drop i) i y = fillM s (l.drop (i + 1)) (i + 1) (if 0 ≤ l[i] then (y.1.put i l[i], y.2.live (home s l[i]) 1) else y) := by
  rw [List.drop_eq_getElem_cons h]
  rfl
/-- what was found of segments is told again -/
theorem fillS_get (l : List (Int × Nat)) : ∀ (n : Nat) (t : Tbl), n + l.length ≤ t.length → (fillS l n t).length = t.length ∧ ∀ (j : Nat) (h : j < (fillS l n t).length) (h' : j < t.length), (fillS l n t)[j] = if hj : n ≤ j ∧ j - n < l.length then ⟨l[j - n].1, 0, l[j - n].2⟩ else t[j] := by
  induction l with
  | nil =>
    intro n t _
    refine ⟨rfl, fun j h h' => ?_⟩
    rw [dif_neg (fun x => absurd x.2 (by simp))]
    rfl
  | cons e l ih =>
    intro n t hn
    rw [List.length_cons] at hn
    have hp : t.put (n : Int) ⟨e.1, 0, e.2⟩ = t.set n ⟨e.1, 0, e.2⟩ := by
      unfold Tbl.put Tbl.upd
      rw [if_pos (by unfold Tbl.has; simp; omega)]
      rfl
    obtain ⟨h1, h2⟩ := ih (n + 1) (t.put (n : Int) ⟨e.1, 0, e.2⟩) (by rw [hp, List.length_set]; omega)
    have hlen : (t.put (n : Int) ⟨e.1, 0, e.2⟩).length = t.length := by rw [hp, List.length_set]
    refine ⟨h1.trans hlen, fun j h h' => ?_⟩
    have h3 := h2 j h (by rw [hlen]; exact h')
    show (fillS l (n + 1) (t.put (n : Int) ⟨e.1, 0, e.2⟩))[j] = _
    rw [h3]
    by_cases hj : j = n
    · subst hj
      rw [dif_neg (fun x => absurd x.1 (by omega)), dif_pos ⟨by omega, by simp⟩]
      simp only [hp, List.getElem_set_self, Nat.sub_self, List.getElem_cons_zero]
    · by_cases hc : n + 1 ≤ j ∧ j - (n + 1) < l.length
      · rw [dif_pos hc, dif_pos ⟨by omega, by rw [List.length_cons]; omega⟩]
        have : j - n = (j - (n + 1)) + 1 := by omega
        simp only [this, List.getElem_cons_succ]
      · rw [dif_neg hc, dif_neg (fun x => hc ⟨by omega, by have := x.2; rw [List.length_cons] at this; omega⟩)]
        simp only [hp, List.getElem_set]
        rw [if_neg (by omega)]
end Lg
end Go.Sl
end

section
/- A log is as an image tells, as the program does it. -/
namespace Go.Proofs.YtohienhoifgmaaaGreat
open Go Go.Sl
attribute [local irreducible] Yl WL WC WQ WD
theorem big_put {m : Lm} (h : ∀ (k : Nat) (h : k < m.length), m[k] ≤ 1099511627776) (i p : Int) (hp : p ≤ 1048576) : ∀ (k : Nat) (h : k < (m.put i p).length), (m.put i p)[k] ≤ 1099511627776 := by
  intro k hk
  unfold Lm.put at hk ⊢
  split at hk
  · rename_i hc
    simp only [hc, if_true] 
    rw [List.getElem_set]
    split
    · omega
    · exact h k (by rw [List.length_set] at hk; exact hk)
  · rename_i hc
    simp only [hc]
    exact h k hk
set_option maxHeartbeats 4000000 in
theorem fill_spec (K : GK) (hok : K.k.sh.Ok) (g : Lg) (x : Img) (sv mv : Value) (hsh : g.sh = K.k.sh) (ht : g.tbl.length ≤ 65536) (hm : g.map.length ≤ 1048576) (hbig : ∀ (k : Nat) (h : k < g.map.length), g.map[k] ≤ 1099511627776)
    {segs stripes logical places : Nat} (hx : x.Fits segs stripes logical places) (hs1 : segs ≤ 65536) (hl1 : logical ≤ 1048576) (hpl : places ≤ 1048576) :
    Spec0 Tryz.prog 75 [vp K.lp, Img.val x sv mv] (fun h => Rd sv 2 (x.segs.flatMap isegCells) h ∧ Rd mv 1 (x.map.map vi) h) (fun F => LogB K g F) (fun _ : Unit => True) (fun _ => .tuple #[]) (fun _ F => LogB K (g.fill x) F) := by
  (refine spec_of Tryz.func75 rfl Tryz.ntmps75 rfl (fun F w0 hrd => ?_))
  haveI : RdIn F sv 2 (x.segs.flatMap isegCells) := ⟨fun h hs => (hrd h hs).1⟩
  haveI : RdIn F mv 1 (x.map.map vi) := ⟨fun h hs => (hrd h hs).2⟩
  have hn1 := hx.nsegs
  have hn2 := hx.nmap
  have hmm : (x.map.map vi).length = x.map.length := List.length_map ..
  have hsl := (bounds hok).slots
  refine walk ?_
  intro c3
  refine walk ?_
  (refine draw ?_; refine dy 0 ?_; refine dy 1 ?_; refine dy 2 ?_; refine dy 3 ?_; refine dy 4 ?_; refine dy 5 ?_; refine dy 6 ?_; refine dy 7 ?_; refine ddx 8 ?_)
  (refine walk ?_; refine dy 9 ?_; refine dy 10 ?_; refine ddx 11 ?_)
  (refine walk ?_)
  refine walk ?_
  refine wc_loop (X := Nat × Tbl) (fun y => [(0, vp K.lp), (3, vp c3), (19, sv), (20, vi x.segs.length), (21, vi y.1)]) (fun y => TblAt K.tp y.2 :: Cells c3 [.int .u64 (x.seq : Int), vi x.seg, vi x.idx, sv, mv] :: LCells K x.seg x.idx :: MapAt K.mp g.map :: F)
    (fun y => y.1 ≤ x.segs.length ∧ y.2.length = g.tbl.length ∧ Lg.fillS (x.segs.drop y.1) y.1 y.2 = Lg.fillS x.segs 0 g.tbl) (fun y => x.segs.length - y.1) (0, g.tbl) ⟨Nat.zero_le _, rfl, rfl⟩ envs permL (fun y hy => ?_)
  obtain ⟨i, t⟩ := y
  dsimp only at hy ⊢
  obtain ⟨hi, htl, hf⟩ := hy
  refine walk ?_
  refine wif_dec (fun hlt => ?_) (fun hlt => ?_)
  · have hlt : i < x.segs.length := by omega
    rw [Lg.fillS_drop hlt] at hf
    refine walk ?_
    intro c5
    generalize x.segs[i] = e at hf ⊢
    obtain ⟨ea, eb⟩ := e
    dsimp only [isegCells] at hf ⊢
    refine walk ?_
    (refine draw ?_; refine dy 0 ?_; refine dy 1 ?_; refine dy 2 ?_; refine dy 3 ?_; refine dy 4 ?_; refine dy 5 ?_; refine dy 6 ?_; refine dy 7 ?_; refine dy 8 ?_; refine dy 9 ?_; refine ddx 10 ?_)
    refine call (tset_spec K.tp t i ⟨ea, 0, eb⟩ (by omega)) ?_ (hg := frameL)
    intro _ _
    (refine walk ?_)
    refine walk ?_
    refine wq_round (i + 1, t.put i ⟨ea, 0, eb⟩) ⟨by dsimp only; omega, by dsimp only; rw [Tbl.put, Tbl.upd_length]; exact htl, hf⟩ (by dsimp only; omega) envs permL
  · obtain rfl : i = x.segs.length := by omega
    rw [List.drop_of_length_le (Nat.le_refl _)] at hf
    have hf : t = Lg.fillS x.segs 0 g.tbl := hf
    refine walk ?_
    refine wc_loop (X := Nat × Lm × Tbl) (fun y => [(0, vp K.lp), (3, vp c3), (39, mv), (40, vi x.map.length), (41, vi y.1)]) (fun y => TblAt K.tp y.2.2 :: MapAt K.mp y.2.1 :: Cells c3 [.int .u64 (x.seq : Int), vi x.seg, vi x.idx, sv, mv] :: LCells K x.seg x.idx :: F)
      (fun y => y.1 ≤ x.map.length ∧ y.2.2.length = g.tbl.length ∧ y.2.1.length = g.map.length ∧ (∀ (k : Nat) (h : k < y.2.1.length), y.2.1[k] ≤ 1099511627776) ∧ Lg.fillM K.k.sh (x.map.drop y.1) y.1 y.2 = Lg.fillM K.k.sh x.map 0 (g.map, t)) (fun y => x.map.length - y.1) (0, g.map, t) ⟨Nat.zero_le _, htl, rfl, hbig, rfl⟩ envs permL (fun y hy => ?_)
    obtain ⟨j, m, u⟩ := y
    dsimp only at hy ⊢
    obtain ⟨hj, hul, hml, hmb, hfm⟩ := hy
    refine walk ?_
    refine wif_dec (fun hlt2 => ?_) (fun hlt2 => ?_)
    · have hlt2 : j < x.map.length := by omega
      have hpm := hx.map _ (List.getElem_mem hlt2)
      rw [Lg.fillM_drop hlt2] at hfm
      refine walk ?_
      generalize x.map[j] = p at hpm hfm ⊢
      refine wif_dec (fun h0 => ?_) (fun h0 => ?_)
      · rw [if_pos h0] at hfm
        refine walk ?_
        refine call (mset_spec K.mp m j p (by omega) hmb (by omega)) ?_ (hg := frameL)
        intro _ _
        refine walk ?_
        (refine draw ?_; refine dy 0 ?_; refine dy 1 ?_; refine dy 2 ?_; refine dy 3 ?_; refine dy 4 ?_; refine dy 5 ?_; refine dy 6 ?_; refine dy 7 ?_; refine dy 8 ?_; refine dy 9 ?_; refine dy 10 ?_; refine dy 11 ?_; refine dy 12 ?_; refine ddx 13 ?_)
        refine call (spot_spec K.k.sh hok p (by omega)) ?_ (hg := frameL)
        intro _ _
        (refine walk ?_; refine dy 14 ?_; refine ddx 15 ?_)
        have hq : 0 ≤ p / K.k.sh.slots ∧ p / K.k.sh.slots ≤ p := ⟨Int.ediv_nonneg h0 (by omega), Int.ediv_le_self _ h0⟩
        refine call (segment_spec K.k.sh hok (p / K.k.sh.slots) (by omega)) ?_ (hg := frameL)
        intro _ _
        (refine walk ?_; refine ddx 16 ?_)
        refine call (tlive_spec K.tp u (p / K.k.sh.slots / K.k.sh.stripes) 1 (by omega)) ?_ (hg := frameL)
        intro _ _
        (refine walk ?_)
        refine walk ?_
        refine wq_round (j + 1, m.put j p, u.live (Lg.home K.k.sh p) 1) ⟨by dsimp only; omega, by dsimp only; rw [Tbl.live, Tbl.upd_length]; exact hul, by dsimp only; rw [Lm.put_length]; exact hml, big_put hmb _ _ (by omega), hfm⟩ (by dsimp only; omega) envs ?_
        show Ent _ (TblAt K.tp (u.live (p / K.k.sh.slots / K.k.sh.stripes) 1) :: MapAt K.mp (m.put j p) :: Cells c3 [.int .u64 (x.seq : Int), vi x.seg, vi x.idx, sv, mv] :: LCells K x.seg x.idx :: F)
        exact permL
      · rw [if_neg h0] at hfm
        refine walk ?_
        refine wq_round (j + 1, m, u) ⟨by dsimp only; omega, hul, hml, hmb, hfm⟩ (by dsimp only; omega) envs permL
    · obtain rfl : j = x.map.length := by omega
      rw [List.drop_of_length_le (Nat.le_refl _)] at hfm
      have hfm : (m, u) = Lg.fillM K.k.sh x.map 0 (g.map, t) := hfm
      refine walk ?_
      refine wq_end0 rfl () rfl trivial ?_
      have e1 : (g.fill x).map = m := by show (Lg.fillM g.sh x.map 0 (g.map, Lg.fillS x.segs 0 g.tbl)).1 = m; rw [hsh, ← hf, ← hfm]
      have e2 : (g.fill x).tbl = u := by show (Lg.fillM g.sh x.map 0 (g.map, Lg.fillS x.segs 0 g.tbl)).2 = u; rw [hsh, ← hf, ← hfm]
      show Ent _ (LCells K x.seg x.idx :: MapAt K.mp (g.fill x).map :: TblAt K.tp (g.fill x).tbl :: F)
      rw [e1, e2]
      exact permL
end Go.Proofs.YtohienhoifgmaaaGreat
end

section
/- The log of the checkpoint that holds, as the program finds it. -/
namespace Go.Sl
open Go
/-- the pages of a region, one behind the other -/
def loadPages (s : Shp) (reg : Int) : Nat → Nat → List Bytes → Rig → Out Rig (List Bytes × Int)
  | 0, _, acc, r => .ok (acc, 0) r
  | n + 1, i, acc, r => (asame s (s.pageAt reg i) r).bind fun x r => if x.2 ≠ 0 then .ok ([], x.2) r else loadPages s reg n (i + 1) (acc ++ [x.1]) r
/-- the log of the checkpoint that holds, or why there is none; the members are as r tells behind it -/
def loadL (s : Shp) (r : Rig) : Out Rig (Option Lg × Int × Int) :=
  (loadPages s (r.nv.root.gen % 2) s.pages.toNat 0 [] r).bind fun x r' => if x.2 ≠ 0 then .ok (none, 0, x.2) r' else
    match Img.dec s.block.toNat r.nv.root.gen.toNat s.pages.toNat s.segments.toNat s.stripes.toNat s.logical.toNat (s.all * s.slots).toNat x.1 with
    | .inr e => .ok (none, 0, e) r'
    | .inl y => .ok (some (Lg.fill y (Lg.fresh r')), y.seq, 0) r'
end Go.Sl
namespace Go.Proofs.YtohienhoifgmaaaGreat
open Go Go.Sl
attribute [local irreducible] Yl WL WC WQ WD
theorem decode_spec' (s : Shp) (h : s.Ok) (gen : Int) (h0 : 0 ≤ gen) (v : Value) (rows : List Row) (hn : (rows.length : Int) = s.pages) (hb : ∀ r ∈ rows, r.2.length = s.block.toNat) {res : Img ⊕ Int} (hres : res = Img.dec s.block.toNat gen.toNat s.pages.toNat s.segments.toNat s.stripes.toNat s.logical.toNat (s.all * s.slots).toNat (rows.map (·.2))) :
    Spec0 Tryz.prog 28 [Shp.val s, .int .u64 gen, v] (fun h => Rd v 1 (rows.map (·.1)) h ∧ ∀ r ∈ rows, Rd r.1 1 (r.2.map vb) h) (fun F => F) (fun _ : Value × Value => True) (fun r => decV res r) (fun r F => decP res r F) := by
  have := decode_spec s h gen.toNat v rows hn hb hres
  rwa [Int.toNat_of_nonneg h0] at this
/-- what a loaded log consists of, beyond the memory and the members -/
def loadV (K : GK) (a : Option Lg × Int × Int) : Value := .tuple #[match a.1 with | some _ => vp K.lp | none => .pointer none, .int .u64 a.2.1, vi a.2.2]
def loadR (K : GK) (a : Option Lg × Int × Int) (F : List HP) : List HP := match a.1 with
  | some h => LCells K h.seg h.idx :: MapAt K.mp h.map :: TblAt K.tp h.tbl :: Cells K.k.a [vi K.k.sh.members, vi K.k.sh.block, vi K.k.sh.segments, vi K.k.sh.stripes, vi K.k.sh.nv, vi K.k.sh.logical, K.k.lv, vp K.k.n, .bool h.rig.broken] :: Sl K.k.lv 1 (K.k.ps.map dev) :: F
  | none => F
set_option maxHeartbeats 8000000 in
theorem cload_spec (n pp : Nat) (ps : List Nat) (r : Rig) (hok : r.nv.root.shape.Ok) (hps : (ps.length : Int) = r.nv.root.shape.members) (hg0 : 0 ≤ r.nv.root.gen) (dv : Value)
    (I : Rig → Prop) (h0 : I { r with broken := false }) (hI : ∀ (i : Nat) (r1 r2 : Rig) (x : Bytes × Int), (i : Int) < r.nv.root.shape.pages → I r1 → asame r.nv.root.shape (r.nv.root.shape.pageAt (r.nv.root.gen % 2) i) r1 = .ok x r2 → x.2 = 0 → I r2 ∧ x.1.length = r.nv.root.shape.block.toNat ∧ r2.nv.root.shape = r.nv.root.shape)
    (y : Img) (hy : y.Fits r.nv.root.shape.segments.toNat r.nv.root.shape.stripes.toNat r.nv.root.shape.logical.toNat (r.nv.root.shape.all * r.nv.root.shape.slots).toNat)
    (hdec : ∀ (l : List Bytes) (r2 : Rig), loadPages r.nv.root.shape (r.nv.root.gen % 2) r.nv.root.shape.pages.toNat 0 [] { r with broken := false } = .ok (l, 0) r2 → Img.dec r.nv.root.shape.block.toNat r.nv.root.gen.toNat r.nv.root.shape.pages.toNat r.nv.root.shape.segments.toNat r.nv.root.shape.stripes.toNat r.nv.root.shape.logical.toNat (r.nv.root.shape.all * r.nv.root.shape.slots).toNat l = .inl y) :
    SpecG Tryz.prog outage 29 [dv, vp n] (Rd dv 1 (ps.map dev)) (fun s F => NvAt n pp s.nv :: PowAt pp s.pow :: Dks pp ps s.ds :: F) (loadL r.nv.root.shape { r with broken := false }) r
      (fun (K : GK) _ => K.k.n = n ∧ K.k.pp = pp ∧ K.k.ps = ps ∧ K.k.sh = r.nv.root.shape) (fun K a => loadV K a) (fun K a F => loadR K a F) := by
  (refine spec_of Tryz.func29 rfl Tryz.ntmps29 rfl (fun F w0 hrd => ?_))
  haveI : RdIn F dv 1 (ps.map dev) := ⟨hrd⟩
  obtain ⟨s, hs⟩ : ∃ s, s = r.nv.root.shape := ⟨_, rfl⟩
  rw [← hs] at hok hps hI hy hdec ⊢
  obtain ⟨d, hd⟩ : ∃ d, loadL s { r with broken := false } = d := ⟨_, rfl⟩
  rw [hd]
  unfold loadL at hd
  have hgen : ({ r with broken := false } : Rig).nv.root.gen = r.nv.root.gen := rfl
  rw [hgen] at hd
  obtain ⟨gen, hge⟩ : ∃ gen, gen = r.nv.root.gen := ⟨_, rfl⟩
  rw [← hge] at hd hI hg0 hdec
  have hpg := (bounds hok).pages
  have hdev : ∀ Γ, OneIn Γ (ps.map dev) := fun Γ => ⟨fun _ _ u hu => by obtain ⟨p, _, rfl⟩ := List.mem_map.1 hu; rfl⟩
  refine walk ?_
  refine call (anew_spec n pp r.nv (by rw [← hs]; exact hok) dv (ps.map dev) hdev (by rw [List.length_map, ← hs]; exact hps)) ?_ (hg := frameL)
  intro yy _
  obtain ⟨a', lv'⟩ := yy
  dsimp only
  rw [← hs]
  refine walk ?_
  refine wif_dec (fun hz => absurd rfl hz) (fun _ => ?_)
  refine walk ?_
  refine call (lnew_spec ⟨a', n, pp, ps, lv', s⟩ hok r.nv hs.symm) ?_ (hg := frameL)
  intro K0 _
  refine walk ?_
  refine call (nroot_spec n pp r.nv) ?_ (hg := frameL)
  intro _ _
  refine walk ?_
  refine call (pages_spec s hok) ?_ (hg := frameL)
  intro _ _
  refine walk ?_
  obtain ⟨N, hN⟩ : ∃ N : Nat, s.pages = N := ⟨s.pages.toNat, by omega⟩
  rw [hN, Int.toNat_natCast] at hd hdec
  rw [← hge, hN]
  obtain ⟨k, hk⟩ : ∃ k : Keys, k = ⟨a', n, pp, ps, lv', s⟩ := ⟨_, rfl⟩
  have hkO : k.Ok := by rw [hk]; exact ⟨hok, hps⟩
  obtain ⟨G, hG⟩ : ∃ G : GK, G = ⟨K0.lp, k, K0.mp, K0.tp⟩ := ⟨_, rfl⟩
  refine wc_loop (X := Nat × Value × List Row × Rig) (fun y => [(1, vp n), (7, vp a'), (9, vp K0.lp), (10, .int .u64 gen), (11, y.2.1), (35, vi N), (36, vi y.1)])
    (fun y => Sl y.2.1 1 (y.2.2.1.map (·.1)) :: Pool y.2.2.1 :: Cells K0.lp [vi s.members, vi s.block, vi s.segments, vi s.stripes, vi s.nv, vi s.logical, vp a', vp n, vp K0.mp, vp K0.tp, vi 0, vi 0] :: MapAt K0.mp (List.replicate s.logical.toNat (-1)) :: TblAt K0.tp (Tbl.open_ (List.replicate s.segments.toNat Seg.zero) 0) :: RigAt ⟨a', n, pp, ps, lv', s⟩ y.2.2.2 F)
    (fun y => y.1 ≤ N ∧ y.2.2.1.length = y.1 ∧ (∀ q ∈ y.2.2.1, q.2.length = s.block.toNat) ∧ I y.2.2.2 ∧ y.2.2.2.nv.root.shape = s ∧ loadPages s (gen % 2) (N - y.1) y.1 (y.2.2.1.map (·.2)) y.2.2.2 = loadPages s (gen % 2) N 0 [] { r with broken := false }) (fun y => N - y.1)
    (0, .slice none 0 0, [], { r with broken := false }) ⟨Nat.zero_le _, rfl, (fun q hq => by cases hq), h0, hs.symm, rfl⟩ envs ?_ (fun yy hyy => ?_)
  · refine Ent.trans Pool.nil ?_
    refine Ent.trans (sl_nil 1) ?_
    show Ent _ (Sl (.slice none 0 0) 1 [] :: Pool [] :: Cells K0.lp [vi s.members, vi s.block, vi s.segments, vi s.stripes, vi s.nv, vi s.logical, vp a', vp n, vp K0.mp, vp K0.tp, vi 0, vi 0] :: MapAt K0.mp (List.replicate s.logical.toNat (-1)) :: TblAt K0.tp (Tbl.open_ (List.replicate s.segments.toNat Seg.zero) 0) :: Cells a' [vi s.members, vi s.block, vi s.segments, vi s.stripes, vi s.nv, vi s.logical, lv', vp n, .bool false] :: Sl lv' 1 (ps.map dev) :: NvAt n pp r.nv :: PowAt pp r.pow :: Dks pp ps r.ds :: F)
    exact permL
  obtain ⟨i, pv, rows, r1⟩ := yy
  dsimp only at hyy ⊢
  obtain ⟨hiN, hrl, hrb, hI1, hsh1, hlp⟩ := hyy
  have hrowl : (rows.map (·.1)).length = rows.length := List.length_map ..
  rw [← hlp] at hd
  refine walk ?_
  refine wif_dec (fun hlt => ?_) (fun hlt => ?_)
  · have hlt : i < N := by omega
    obtain ⟨M, hM⟩ : ∃ M, N - i = M + 1 := ⟨N - i - 1, by omega⟩
    rw [hM] at hd hlp
    refine walk ?_
    refine call (pageAt_spec s hok (gen % 2) i (by omega) (by omega)) ?_ (hg := frameL)
    intro _ _
    refine walk ?_
    have hlpd : loadPages s (gen % 2) (M + 1) i (rows.map (·.2)) r1 = (asame s (s.pageAt (gen % 2) i) r1).bind fun x r => if x.2 ≠ 0 then .ok ([], x.2) r else loadPages s (gen % 2) M (i + 1) (rows.map (·.2) ++ [x.1]) r := rfl
    rw [hlpd] at hd hlp
    have hkO' : Keys.Ok ⟨a', n, pp, ps, lv', s⟩ := ⟨hok, hps⟩
    refine gcall (asame_spec ⟨a', n, pp, ps, lv', s⟩ hkO' r1 (s.pageAt (gen % 2) i)) (fun s' hg => ⟨s', ?_, ?_⟩) (fun v x r2 h1 _ => ?_) (hg := frameL)
    · rw [hg] at hd; exact hd.symm
    · exact permL
    rw [h1] at hd hlp
    refine walk ?_
    refine wif_dec (fun hc => ?_) (fun hc => ?_)
    · have hd : (if x.2 ≠ 0 then Out.ok ([], x.2) r2 else loadPages s (gen % 2) M (i + 1) (rows.map (·.2) ++ [x.1]) r2).bind (fun x r' => if x.2 ≠ 0 then .ok ((none : Option Lg), (0 : Int), x.2) r' else match Img.dec s.block.toNat gen.toNat N s.segments.toNat s.stripes.toNat s.logical.toNat (s.all * s.slots).toNat x.1 with | .inr e => .ok (none, 0, e) r' | .inl y => .ok (some (Lg.fill y (Lg.fresh r')), (y.seq : Int), 0) r') = d := hd
      rw [if_pos hc] at hd
      have hd : (if x.2 ≠ 0 then Out.ok ((none : Option Lg), (0 : Int), x.2) r2 else match Img.dec s.block.toNat gen.toNat N s.segments.toNat s.stripes.toNat s.logical.toNat (s.all * s.slots).toNat [] with | .inr e => .ok (none, 0, e) r2 | .inl y => .ok (some (Lg.fill y (Lg.fresh r2)), (y.seq : Int), 0) r2) = d := hd
      rw [if_pos hc] at hd
      refine walk ?_
      refine wq_ret3 rfl rfl rfl rfl (G, (none, 0, x.2), r2) rfl ⟨hd.symm, by rw [hG, hk]; exact ⟨rfl, rfl, rfl, rfl⟩⟩ ?_
      show Ent _ (NvAt n pp r2.nv :: PowAt pp r2.pow :: Dks pp ps r2.ds :: F)
      exact permL
    · have hc0 : x.2 = 0 := Classical.not_not.1 hc
      obtain ⟨hI2, hxl, hsh2⟩ := hI i r1 r2 x (by omega) hI1 h1 hc0
      have hlp : (if x.2 ≠ 0 then Out.ok ([], x.2) r2 else loadPages s (gen % 2) M (i + 1) (rows.map (·.2) ++ [x.1]) r2) = loadPages s (gen % 2) N 0 [] { r with broken := false } := hlp
      rw [if_neg hc] at hlp
      refine walk ?_
      intro u _ _
      refine walk ?_
      intro pv' _ _
      refine walk ?_
      refine wq_round (i + 1, pv', rows ++ [(v, x.1)], r2) ⟨by dsimp only; omega, by dsimp only; rw [List.length_append, hrl]; rfl, ?_, hI2, hsh2, ?_⟩ (by dsimp only; omega) envs ?_
      · intro q hq
        rcases List.mem_append.1 hq with hq | hq
        · exact hrb q hq
        · rw [List.mem_singleton.1 hq]; exact hxl
      · dsimp only
        rw [show N - (i + 1) = M by omega, List.map_append]
        exact hlp
      · dsimp only
        rw [List.map_append]
        refine Ent.trans (Γ' := SlB v x.1 :: Pool rows :: Sl pv' 1 (rows.map (·.1) ++ [v]) :: Cells K0.lp [vi s.members, vi s.block, vi s.segments, vi s.stripes, vi s.nv, vi s.logical, vp a', vp n, vp K0.mp, vp K0.tp, vi 0, vi 0] :: MapAt K0.mp (List.replicate s.logical.toNat (-1)) :: TblAt K0.tp (Tbl.open_ (List.replicate s.segments.toNat Seg.zero) 0) :: RigAt ⟨a', n, pp, ps, lv', s⟩ r2 F) permL (Ent.trans Pool.put (Ent.trans (Pool.sub (rows' := rows ++ [(v, x.1)]) (fun q hq => ?_)) permL))
        rcases List.mem_append.1 hq with hq | hq
        · exact List.mem_cons_of_mem _ hq
        · rw [List.mem_singleton.1 hq]; exact List.mem_cons_self
  · obtain rfl : i = N := by omega
    rw [Nat.sub_self] at hd hlp
    have hlp : Out.ok (rows.map (·.2), (0 : Int)) r1 = loadPages s (gen % 2) i 0 [] { r with broken := false } := hlp
    have hdc := hdec _ _ hlp.symm
    have hd : (match Img.dec s.block.toNat gen.toNat i s.segments.toNat s.stripes.toNat s.logical.toNat (s.all * s.slots).toNat (rows.map (·.2)) with | .inr e => .ok ((none : Option Lg), (0 : Int), e) r1 | .inl y => .ok (some (Lg.fill y (Lg.fresh r1)), (y.seq : Int), (0 : Int)) r1) = d := hd
    rw [hdc] at hd
    have hd : Out.ok (some (Lg.fill y (Lg.fresh r1)), (y.seq : Int), (0 : Int)) r1 = d := hd
    haveI : ∀ Γ : List HP, ReadIn (Pool rows :: Γ) (fun h => ∀ r ∈ rows, Rd r.1 1 (r.2.map vb) h) := fun Γ => ⟨fun h hs r hr => (Pool.rdIn' hr : RdIn (Pool rows :: Γ) _ _ _).rd h hs⟩
    have hpn : s.pages.toNat = i := by omega
    refine walk ?_
    refine call (decode_spec' s hok gen hg0 pv rows (by omega) hrb (res := .inl y) (by rw [hpn]; exact hdc.symm)) ?_ (hg := frameL) (hr := fun h hs => ⟨RdIn.rd h hs, ReadIn.rd (rd := fun h => ∀ r ∈ rows, Rd r.1 1 (r.2.map vb) h) h hs⟩)
    intro z _
    obtain ⟨sv, mv⟩ := z
    dsimp only [decV, decP]
    refine walk ?_
    intro c15
    refine walk ?_
    refine wif_dec (fun hz => absurd rfl hz) (fun _ => ?_)
    have e1 : (Lg.fresh r1).map = List.replicate s.logical.toNat (-1) := by unfold Lg.fresh; rw [hsh1]
    have e2 : (Lg.fresh r1).tbl = Tbl.open_ (List.replicate s.segments.toNat Seg.zero) 0 := by unfold Lg.fresh Tbl.fresh; rw [hsh1]
    have hsg := hok.segments
    have hlo := (bounds hok).logical
    have ht : (Lg.fresh r1).tbl.length ≤ 65536 := by rw [e2]; unfold Tbl.open_; rw [Tbl.upd_length, List.length_replicate]; omega
    have hm : (Lg.fresh r1).map.length ≤ 1048576 := by rw [e1, List.length_replicate]; omega
    have hbig : ∀ (k : Nat) (h : k < (Lg.fresh r1).map.length), (Lg.fresh r1).map[k] ≤ 1099511627776 := by
      rw [e1]
      intro k h
      rw [List.getElem_replicate]
      decide
    refine WC.ent (Γ' := Cells c15 [.int .u64 (y.seq : Int), vi y.seg, vi y.idx, sv, mv] :: Sl sv 2 (y.segs.flatMap isegCells) :: Sl mv 1 (y.map.map vi) :: LogB ⟨K0.lp, ⟨a', n, pp, ps, lv', s⟩, K0.mp, K0.tp⟩ (Lg.fresh r1) (RigAt ⟨a', n, pp, ps, lv', s⟩ r1 F)) ?_ ?_
    · show Ent _ (Cells c15 [.int .u64 (y.seq : Int), vi y.seg, vi y.idx, sv, mv] :: Sl sv 2 (y.segs.flatMap isegCells) :: Sl mv 1 (y.map.map vi) :: Cells K0.lp [vi s.members, vi s.block, vi s.segments, vi s.stripes, vi s.nv, vi s.logical, vp a', vp n, vp K0.mp, vp K0.tp, vi 0, vi 0] :: MapAt K0.mp (Lg.fresh r1).map :: TblAt K0.tp (Lg.fresh r1).tbl :: RigAt ⟨a', n, pp, ps, lv', s⟩ r1 F)
      rw [e1, e2]
      exact permL
    refine walk ?_
    refine call (fill_spec ⟨K0.lp, ⟨a', n, pp, ps, lv', s⟩, K0.mp, K0.tp⟩ hok (Lg.fresh r1) y sv mv hsh1 ht hm hbig hy (by omega) (by omega) (places_small hok)) ?_ (hg := frameL) (hr := fun h hs => ⟨RdIn.rd h hs, RdIn.rd h hs⟩)
    intro _ _
    refine walk ?_
    (refine draw ?_; refine dy 0 ?_; refine dy 1 ?_; refine dy 2 ?_; refine dy 3 ?_; refine dy 4 ?_; refine dy 5 ?_; refine walk ?_)
    refine wq_ret3 rfl rfl rfl rfl (⟨K0.lp, ⟨a', n, pp, ps, lv', s⟩, K0.mp, K0.tp⟩, (some (Lg.fill y (Lg.fresh r1)), y.seq, 0), r1) rfl ⟨hd.symm, ⟨rfl, rfl, rfl, rfl⟩⟩ ?_
    show Ent _ (LCells ⟨K0.lp, ⟨a', n, pp, ps, lv', s⟩, K0.mp, K0.tp⟩ (Lg.fill y (Lg.fresh r1)).seg (Lg.fill y (Lg.fresh r1)).idx :: MapAt K0.mp (Lg.fill y (Lg.fresh r1)).map :: TblAt K0.tp (Lg.fill y (Lg.fresh r1)).tbl :: Cells a' [vi s.members, vi s.block, vi s.segments, vi s.stripes, vi s.nv, vi s.logical, lv', vp n, .bool r1.broken] :: Sl lv' 1 (ps.map dev) :: NvAt n pp r1.nv :: PowAt pp r1.pow :: Dks pp ps r1.ds :: F)
    exact permL
end Go.Proofs.YtohienhoifgmaaaGreat
end

section
/- A log that is found again is the one that was covered: plain. No program. -/
namespace Go.Sl
open Go
theorem lives_cons (s : Shp) (p : Int) (l : List Int) (i : Int) : Lg.lives s (p :: l) i = Lg.lives s l i + if 0 ≤ p ∧ Lg.home s p = i then 1 else 0 := by
  unfold Lg.lives
  rw [List.countP_cons]
  by_cases h : 0 ≤ p ∧ Lg.home s p = i
  · rw [if_pos h, if_pos (by simpa using h)]
  · rw [if_neg h, if_neg (by simpa using h)]
theorem put_nat {m : Lm} {n : Nat} (h : n < m.length) {p : Int} (hp : -1 ≤ p) : m.put n p = m.set n p := by
  unfold Lm.put
  rw [if_pos (by unfold Lm.has; simp; omega), show max p (-1) = p by omega]
  rfl
/-- blocks are told: where they lie, how many live -/
theorem fillM_spec (s : Shp) (l : List Int) : ∀ (n : Nat) (m : Lm) (u : Tbl), n + l.length = m.length → (∀ p ∈ l, -1 ≤ p) → (∀ (j : Nat) (h : j < m.length), n ≤ j → m[j] = -1) →
    (∀ i, u.has i = true → 0 ≤ (u.see i).live ∧ (u.see i).live + l.length ≤ 1000000000) →
    (Lg.fillM s l n (m, u)).1 = m.take n ++ l ∧ (Lg.fillM s l n (m, u)).2.length = u.length ∧
    ∀ i, ((Lg.fillM s l n (m, u)).2.see i).state = (u.see i).state ∧ ((Lg.fillM s l n (m, u)).2.see i).born = (u.see i).born ∧ (u.has i = true → ((Lg.fillM s l n (m, u)).2.see i).live = (u.see i).live + Lg.lives s l i) := by
  induction l with
  | nil =>
    intro n m u hn _ _ _
    refine ⟨?_, rfl, fun i => ⟨rfl, rfl, fun _ => ?_⟩⟩
    · show m = _
      rw [List.append_nil, List.take_of_length_le (by simp at hn; omega)]
    · show _ = _ + ((0 : Nat) : Int)
      simp [Lg.fillM]
  | cons p l ih =>
    intro n m u hn hp hm hu
    rw [List.length_cons] at hn
    have hp1 := hp p List.mem_cons_self
    have hnl : n < m.length := by omega
    have hpr : ∀ q ∈ l, -1 ≤ q := fun q hq => hp q (List.mem_cons_of_mem _ hq)
    show (Lg.fillM s l (n + 1) (if 0 ≤ p then (m.put n p, u.live (Lg.home s p) 1) else (m, u))).1 = _ ∧ (Lg.fillM s l (n + 1) (if 0 ≤ p then (m.put n p, u.live (Lg.home s p) 1) else (m, u))).2.length = _ ∧
      ∀ i, ((Lg.fillM s l (n + 1) (if 0 ≤ p then (m.put n p, u.live (Lg.home s p) 1) else (m, u))).2.see i).state = _ ∧ ((Lg.fillM s l (n + 1) (if 0 ≤ p then (m.put n p, u.live (Lg.home s p) 1) else (m, u))).2.see i).born = _ ∧ (_ → ((Lg.fillM s l (n + 1) (if 0 ≤ p then (m.put n p, u.live (Lg.home s p) 1) else (m, u))).2.see i).live = _)
    have htk : m.take (n + 1) = m.take n ++ [m[n]] := by rw [List.take_add_one, List.getElem?_eq_getElem hnl]; rfl
    by_cases h0 : 0 ≤ p
    · rw [if_pos h0, put_nat hnl hp1]
      obtain ⟨h1, h2, h3⟩ := ih (n + 1) (m.set n p) (u.live (Lg.home s p) 1) (by rw [List.length_set]; omega) hpr (fun j hj hjn => by
        rw [List.getElem_set, if_neg (by omega)]; exact hm j (by rw [List.length_set] at hj; exact hj) (by omega)) (fun i hi => by
        have hi : u.has i = true := by rw [Lg.has_live] at hi; exact hi
        have := hu i hi
        rw [List.length_cons] at this
        rw [Lg.see_live]
        split
        · rename_i hc
          rw [hc.1] at this
          dsimp only
          rw [Lg.w64_small (by omega)]
          omega
        · omega)
      refine ⟨?_, h2.trans (Tbl.upd_length _ _ _), fun i => ?_⟩
      · rw [h1, List.take_set, htk, List.set_append_right _ _ (by rw [List.length_take]; omega)]
        rw [List.length_take, show n - min n m.length = 0 by omega]
        simp
      · obtain ⟨q1, q2, q3⟩ := h3 i
        refine ⟨q1.trans ?_, q2.trans ?_, fun hi => (q3 (by rw [Lg.has_live]; exact hi)).trans ?_⟩
        · rw [Lg.see_live]; split
          · rename_i hc; rw [hc.1]
          · rfl
        · rw [Lg.see_live]; split
          · rename_i hc; rw [hc.1]
          · rfl
        · have hui := hu i hi
          rw [List.length_cons] at hui
          rw [Lg.see_live, lives_cons]
          by_cases hc : i = Lg.home s p
          · have hi2 := hi
            rw [hc] at hi2
            rw [if_pos ⟨hc, hi2⟩, if_pos ⟨h0, hc.symm⟩]
            rw [hc] at hui
            dsimp only
            rw [Lg.w64_small (by omega), hc]
            omega
          · rw [if_neg (fun x => hc x.1), if_neg (fun x => hc x.2.symm)]
            omega
    · rw [if_neg h0]
      obtain ⟨h1, h2, h3⟩ := ih (n + 1) m u (by omega) hpr (fun j hj hjn => hm j hj (by omega)) (fun i hi => by have := hu i hi; rw [List.length_cons] at this; omega)
      have hpe : p = -1 := by omega
      refine ⟨?_, h2, fun i => ?_⟩
      · rw [h1, htk, hm n hnl (Nat.le_refl _), hpe]
        simp
      · obtain ⟨q1, q2, q3⟩ := h3 i
        refine ⟨q1, q2, fun hi => ?_⟩
        rw [q3 hi, lives_cons, if_neg (fun x => h0 x.1)]
        omega
theorem fresh_len (n : Nat) : (Tbl.fresh n).length = n := by unfold Tbl.fresh Tbl.open_; rw [Tbl.upd_length]; simp
/-- what is covered is found again -/
theorem load_same' {b : Bok} {g : Lg} (hrel : Rel b g) (hi : g.Inv) (hfair : b.Fair) (hd : ∀ s ∈ g.tbl, ¬ (s.state = 2 ∧ s.live = 0)) {r1 : Rig} (hs : r1.nv.root.shape = g.sh) : Lg.fill g.image (Lg.fresh r1) = g.up r1 := by
  have htl := hi.tlen
  have hml := hi.len
  have hsg := hi.shok.segments
  have hsm := hi.small
  have e1 : (Lg.fresh r1).map = List.replicate g.map.length (-1) := by
    unfold Lg.fresh
    rw [hs]
    dsimp only
    congr 1
    omega
  have e2 : (Lg.fresh r1).tbl = Tbl.fresh g.tbl.length := by
    unfold Lg.fresh
    rw [hs]
    dsimp only
    congr 1
    omega
  have hil : g.image.segs.length = g.tbl.length := by show (g.tbl.map _).length = _; rw [List.length_map]
  obtain ⟨u, hu⟩ : ∃ u, u = Lg.fillS g.image.segs 0 (Tbl.fresh g.tbl.length) := ⟨_, rfl⟩
  obtain ⟨s1, s2⟩ := Lg.fillS_get g.image.segs 0 (Tbl.fresh g.tbl.length) (by rw [fresh_len, hil]; omega)
  rw [← hu, fresh_len] at s1
  have hu2 : ∀ (j : Nat) (hj : j < u.length) (hj' : j < g.tbl.length), u[j] = ⟨g.tbl[j].state, 0, g.tbl[j].born⟩ := fun j hj hj' => by
    have h1 := s2 j (by rw [← hu]; exact hj) (by rw [fresh_len]; exact hj')
    simp only [← hu] at h1
    rw [h1, dif_pos ⟨Nat.zero_le _, by omega⟩]
    have hg : g.image.segs[j]'(by omega) = if g.tbl[j].state = 2 ∧ g.tbl[j].live = 0 then (0, 0) else (g.tbl[j].state, g.tbl[j].born.toNat) := List.getElem_map _
    rw [if_neg (hd _ (List.getElem_mem hj'))] at hg
    simp only [Nat.sub_zero, hg]
    have hb := (hfair.born g.tbl[j].born (by rw [hrel.born]; exact List.mem_map.2 ⟨_, List.getElem_mem hj', rfl⟩)).1
    congr 1
    omega
  have hhas : ∀ i, u.has i = true → ∃ j : Nat, i = j ∧ j < g.tbl.length := fun i hi => by
    have : 0 ≤ i ∧ i < u.length := by simpa [Tbl.has] using hi
    exact ⟨i.toNat, by omega, by omega⟩
  obtain ⟨f1, f2, f3⟩ := fillM_spec g.sh g.map 0 (List.replicate g.map.length (-1)) u (by simp) hi.map (fun j hj _ => List.getElem_replicate _) (fun i hii => by
    obtain ⟨j, rfl, hj⟩ := hhas i hii
    rw [Tbl.see_get (by omega), hu2 j (by omega) hj]
    dsimp only
    omega)
  rw [List.take_zero, List.nil_append] at f1
  have hsh : (Lg.fresh r1).sh = g.sh := hs
  have hm : (Lg.fill g.image (Lg.fresh r1)).map = g.map := by
    show (Lg.fillM (Lg.fresh r1).sh g.map 0 ((Lg.fresh r1).map, Lg.fillS g.image.segs 0 (Lg.fresh r1).tbl)).1 = _
    rw [hsh, e1, e2, ← hu]
    exact f1
  have ht : (Lg.fill g.image (Lg.fresh r1)).tbl = g.tbl := by
    show (Lg.fillM (Lg.fresh r1).sh g.map 0 ((Lg.fresh r1).map, Lg.fillS g.image.segs 0 (Lg.fresh r1).tbl)).2 = _
    rw [hsh, e1, e2, ← hu]
    apply List.ext_getElem
    · rw [f2, s1]
    · intro j h1 h2
      have h3 : j < u.length := by rw [s1]; exact h2
      obtain ⟨q1, q2, q3⟩ := f3 j
      have hh : u.has (j : Int) = true := by unfold Tbl.has; simp; omega
      have q3 := q3 hh
      rw [Tbl.see_get h1, Tbl.see_get h3, hu2 j h3 h2] at q1 q2 q3
      dsimp only at q1 q2 q3
      have hv := hi.toOk.live_get h2
      rw [← hv] at q3
      generalize (Lg.fillM g.sh g.map 0 (List.replicate g.map.length (-1), u)).2[j] = z at q1 q2 q3
      obtain ⟨za, zb, zc⟩ := z
      dsimp only at q1 q2 q3
      rw [q1, q2, show zb = g.tbl[j].live by omega]
  show Lg.mk (Lg.fresh r1).rig (Lg.fill g.image (Lg.fresh r1)).map (Lg.fill g.image (Lg.fresh r1)).tbl g.image.seg g.image.idx = Lg.mk r1 g.map g.tbl g.seg g.idx
  rw [hm, ht]
  rfl
theorem load_same {b : Bok} {g : Lg} (h : Play b g) (hd : ∀ s ∈ g.tbl, ¬ (s.state = 2 ∧ s.live = 0)) {r1 : Rig} (hs : r1.nv.root.shape = g.sh) : Lg.fill g.image (Lg.fresh r1) = g.up r1 := load_same' h.rel h.inv h.fair hd hs
end Go.Sl
end

section
/- The checkpoint that holds is found, whichever one member isn't there. -/
namespace Go.Sl
open Go
theorem Good.one {m : Nat} {s : Shp} {r : Rig} (_h : Good m r) (hf : Fits s r) (hs : s.Ok) : ¬ ∀ i, i < r.ds.length → (i : Int) = r.stale := fun x => by
  have hm := hf.many
  have h1 := hs.members
  have a := x 0 (by omega)
  have b := x 1 (by omega)
  omega
theorem page_at {s : Shp} (hs : s.Ok) {reg : Int} (hr : 0 ≤ reg ∧ reg ≤ 1) {i : Nat} (hi : (i : Int) < s.pages) : 0 ≤ s.pageAt reg i ∧ s.pageAt reg i < s.sectors := by
  have hp0 : 0 ≤ reg * s.pages := Int.mul_nonneg hr.1 (by omega)
  have hp1 : reg * s.pages ≤ s.pages := by
    rcases (by omega : reg = 0 ∨ reg = 1) with e | e <;> rw [e] <;> omega
  have hall : 0 ≤ s.all := by
    have h1 := hs.segments
    have h2 := hs.stripes
    exact Int.mul_nonneg (by omega) (by omega)
  unfold Shp.pageAt Shp.sectors
  omega
/-- what is asked of a rig of which pages are read -/
structure Pgd (s : Shp) (m : Nat) (reg : Int) (l : List Bytes) (r : Rig) : Prop where
  fits : Fits s r
  good : Good m r
  pages : Paged s r reg l
  shape : r.nv.root.shape = s
theorem Tr0.shape {S : Nat → Int → Prop} {a b : Rig} (h : Tr0 S a b) : b.nv.root.shape = a.nv.root.shape := by rw [h.nv]
theorem Pgd.tr {s : Shp} {m : Nat} {reg : Int} {l : List Bytes} {r r' : Rig} (h : Pgd s m reg l r) (t : Tr0 S0 r r') : Pgd s m reg l r' :=
  ⟨h.fits.tr t, h.good.tr t, h.pages.tr t (fun _ _ _ _ x => x), t.shape.trans h.shape⟩
theorem Pgd.same {s : Shp} (hs : s.Ok) {m : Nat} {reg : Int} (hr : 0 ≤ reg ∧ reg ≤ 1) {l : List Bytes} (hl : (l.length : Int) = s.pages) {r : Rig} (h : Pgd s m reg l r) {i : Nat} (hi : i < l.length) :
    ∃ r', asame s (s.pageAt reg i) r = .ok (l[i], 0) r' ∧ Tr S0 r r' := by
  have hsat := asame_sat h.fits (page_at hs hr (i := i) (by omega)) (b := l[i]) (fun k hk hn => (h.pages i hi k hk hn).see)
  cases ha : asame s (s.pageAt reg i) r with
  | gone r' =>
    rw [ha] at hsat
    have := hsat.2
    have := h.good.limit
    omega
  | ok x r' =>
    rw [ha] at hsat
    obtain ⟨t, ⟨rfl, _⟩ | ⟨_, hb | hb⟩⟩ := hsat
    · exact ⟨r', rfl, t⟩
    · exact absurd hb (h.good.nobreak t.toTr0)
    · have h2 := h.good.tr t.toTr0
      exact absurd (fun i hi => hb i (by rw [← t.len]; exact hi)) (h2.one (h.fits.tr t.toTr0) hs)
theorem loadPages_good {s : Shp} (hs : s.Ok) {m : Nat} {reg : Int} (hr : 0 ≤ reg ∧ reg ≤ 1) {l : List Bytes} (hl : (l.length : Int) = s.pages) : ∀ (n i : Nat) (r : Rig), n + i = l.length → Pgd s m reg l r → ∃ r', loadPages s reg n i (l.take i) r = .ok (l, 0) r' ∧ Tr S0 r r' := by
  intro n
  induction n with
  | zero =>
    intro i r hi h
    refine ⟨r, ?_, Tr.refl r⟩
    show Out.ok (l.take i, (0 : Int)) r = _
    rw [List.take_of_length_le (by omega)]
  | succ n ih =>
    intro i r hi h
    obtain ⟨r1, h1, t1⟩ := h.same hs hr hl (i := i) (by omega)
    obtain ⟨r2, h2, t2⟩ := ih (i + 1) r1 (by omega) (h.tr t1.toTr0)
    refine ⟨r2, ?_, t1.trans t2 (fun _ _ x => x) (fun _ _ x => x)⟩
    show (asame s (s.pageAt reg i) r).bind _ = _
    rw [h1]
    show loadPages s reg n (i + 1) (l.take i ++ [l[i]]) r1 = _
    rw [show l.take i ++ [l[i]'(by omega)] = l.take (i + 1) by rw [List.take_add_one, List.getElem?_eq_getElem (by omega)]; rfl]
    exact h2
/-- the pages of an image -/
def imgPages (s : Shp) (gen : Nat) (y : Img) : List Bytes := pagesB s.block.toNat gen s.pages.toNat y.bytes
theorem imgPages_len {s : Shp} (h : s.Ok) (gen : Nat) (y : Img) : ((imgPages s gen y).length : Int) = s.pages ∧ ∀ b ∈ imgPages s gen y, b.length = s.block.toNat := by
  have h1 := h.pages0
  have h2 := h.block
  unfold imgPages pagesB
  refine ⟨by simp; omega, fun b hb => ?_⟩
  obtain ⟨i, _, rfl⟩ := List.mem_map.1 hb
  rw [pageB_length (by omega)]
theorem loadL_good {s : Shp} (hs : s.Ok) {m : Nat} {r : Rig} {y : Img} (_hg : 0 ≤ r.nv.root.gen) (h : Pgd s m (r.nv.root.gen % 2) (imgPages s r.nv.root.gen.toNat y) r)
    (hdec : Img.dec s.block.toNat r.nv.root.gen.toNat s.pages.toNat s.segments.toNat s.stripes.toNat s.logical.toNat (s.all * s.slots).toNat (imgPages s r.nv.root.gen.toNat y) = .inl y) :
    ∃ r', loadL s r = .ok (some (Lg.fill y (Lg.fresh r')), (y.seq : Int), 0) r' ∧ Tr S0 r r' := by
  obtain ⟨hl, _⟩ := imgPages_len hs r.nv.root.gen.toNat y
  obtain ⟨r', h1, t⟩ := loadPages_good hs (by omega : 0 ≤ r.nv.root.gen % 2 ∧ r.nv.root.gen % 2 ≤ 1) hl s.pages.toNat 0 r (by omega) h
  rw [List.take_zero] at h1
  refine ⟨r', ?_, t⟩
  unfold loadL
  rw [h1]
  show (match Img.dec s.block.toNat r.nv.root.gen.toNat s.pages.toNat s.segments.toNat s.stripes.toNat s.logical.toNat (s.all * s.slots).toNat (imgPages s r.nv.root.gen.toNat y) with | .inr e => .ok (none, 0, e) r' | .inl y => .ok (some (Lg.fill y (Lg.fresh r')), (y.seq : Int), 0) r' : Out Rig (Option Lg × Int × Int)) = _
  rw [hdec]
/-- an image of a shape is found again -/
theorem img_dec {s : Shp} (h : s.Ok) {gen : Int} (hg : 0 ≤ gen ∧ gen ≤ 18446744073709551615) {y : Img} (hy : y.Fits s.segments.toNat s.stripes.toNat s.logical.toNat (s.all * s.slots).toNat) (hb : y.bytes.length = (12 + 9 * s.segments + 4 * s.logical).toNat) :
    Img.dec s.block.toNat gen.toNat s.pages.toNat s.segments.toNat s.stripes.toNat s.logical.toNat (s.all * s.slots).toNat (imgPages s gen.toNat y) = .inl y := by
  have hp := h.pages0
  have hbl := h.block
  have hsg := h.segments
  have hst := h.stripes
  have hbo := Go.Proofs.YtohienhoifgmaaaGreat.bounds h
  have hpg := hbo.pages
  have himg := hbo.image
  have hle : s.image ≤ s.pages * s.page := by
    have h1 := Int.lt_ediv_add_one_mul_self (s.image + s.page - 1) (show 0 < s.page by have := hbo.page; omega)
    have h2 : s.pages = (s.image + s.page - 1) / s.page := rfl
    rw [← h2, Int.add_mul, Int.one_mul] at h1
    omega
  refine Img.dec_enc hy (by omega) ?_ (by omega) ?_ (by omega) (by omega) ?_
  · have : gen.toNat ≤ 18446744073709551615 := by omega
    exact Nat.lt_of_le_of_lt this (by decide)
  · rw [hb]
    have e : ((s.pages.toNat * (s.block.toNat - 15) : Nat) : Int) = s.pages * s.page := by
      rw [Int.natCast_mul]
      congr 1
      · omega
      · show ((s.block.toNat - 15 : Nat) : Int) = s.block - 15
        omega
    have : (12 + 9 * s.segments + 4 * s.logical) = s.image := rfl
    omega
  · have := Go.Proofs.YtohienhoifgmaaaGreat.places_small h
    omega
end Go.Sl
end

section
/- The log of the checkpoint that holds, as the program finds it, whichever one member isn't there. -/
namespace Go.Proofs.YtohienhoifgmaaaGreat
open Go Go.Sl
theorem cload_one (n pp : Nat) (ps : List Nat) (r : Rig) {s : Shp} (hok : s.Ok) (hps : (ps.length : Int) = s.members) {m : Nat} {y : Img} (hg : 0 ≤ r.nv.root.gen ∧ r.nv.root.gen ≤ 18446744073709551615)
    (hP : Pgd s m (r.nv.root.gen % 2) (imgPages s r.nv.root.gen.toNat y) r) (hy : y.Fits s.segments.toNat s.stripes.toNat s.logical.toNat (s.all * s.slots).toNat) (hb : y.bytes.length = (12 + 9 * s.segments + 4 * s.logical).toNat) (dv : Value) :
    ∃ r', Tr S0 r r' ∧ Spec0 Tryz.prog 29 [dv, vp n] (Rd dv 1 (ps.map dev)) (fun F => NvAt n pp r.nv :: PowAt pp r.pow :: Dks pp ps r.ds :: F) (fun K : GK => K.k.n = n ∧ K.k.pp = pp ∧ K.k.ps = ps ∧ K.k.sh = s)
      (fun K => .tuple #[vp K.lp, .int .u64 (y.seq : Int), vi 0])
      (fun K F => LCells K (Lg.fill y (Lg.fresh r')).seg (Lg.fill y (Lg.fresh r')).idx :: MapAt K.mp (Lg.fill y (Lg.fresh r')).map :: TblAt K.tp (Lg.fill y (Lg.fresh r')).tbl :: Cells K.k.a [vi K.k.sh.members, vi K.k.sh.block, vi K.k.sh.segments, vi K.k.sh.stripes, vi K.k.sh.nv, vi K.k.sh.logical, K.k.lv, vp K.k.n, .bool r'.broken] :: Sl K.k.lv 1 (K.k.ps.map dev) :: NvAt n pp r'.nv :: PowAt pp r'.pow :: Dks pp ps r'.ds :: F) := by
  have hdec := img_dec hok hg hy hb
  obtain ⟨r', h1, t⟩ := loadL_good hok hg.1 hP hdec
  have hr : ({ r with broken := false } : Rig) = r := by
    have := hP.good.broken
    cases r
    dsimp only at this ⊢
    rw [this]
  obtain ⟨hil, hib⟩ := imgPages_len hok r.nv.root.gen.toNat y
  have hreg : 0 ≤ r.nv.root.gen % 2 ∧ r.nv.root.gen % 2 ≤ 1 := by omega
  refine ⟨r', t, ?_⟩
  have key := cload_spec n pp ps r (by rw [hP.shape]; exact hok) (by rw [hP.shape]; exact hps) hg.1 dv (fun r1 => Pgd s m (r.nv.root.gen % 2) (imgPages s r.nv.root.gen.toNat y) r1) (by rw [hr]; exact hP)
    (fun i r1 r2 x hi hp1 ha hx => by
      rw [hP.shape] at hi ha ⊢
      obtain ⟨r3, h3, t3⟩ := hp1.same hok hreg hil (i := i) (by omega)
      rw [h3] at ha
      obtain ⟨e1, e2⟩ := Out.ok.inj ha
      rw [← e1, ← e2]
      have h4 := hp1.tr t3.toTr0
      exact ⟨h4, hib _ (List.getElem_mem _), h4.shape⟩)
    y (by rw [hP.shape]; exact hy)
    (fun l r2 hl => by
      rw [hP.shape] at hl ⊢
      obtain ⟨r3, h3, _⟩ := loadPages_good hok hreg hil s.pages.toNat 0 r (by omega) hP
      rw [List.take_zero] at h3
      rw [hr, h3] at hl
      obtain ⟨e1, e2⟩ := Out.ok.inj hl
      rw [← (Prod.mk.inj e1).1]
      exact hdec)
  rw [hr, hP.shape] at key
  exact key.sure (some (Lg.fill y (Lg.fresh r')), (y.seq : Int), 0) r' h1
end Go.Proofs.YtohienhoifgmaaaGreat
end

section
/- Covered twice, one behind the other: the log is the same. No program. -/
namespace Go.Sl
open Go
/-- members that are read, and nothing else -/
theorem calm_nv {S : Nat → Int → Prop} {r r' : Rig} (h : Calm r) (t : Tr0 S r r') : r'.nv = r.nv := by
  have h2 := t.nv
  have h3 : r'.stale = r.stale := (h.tr t).stale.trans h.stale.symm
  rw [h2, h3]; rfl
theorem play_up {S : Nat → Int → Prop} {b : Bok} {g : Lg} (h : Play b g) {r' : Rig} (t : Tr0 S g.rig r') : Play b (g.up r') := by
  have hn := calm_nv h.calm t
  have hsh : (g.up r').sh = g.sh := by show r'.nv.root.shape = _; rw [hn]; rfl
  have hr := h.rel
  have hi := h.inv
  refine ⟨⟨by rw [hsh]; exact hr.s, ?_, ?_, ?_, hr.seg, hr.idx, hr.state, hr.born, hr.map⟩, ?_, by rw [hsh]; exact h.fits.tr t, h.calm.tr t, h.fair, ?_⟩
  · show b.recs = r'.nv.recs
    rw [hn]; exact hr.recs
  · show b.next = r'.nv.next
    rw [hn]; exact hr.next
  · show b.durable = r'.nv.root.durable
    rw [hn]; exact hr.durable
  · refine { toOk := ⟨hi.map, by rw [hsh]; exact hi.len, hi.small, by rw [hsh]; exact hi.live⟩, shok := by rw [hsh]; exact hi.shok, seg := by rw [hsh]; exact hi.seg, idx := by rw [hsh]; exact hi.idx, tlen := by rw [hsh]; exact hi.tlen, opened := hi.opened, recs := ?_, places := by rw [hsh]; exact hi.places }
    rw [hsh]
    show ∀ q ∈ r'.nv.recs, _
    rw [hn]
    exact hi.recs
  · rw [hsh]
    show (r'.nv.recs.length : Int) ≤ _
    rw [hn]
    exact h.room
/-- no segment is dead behind a checkpoint -/
theorem none_dead {t : Tbl} : ∀ s ∈ t.clear t.dead, ¬ (s.state = 2 ∧ s.live = 0) := by
  intro s hs
  obtain ⟨i, hi, rfl⟩ := List.mem_iff_getElem.1 hs
  have hl := (Tbl.clear_spec t.dead t).1
  have hi' : i < t.length := by rw [← hl]; exact hi
  rw [Tbl.clear_get hi hi']
  split
  · intro h; exact absurd h.1 (by decide)
  · rename_i h; exact h
theorem dead_nil {t : Tbl} (h : ∀ s ∈ t, ¬ (s.state = 2 ∧ s.live = 0)) : t.dead = [] := by
  unfold Tbl.dead
  rw [List.map_eq_nil_iff, List.filter_eq_nil_iff]
  intro i hi
  have hi : i < t.length := List.mem_range.1 hi
  have := h t[i] (List.getElem_mem hi)
  simpa [List.getD, hi] using this
/-- a checkpoint right behind another one changes but the memory -/
theorem ckpt_again {b : Bok} {g : Lg} (h : Play b g) (hd : ∀ s ∈ g.tbl, ¬ (s.state = 2 ∧ s.live = 0)) {W : Int} (hW : W = IntKind.u64.wrap (g.rig.nv.root.gen + 1)) :
    ∃ r2, g.ckpt = .ok 0 (g.up r2) ∧ Play b.free (g.up r2) ∧ r2.nv.root.gen = W ∧ r2.nv.root.durable = g.rig.nv.root.durable ∧ r2.nv.root.shape = g.sh ∧ Paged g.sh r2 (W % 2) (g.pages W.toNat) := by
  obtain ⟨g', h1, h2, h3, h4, h5, r', t, hl, h6⟩ := play_ckpt h hW
  have he : g' = g.up g'.rig := by
    rw [dead_nil hd] at h6
    exact h6
  refine ⟨g'.rig, by rw [h1]; exact congrArg _ he, by rw [← he]; exact h2, h4, ?_, h3, h5⟩
  have a := h2.rel.durable
  have c := h.rel.durable
  have : b.free.durable = b.durable := rfl
  rw [← a, this, c]
theorem image_up (g : Lg) {r2 : Rig} (h : r2.nv.root.durable = g.rig.nv.root.durable) : (g.up r2).image = g.image := by
  show Img.mk _ _ _ _ _ = Img.mk _ _ _ _ _
  congr 1
  show r2.nv.root.durable.toNat = _
  rw [h]
end Go.Sl
end

section
/- A log's book: is a log as the book has it, but for its records, whatever its members do. -/
namespace Go.Proofs.YtohienhoifgmaaaGreat
open Go Go.Sl
attribute [local irreducible] Yl WL WC WQ WD
/-- a book is as a log, but for the records -/
structure RelB (b : Bok) (g : Lg) : Prop where
  s : b.s = g.sh
  durable : b.durable = g.rig.nv.root.durable
  seg : b.seg = g.seg
  idx : b.idx = g.idx
  state : b.state = g.tbl.map (·.state)
  born : b.born = g.tbl.map (·.born)
  map : b.map = g.map
theorem BkOk.free {b : Bok} (h : BkOk b) : BkOk b.free :=
  ⟨h.ok, h.recs, h.rok, h.seg, h.idx, by unfold Bok.free; dsimp only; rw [List.length_mapIdx]; exact h.state, by unfold Bok.free; dsimp only; rw [List.length_mapIdx]; exact h.born, h.map, h.places⟩
theorem _root_.Go.Sl.Rel.b {b : Bok} {g : Lg} (h : Rel b g) : RelB b g := ⟨h.s, h.durable, h.seg, h.idx, h.state, h.born, h.map⟩
theorem RelB.usable {b : Bok} {g : Lg} (h : RelB b g) : b.usable = g.usable := by
  unfold Bok.usable Lg.usable
  rw [show b.many = g.tbl.many 0 from by
    unfold Bok.many Tbl.many
    rw [h.state, List.filter_map, List.length_map]
    rfl, h.s, h.idx]
set_option maxHeartbeats 8000000 in
theorem bis2_spec (p : Nat) (rows : List Row) (K : GK) {b : Bok} {g : Lg} (hb : BkOk b) (hr : RelB b g) (hi : g.Inv) (hsh : g.sh = K.k.sh) :
    Spec0 Tryz.prog 15 [vp p, vp K.lp] (fun _ => True) (fun F => BkAt p rows b :: LogAt K g F) (fun _ : Unit => True) (fun _ => .bool true) (fun _ F => BkAt p rows b :: LogAt K g F) := by
  (refine spec_of Tryz.func15 rfl Tryz.ntmps15 rfl (fun F w0 hrd => ?_))
  have h := small_of hi hsh
  have hbs : b.s = K.k.sh := hr.s.trans hsh
  have hst := hb.ok.stripes
  have hsg := hb.ok.segments
  have hidx := hb.idx
  have hseg := hb.seg
  have hml : g.map.length ≤ 1048576 := h.map
  have hq2 : b.seg * b.s.stripes ≤ 64 * 16 := Int.mul_le_mul (by omega) hst.2 (by omega) (by omega)
  have hq3 : 0 ≤ b.seg * b.s.stripes := Int.mul_nonneg hseg.1 (by omega)
  obtain ⟨lp, ⟨ka, kn, kpp, kps, klv, ksh⟩, mp, tp⟩ := K
  have hbs : b.s = ksh := hbs
  subst hbs
  (first | refine WC.ex (fun y => BkAt.opened) (fun x hx => ?_) | refine WL.ex (fun y => BkAt.opened) (fun x hx => ?_) | refine WQ.ex (fun y => BkAt.opened) (fun x hx => ?_))
  dsimp only [BParts, bcells, LogAt, LogB, LCells, RigAt]
  refine walk ?_
  (refine draw ?_; refine dy 0 ?_)
  refine wd_sel (by kernel_rfl) (fun hsel => ?_)
  refine wd_listed (List.toArray [bT,bF,bF,bF,bF,bF,bF,bF,bF,bF,bF,bF,bF,bF,bF,bF,bF,bF,bF,bF,bF,bF,bF,bF,bF,bF,bF,bF,bF,bF,bF,bF,bF,bF,bF,bF,bF,bF,bF,bF,bF,bF,bF,bF,bF,bF,bF,bF,bF,bF,bF,bF,bF,bF,bF,bF,bF,bF,bF,bF,bF,bF,bF,bF,bF,bF,bF,bF,bF,bF,bF,bF,bF,bF,bF,bF,bF,bF,bF,bF,bF,bF,bF,bF,bF,bF,bF,bF,bF,bF,bF,bF,bF,bF,bF,bF,bF,bF,bF,bF]) (by kernel_rfl) ?_
  (refine dz 1 ?_; refine wd_listed (List.toArray [bT,bT,bF,bF,bF,bF,bF,bF,bF,bF,bF,bF,bF,bF,bF,bF,bF,bF,bF,bF,bF,bF,bF,bF,bF,bF,bF,bF,bF,bF,bF,bF,bF,bF,bF,bF,bF,bF,bF,bF,bF,bF,bF,bF,bF,bF,bF,bF,bF,bF,bF,bF,bF,bF,bF,bF,bF,bF,bF,bF,bF,bF,bF,bF,bF,bF,bF,bF,bF,bF,bF,bF,bF,bF,bF,bF,bF,bF,bF,bF,bF,bF,bF,bF,bF,bF,bF,bF,bF,bF,bF,bF,bF,bF,bF,bF,bF,bF,bF,bF]) (by kernel_rfl) ?_; refine dz 2 ?_; refine wd_listed (List.toArray [bT,bT,bT,bF,bF,bF,bF,bF,bF,bF,bF,bF,bF,bF,bF,bF,bF,bF,bF,bF,bF,bF,bF,bF,bF,bF,bF,bF,bF,bF,bF,bF,bF,bF,bF,bF,bF,bF,bF,bF,bF,bF,bF,bF,bF,bF,bF,bF,bF,bF,bF,bF,bF,bF,bF,bF,bF,bF,bF,bF,bF,bF,bF,bF,bF,bF,bF,bF,bF,bF,bF,bF,bF,bF,bF,bF,bF,bF,bF,bF,bF,bF,bF,bF,bF,bF,bF,bF,bF,bF,bF,bF,bF,bF,bF,bF,bF,bF,bF,bF]) (by kernel_rfl) ?_; refine dz 3 ?_; refine wd_listed (List.toArray [bT,bT,bT,bT,bF,bF,bF,bF,bF,bF,bF,bF,bF,bF,bF,bF,bF,bF,bF,bF,bF,bF,bF,bF,bF,bF,bF,bF,bF,bF,bF,bF,bF,bF,bF,bF,bF,bF,bF,bF,bF,bF,bF,bF,bF,bF,bF,bF,bF,bF,bF,bF,bF,bF,bF,bF,bF,bF,bF,bF,bF,bF,bF,bF,bF,bF,bF,bF,bF,bF,bF,bF,bF,bF,bF,bF,bF,bF,bF,bF,bF,bF,bF,bF,bF,bF,bF,bF,bF,bF,bF,bF,bF,bF,bF,bF,bF,bF,bF,bF]) (by kernel_rfl) ?_; refine dz 4 ?_; refine wd_listed (List.toArray [bT,bT,bT,bT,bT,bF,bF,bF,bF,bF,bF,bF,bF,bF,bF,bF,bF,bF,bF,bF,bF,bF,bF,bF,bF,bF,bF,bF,bF,bF,bF,bF,bF,bF,bF,bF,bF,bF,bF,bF,bF,bF,bF,bF,bF,bF,bF,bF,bF,bF,bF,bF,bF,bF,bF,bF,bF,bF,bF,bF,bF,bF,bF,bF,bF,bF,bF,bF,bF,bF,bF,bF,bF,bF,bF,bF,bF,bF,bF,bF,bF,bF,bF,bF,bF,bF,bF,bF,bF,bF,bF,bF,bF,bF,bF,bF,bF,bF,bF,bF]) (by kernel_rfl) ?_; refine dz 5 ?_; refine wd_listed (List.toArray [bT,bT,bT,bT,bT,bT,bF,bF,bF,bF,bF,bF,bF,bF,bF,bF,bF,bF,bF,bF,bF,bF,bF,bF,bF,bF,bF,bF,bF,bF,bF,bF,bF,bF,bF,bF,bF,bF,bF,bF,bF,bF,bF,bF,bF,bF,bF,bF,bF,bF,bF,bF,bF,bF,bF,bF,bF,bF,bF,bF,bF,bF,bF,bF,bF,bF,bF,bF,bF,bF,bF,bF,bF,bF,bF,bF,bF,bF,bF,bF,bF,bF,bF,bF,bF,bF,bF,bF,bF,bF,bF,bF,bF,bF,bF,bF,bF,bF,bF,bF]) (by kernel_rfl) ?_; refine dz 6 ?_; refine wd_listed (List.toArray [bT,bT,bT,bT,bT,bT,bT,bF,bF,bF,bF,bF,bF,bF,bF,bF,bF,bF,bF,bF,bF,bF,bF,bF,bF,bF,bF,bF,bF,bF,bF,bF,bF,bF,bF,bF,bF,bF,bF,bF,bF,bF,bF,bF,bF,bF,bF,bF,bF,bF,bF,bF,bF,bF,bF,bF,bF,bF,bF,bF,bF,bF,bF,bF,bF,bF,bF,bF,bF,bF,bF,bF,bF,bF,bF,bF,bF,bF,bF,bF,bF,bF,bF,bF,bF,bF,bF,bF,bF,bF,bF,bF,bF,bF,bF,bF,bF,bF,bF,bF]) (by kernel_rfl) ?_; refine dz 7 ?_; refine wd_listed (List.toArray [bT,bT,bT,bT,bT,bT,bT,bT,bF,bF,bF,bF,bF,bF,bF,bF,bF,bF,bF,bF,bF,bF,bF,bF,bF,bF,bF,bF,bF,bF,bF,bF,bF,bF,bF,bF,bF,bF,bF,bF,bF,bF,bF,bF,bF,bF,bF,bF,bF,bF,bF,bF,bF,bF,bF,bF,bF,bF,bF,bF,bF,bF,bF,bF,bF,bF,bF,bF,bF,bF,bF,bF,bF,bF,bF,bF,bF,bF,bF,bF,bF,bF,bF,bF,bF,bF,bF,bF,bF,bF,bF,bF,bF,bF,bF,bF,bF,bF,bF,bF]) (by kernel_rfl) ?_)
  refine dz 8 (y := by exact yl_neqA (cs := [vi b.s.members, vi b.s.block, vi b.s.segments, vi b.s.stripes, vi b.s.nv, vi b.s.logical]) rfl rfl) ?_
  (refine dz 9 ?_; refine wd_listed (List.toArray [bT,bT,bT,bT,bT,bT,bT,bT,bT,bT,bF,bF,bF,bF,bF,bF,bF,bF,bF,bF,bF,bF,bF,bF,bF,bF,bF,bF,bF,bF,bF,bF,bF,bF,bF,bF,bF,bF,bF,bF,bF,bF,bF,bF,bF,bF,bF,bF,bF,bF,bF,bF,bF,bF,bF,bF,bF,bF,bF,bF,bF,bF,bF,bF,bF,bF,bF,bF,bF,bF,bF,bF,bF,bF,bF,bF,bF,bF,bF,bF,bF,bF,bF,bF,bF,bF,bF,bF,bF,bF,bF,bF,bF,bF,bF,bF,bF,bF,bF,bF]) (by kernel_rfl) ?_; refine dgz 10 ?_; refine wd_listed (List.toArray [bT,bT,bT,bT,bT,bT,bT,bT,bT,bT,bT,bF,bF,bF,bF,bF,bF,bF,bF,bF,bF,bF,bF,bF,bF,bF,bF,bF,bF,bF,bF,bF,bF,bF,bF,bF,bF,bF,bF,bF,bF,bF,bF,bF,bF,bF,bF,bF,bF,bF,bF,bF,bF,bF,bF,bF,bF,bF,bF,bF,bF,bF,bF,bF,bF,bF,bF,bF,bF,bF,bF,bF,bF,bF,bF,bF,bF,bF,bF,bF,bF,bF,bF,bF,bF,bF,bF,bF,bF,bF,bF,bF,bF,bF,bF,bF,bF,bF,bF,bF]) (by kernel_rfl) ?_; refine dgz 11 ?_; refine wd_listed (List.toArray [bT,bT,bT,bT,bT,bT,bT,bT,bT,bT,bT,bT,bF,bF,bF,bF,bF,bF,bF,bF,bF,bF,bF,bF,bF,bF,bF,bF,bF,bF,bF,bF,bF,bF,bF,bF,bF,bF,bF,bF,bF,bF,bF,bF,bF,bF,bF,bF,bF,bF,bF,bF,bF,bF,bF,bF,bF,bF,bF,bF,bF,bF,bF,bF,bF,bF,bF,bF,bF,bF,bF,bF,bF,bF,bF,bF,bF,bF,bF,bF,bF,bF,bF,bF,bF,bF,bF,bF,bF,bF,bF,bF,bF,bF,bF,bF,bF,bF,bF,bF]) (by kernel_rfl) ?_; refine dgz 12 ?_; refine wd_listed (List.toArray [bT,bT,bT,bT,bT,bT,bT,bT,bT,bT,bT,bT,bT,bF,bF,bF,bF,bF,bF,bF,bF,bF,bF,bF,bF,bF,bF,bF,bF,bF,bF,bF,bF,bF,bF,bF,bF,bF,bF,bF,bF,bF,bF,bF,bF,bF,bF,bF,bF,bF,bF,bF,bF,bF,bF,bF,bF,bF,bF,bF,bF,bF,bF,bF,bF,bF,bF,bF,bF,bF,bF,bF,bF,bF,bF,bF,bF,bF,bF,bF,bF,bF,bF,bF,bF,bF,bF,bF,bF,bF,bF,bF,bF,bF,bF,bF,bF,bF,bF,bF]) (by kernel_rfl) ?_; refine dgz 13 ?_; refine wd_listed (List.toArray [bT,bT,bT,bT,bT,bT,bT,bT,bT,bT,bT,bT,bT,bT,bF,bF,bF,bF,bF,bF,bF,bF,bF,bF,bF,bF,bF,bF,bF,bF,bF,bF,bF,bF,bF,bF,bF,bF,bF,bF,bF,bF,bF,bF,bF,bF,bF,bF,bF,bF,bF,bF,bF,bF,bF,bF,bF,bF,bF,bF,bF,bF,bF,bF,bF,bF,bF,bF,bF,bF,bF,bF,bF,bF,bF,bF,bF,bF,bF,bF,bF,bF,bF,bF,bF,bF,bF,bF,bF,bF,bF,bF,bF,bF,bF,bF,bF,bF,bF,bF]) (by kernel_rfl) ?_; refine dgz 14 ?_; refine wd_listed (List.toArray [bT,bT,bT,bT,bT,bT,bT,bT,bT,bT,bT,bT,bT,bT,bT,bF,bF,bF,bF,bF,bF,bF,bF,bF,bF,bF,bF,bF,bF,bF,bF,bF,bF,bF,bF,bF,bF,bF,bF,bF,bF,bF,bF,bF,bF,bF,bF,bF,bF,bF,bF,bF,bF,bF,bF,bF,bF,bF,bF,bF,bF,bF,bF,bF,bF,bF,bF,bF,bF,bF,bF,bF,bF,bF,bF,bF,bF,bF,bF,bF,bF,bF,bF,bF,bF,bF,bF,bF,bF,bF,bF,bF,bF,bF,bF,bF,bF,bF,bF,bF]) (by kernel_rfl) ?_; refine dgz 15 ?_; refine wd_listed (List.toArray [bT,bT,bT,bT,bT,bT,bT,bT,bT,bT,bT,bT,bT,bT,bT,bT,bF,bF,bF,bF,bF,bF,bF,bF,bF,bF,bF,bF,bF,bF,bF,bF,bF,bF,bF,bF,bF,bF,bF,bF,bF,bF,bF,bF,bF,bF,bF,bF,bF,bF,bF,bF,bF,bF,bF,bF,bF,bF,bF,bF,bF,bF,bF,bF,bF,bF,bF,bF,bF,bF,bF,bF,bF,bF,bF,bF,bF,bF,bF,bF,bF,bF,bF,bF,bF,bF,bF,bF,bF,bF,bF,bF,bF,bF,bF,bF,bF,bF,bF,bF]) (by kernel_rfl) ?_; refine dgz 16 ?_; refine wd_listed (List.toArray [bT,bT,bT,bT,bT,bT,bT,bT,bT,bT,bT,bT,bT,bT,bT,bT,bT,bF,bF,bF,bF,bF,bF,bF,bF,bF,bF,bF,bF,bF,bF,bF,bF,bF,bF,bF,bF,bF,bF,bF,bF,bF,bF,bF,bF,bF,bF,bF,bF,bF,bF,bF,bF,bF,bF,bF,bF,bF,bF,bF,bF,bF,bF,bF,bF,bF,bF,bF,bF,bF,bF,bF,bF,bF,bF,bF,bF,bF,bF,bF,bF,bF,bF,bF,bF,bF,bF,bF,bF,bF,bF,bF,bF,bF,bF,bF,bF,bF,bF,bF]) (by kernel_rfl) ?_; refine dgz 17 ?_; refine wd_listed (List.toArray [bT,bT,bT,bT,bT,bT,bT,bT,bT,bT,bT,bT,bT,bT,bT,bT,bT,bT,bF,bF,bF,bF,bF,bF,bF,bF,bF,bF,bF,bF,bF,bF,bF,bF,bF,bF,bF,bF,bF,bF,bF,bF,bF,bF,bF,bF,bF,bF,bF,bF,bF,bF,bF,bF,bF,bF,bF,bF,bF,bF,bF,bF,bF,bF,bF,bF,bF,bF,bF,bF,bF,bF,bF,bF,bF,bF,bF,bF,bF,bF,bF,bF,bF,bF,bF,bF,bF,bF,bF,bF,bF,bF,bF,bF,bF,bF,bF,bF,bF,bF]) (by kernel_rfl) ?_; refine dgz 18 ?_; refine wd_listed (List.toArray [bT,bT,bT,bT,bT,bT,bT,bT,bT,bT,bT,bT,bT,bT,bT,bT,bT,bT,bT,bF,bF,bF,bF,bF,bF,bF,bF,bF,bF,bF,bF,bF,bF,bF,bF,bF,bF,bF,bF,bF,bF,bF,bF,bF,bF,bF,bF,bF,bF,bF,bF,bF,bF,bF,bF,bF,bF,bF,bF,bF,bF,bF,bF,bF,bF,bF,bF,bF,bF,bF,bF,bF,bF,bF,bF,bF,bF,bF,bF,bF,bF,bF,bF,bF,bF,bF,bF,bF,bF,bF,bF,bF,bF,bF,bF,bF,bF,bF,bF,bF]) (by kernel_rfl) ?_; refine dz 19 ?_; refine wd_listed (List.toArray [bT,bT,bT,bT,bT,bT,bT,bT,bT,bT,bT,bT,bT,bT,bT,bT,bT,bT,bT,bT,bF,bF,bF,bF,bF,bF,bF,bF,bF,bF,bF,bF,bF,bF,bF,bF,bF,bF,bF,bF,bF,bF,bF,bF,bF,bF,bF,bF,bF,bF,bF,bF,bF,bF,bF,bF,bF,bF,bF,bF,bF,bF,bF,bF,bF,bF,bF,bF,bF,bF,bF,bF,bF,bF,bF,bF,bF,bF,bF,bF,bF,bF,bF,bF,bF,bF,bF,bF,bF,bF,bF,bF,bF,bF,bF,bF,bF,bF,bF,bF]) (by kernel_rfl) ?_; refine dz 20 ?_; refine wd_listed (List.toArray [bT,bT,bT,bT,bT,bT,bT,bT,bT,bT,bT,bT,bT,bT,bT,bT,bT,bT,bT,bT,bT,bF,bF,bF,bF,bF,bF,bF,bF,bF,bF,bF,bF,bF,bF,bF,bF,bF,bF,bF,bF,bF,bF,bF,bF,bF,bF,bF,bF,bF,bF,bF,bF,bF,bF,bF,bF,bF,bF,bF,bF,bF,bF,bF,bF,bF,bF,bF,bF,bF,bF,bF,bF,bF,bF,bF,bF,bF,bF,bF,bF,bF,bF,bF,bF,bF,bF,bF,bF,bF,bF,bF,bF,bF,bF,bF,bF,bF,bF,bF]) (by kernel_rfl) ?_; refine dwhich 28 ?_)
  refine ⟨fun hz => absurd hz (by simp [hr.seg]), fun _ => ?_⟩
  refine wd_listed (List.toArray [bT,bT,bT,bT,bT,bT,bT,bT,bT,bT,bT,bT,bT,bT,bT,bT,bT,bT,bT,bT,bT,bF,bF,bF,bF,bF,bF,bF,bF,bF,bF,bF,bF,bF,bF,bF,bF,bF,bF,bF,bF,bF,bF,bF,bF,bF,bF,bF,bF,bF,bF,bF,bF,bF,bF,bF,bF,bF,bF,bF,bF,bF,bF,bF,bF,bF,bF,bF,bF,bF,bF,bF,bF,bF,bF,bF,bF,bF,bF,bF,bF,bF,bF,bF,bF,bF,bF,bF,bF,bF,bF,bF,bF,bF,bF,bF,bF,bF,bF,bF]) (by kernel_rfl) ?_
  (refine dgz 21 ?_; refine wd_listed (List.toArray [bT,bT,bT,bT,bT,bT,bT,bT,bT,bT,bT,bT,bT,bT,bT,bT,bT,bT,bT,bT,bT,bT,bF,bF,bF,bF,bF,bF,bF,bF,bF,bF,bF,bF,bF,bF,bF,bF,bF,bF,bF,bF,bF,bF,bF,bF,bF,bF,bF,bF,bF,bF,bF,bF,bF,bF,bF,bF,bF,bF,bF,bF,bF,bF,bF,bF,bF,bF,bF,bF,bF,bF,bF,bF,bF,bF,bF,bF,bF,bF,bF,bF,bF,bF,bF,bF,bF,bF,bF,bF,bF,bF,bF,bF,bF,bF,bF,bF,bF,bF]) (by kernel_rfl) ?_; refine dgz 22 ?_; refine wd_listed (List.toArray [bT,bT,bT,bT,bT,bT,bT,bT,bT,bT,bT,bT,bT,bT,bT,bT,bT,bT,bT,bT,bT,bT,bT,bF,bF,bF,bF,bF,bF,bF,bF,bF,bF,bF,bF,bF,bF,bF,bF,bF,bF,bF,bF,bF,bF,bF,bF,bF,bF,bF,bF,bF,bF,bF,bF,bF,bF,bF,bF,bF,bF,bF,bF,bF,bF,bF,bF,bF,bF,bF,bF,bF,bF,bF,bF,bF,bF,bF,bF,bF,bF,bF,bF,bF,bF,bF,bF,bF,bF,bF,bF,bF,bF,bF,bF,bF,bF,bF,bF,bF]) (by kernel_rfl) ?_; refine dgz 23 ?_; refine wd_listed (List.toArray [bT,bT,bT,bT,bT,bT,bT,bT,bT,bT,bT,bT,bT,bT,bT,bT,bT,bT,bT,bT,bT,bT,bT,bT,bF,bF,bF,bF,bF,bF,bF,bF,bF,bF,bF,bF,bF,bF,bF,bF,bF,bF,bF,bF,bF,bF,bF,bF,bF,bF,bF,bF,bF,bF,bF,bF,bF,bF,bF,bF,bF,bF,bF,bF,bF,bF,bF,bF,bF,bF,bF,bF,bF,bF,bF,bF,bF,bF,bF,bF,bF,bF,bF,bF,bF,bF,bF,bF,bF,bF,bF,bF,bF,bF,bF,bF,bF,bF,bF,bF]) (by kernel_rfl) ?_; refine dgz 24 ?_; refine wd_listed (List.toArray [bT,bT,bT,bT,bT,bT,bT,bT,bT,bT,bT,bT,bT,bT,bT,bT,bT,bT,bT,bT,bT,bT,bT,bT,bT,bF,bF,bF,bF,bF,bF,bF,bF,bF,bF,bF,bF,bF,bF,bF,bF,bF,bF,bF,bF,bF,bF,bF,bF,bF,bF,bF,bF,bF,bF,bF,bF,bF,bF,bF,bF,bF,bF,bF,bF,bF,bF,bF,bF,bF,bF,bF,bF,bF,bF,bF,bF,bF,bF,bF,bF,bF,bF,bF,bF,bF,bF,bF,bF,bF,bF,bF,bF,bF,bF,bF,bF,bF,bF,bF]) (by kernel_rfl) ?_; refine dgz 25 ?_; refine wd_listed (List.toArray [bT,bT,bT,bT,bT,bT,bT,bT,bT,bT,bT,bT,bT,bT,bT,bT,bT,bT,bT,bT,bT,bT,bT,bT,bT,bT,bF,bF,bF,bF,bF,bF,bF,bF,bF,bF,bF,bF,bF,bF,bF,bF,bF,bF,bF,bF,bF,bF,bF,bF,bF,bF,bF,bF,bF,bF,bF,bF,bF,bF,bF,bF,bF,bF,bF,bF,bF,bF,bF,bF,bF,bF,bF,bF,bF,bF,bF,bF,bF,bF,bF,bF,bF,bF,bF,bF,bF,bF,bF,bF,bF,bF,bF,bF,bF,bF,bF,bF,bF,bF]) (by kernel_rfl) ?_; refine dgz 26 ?_; refine wd_listed (List.toArray [bT,bT,bT,bT,bT,bT,bT,bT,bT,bT,bT,bT,bT,bT,bT,bT,bT,bT,bT,bT,bT,bT,bT,bT,bT,bT,bT,bF,bF,bF,bF,bF,bF,bF,bF,bF,bF,bF,bF,bF,bF,bF,bF,bF,bF,bF,bF,bF,bF,bF,bF,bF,bF,bF,bF,bF,bF,bF,bF,bF,bF,bF,bF,bF,bF,bF,bF,bF,bF,bF,bF,bF,bF,bF,bF,bF,bF,bF,bF,bF,bF,bF,bF,bF,bF,bF,bF,bF,bF,bF,bF,bF,bF,bF,bF,bF,bF,bF,bF,bF]) (by kernel_rfl) ?_; refine dgz 27 ?_; refine wd_listed (List.toArray [bT,bT,bT,bT,bT,bT,bT,bT,bT,bT,bT,bT,bT,bT,bT,bT,bT,bT,bT,bT,bT,bT,bT,bT,bT,bT,bT,bT,bF,bF,bF,bF,bF,bF,bF,bF,bF,bF,bF,bF,bF,bF,bF,bF,bF,bF,bF,bF,bF,bF,bF,bF,bF,bF,bF,bF,bF,bF,bF,bF,bF,bF,bF,bF,bF,bF,bF,bF,bF,bF,bF,bF,bF,bF,bF,bF,bF,bF,bF,bF,bF,bF,bF,bF,bF,bF,bF,bF,bF,bF,bF,bF,bF,bF,bF,bF,bF,bF,bF,bF]) (by kernel_rfl) ?_; refine dgz 28 ?_; refine wd_listed (List.toArray [bT,bT,bT,bT,bT,bT,bT,bT,bT,bT,bT,bT,bT,bT,bT,bT,bT,bT,bT,bT,bT,bT,bT,bT,bT,bT,bT,bT,bT,bF,bF,bF,bF,bF,bF,bF,bF,bF,bF,bF,bF,bF,bF,bF,bF,bF,bF,bF,bF,bF,bF,bF,bF,bF,bF,bF,bF,bF,bF,bF,bF,bF,bF,bF,bF,bF,bF,bF,bF,bF,bF,bF,bF,bF,bF,bF,bF,bF,bF,bF,bF,bF,bF,bF,bF,bF,bF,bF,bF,bF,bF,bF,bF,bF,bF,bF,bF,bF,bF,bF]) (by kernel_rfl) ?_; refine dgz 29 ?_; refine wd_listed (List.toArray [bT,bT,bT,bT,bT,bT,bT,bT,bT,bT,bT,bT,bT,bT,bT,bT,bT,bT,bT,bT,bT,bT,bT,bT,bT,bT,bT,bT,bT,bT,bF,bF,bF,bF,bF,bF,bF,bF,bF,bF,bF,bF,bF,bF,bF,bF,bF,bF,bF,bF,bF,bF,bF,bF,bF,bF,bF,bF,bF,bF,bF,bF,bF,bF,bF,bF,bF,bF,bF,bF,bF,bF,bF,bF,bF,bF,bF,bF,bF,bF,bF,bF,bF,bF,bF,bF,bF,bF,bF,bF,bF,bF,bF,bF,bF,bF,bF,bF,bF,bF]) (by kernel_rfl) ?_; refine dz 30 ?_; refine wd_listed (List.toArray [bT,bT,bT,bT,bT,bT,bT,bT,bT,bT,bT,bT,bT,bT,bT,bT,bT,bT,bT,bT,bT,bT,bT,bT,bT,bT,bT,bT,bT,bT,bT,bF,bF,bF,bF,bF,bF,bF,bF,bF,bF,bF,bF,bF,bF,bF,bF,bF,bF,bF,bF,bF,bF,bF,bF,bF,bF,bF,bF,bF,bF,bF,bF,bF,bF,bF,bF,bF,bF,bF,bF,bF,bF,bF,bF,bF,bF,bF,bF,bF,bF,bF,bF,bF,bF,bF,bF,bF,bF,bF,bF,bF,bF,bF,bF,bF,bF,bF,bF,bF]) (by kernel_rfl) ?_; refine dz 31 ?_; refine wd_listed (List.toArray [bT,bT,bT,bT,bT,bT,bT,bT,bT,bT,bT,bT,bT,bT,bT,bT,bT,bT,bT,bT,bT,bT,bT,bT,bT,bT,bT,bT,bT,bT,bT,bT,bF,bF,bF,bF,bF,bF,bF,bF,bF,bF,bF,bF,bF,bF,bF,bF,bF,bF,bF,bF,bF,bF,bF,bF,bF,bF,bF,bF,bF,bF,bF,bF,bF,bF,bF,bF,bF,bF,bF,bF,bF,bF,bF,bF,bF,bF,bF,bF,bF,bF,bF,bF,bF,bF,bF,bF,bF,bF,bF,bF,bF,bF,bF,bF,bF,bF,bF,bF]) (by kernel_rfl) ?_; refine dwhich 39 ?_)
  refine ⟨fun hz => absurd hz (by simp [hr.idx]), fun _ => ?_⟩
  refine wd_listed (List.toArray [bT,bT,bT,bT,bT,bT,bT,bT,bT,bT,bT,bT,bT,bT,bT,bT,bT,bT,bT,bT,bT,bT,bT,bT,bT,bT,bT,bT,bT,bT,bT,bT,bF,bF,bF,bF,bF,bF,bF,bF,bF,bF,bF,bF,bF,bF,bF,bF,bF,bF,bF,bF,bF,bF,bF,bF,bF,bF,bF,bF,bF,bF,bF,bF,bF,bF,bF,bF,bF,bF,bF,bF,bF,bF,bF,bF,bF,bF,bF,bF,bF,bF,bF,bF,bF,bF,bF,bF,bF,bF,bF,bF,bF,bF,bF,bF,bF,bF,bF,bF]) (by kernel_rfl) ?_
  (refine dgz 32 ?_; refine wd_listed (List.toArray [bT,bT,bT,bT,bT,bT,bT,bT,bT,bT,bT,bT,bT,bT,bT,bT,bT,bT,bT,bT,bT,bT,bT,bT,bT,bT,bT,bT,bT,bT,bT,bT,bT,bF,bF,bF,bF,bF,bF,bF,bF,bF,bF,bF,bF,bF,bF,bF,bF,bF,bF,bF,bF,bF,bF,bF,bF,bF,bF,bF,bF,bF,bF,bF,bF,bF,bF,bF,bF,bF,bF,bF,bF,bF,bF,bF,bF,bF,bF,bF,bF,bF,bF,bF,bF,bF,bF,bF,bF,bF,bF,bF,bF,bF,bF,bF,bF,bF,bF,bF]) (by kernel_rfl) ?_; refine dgz 34 ?_; refine wd_listed (List.toArray [bT,bT,bT,bT,bT,bT,bT,bT,bT,bT,bT,bT,bT,bT,bT,bT,bT,bT,bT,bT,bT,bT,bT,bT,bT,bT,bT,bT,bT,bT,bT,bT,bT,bF,bT,bF,bF,bF,bF,bF,bF,bF,bF,bF,bF,bF,bF,bF,bF,bF,bF,bF,bF,bF,bF,bF,bF,bF,bF,bF,bF,bF,bF,bF,bF,bF,bF,bF,bF,bF,bF,bF,bF,bF,bF,bF,bF,bF,bF,bF,bF,bF,bF,bF,bF,bF,bF,bF,bF,bF,bF,bF,bF,bF,bF,bF,bF,bF,bF,bF]) (by kernel_rfl) ?_; refine ddx 33 ?_)
  refine walk ?_
  refine call (lusable_spec _ g h) ?_ (hg := frameL)
  intro _ _
  (refine walk ?_)
  refine wd_listed (List.toArray [bT,bT,bT,bT,bT,bT,bT,bT,bT,bT,bT,bT,bT,bT,bT,bT,bT,bT,bT,bT,bT,bT,bT,bT,bT,bT,bT,bT,bT,bT,bT,bT,bT,bT,bT,bF,bF,bF,bF,bF,bF,bF,bF,bF,bF,bF,bF,bF,bF,bF,bF,bF,bF,bF,bF,bF,bF,bF,bF,bF,bF,bF,bF,bF,bF,bF,bF,bF,bF,bF,bF,bF,bF,bF,bF,bF,bF,bF,bF,bF,bF,bF,bF,bF,bF,bF,bF,bF,bF,bF,bF,bF,bF,bF,bF,bF,bF,bF,bF,bF]) (by kernel_rfl) ?_
  (refine ddx 35 ?_)
  refine walk ?_
  refine call (busable_spec0 p b hb x) ?_ (hg := frameL)
  intro _ _
  (refine walk ?_)
  refine wd_listed (List.toArray [bT,bT,bT,bT,bT,bT,bT,bT,bT,bT,bT,bT,bT,bT,bT,bT,bT,bT,bT,bT,bT,bT,bT,bT,bT,bT,bT,bT,bT,bT,bT,bT,bT,bT,bT,bT,bF,bF,bF,bF,bF,bF,bF,bF,bF,bF,bF,bF,bF,bF,bF,bF,bF,bF,bF,bF,bF,bF,bF,bF,bF,bF,bF,bF,bF,bF,bF,bF,bF,bF,bF,bF,bF,bF,bF,bF,bF,bF,bF,bF,bF,bF,bF,bF,bF,bF,bF,bF,bF,bF,bF,bF,bF,bF,bF,bF,bF,bF,bF,bF]) (by kernel_rfl) ?_
  (refine dgz 36 ?_; refine wd_listed (List.toArray [bT,bT,bT,bT,bT,bT,bT,bT,bT,bT,bT,bT,bT,bT,bT,bT,bT,bT,bT,bT,bT,bT,bT,bT,bT,bT,bT,bT,bT,bT,bT,bT,bT,bT,bT,bT,bT,bF,bF,bF,bF,bF,bF,bF,bF,bF,bF,bF,bF,bF,bF,bF,bF,bF,bF,bF,bF,bF,bF,bF,bF,bF,bF,bF,bF,bF,bF,bF,bF,bF,bF,bF,bF,bF,bF,bF,bF,bF,bF,bF,bF,bF,bF,bF,bF,bF,bF,bF,bF,bF,bF,bF,bF,bF,bF,bF,bF,bF,bF,bF]) (by kernel_rfl) ?_; refine dz 37 ?_; refine wd_listed (List.toArray [bT,bT,bT,bT,bT,bT,bT,bT,bT,bT,bT,bT,bT,bT,bT,bT,bT,bT,bT,bT,bT,bT,bT,bT,bT,bT,bT,bT,bT,bT,bT,bT,bT,bT,bT,bT,bT,bT,bF,bF,bF,bF,bF,bF,bF,bF,bF,bF,bF,bF,bF,bF,bF,bF,bF,bF,bF,bF,bF,bF,bF,bF,bF,bF,bF,bF,bF,bF,bF,bF,bF,bF,bF,bF,bF,bF,bF,bF,bF,bF,bF,bF,bF,bF,bF,bF,bF,bF,bF,bF,bF,bF,bF,bF,bF,bF,bF,bF,bF,bF]) (by kernel_rfl) ?_; refine dz 38 ?_; refine wd_listed (List.toArray [bT,bT,bT,bT,bT,bT,bT,bT,bT,bT,bT,bT,bT,bT,bT,bT,bT,bT,bT,bT,bT,bT,bT,bT,bT,bT,bT,bT,bT,bT,bT,bT,bT,bT,bT,bT,bT,bT,bT,bF,bF,bF,bF,bF,bF,bF,bF,bF,bF,bF,bF,bF,bF,bF,bF,bF,bF,bF,bF,bF,bF,bF,bF,bF,bF,bF,bF,bF,bF,bF,bF,bF,bF,bF,bF,bF,bF,bF,bF,bF,bF,bF,bF,bF,bF,bF,bF,bF,bF,bF,bF,bF,bF,bF,bF,bF,bF,bF,bF,bF]) (by kernel_rfl) ?_; refine dwhich 46 ?_)
  refine ⟨fun hz => absurd hz (by simp [hr.usable]), fun _ => ?_⟩
  refine wd_listed (List.toArray [bT,bT,bT,bT,bT,bT,bT,bT,bT,bT,bT,bT,bT,bT,bT,bT,bT,bT,bT,bT,bT,bT,bT,bT,bT,bT,bT,bT,bT,bT,bT,bT,bT,bT,bT,bT,bT,bT,bT,bF,bF,bF,bF,bF,bF,bF,bF,bF,bF,bF,bF,bF,bF,bF,bF,bF,bF,bF,bF,bF,bF,bF,bF,bF,bF,bF,bF,bF,bF,bF,bF,bF,bF,bF,bF,bF,bF,bF,bF,bF,bF,bF,bF,bF,bF,bF,bF,bF,bF,bF,bF,bF,bF,bF,bF,bF,bF,bF,bF,bF]) (by kernel_rfl) ?_
  (refine dgz 39 ?_; refine wd_listed (List.toArray [bT,bT,bT,bT,bT,bT,bT,bT,bT,bT,bT,bT,bT,bT,bT,bT,bT,bT,bT,bT,bT,bT,bT,bT,bT,bT,bT,bT,bT,bT,bT,bT,bT,bT,bT,bT,bT,bT,bT,bT,bF,bF,bF,bF,bF,bF,bF,bF,bF,bF,bF,bF,bF,bF,bF,bF,bF,bF,bF,bF,bF,bF,bF,bF,bF,bF,bF,bF,bF,bF,bF,bF,bF,bF,bF,bF,bF,bF,bF,bF,bF,bF,bF,bF,bF,bF,bF,bF,bF,bF,bF,bF,bF,bF,bF,bF,bF,bF,bF,bF]) (by kernel_rfl) ?_; refine dgz 41 ?_; refine wd_listed (List.toArray [bT,bT,bT,bT,bT,bT,bT,bT,bT,bT,bT,bT,bT,bT,bT,bT,bT,bT,bT,bT,bT,bT,bT,bT,bT,bT,bT,bT,bT,bT,bT,bT,bT,bT,bT,bT,bT,bT,bT,bT,bF,bT,bF,bF,bF,bF,bF,bF,bF,bF,bF,bF,bF,bF,bF,bF,bF,bF,bF,bF,bF,bF,bF,bF,bF,bF,bF,bF,bF,bF,bF,bF,bF,bF,bF,bF,bF,bF,bF,bF,bF,bF,bF,bF,bF,bF,bF,bF,bF,bF,bF,bF,bF,bF,bF,bF,bF,bF,bF,bF]) (by kernel_rfl) ?_; refine dgz 42 ?_; refine wd_listed (List.toArray [bT,bT,bT,bT,bT,bT,bT,bT,bT,bT,bT,bT,bT,bT,bT,bT,bT,bT,bT,bT,bT,bT,bT,bT,bT,bT,bT,bT,bT,bT,bT,bT,bT,bT,bT,bT,bT,bT,bT,bT,bF,bT,bT,bF,bF,bF,bF,bF,bF,bF,bF,bF,bF,bF,bF,bF,bF,bF,bF,bF,bF,bF,bF,bF,bF,bF,bF,bF,bF,bF,bF,bF,bF,bF,bF,bF,bF,bF,bF,bF,bF,bF,bF,bF,bF,bF,bF,bF,bF,bF,bF,bF,bF,bF,bF,bF,bF,bF,bF,bF]) (by kernel_rfl) ?_; refine dgz 43 ?_; refine wd_listed (List.toArray [bT,bT,bT,bT,bT,bT,bT,bT,bT,bT,bT,bT,bT,bT,bT,bT,bT,bT,bT,bT,bT,bT,bT,bT,bT,bT,bT,bT,bT,bT,bT,bT,bT,bT,bT,bT,bT,bT,bT,bT,bF,bT,bT,bT,bF,bF,bF,bF,bF,bF,bF,bF,bF,bF,bF,bF,bF,bF,bF,bF,bF,bF,bF,bF,bF,bF,bF,bF,bF,bF,bF,bF,bF,bF,bF,bF,bF,bF,bF,bF,bF,bF,bF,bF,bF,bF,bF,bF,bF,bF,bF,bF,bF,bF,bF,bF,bF,bF,bF,bF]) (by kernel_rfl) ?_; refine dgz 44 ?_; refine wd_listed (List.toArray [bT,bT,bT,bT,bT,bT,bT,bT,bT,bT,bT,bT,bT,bT,bT,bT,bT,bT,bT,bT,bT,bT,bT,bT,bT,bT,bT,bT,bT,bT,bT,bT,bT,bT,bT,bT,bT,bT,bT,bT,bF,bT,bT,bT,bT,bF,bF,bF,bF,bF,bF,bF,bF,bF,bF,bF,bF,bF,bF,bF,bF,bF,bF,bF,bF,bF,bF,bF,bF,bF,bF,bF,bF,bF,bF,bF,bF,bF,bF,bF,bF,bF,bF,bF,bF,bF,bF,bF,bF,bF,bF,bF,bF,bF,bF,bF,bF,bF,bF,bF]) (by kernel_rfl) ?_; refine dgz 45 ?_; refine wd_listed (List.toArray [bT,bT,bT,bT,bT,bT,bT,bT,bT,bT,bT,bT,bT,bT,bT,bT,bT,bT,bT,bT,bT,bT,bT,bT,bT,bT,bT,bT,bT,bT,bT,bT,bT,bT,bT,bT,bT,bT,bT,bT,bF,bT,bT,bT,bT,bT,bF,bF,bF,bF,bF,bF,bF,bF,bF,bF,bF,bF,bF,bF,bF,bF,bF,bF,bF,bF,bF,bF,bF,bF,bF,bF,bF,bF,bF,bF,bF,bF,bF,bF,bF,bF,bF,bF,bF,bF,bF,bF,bF,bF,bF,bF,bF,bF,bF,bF,bF,bF,bF,bF]) (by kernel_rfl) ?_; refine dgz 46 ?_; refine wd_listed (List.toArray [bT,bT,bT,bT,bT,bT,bT,bT,bT,bT,bT,bT,bT,bT,bT,bT,bT,bT,bT,bT,bT,bT,bT,bT,bT,bT,bT,bT,bT,bT,bT,bT,bT,bT,bT,bT,bT,bT,bT,bT,bF,bT,bT,bT,bT,bT,bT,bF,bF,bF,bF,bF,bF,bF,bF,bF,bF,bF,bF,bF,bF,bF,bF,bF,bF,bF,bF,bF,bF,bF,bF,bF,bF,bF,bF,bF,bF,bF,bF,bF,bF,bF,bF,bF,bF,bF,bF,bF,bF,bF,bF,bF,bF,bF,bF,bF,bF,bF,bF,bF]) (by kernel_rfl) ?_; refine dgz 47 ?_; refine wd_listed (List.toArray [bT,bT,bT,bT,bT,bT,bT,bT,bT,bT,bT,bT,bT,bT,bT,bT,bT,bT,bT,bT,bT,bT,bT,bT,bT,bT,bT,bT,bT,bT,bT,bT,bT,bT,bT,bT,bT,bT,bT,bT,bF,bT,bT,bT,bT,bT,bT,bT,bF,bF,bF,bF,bF,bF,bF,bF,bF,bF,bF,bF,bF,bF,bF,bF,bF,bF,bF,bF,bF,bF,bF,bF,bF,bF,bF,bF,bF,bF,bF,bF,bF,bF,bF,bF,bF,bF,bF,bF,bF,bF,bF,bF,bF,bF,bF,bF,bF,bF,bF,bF]) (by kernel_rfl) ?_; refine dgz 48 ?_; refine wd_listed (List.toArray [bT,bT,bT,bT,bT,bT,bT,bT,bT,bT,bT,bT,bT,bT,bT,bT,bT,bT,bT,bT,bT,bT,bT,bT,bT,bT,bT,bT,bT,bT,bT,bT,bT,bT,bT,bT,bT,bT,bT,bT,bF,bT,bT,bT,bT,bT,bT,bT,bT,bF,bF,bF,bF,bF,bF,bF,bF,bF,bF,bF,bF,bF,bF,bF,bF,bF,bF,bF,bF,bF,bF,bF,bF,bF,bF,bF,bF,bF,bF,bF,bF,bF,bF,bF,bF,bF,bF,bF,bF,bF,bF,bF,bF,bF,bF,bF,bF,bF,bF,bF]) (by kernel_rfl) ?_; refine dgz 49 ?_; refine wd_listed (List.toArray [bT,bT,bT,bT,bT,bT,bT,bT,bT,bT,bT,bT,bT,bT,bT,bT,bT,bT,bT,bT,bT,bT,bT,bT,bT,bT,bT,bT,bT,bT,bT,bT,bT,bT,bT,bT,bT,bT,bT,bT,bF,bT,bT,bT,bT,bT,bT,bT,bT,bT,bF,bF,bF,bF,bF,bF,bF,bF,bF,bF,bF,bF,bF,bF,bF,bF,bF,bF,bF,bF,bF,bF,bF,bF,bF,bF,bF,bF,bF,bF,bF,bF,bF,bF,bF,bF,bF,bF,bF,bF,bF,bF,bF,bF,bF,bF,bF,bF,bF,bF]) (by kernel_rfl) ?_; refine dgz 50 ?_; refine wd_listed (List.toArray [bT,bT,bT,bT,bT,bT,bT,bT,bT,bT,bT,bT,bT,bT,bT,bT,bT,bT,bT,bT,bT,bT,bT,bT,bT,bT,bT,bT,bT,bT,bT,bT,bT,bT,bT,bT,bT,bT,bT,bT,bF,bT,bT,bT,bT,bT,bT,bT,bT,bT,bT,bF,bF,bF,bF,bF,bF,bF,bF,bF,bF,bF,bF,bF,bF,bF,bF,bF,bF,bF,bF,bF,bF,bF,bF,bF,bF,bF,bF,bF,bF,bF,bF,bF,bF,bF,bF,bF,bF,bF,bF,bF,bF,bF,bF,bF,bF,bF,bF,bF]) (by kernel_rfl) ?_; refine dgz 51 ?_; refine wd_listed (List.toArray [bT,bT,bT,bT,bT,bT,bT,bT,bT,bT,bT,bT,bT,bT,bT,bT,bT,bT,bT,bT,bT,bT,bT,bT,bT,bT,bT,bT,bT,bT,bT,bT,bT,bT,bT,bT,bT,bT,bT,bT,bF,bT,bT,bT,bT,bT,bT,bT,bT,bT,bT,bT,bF,bF,bF,bF,bF,bF,bF,bF,bF,bF,bF,bF,bF,bF,bF,bF,bF,bF,bF,bF,bF,bF,bF,bF,bF,bF,bF,bF,bF,bF,bF,bF,bF,bF,bF,bF,bF,bF,bF,bF,bF,bF,bF,bF,bF,bF,bF,bF]) (by kernel_rfl) ?_; refine ddx 40 ?_)
  refine walk ?_
  refine call (llast_spec _ g h) ?_ (hg := frameL)
  intro _ _
  (refine walk ?_)
  refine wd_listed (List.toArray [bT,bT,bT,bT,bT,bT,bT,bT,bT,bT,bT,bT,bT,bT,bT,bT,bT,bT,bT,bT,bT,bT,bT,bT,bT,bT,bT,bT,bT,bT,bT,bT,bT,bT,bT,bT,bT,bT,bT,bT,bT,bT,bT,bT,bT,bT,bT,bT,bT,bT,bT,bT,bF,bF,bF,bF,bF,bF,bF,bF,bF,bF,bF,bF,bF,bF,bF,bF,bF,bF,bF,bF,bF,bF,bF,bF,bF,bF,bF,bF,bF,bF,bF,bF,bF,bF,bF,bF,bF,bF,bF,bF,bF,bF,bF,bF,bF,bF,bF,bF]) (by kernel_rfl) ?_
  (refine dgz 52 ?_; refine wd_listed (List.toArray [bT,bT,bT,bT,bT,bT,bT,bT,bT,bT,bT,bT,bT,bT,bT,bT,bT,bT,bT,bT,bT,bT,bT,bT,bT,bT,bT,bT,bT,bT,bT,bT,bT,bT,bT,bT,bT,bT,bT,bT,bT,bT,bT,bT,bT,bT,bT,bT,bT,bT,bT,bT,bT,bF,bF,bF,bF,bF,bF,bF,bF,bF,bF,bF,bF,bF,bF,bF,bF,bF,bF,bF,bF,bF,bF,bF,bF,bF,bF,bF,bF,bF,bF,bF,bF,bF,bF,bF,bF,bF,bF,bF,bF,bF,bF,bF,bF,bF,bF,bF]) (by kernel_rfl) ?_; refine dz 53 ?_; refine wd_listed (List.toArray [bT,bT,bT,bT,bT,bT,bT,bT,bT,bT,bT,bT,bT,bT,bT,bT,bT,bT,bT,bT,bT,bT,bT,bT,bT,bT,bT,bT,bT,bT,bT,bT,bT,bT,bT,bT,bT,bT,bT,bT,bT,bT,bT,bT,bT,bT,bT,bT,bT,bT,bT,bT,bT,bT,bF,bF,bF,bF,bF,bF,bF,bF,bF,bF,bF,bF,bF,bF,bF,bF,bF,bF,bF,bF,bF,bF,bF,bF,bF,bF,bF,bF,bF,bF,bF,bF,bF,bF,bF,bF,bF,bF,bF,bF,bF,bF,bF,bF,bF,bF]) (by kernel_rfl) ?_; refine dz 54 ?_; refine wd_listed (List.toArray [bT,bT,bT,bT,bT,bT,bT,bT,bT,bT,bT,bT,bT,bT,bT,bT,bT,bT,bT,bT,bT,bT,bT,bT,bT,bT,bT,bT,bT,bT,bT,bT,bT,bT,bT,bT,bT,bT,bT,bT,bT,bT,bT,bT,bT,bT,bT,bT,bT,bT,bT,bT,bT,bT,bT,bF,bF,bF,bF,bF,bF,bF,bF,bF,bF,bF,bF,bF,bF,bF,bF,bF,bF,bF,bF,bF,bF,bF,bF,bF,bF,bF,bF,bF,bF,bF,bF,bF,bF,bF,bF,bF,bF,bF,bF,bF,bF,bF,bF,bF]) (by kernel_rfl) ?_; refine dwhich 62 ?_)
  refine ⟨fun hz => absurd hz (by unfold Lg.last; rw [hr.idx, hsh]; simp), fun _ => ?_⟩
  refine wd_listed (List.toArray [bT,bT,bT,bT,bT,bT,bT,bT,bT,bT,bT,bT,bT,bT,bT,bT,bT,bT,bT,bT,bT,bT,bT,bT,bT,bT,bT,bT,bT,bT,bT,bT,bT,bT,bT,bT,bT,bT,bT,bT,bT,bT,bT,bT,bT,bT,bT,bT,bT,bT,bT,bT,bT,bT,bT,bF,bF,bF,bF,bF,bF,bF,bF,bF,bF,bF,bF,bF,bF,bF,bF,bF,bF,bF,bF,bF,bF,bF,bF,bF,bF,bF,bF,bF,bF,bF,bF,bF,bF,bF,bF,bF,bF,bF,bF,bF,bF,bF,bF,bF]) (by kernel_rfl) ?_
  (refine dgz 55 ?_; refine wd_listed (List.toArray [bT,bT,bT,bT,bT,bT,bT,bT,bT,bT,bT,bT,bT,bT,bT,bT,bT,bT,bT,bT,bT,bT,bT,bT,bT,bT,bT,bT,bT,bT,bT,bT,bT,bT,bT,bT,bT,bT,bT,bT,bT,bT,bT,bT,bT,bT,bT,bT,bT,bT,bT,bT,bT,bT,bT,bT,bF,bF,bF,bF,bF,bF,bF,bF,bF,bF,bF,bF,bF,bF,bF,bF,bF,bF,bF,bF,bF,bF,bF,bF,bF,bF,bF,bF,bF,bF,bF,bF,bF,bF,bF,bF,bF,bF,bF,bF,bF,bF,bF,bF]) (by kernel_rfl) ?_; refine dgz 57 ?_; refine wd_listed (List.toArray [bT,bT,bT,bT,bT,bT,bT,bT,bT,bT,bT,bT,bT,bT,bT,bT,bT,bT,bT,bT,bT,bT,bT,bT,bT,bT,bT,bT,bT,bT,bT,bT,bT,bT,bT,bT,bT,bT,bT,bT,bT,bT,bT,bT,bT,bT,bT,bT,bT,bT,bT,bT,bT,bT,bT,bT,bF,bT,bF,bF,bF,bF,bF,bF,bF,bF,bF,bF,bF,bF,bF,bF,bF,bF,bF,bF,bF,bF,bF,bF,bF,bF,bF,bF,bF,bF,bF,bF,bF,bF,bF,bF,bF,bF,bF,bF,bF,bF,bF,bF]) (by kernel_rfl) ?_; refine dgz 58 ?_; refine wd_listed (List.toArray [bT,bT,bT,bT,bT,bT,bT,bT,bT,bT,bT,bT,bT,bT,bT,bT,bT,bT,bT,bT,bT,bT,bT,bT,bT,bT,bT,bT,bT,bT,bT,bT,bT,bT,bT,bT,bT,bT,bT,bT,bT,bT,bT,bT,bT,bT,bT,bT,bT,bT,bT,bT,bT,bT,bT,bT,bF,bT,bT,bF,bF,bF,bF,bF,bF,bF,bF,bF,bF,bF,bF,bF,bF,bF,bF,bF,bF,bF,bF,bF,bF,bF,bF,bF,bF,bF,bF,bF,bF,bF,bF,bF,bF,bF,bF,bF,bF,bF,bF,bF]) (by kernel_rfl) ?_; refine dgz 59 ?_; refine wd_listed (List.toArray [bT,bT,bT,bT,bT,bT,bT,bT,bT,bT,bT,bT,bT,bT,bT,bT,bT,bT,bT,bT,bT,bT,bT,bT,bT,bT,bT,bT,bT,bT,bT,bT,bT,bT,bT,bT,bT,bT,bT,bT,bT,bT,bT,bT,bT,bT,bT,bT,bT,bT,bT,bT,bT,bT,bT,bT,bF,bT,bT,bT,bF,bF,bF,bF,bF,bF,bF,bF,bF,bF,bF,bF,bF,bF,bF,bF,bF,bF,bF,bF,bF,bF,bF,bF,bF,bF,bF,bF,bF,bF,bF,bF,bF,bF,bF,bF,bF,bF,bF,bF]) (by kernel_rfl) ?_; refine dgz 60 ?_; refine wd_listed (List.toArray [bT,bT,bT,bT,bT,bT,bT,bT,bT,bT,bT,bT,bT,bT,bT,bT,bT,bT,bT,bT,bT,bT,bT,bT,bT,bT,bT,bT,bT,bT,bT,bT,bT,bT,bT,bT,bT,bT,bT,bT,bT,bT,bT,bT,bT,bT,bT,bT,bT,bT,bT,bT,bT,bT,bT,bT,bF,bT,bT,bT,bT,bF,bF,bF,bF,bF,bF,bF,bF,bF,bF,bF,bF,bF,bF,bF,bF,bF,bF,bF,bF,bF,bF,bF,bF,bF,bF,bF,bF,bF,bF,bF,bF,bF,bF,bF,bF,bF,bF,bF]) (by kernel_rfl) ?_; refine dgz 61 ?_; refine wd_listed (List.toArray [bT,bT,bT,bT,bT,bT,bT,bT,bT,bT,bT,bT,bT,bT,bT,bT,bT,bT,bT,bT,bT,bT,bT,bT,bT,bT,bT,bT,bT,bT,bT,bT,bT,bT,bT,bT,bT,bT,bT,bT,bT,bT,bT,bT,bT,bT,bT,bT,bT,bT,bT,bT,bT,bT,bT,bT,bF,bT,bT,bT,bT,bT,bF,bF,bF,bF,bF,bF,bF,bF,bF,bF,bF,bF,bF,bF,bF,bF,bF,bF,bF,bF,bF,bF,bF,bF,bF,bF,bF,bF,bF,bF,bF,bF,bF,bF,bF,bF,bF,bF]) (by kernel_rfl) ?_; refine dgz 62 ?_; refine wd_listed (List.toArray [bT,bT,bT,bT,bT,bT,bT,bT,bT,bT,bT,bT,bT,bT,bT,bT,bT,bT,bT,bT,bT,bT,bT,bT,bT,bT,bT,bT,bT,bT,bT,bT,bT,bT,bT,bT,bT,bT,bT,bT,bT,bT,bT,bT,bT,bT,bT,bT,bT,bT,bT,bT,bT,bT,bT,bT,bF,bT,bT,bT,bT,bT,bT,bF,bF,bF,bF,bF,bF,bF,bF,bF,bF,bF,bF,bF,bF,bF,bF,bF,bF,bF,bF,bF,bF,bF,bF,bF,bF,bF,bF,bF,bF,bF,bF,bF,bF,bF,bF,bF]) (by kernel_rfl) ?_; refine dgz 63 ?_; refine wd_listed (List.toArray [bT,bT,bT,bT,bT,bT,bT,bT,bT,bT,bT,bT,bT,bT,bT,bT,bT,bT,bT,bT,bT,bT,bT,bT,bT,bT,bT,bT,bT,bT,bT,bT,bT,bT,bT,bT,bT,bT,bT,bT,bT,bT,bT,bT,bT,bT,bT,bT,bT,bT,bT,bT,bT,bT,bT,bT,bF,bT,bT,bT,bT,bT,bT,bT,bF,bF,bF,bF,bF,bF,bF,bF,bF,bF,bF,bF,bF,bF,bF,bF,bF,bF,bF,bF,bF,bF,bF,bF,bF,bF,bF,bF,bF,bF,bF,bF,bF,bF,bF,bF]) (by kernel_rfl) ?_; refine dgz 64 ?_; refine wd_listed (List.toArray [bT,bT,bT,bT,bT,bT,bT,bT,bT,bT,bT,bT,bT,bT,bT,bT,bT,bT,bT,bT,bT,bT,bT,bT,bT,bT,bT,bT,bT,bT,bT,bT,bT,bT,bT,bT,bT,bT,bT,bT,bT,bT,bT,bT,bT,bT,bT,bT,bT,bT,bT,bT,bT,bT,bT,bT,bF,bT,bT,bT,bT,bT,bT,bT,bT,bF,bF,bF,bF,bF,bF,bF,bF,bF,bF,bF,bF,bF,bF,bF,bF,bF,bF,bF,bF,bF,bF,bF,bF,bF,bF,bF,bF,bF,bF,bF,bF,bF,bF,bF]) (by kernel_rfl) ?_; refine dgz 65 ?_; refine wd_listed (List.toArray [bT,bT,bT,bT,bT,bT,bT,bT,bT,bT,bT,bT,bT,bT,bT,bT,bT,bT,bT,bT,bT,bT,bT,bT,bT,bT,bT,bT,bT,bT,bT,bT,bT,bT,bT,bT,bT,bT,bT,bT,bT,bT,bT,bT,bT,bT,bT,bT,bT,bT,bT,bT,bT,bT,bT,bT,bF,bT,bT,bT,bT,bT,bT,bT,bT,bT,bF,bF,bF,bF,bF,bF,bF,bF,bF,bF,bF,bF,bF,bF,bF,bF,bF,bF,bF,bF,bF,bF,bF,bF,bF,bF,bF,bF,bF,bF,bF,bF,bF,bF]) (by kernel_rfl) ?_; refine dgz 66 ?_; refine wd_listed (List.toArray [bT,bT,bT,bT,bT,bT,bT,bT,bT,bT,bT,bT,bT,bT,bT,bT,bT,bT,bT,bT,bT,bT,bT,bT,bT,bT,bT,bT,bT,bT,bT,bT,bT,bT,bT,bT,bT,bT,bT,bT,bT,bT,bT,bT,bT,bT,bT,bT,bT,bT,bT,bT,bT,bT,bT,bT,bF,bT,bT,bT,bT,bT,bT,bT,bT,bT,bT,bF,bF,bF,bF,bF,bF,bF,bF,bF,bF,bF,bF,bF,bF,bF,bF,bF,bF,bF,bF,bF,bF,bF,bF,bF,bF,bF,bF,bF,bF,bF,bF,bF]) (by kernel_rfl) ?_; refine dgz 67 ?_; refine wd_listed (List.toArray [bT,bT,bT,bT,bT,bT,bT,bT,bT,bT,bT,bT,bT,bT,bT,bT,bT,bT,bT,bT,bT,bT,bT,bT,bT,bT,bT,bT,bT,bT,bT,bT,bT,bT,bT,bT,bT,bT,bT,bT,bT,bT,bT,bT,bT,bT,bT,bT,bT,bT,bT,bT,bT,bT,bT,bT,bF,bT,bT,bT,bT,bT,bT,bT,bT,bT,bT,bT,bF,bF,bF,bF,bF,bF,bF,bF,bF,bF,bF,bF,bF,bF,bF,bF,bF,bF,bF,bF,bF,bF,bF,bF,bF,bF,bF,bF,bF,bF,bF,bF]) (by kernel_rfl) ?_; refine dgz 68 ?_; refine wd_listed (List.toArray [bT,bT,bT,bT,bT,bT,bT,bT,bT,bT,bT,bT,bT,bT,bT,bT,bT,bT,bT,bT,bT,bT,bT,bT,bT,bT,bT,bT,bT,bT,bT,bT,bT,bT,bT,bT,bT,bT,bT,bT,bT,bT,bT,bT,bT,bT,bT,bT,bT,bT,bT,bT,bT,bT,bT,bT,bF,bT,bT,bT,bT,bT,bT,bT,bT,bT,bT,bT,bT,bF,bF,bF,bF,bF,bF,bF,bF,bF,bF,bF,bF,bF,bF,bF,bF,bF,bF,bF,bF,bF,bF,bF,bF,bF,bF,bF,bF,bF,bF,bF]) (by kernel_rfl) ?_; refine dgz 69 ?_; refine wd_listed (List.toArray [bT,bT,bT,bT,bT,bT,bT,bT,bT,bT,bT,bT,bT,bT,bT,bT,bT,bT,bT,bT,bT,bT,bT,bT,bT,bT,bT,bT,bT,bT,bT,bT,bT,bT,bT,bT,bT,bT,bT,bT,bT,bT,bT,bT,bT,bT,bT,bT,bT,bT,bT,bT,bT,bT,bT,bT,bF,bT,bT,bT,bT,bT,bT,bT,bT,bT,bT,bT,bT,bT,bF,bF,bF,bF,bF,bF,bF,bF,bF,bF,bF,bF,bF,bF,bF,bF,bF,bF,bF,bF,bF,bF,bF,bF,bF,bF,bF,bF,bF,bF]) (by kernel_rfl) ?_; refine dgz 70 ?_; refine wd_listed (List.toArray [bT,bT,bT,bT,bT,bT,bT,bT,bT,bT,bT,bT,bT,bT,bT,bT,bT,bT,bT,bT,bT,bT,bT,bT,bT,bT,bT,bT,bT,bT,bT,bT,bT,bT,bT,bT,bT,bT,bT,bT,bT,bT,bT,bT,bT,bT,bT,bT,bT,bT,bT,bT,bT,bT,bT,bT,bF,bT,bT,bT,bT,bT,bT,bT,bT,bT,bT,bT,bT,bT,bT,bF,bF,bF,bF,bF,bF,bF,bF,bF,bF,bF,bF,bF,bF,bF,bF,bF,bF,bF,bF,bF,bF,bF,bF,bF,bF,bF,bF,bF]) (by kernel_rfl) ?_; refine dgz 71 ?_; refine wd_listed (List.toArray [bT,bT,bT,bT,bT,bT,bT,bT,bT,bT,bT,bT,bT,bT,bT,bT,bT,bT,bT,bT,bT,bT,bT,bT,bT,bT,bT,bT,bT,bT,bT,bT,bT,bT,bT,bT,bT,bT,bT,bT,bT,bT,bT,bT,bT,bT,bT,bT,bT,bT,bT,bT,bT,bT,bT,bT,bF,bT,bT,bT,bT,bT,bT,bT,bT,bT,bT,bT,bT,bT,bT,bT,bF,bF,bF,bF,bF,bF,bF,bF,bF,bF,bF,bF,bF,bF,bF,bF,bF,bF,bF,bF,bF,bF,bF,bF,bF,bF,bF,bF]) (by kernel_rfl) ?_; refine ddx 56 ?_)
  refine walk ?_
  refine call (lstripe_spec _ g h) ?_ (hg := frameL)
  intro _ _
  (refine walk ?_)
  refine wd_listed (List.toArray [bT,bT,bT,bT,bT,bT,bT,bT,bT,bT,bT,bT,bT,bT,bT,bT,bT,bT,bT,bT,bT,bT,bT,bT,bT,bT,bT,bT,bT,bT,bT,bT,bT,bT,bT,bT,bT,bT,bT,bT,bT,bT,bT,bT,bT,bT,bT,bT,bT,bT,bT,bT,bT,bT,bT,bT,bT,bT,bT,bT,bT,bT,bT,bT,bT,bT,bT,bT,bT,bT,bT,bT,bF,bF,bF,bF,bF,bF,bF,bF,bF,bF,bF,bF,bF,bF,bF,bF,bF,bF,bF,bF,bF,bF,bF,bF,bF,bF,bF,bF]) (by kernel_rfl) ?_
  (refine dgz 72 ?_; refine wd_listed (List.toArray [bT,bT,bT,bT,bT,bT,bT,bT,bT,bT,bT,bT,bT,bT,bT,bT,bT,bT,bT,bT,bT,bT,bT,bT,bT,bT,bT,bT,bT,bT,bT,bT,bT,bT,bT,bT,bT,bT,bT,bT,bT,bT,bT,bT,bT,bT,bT,bT,bT,bT,bT,bT,bT,bT,bT,bT,bT,bT,bT,bT,bT,bT,bT,bT,bT,bT,bT,bT,bT,bT,bT,bT,bT,bF,bF,bF,bF,bF,bF,bF,bF,bF,bF,bF,bF,bF,bF,bF,bF,bF,bF,bF,bF,bF,bF,bF,bF,bF,bF,bF]) (by kernel_rfl) ?_; refine dz 73 ?_; refine wd_listed (List.toArray [bT,bT,bT,bT,bT,bT,bT,bT,bT,bT,bT,bT,bT,bT,bT,bT,bT,bT,bT,bT,bT,bT,bT,bT,bT,bT,bT,bT,bT,bT,bT,bT,bT,bT,bT,bT,bT,bT,bT,bT,bT,bT,bT,bT,bT,bT,bT,bT,bT,bT,bT,bT,bT,bT,bT,bT,bT,bT,bT,bT,bT,bT,bT,bT,bT,bT,bT,bT,bT,bT,bT,bT,bT,bT,bF,bF,bF,bF,bF,bF,bF,bF,bF,bF,bF,bF,bF,bF,bF,bF,bF,bF,bF,bF,bF,bF,bF,bF,bF,bF]) (by kernel_rfl) ?_; refine dz 74 ?_; refine wd_listed (List.toArray [bT,bT,bT,bT,bT,bT,bT,bT,bT,bT,bT,bT,bT,bT,bT,bT,bT,bT,bT,bT,bT,bT,bT,bT,bT,bT,bT,bT,bT,bT,bT,bT,bT,bT,bT,bT,bT,bT,bT,bT,bT,bT,bT,bT,bT,bT,bT,bT,bT,bT,bT,bT,bT,bT,bT,bT,bT,bT,bT,bT,bT,bT,bT,bT,bT,bT,bT,bT,bT,bT,bT,bT,bT,bT,bT,bF,bF,bF,bF,bF,bF,bF,bF,bF,bF,bF,bF,bF,bF,bF,bF,bF,bF,bF,bF,bF,bF,bF,bF,bF]) (by kernel_rfl) ?_; refine dwhich 82 ?_)
  refine ⟨fun hz => absurd hz (by unfold Lg.stripe; rw [hr.idx, hr.seg, hsh]; simp), fun _ => ?_⟩
  refine wd_listed (List.toArray [bT,bT,bT,bT,bT,bT,bT,bT,bT,bT,bT,bT,bT,bT,bT,bT,bT,bT,bT,bT,bT,bT,bT,bT,bT,bT,bT,bT,bT,bT,bT,bT,bT,bT,bT,bT,bT,bT,bT,bT,bT,bT,bT,bT,bT,bT,bT,bT,bT,bT,bT,bT,bT,bT,bT,bT,bT,bT,bT,bT,bT,bT,bT,bT,bT,bT,bT,bT,bT,bT,bT,bT,bT,bT,bT,bF,bF,bF,bF,bF,bF,bF,bF,bF,bF,bF,bF,bF,bF,bF,bF,bF,bF,bF,bF,bF,bF,bF,bF,bF]) (by kernel_rfl) ?_
  (refine dgz 75 ?_; refine wd_listed (List.toArray [bT,bT,bT,bT,bT,bT,bT,bT,bT,bT,bT,bT,bT,bT,bT,bT,bT,bT,bT,bT,bT,bT,bT,bT,bT,bT,bT,bT,bT,bT,bT,bT,bT,bT,bT,bT,bT,bT,bT,bT,bT,bT,bT,bT,bT,bT,bT,bT,bT,bT,bT,bT,bT,bT,bT,bT,bT,bT,bT,bT,bT,bT,bT,bT,bT,bT,bT,bT,bT,bT,bT,bT,bT,bT,bT,bT,bF,bF,bF,bF,bF,bF,bF,bF,bF,bF,bF,bF,bF,bF,bF,bF,bF,bF,bF,bF,bF,bF,bF,bF]) (by kernel_rfl) ?_; refine dgz 76 ?_; refine wd_listed (List.toArray [bT,bT,bT,bT,bT,bT,bT,bT,bT,bT,bT,bT,bT,bT,bT,bT,bT,bT,bT,bT,bT,bT,bT,bT,bT,bT,bT,bT,bT,bT,bT,bT,bT,bT,bT,bT,bT,bT,bT,bT,bT,bT,bT,bT,bT,bT,bT,bT,bT,bT,bT,bT,bT,bT,bT,bT,bT,bT,bT,bT,bT,bT,bT,bT,bT,bT,bT,bT,bT,bT,bT,bT,bT,bT,bT,bT,bT,bF,bF,bF,bF,bF,bF,bF,bF,bF,bF,bF,bF,bF,bF,bF,bF,bF,bF,bF,bF,bF,bF,bF]) (by kernel_rfl) ?_; refine dgz 77 ?_; refine wd_listed (List.toArray [bT,bT,bT,bT,bT,bT,bT,bT,bT,bT,bT,bT,bT,bT,bT,bT,bT,bT,bT,bT,bT,bT,bT,bT,bT,bT,bT,bT,bT,bT,bT,bT,bT,bT,bT,bT,bT,bT,bT,bT,bT,bT,bT,bT,bT,bT,bT,bT,bT,bT,bT,bT,bT,bT,bT,bT,bT,bT,bT,bT,bT,bT,bT,bT,bT,bT,bT,bT,bT,bT,bT,bT,bT,bT,bT,bT,bT,bT,bF,bF,bF,bF,bF,bF,bF,bF,bF,bF,bF,bF,bF,bF,bF,bF,bF,bF,bF,bF,bF,bF]) (by kernel_rfl) ?_; refine dgz 78 ?_; refine wd_listed (List.toArray [bT,bT,bT,bT,bT,bT,bT,bT,bT,bT,bT,bT,bT,bT,bT,bT,bT,bT,bT,bT,bT,bT,bT,bT,bT,bT,bT,bT,bT,bT,bT,bT,bT,bT,bT,bT,bT,bT,bT,bT,bT,bT,bT,bT,bT,bT,bT,bT,bT,bT,bT,bT,bT,bT,bT,bT,bT,bT,bT,bT,bT,bT,bT,bT,bT,bT,bT,bT,bT,bT,bT,bT,bT,bT,bT,bT,bT,bT,bT,bF,bF,bF,bF,bF,bF,bF,bF,bF,bF,bF,bF,bF,bF,bF,bF,bF,bF,bF,bF,bF]) (by kernel_rfl) ?_; refine dgz 81 ?_; refine wd_listed (List.toArray [bT,bT,bT,bT,bT,bT,bT,bT,bT,bT,bT,bT,bT,bT,bT,bT,bT,bT,bT,bT,bT,bT,bT,bT,bT,bT,bT,bT,bT,bT,bT,bT,bT,bT,bT,bT,bT,bT,bT,bT,bT,bT,bT,bT,bT,bT,bT,bT,bT,bT,bT,bT,bT,bT,bT,bT,bT,bT,bT,bT,bT,bT,bT,bT,bT,bT,bT,bT,bT,bT,bT,bT,bT,bT,bT,bT,bT,bT,bT,bF,bF,bT,bF,bF,bF,bF,bF,bF,bF,bF,bF,bF,bF,bF,bF,bF,bF,bF,bF,bF]) (by kernel_rfl) ?_; refine dgz 82 ?_; refine wd_listed (List.toArray [bT,bT,bT,bT,bT,bT,bT,bT,bT,bT,bT,bT,bT,bT,bT,bT,bT,bT,bT,bT,bT,bT,bT,bT,bT,bT,bT,bT,bT,bT,bT,bT,bT,bT,bT,bT,bT,bT,bT,bT,bT,bT,bT,bT,bT,bT,bT,bT,bT,bT,bT,bT,bT,bT,bT,bT,bT,bT,bT,bT,bT,bT,bT,bT,bT,bT,bT,bT,bT,bT,bT,bT,bT,bT,bT,bT,bT,bT,bT,bF,bF,bT,bT,bF,bF,bF,bF,bF,bF,bF,bF,bF,bF,bF,bF,bF,bF,bF,bF,bF]) (by kernel_rfl) ?_; refine dgz 83 ?_; refine wd_listed (List.toArray [bT,bT,bT,bT,bT,bT,bT,bT,bT,bT,bT,bT,bT,bT,bT,bT,bT,bT,bT,bT,bT,bT,bT,bT,bT,bT,bT,bT,bT,bT,bT,bT,bT,bT,bT,bT,bT,bT,bT,bT,bT,bT,bT,bT,bT,bT,bT,bT,bT,bT,bT,bT,bT,bT,bT,bT,bT,bT,bT,bT,bT,bT,bT,bT,bT,bT,bT,bT,bT,bT,bT,bT,bT,bT,bT,bT,bT,bT,bT,bF,bF,bT,bT,bT,bF,bF,bF,bF,bF,bF,bF,bF,bF,bF,bF,bF,bF,bF,bF,bF]) (by kernel_rfl) ?_; refine dgz 84 ?_; refine wd_listed (List.toArray [bT,bT,bT,bT,bT,bT,bT,bT,bT,bT,bT,bT,bT,bT,bT,bT,bT,bT,bT,bT,bT,bT,bT,bT,bT,bT,bT,bT,bT,bT,bT,bT,bT,bT,bT,bT,bT,bT,bT,bT,bT,bT,bT,bT,bT,bT,bT,bT,bT,bT,bT,bT,bT,bT,bT,bT,bT,bT,bT,bT,bT,bT,bT,bT,bT,bT,bT,bT,bT,bT,bT,bT,bT,bT,bT,bT,bT,bT,bT,bF,bF,bT,bT,bT,bT,bF,bF,bF,bF,bF,bF,bF,bF,bF,bF,bF,bF,bF,bF,bF]) (by kernel_rfl) ?_; refine ddx 79 ?_)
  refine walk ?_
  refine call (nroot_spec kn kpp g.rig.nv) ?_ (hg := frameL)
  intro _ _
  (refine walk ?_)
  refine wd_listed (List.toArray [bT,bT,bT,bT,bT,bT,bT,bT,bT,bT,bT,bT,bT,bT,bT,bT,bT,bT,bT,bT,bT,bT,bT,bT,bT,bT,bT,bT,bT,bT,bT,bT,bT,bT,bT,bT,bT,bT,bT,bT,bT,bT,bT,bT,bT,bT,bT,bT,bT,bT,bT,bT,bT,bT,bT,bT,bT,bT,bT,bT,bT,bT,bT,bT,bT,bT,bT,bT,bT,bT,bT,bT,bT,bT,bT,bT,bT,bT,bT,bT,bF,bT,bT,bT,bT,bF,bF,bF,bF,bF,bF,bF,bF,bF,bF,bF,bF,bF,bF,bF]) (by kernel_rfl) ?_
  (refine dgz 80 ?_; refine wd_listed (List.toArray [bT,bT,bT,bT,bT,bT,bT,bT,bT,bT,bT,bT,bT,bT,bT,bT,bT,bT,bT,bT,bT,bT,bT,bT,bT,bT,bT,bT,bT,bT,bT,bT,bT,bT,bT,bT,bT,bT,bT,bT,bT,bT,bT,bT,bT,bT,bT,bT,bT,bT,bT,bT,bT,bT,bT,bT,bT,bT,bT,bT,bT,bT,bT,bT,bT,bT,bT,bT,bT,bT,bT,bT,bT,bT,bT,bT,bT,bT,bT,bT,bT,bT,bT,bT,bT,bF,bF,bF,bF,bF,bF,bF,bF,bF,bF,bF,bF,bF,bF,bF]) (by kernel_rfl) ?_; refine dgz 85 ?_; refine wd_listed (List.toArray [bT,bT,bT,bT,bT,bT,bT,bT,bT,bT,bT,bT,bT,bT,bT,bT,bT,bT,bT,bT,bT,bT,bT,bT,bT,bT,bT,bT,bT,bT,bT,bT,bT,bT,bT,bT,bT,bT,bT,bT,bT,bT,bT,bT,bT,bT,bT,bT,bT,bT,bT,bT,bT,bT,bT,bT,bT,bT,bT,bT,bT,bT,bT,bT,bT,bT,bT,bT,bT,bT,bT,bT,bT,bT,bT,bT,bT,bT,bT,bT,bT,bT,bT,bT,bT,bT,bF,bF,bF,bF,bF,bF,bF,bF,bF,bF,bF,bF,bF,bF]) (by kernel_rfl) ?_; refine dz 86 ?_; refine wd_listed (List.toArray [bT,bT,bT,bT,bT,bT,bT,bT,bT,bT,bT,bT,bT,bT,bT,bT,bT,bT,bT,bT,bT,bT,bT,bT,bT,bT,bT,bT,bT,bT,bT,bT,bT,bT,bT,bT,bT,bT,bT,bT,bT,bT,bT,bT,bT,bT,bT,bT,bT,bT,bT,bT,bT,bT,bT,bT,bT,bT,bT,bT,bT,bT,bT,bT,bT,bT,bT,bT,bT,bT,bT,bT,bT,bT,bT,bT,bT,bT,bT,bT,bT,bT,bT,bT,bT,bT,bT,bF,bF,bF,bF,bF,bF,bF,bF,bF,bF,bF,bF,bF]) (by kernel_rfl) ?_; refine dz 87 ?_; refine wd_listed (List.toArray [bT,bT,bT,bT,bT,bT,bT,bT,bT,bT,bT,bT,bT,bT,bT,bT,bT,bT,bT,bT,bT,bT,bT,bT,bT,bT,bT,bT,bT,bT,bT,bT,bT,bT,bT,bT,bT,bT,bT,bT,bT,bT,bT,bT,bT,bT,bT,bT,bT,bT,bT,bT,bT,bT,bT,bT,bT,bT,bT,bT,bT,bT,bT,bT,bT,bT,bT,bT,bT,bT,bT,bT,bT,bT,bT,bT,bT,bT,bT,bT,bT,bT,bT,bT,bT,bT,bT,bT,bF,bF,bF,bF,bF,bF,bF,bF,bF,bF,bF,bF]) (by kernel_rfl) ?_; refine dwhich 95 ?_)
  refine ⟨fun hz => absurd hz (by rw [hr.durable]; simp), fun _ => ?_⟩
  refine wd_listed (List.toArray [bT,bT,bT,bT,bT,bT,bT,bT,bT,bT,bT,bT,bT,bT,bT,bT,bT,bT,bT,bT,bT,bT,bT,bT,bT,bT,bT,bT,bT,bT,bT,bT,bT,bT,bT,bT,bT,bT,bT,bT,bT,bT,bT,bT,bT,bT,bT,bT,bT,bT,bT,bT,bT,bT,bT,bT,bT,bT,bT,bT,bT,bT,bT,bT,bT,bT,bT,bT,bT,bT,bT,bT,bT,bT,bT,bT,bT,bT,bT,bT,bT,bT,bT,bT,bT,bT,bT,bT,bF,bF,bF,bF,bF,bF,bF,bF,bF,bF,bF,bF]) (by kernel_rfl) ?_
  (refine dgz 88 ?_; refine wd_listed (List.toArray [bT,bT,bT,bT,bT,bT,bT,bT,bT,bT,bT,bT,bT,bT,bT,bT,bT,bT,bT,bT,bT,bT,bT,bT,bT,bT,bT,bT,bT,bT,bT,bT,bT,bT,bT,bT,bT,bT,bT,bT,bT,bT,bT,bT,bT,bT,bT,bT,bT,bT,bT,bT,bT,bT,bT,bT,bT,bT,bT,bT,bT,bT,bT,bT,bT,bT,bT,bT,bT,bT,bT,bT,bT,bT,bT,bT,bT,bT,bT,bT,bT,bT,bT,bT,bT,bT,bT,bT,bT,bF,bF,bF,bF,bF,bF,bF,bF,bF,bF,bF]) (by kernel_rfl) ?_; refine dgz 89 ?_; refine wd_listed (List.toArray [bT,bT,bT,bT,bT,bT,bT,bT,bT,bT,bT,bT,bT,bT,bT,bT,bT,bT,bT,bT,bT,bT,bT,bT,bT,bT,bT,bT,bT,bT,bT,bT,bT,bT,bT,bT,bT,bT,bT,bT,bT,bT,bT,bT,bT,bT,bT,bT,bT,bT,bT,bT,bT,bT,bT,bT,bT,bT,bT,bT,bT,bT,bT,bT,bT,bT,bT,bT,bT,bT,bT,bT,bT,bT,bT,bT,bT,bT,bT,bT,bT,bT,bT,bT,bT,bT,bT,bT,bT,bT,bF,bF,bF,bF,bF,bF,bF,bF,bF,bF]) (by kernel_rfl) ?_; refine dgz 90 ?_; refine wd_listed (List.toArray [bT,bT,bT,bT,bT,bT,bT,bT,bT,bT,bT,bT,bT,bT,bT,bT,bT,bT,bT,bT,bT,bT,bT,bT,bT,bT,bT,bT,bT,bT,bT,bT,bT,bT,bT,bT,bT,bT,bT,bT,bT,bT,bT,bT,bT,bT,bT,bT,bT,bT,bT,bT,bT,bT,bT,bT,bT,bT,bT,bT,bT,bT,bT,bT,bT,bT,bT,bT,bT,bT,bT,bT,bT,bT,bT,bT,bT,bT,bT,bT,bT,bT,bT,bT,bT,bT,bT,bT,bT,bT,bT,bF,bF,bF,bF,bF,bF,bF,bF,bF]) (by kernel_rfl) ?_; refine dgz 91 ?_; refine wd_listed (List.toArray [bT,bT,bT,bT,bT,bT,bT,bT,bT,bT,bT,bT,bT,bT,bT,bT,bT,bT,bT,bT,bT,bT,bT,bT,bT,bT,bT,bT,bT,bT,bT,bT,bT,bT,bT,bT,bT,bT,bT,bT,bT,bT,bT,bT,bT,bT,bT,bT,bT,bT,bT,bT,bT,bT,bT,bT,bT,bT,bT,bT,bT,bT,bT,bT,bT,bT,bT,bT,bT,bT,bT,bT,bT,bT,bT,bT,bT,bT,bT,bT,bT,bT,bT,bT,bT,bT,bT,bT,bT,bT,bT,bT,bF,bF,bF,bF,bF,bF,bF,bF]) (by kernel_rfl) ?_; refine dgz 93 ?_; refine wd_listed (List.toArray [bT,bT,bT,bT,bT,bT,bT,bT,bT,bT,bT,bT,bT,bT,bT,bT,bT,bT,bT,bT,bT,bT,bT,bT,bT,bT,bT,bT,bT,bT,bT,bT,bT,bT,bT,bT,bT,bT,bT,bT,bT,bT,bT,bT,bT,bT,bT,bT,bT,bT,bT,bT,bT,bT,bT,bT,bT,bT,bT,bT,bT,bT,bT,bT,bT,bT,bT,bT,bT,bT,bT,bT,bT,bT,bT,bT,bT,bT,bT,bT,bT,bT,bT,bT,bT,bT,bT,bT,bT,bT,bT,bT,bF,bT,bF,bF,bF,bF,bF,bF]) (by kernel_rfl) ?_; refine dgz 94 ?_; refine wd_listed (List.toArray [bT,bT,bT,bT,bT,bT,bT,bT,bT,bT,bT,bT,bT,bT,bT,bT,bT,bT,bT,bT,bT,bT,bT,bT,bT,bT,bT,bT,bT,bT,bT,bT,bT,bT,bT,bT,bT,bT,bT,bT,bT,bT,bT,bT,bT,bT,bT,bT,bT,bT,bT,bT,bT,bT,bT,bT,bT,bT,bT,bT,bT,bT,bT,bT,bT,bT,bT,bT,bT,bT,bT,bT,bT,bT,bT,bT,bT,bT,bT,bT,bT,bT,bT,bT,bT,bT,bT,bT,bT,bT,bT,bT,bF,bT,bT,bF,bF,bF,bF,bF]) (by kernel_rfl) ?_; refine dgz 95 ?_; refine wd_listed (List.toArray [bT,bT,bT,bT,bT,bT,bT,bT,bT,bT,bT,bT,bT,bT,bT,bT,bT,bT,bT,bT,bT,bT,bT,bT,bT,bT,bT,bT,bT,bT,bT,bT,bT,bT,bT,bT,bT,bT,bT,bT,bT,bT,bT,bT,bT,bT,bT,bT,bT,bT,bT,bT,bT,bT,bT,bT,bT,bT,bT,bT,bT,bT,bT,bT,bT,bT,bT,bT,bT,bT,bT,bT,bT,bT,bT,bT,bT,bT,bT,bT,bT,bT,bT,bT,bT,bT,bT,bT,bT,bT,bT,bT,bF,bT,bT,bT,bF,bF,bF,bF]) (by kernel_rfl) ?_; refine dgz 96 ?_; refine wd_listed (List.toArray [bT,bT,bT,bT,bT,bT,bT,bT,bT,bT,bT,bT,bT,bT,bT,bT,bT,bT,bT,bT,bT,bT,bT,bT,bT,bT,bT,bT,bT,bT,bT,bT,bT,bT,bT,bT,bT,bT,bT,bT,bT,bT,bT,bT,bT,bT,bT,bT,bT,bT,bT,bT,bT,bT,bT,bT,bT,bT,bT,bT,bT,bT,bT,bT,bT,bT,bT,bT,bT,bT,bT,bT,bT,bT,bT,bT,bT,bT,bT,bT,bT,bT,bT,bT,bT,bT,bT,bT,bT,bT,bT,bT,bF,bT,bT,bT,bT,bF,bF,bF]) (by kernel_rfl) ?_; refine ddx 92 ?_)
  refine walk ?_
  refine call (mall_spec mp g.map hml h.big) ?_ (hg := frameL)
  intro av _
  (refine walk ?_)
  refine wd_listed (List.toArray [bT,bT,bT,bT,bT,bT,bT,bT,bT,bT,bT,bT,bT,bT,bT,bT,bT,bT,bT,bT,bT,bT,bT,bT,bT,bT,bT,bT,bT,bT,bT,bT,bT,bT,bT,bT,bT,bT,bT,bT,bT,bT,bT,bT,bT,bT,bT,bT,bT,bT,bT,bT,bT,bT,bT,bT,bT,bT,bT,bT,bT,bT,bT,bT,bT,bT,bT,bT,bT,bT,bT,bT,bT,bT,bT,bT,bT,bT,bT,bT,bT,bT,bT,bT,bT,bT,bT,bT,bT,bT,bT,bT,bT,bT,bT,bT,bT,bF,bF,bF]) (by kernel_rfl) ?_
  (refine ddx 97 ?_)
  refine walk ?_
  refine call (eqints_spec av x.mv g.map b.map hml (by rw [hr.map]; exact hml)) ?_ (hr := fun h hs => ⟨RdIn.rd h hs, RdIn.rd h hs⟩) (hg := frameL)
  intro _ _
  rw [show decide (g.map = b.map) = true from decide_eq_true hr.map.symm]
  (refine walk ?_)
  refine wd_listed (List.toArray [bT,bT,bT,bT,bT,bT,bT,bT,bT,bT,bT,bT,bT,bT,bT,bT,bT,bT,bT,bT,bT,bT,bT,bT,bT,bT,bT,bT,bT,bT,bT,bT,bT,bT,bT,bT,bT,bT,bT,bT,bT,bT,bT,bT,bT,bT,bT,bT,bT,bT,bT,bT,bT,bT,bT,bT,bT,bT,bT,bT,bT,bT,bT,bT,bT,bT,bT,bT,bT,bT,bT,bT,bT,bT,bT,bT,bT,bT,bT,bT,bT,bT,bT,bT,bT,bT,bT,bT,bT,bT,bT,bT,bT,bT,bT,bT,bT,bT,bF,bF]) (by kernel_rfl) ?_
  (refine dgz 98 ?_; refine wd_listed (List.toArray [bT,bT,bT,bT,bT,bT,bT,bT,bT,bT,bT,bT,bT,bT,bT,bT,bT,bT,bT,bT,bT,bT,bT,bT,bT,bT,bT,bT,bT,bT,bT,bT,bT,bT,bT,bT,bT,bT,bT,bT,bT,bT,bT,bT,bT,bT,bT,bT,bT,bT,bT,bT,bT,bT,bT,bT,bT,bT,bT,bT,bT,bT,bT,bT,bT,bT,bT,bT,bT,bT,bT,bT,bT,bT,bT,bT,bT,bT,bT,bT,bT,bT,bT,bT,bT,bT,bT,bT,bT,bT,bT,bT,bT,bT,bT,bT,bT,bT,bT,bF]) (by kernel_rfl) ?_; refine dz 99 ?_; refine wd_listed (List.toArray [bT,bT,bT,bT,bT,bT,bT,bT,bT,bT,bT,bT,bT,bT,bT,bT,bT,bT,bT,bT,bT,bT,bT,bT,bT,bT,bT,bT,bT,bT,bT,bT,bT,bT,bT,bT,bT,bT,bT,bT,bT,bT,bT,bT,bT,bT,bT,bT,bT,bT,bT,bT,bT,bT,bT,bT,bT,bT,bT,bT,bT,bT,bT,bT,bT,bT,bT,bT,bT,bT,bT,bT,bT,bT,bT,bT,bT,bT,bT,bT,bT,bT,bT,bT,bT,bT,bT,bT,bT,bT,bT,bT,bT,bT,bT,bT,bT,bT,bT,bT]) (by kernel_rfl) ?_; refine walk ?_)
  have htl : g.tbl.length = b.state.length := by rw [hr.state, List.length_map]
  have hbl : b.born.length = b.state.length := by rw [hr.born, List.length_map, htl]
  have hsl : (b.state.length : Int) = b.s.segments := hb.state
  have hvl : ((livesL b.s b.map).map vi).length = b.state.length := by rw [List.length_map, livesL_len]; omega
  refine WL.slots (env' := [(108, vp p), (0, vp p), (1, vp lp)]) envs ?_
  refine call (blives_spec0 p b hb x) ?_ (hg := frameL)
  intro lv _
  refine walk ?_
  refine wc_loop (X := Nat) (fun i => [(0, vp p), (1, vp lp), (5, lv), (113, x.sv), (114, vi b.state.length), (115, vi i)]) (fun _ => Sl lv 1 ((livesL b.s b.map).map vi) :: BParts p x b (LogAt ⟨lp, ⟨ka, kn, kpp, kps, klv, b.s⟩, mp, tp⟩ g F))
    (fun i => i ≤ b.state.length) (fun i => b.state.length - i) 0 (Nat.zero_le _) envs permL (fun i hii => ?_)
  refine walk ?_
  refine wif_dec (fun hlt => ?_) (fun hlt => ?_)
  · have hlt : i < b.state.length := by omega
    have hlB : i < b.born.length := by omega
    have hlT : i < g.tbl.length := by omega
    have hlV : i < (livesL b.s b.map).length := by rw [livesL_len]; omega
    have e1 : b.state[i] = g.tbl[i].state := by simp [hr.state]
    have e2 : b.born[i] = g.tbl[i].born := by simp [hr.born]
    have e3 : (livesL b.s b.map)[i] = g.tbl[i].live := by
      rw [hi.toOk.live_get hlT, ← hr.s, ← hr.map]
      simp [livesL]
    have e4 : g.tbl.see i = g.tbl[i] := Tbl.see_get hlT
    refine walk ?_
    (refine draw ?_; refine dy 0 ?_; refine dy 1 ?_; refine dy 2 ?_; refine dy 3 ?_; refine dy 4 ?_; refine dy 6 ?_; refine dy 7 ?_; refine dy 8 ?_; refine dy 9 ?_; refine dy 10 ?_; refine dy 11 ?_; refine dy 12 ?_; refine dy 13 ?_; refine dy 14 ?_; refine dy 15 ?_; refine dy 16 ?_; refine dy 17 ?_; refine dy 18 ?_; refine ddx 5 ?_)
    refine call (tat_spec' tp g.tbl i h.tbl) ?_ (hg := frameL)
    intro _ _
    refine walk ?_
    rw [e1, e2, e3, e4]
    refine dy 19 (y := by exact yl_neqA (cs := [vi g.tbl[i].state, vi g.tbl[i].live, .int .u64 g.tbl[i].born]) rfl rfl) ?_
    refine walk ?_
    refine wq_round (i + 1) (by omega) (by omega) envs permL
  · obtain rfl : i = b.state.length := by omega
    refine walk ?_
    (refine draw ?_; refine dy 0 ?_; refine dy 1 ?_; refine dy 2 ?_; refine dy 3 ?_; refine dy 5 ?_; refine dy 6 ?_; refine dy 7 ?_; refine dy 8 ?_; refine dy 9 ?_; refine ddx 4 ?_)
    refine call (tlen_spec tp g.tbl) ?_ (hg := frameL)
    intro _ _
    (refine walk ?_; refine dy 10 ?_; refine dy 11 ?_; refine walk ?_)
    rw [show decide ((g.tbl.length : Int) = b.s.segments) = true from decide_eq_true (by omega)]
    refine wq_ret1 rfl rfl () rfl trivial ?_
    refine Ent.trans (Γ' := BParts p x b (LogAt ⟨lp, ⟨ka, kn, kpp, kps, klv, b.s⟩, mp, tp⟩ g F)) permL (BkAt.shut x hx)
end Go.Proofs.YtohienhoifgmaaaGreat
end

section
/- A checkpoint while one member may fail. No program. -/
namespace Go.Sl
open Go
theorem inv_up {g : Lg} (hi : g.Inv) {r : Rig} (h1 : r.nv.root.shape = g.sh) (h2 : r.nv.recs = g.rig.nv.recs) : (g.up r).Inv := by
  have hsh : (g.up r).sh = g.sh := h1
  refine { toOk := ⟨hi.map, by rw [hsh]; exact hi.len, hi.small, by rw [hsh]; exact hi.live⟩, shok := by rw [hsh]; exact hi.shok, seg := by rw [hsh]; exact hi.seg, idx := by rw [hsh]; exact hi.idx, tlen := by rw [hsh]; exact hi.tlen, opened := hi.opened, recs := ?_, places := by rw [hsh]; exact hi.places }
  rw [hsh]
  show ∀ q ∈ r.nv.recs, _
  rw [h2]
  exact hi.recs
theorem rel_up {b : Bok} {g : Lg} (h : Rel b g) {r : Rig} (h1 : r.nv.root.shape = g.sh) (h2 : r.nv.recs = g.rig.nv.recs) (h3 : r.nv.next = g.rig.nv.next) (h4 : r.nv.root.durable = g.rig.nv.root.durable) : Rel b (g.up r) :=
  ⟨h.s.trans h1.symm, h.recs.trans h2.symm, h.next.trans h3.symm, h.durable.trans h4.symm, h.seg, h.idx, h.state, h.born, h.map⟩
/-- what a memory keeps, but for the member that isn't current -/
theorem Tr0.keeps {S : Nat → Int → Prop} {r r' : Rig} (t : Tr0 S r r') : r'.nv.root.shape = r.nv.root.shape ∧ r'.nv.recs = r.nv.recs ∧ r'.nv.next = r.nv.next ∧ r'.nv.root.durable = r.nv.root.durable ∧ r'.nv.root.gen = r.nv.root.gen := by
  rw [t.nv]
  exact ⟨rfl, rfl, rfl, rfl, rfl⟩
theorem ckpt_good {m : Nat} {b : Bok} {g : Lg} (hr : Rel b g) (hi : g.Inv) (hf : Fits g.sh g.rig) (hg : Good m g.rig) {W : Int} (hW : W = IntKind.u64.wrap (g.rig.nv.root.gen + 1)) :
    ∃ r2, g.ckpt = .ok 0 { g with rig := r2, tbl := g.tbl.clear g.tbl.dead } ∧ Rel b.free { g with rig := r2, tbl := g.tbl.clear g.tbl.dead } ∧ Lg.Inv { g with rig := r2, tbl := g.tbl.clear g.tbl.dead } ∧ r2.nv.root.gen = W ∧ r2.nv.root.shape = g.sh ∧ r2.nv.root.durable = g.rig.nv.root.durable ∧ Paged g.sh r2 (W % 2) (g.pages W.toNat) ∧ Good m r2 ∧ Fits g.sh r2 := by
  have hw := wrap64_range (g.rig.nv.root.gen + 1)
  have hsat := ckpt_sat hi hf hW (by omega)
  cases hc : g.ckpt with
  | gone g' =>
    rw [hc] at hsat
    have := hsat.1
    have := hg.limit
    omega
  | ok c g' =>
    rw [hc] at hsat
    rcases hsat with ⟨rfl, r', p, t1, b1, hp, hpl, rfl⟩ | ⟨rfl, r', t1, b1, _⟩
    · have hg1 := hg.tr t1.toTr0
      obtain ⟨k1, k2, k3, k4, k5⟩ := t1.toTr0.keeps
      have hl : Like r' { r' with pow := p, nv := { r'.nv with root := { r'.nv.root with gen := W } } } := ⟨rfl, rfl, by rw [hg1.limit, hpl]; exact hg.limit, rfl⟩
      obtain ⟨f1, f2⟩ := freed hr hi (r := { r' with pow := p, nv := { r'.nv with root := { r'.nv.root with gen := W } } }) k1 k2 k3 k4
      exact ⟨_, rfl, f1, f2, rfl, k1, k4, hl.paged hp, hl.good hg1, hl.fits (hf.tr t1.toTr0)⟩
    · exact absurd b1 (hg.nobreak t1.toTr0)
/-- the image of a log whose dead segments were freed is the one that it had -/
theorem image_clear (g : Lg) {r2 : Rig} (h : r2.nv.root.durable = g.rig.nv.root.durable) : Lg.image { g with rig := r2, tbl := g.tbl.clear g.tbl.dead } = g.image := by
  show Img.mk _ _ _ _ _ = Img.mk _ _ _ _ _
  congr 1
  · show r2.nv.root.durable.toNat = _
    rw [h]
  · have hl := (Tbl.clear_spec g.tbl.dead g.tbl).1
    apply List.ext_getElem
    · rw [List.length_map, List.length_map, hl]
    · intro i h1 h2
      have h3 : i < g.tbl.length := by rw [List.length_map] at h2; exact h2
      rw [List.getElem_map, List.getElem_map, Tbl.clear_get (by rw [hl]; exact h3) h3]
      by_cases hc : g.tbl[i].state = 2 ∧ g.tbl[i].live = 0
      · rw [if_pos hc, if_pos hc]
        rfl
      · rw [if_neg hc, if_neg hc]
/-- a member may fail from now on -/
theorem failing_good {r : Rig} (hc : Calm r) {k : Nat} (hk : k < r.ds.length) (X : Int) : Good k { r with ds := r.ds.set k ((r.at k).failing X) } ∧ ∀ s, Fits s r → Fits s { r with ds := r.ds.set k ((r.at k).failing X) } := by
  have hat : ∀ i, Rig.at { r with ds := r.ds.set k ((r.at k).failing X) } i = if i = k then (r.at k).failing X else r.at i := fun i => by
    unfold Rig.at
    simp only [List.getD, List.getElem?_set]
    by_cases h : k = i
    · subst h; simp [hk]
    · rw [if_neg h, if_neg (fun e => h e.symm)]
  have hl : (r.ds.set k ((r.at k).failing X)).length = r.ds.length := List.length_set
  refine ⟨⟨hc.limit, hc.broken, .inl hc.stale, fun i hi hlt => ?_⟩, fun s hf => ⟨by show ((r.ds.set k _).length : Int) = _; rw [hl]; exact hf.many, fun i hi => ?_, fun i hi => ?_⟩⟩
  · rw [hat, if_neg hi]
    exact hc.live i (by rw [← hl]; exact hlt)
  · rw [hat]
    have hi2 : i < r.ds.length := by rw [← hl]; exact hi
    split
    · rename_i e; subst e; exact hf.size i hi2
    · exact hf.size i hi2
  · rw [hat]
    have hi2 : i < r.ds.length := by rw [← hl]; exact hi
    split
    · rename_i e; subst e; exact hf.on i hi2
    · exact hf.on i hi2
end Go.Sl
end

section
/- CkptLost: any one member failing at any operation of a checkpoint: it holds all the same. -/
namespace Go.Proofs.YtohienhoifgmaaaGreat
open Go Go.Sl
attribute [local irreducible] Yl WL WC WQ WD

set_option maxHeartbeats 8000000 in
theorem clost_spec (x : Small) (v : Value) (l : List A15) (m ops : UInt8) (hb : l.length ≤ 9223372036854775807) :
    Spec0 Tryz.prog 8 [Small.val x, v, vb m, vb ops] (Rd v 3 (l.flatMap a15Cells)) (fun F => F) (fun _ : Unit => True) (fun _ => .bool true) (fun _ F => F) := by
  (refine spec_of Tryz.func8 rfl Tryz.ntmps8 rfl (fun F w0 hrd => ?_))
  haveI : RdIn F v 3 (l.flatMap a15Cells) := ⟨hrd⟩
  refine walk ?_
  intro c2
  refine walk ?_
  refine call awake16_spec ?_ (hg := frameL)
  intro _ _
  refine walk ?_
  refine wif_dec (fun hc => ?_) (fun hc => ?_)
  · refine walk ?_
    exact wq_ret1 rfl rfl () rfl trivial permL
  refine walk ?_
  refine call (full5_spec x) ?_ (hg := frameL)
  intro _ _
  have hs := fullOf_ok x
  generalize fullOf x = s at *
  refine walk ?_
  intro c5
  refine walk ?_
  refine call (start_spec s hs) ?_ (hg := frameL)
  intro y hy
  obtain ⟨lk, K⟩ := y
  obtain ⟨hlk, hls, hKl⟩ := hy
  dsimp only at hlk hls hKl ⊢
  have hk : K.k.Ok := by rw [hKl]; exact hlk
  have hKs : K.k.sh = s := by rw [hKl]; exact hls
  obtain ⟨lg, ldv, lkk⟩ := lk
  have hKl : K.k = lkk := hKl
  subst hKl
  dsimp only at hlk hls ⊢
  refine walk ?_
  refine call (bempty_spec s hs) ?_ (hg := frameL)
  intro bp _
  refine walk ?_
  refine wc_loop (X := Nat × Bok × Lg × List Row) (fun y => [(2, vb m), (3, vb ops), (9, vp c5), (10, vp K.lp), (11, vp lg), (13, vp bp), (36, v), (37, vi l.length), (38, vi y.1)])
    (fun y => BkAt bp y.2.2.2 y.2.1 :: Pool y.2.2.2 :: Cells c5 [vi s.members, vi s.block, vi s.segments, vi s.stripes, vi s.nv, vi s.logical] :: LogAt K y.2.2.1 (RgC ⟨lg, ldv, K.k⟩ F))
    (fun y => y.1 ≤ l.length ∧ Play y.2.1 y.2.2.1 ∧ y.2.2.1.sh = K.k.sh) (fun y => l.length - y.1) (0, Bok.empty s, Lg.fresh (Rig.fresh s), []) ⟨Nat.zero_le _, play_fresh hs, hKs.symm⟩ envs (Ent.trans Pool.nil permL) (fun y hy => ?_)
  obtain ⟨i, b, g, rows⟩ := y
  dsimp only at hy ⊢
  obtain ⟨hil, hp, hsh⟩ := hy
  refine walk ?_
  refine wif_dec (fun hlt => ?_) (fun hlt => ?_)
  · have hlt : i < l.length := by omega
    refine walk ?_
    intro c12
    generalize l[i] = a
    obtain ⟨d, lb, f⟩ := a
    dsimp only [a15Cells]
    obtain ⟨hp2, hsh2, hgen⟩ := play_act hp ⟨d, lb, f⟩
    have hsh2 := hsh2.trans hsh
    refine walk ?_
    refine call (do_spec bp rows K hk hp hsh ⟨d, lb, f⟩) ?_ (hg := frameL)
    intro rows' _
    refine walk ?_
    refine wq_round (i + 1, actB ⟨d, lb, f⟩ b, actG ⟨d, lb, f⟩ g, rows') ⟨by dsimp only; omega, hp2, hsh2⟩ (by dsimp only; omega) envs ?_
    show Ent _ (BkAt bp rows' (actB ⟨d, lb, f⟩ b) :: Pool rows' :: Cells c5 [vi s.members, vi s.block, vi s.segments, vi s.stripes, vi s.nv, vi s.logical] :: LogAt K (actG ⟨d, lb, f⟩ g) (RgC ⟨lg, ldv, K.k⟩ F))
    exact permL
  · refine walk ?_
    have hr := hp.rel
    have hmem := hk.mem
    have hmm := hk.sh.members
    have hmm2 := hs.members
    have hm8 := m.toNat_lt
    have ho8 := ops.toNat_lt
    have hfm := hp.fits.many
    rw [hsh] at hfm
    obtain ⟨kk, hkk⟩ : ∃ kk : Nat, (m.toNat : Int) % s.members = kk := ⟨((m.toNat : Int) % s.members).toNat, by have := Int.emod_nonneg (m.toNat : Int) (show s.members ≠ 0 by omega); omega⟩
    have hks : K.k.sh.members = s.members := by rw [hKs]
    have hkl : kk < K.k.ps.length := by have := Int.emod_lt_of_pos (m.toNat : Int) (show 0 < s.members by omega); omega
    have hkd : kk < g.rig.ds.length := by omega
    have hpsl : (K.k.ps.map vp).length = K.k.ps.length := List.length_map ..
    (refine draw ?_; refine dy 0 ?_; refine dy 1 ?_; refine dy 2 ?_; refine dy 3 ?_; refine dy 4 ?_; refine dy 5 ?_; refine dy 6 ?_; refine dy 7 ?_; refine dy 8 ?_)
    rw [hkk]
    (refine dy 9 ?_; refine dy 10 ?_; refine dy 11 ?_; refine dy 12 ?_; refine dy 13 ?_; refine dy 14 ?_; refine dy 16 ?_; refine dy 17 ?_; refine dy 18 ?_; refine ddx 15 ?_)
    refine call (used_spec K.k.pp g.rig.pow) ?_ (hg := frameL)
    intro _ _
    (refine walk ?_; refine dy 19 ?_; refine ddx 20 ?_)
    obtain ⟨X, hX⟩ : ∃ X, X = IntKind.i64.wrap (g.rig.pow.used + (ops.toNat : Int) % 80) := ⟨_, rfl⟩
    rw [← hX]
    refine call (rfailAt_spec K.k g.rig kk hkl X) ?_ (hg := frameL)
    intro _ _
    obtain ⟨hgd, hfit⟩ := failing_good hp.calm hkd X
    have hfF := hfit _ hp.fits
    obtain ⟨rF, hrF⟩ : ∃ rF : Rig, rF = { g.rig with ds := g.rig.ds.set kk ((g.rig.at kk).failing X) } := ⟨_, rfl⟩
    rw [← hrF] at hgd hfF ⊢
    have hnv : rF.nv = g.rig.nv := by rw [hrF]
    have hsF : rF.nv.root.shape = g.sh := by rw [hnv]; rfl
    have hrelF : Rel b (g.up rF) := rel_up hr hsF (by rw [hnv]) (by rw [hnv]) (by rw [hnv])
    have hiF : (g.up rF).Inv := inv_up hp.inv hsF (by rw [hnv])
    have hshF : (g.up rF).sh = K.k.sh := (show (g.up rF).sh = g.sh from hsF).trans hsh
    have hfF : Fits (g.up rF).sh (g.up rF).rig := by rw [show (g.up rF).sh = g.sh from hsF]; exact hfF
    obtain ⟨r2, c1, c2, c3, c4, c5', c6, c7, c8, c9⟩ := ckpt_good (m := kk) hrelF hiF hfF hgd rfl
    have hbn := play_born hp
    have hx := hrelF.fits hiF hp.fair
    have hpf := hiF.pages_fit
    have hY := image_clear (g.up rF) c6
    obtain ⟨g2, hg2⟩ : ∃ g2 : Lg, g2 = { g.up rF with rig := r2, tbl := (g.up rF).tbl.clear (g.up rF).tbl.dead } := ⟨_, rfl⟩
    have hnd : ∀ s ∈ g2.tbl, ¬ (s.state = 2 ∧ s.live = 0) := by rw [hg2]; exact none_dead
    have hr2 : g2.rig = r2 := by rw [hg2]
    rw [← hg2] at c1 c2 c3 hY
    rw [hshF] at c5' c7 c9 hx hpf
    (refine walk ?_)
    refine WL.ent (Γ' := LogAt K (g.up rF) (BkAt bp rows b :: Pool rows :: RgC ⟨lg, ldv, K.k⟩ F)) ?_ ?_
    · show Ent _ (LCells K g.seg g.idx :: MapAt K.mp g.map :: TblAt K.tp g.tbl :: RigAt K.k rF (BkAt bp rows b :: Pool rows :: RgC ⟨lg, ldv, K.k⟩ F))
      exact permL
    refine WL.slots (env' := [(69, vp K.lp), (10, vp K.lp), (11, vp lg), (13, vp bp)]) envs ?_
    refine call ((cwrite_spec K hk (g.up rF) hiF hshF (small_of hiF hshF) hbn.1 (by show 0 ≤ rF.nv.root.durable; rw [hnv]; exact hbn.2) hx (by have := places_small hk.sh; exact this)).sure 0 g2 c1) ?_ (hg := frameL)
    intro _ _
    refine walk ?_
    refine wif_dec (fun hz => absurd rfl hz) (fun _ => ?_)
    refine walk ?_
    refine call (bfreed_spec bp rows b hp.bk) ?_ (hg := frameL)
    intro _ _
    refine walk ?_
    (refine draw ?_; refine dy 0 ?_; refine dy 2 ?_; refine dy 3 ?_; refine dy 4 ?_; refine dy 5 ?_; refine ddx 1 ?_)
    refine call (devices_spec ⟨lg, ldv, K.k⟩ (vp K.k.a) (by dsimp only; omega)) ?_ (hg := frameL)
    intro dvv _
    (refine walk ?_; refine ddx 6 ?_)
    have hW := wrap64_range ((g.up rF).rig.nv.root.gen + 1)
    have hP : Pgd K.k.sh kk (r2.nv.root.gen % 2) (imgPages K.k.sh r2.nv.root.gen.toNat (g.up rF).image) r2 := by
      refine ⟨c9, c8, ?_, c5'⟩
      rw [c4]
      have : (g.up rF).pages (IntKind.u64.wrap ((g.up rF).rig.nv.root.gen + 1)).toNat = imgPages K.k.sh (IntKind.u64.wrap ((g.up rF).rig.nv.root.gen + 1)).toNat (g.up rF).image := by
        unfold Lg.pages imgPages
        rw [hshF]
      rw [← this]
      exact c7
    obtain ⟨r3, t3, hload⟩ := cload_one K.k.n K.k.pp K.k.ps r2 hk.sh hmem (by rw [c4]; exact hW) hP hx hpf dvv
    obtain ⟨u1, u2, u3, u4, u5⟩ := t3.toTr0.keeps
    have hs2 : g2.sh = K.k.sh := by show g2.rig.nv.root.shape = _; rw [hr2]; exact c5'
    have hs3 : r3.nv.root.shape = g2.sh := by rw [u1, hs2]; exact c5'
    have hfl := load_same' c2 c3 hp.fair.free hnd hs3
    rw [hY] at hfl
    rw [hfl] at hload
    have hrel3 : Rel b.free (g2.up r3) := rel_up c2 hs3 (by rw [u2, hr2]) (by rw [u3, hr2]) (by rw [u4, hr2])
    have hi3 : (g2.up r3).Inv := inv_up c3 hs3 (by rw [u2, hr2])
    have hbk : BkOk b.free := hp.bk.free
    have hbr : r2.broken = r3.broken := by rw [c8.broken, (c8.tr t3.toTr0).broken]
    rw [hr2]
    refine call hload ?_ (hr := fun h hs => RdIn.rd h hs) (hg := frameL)
    intro K2 hK2
    obtain ⟨lp2, ⟨a2, n2, pp2, ps2, lv2, sh2⟩, mp2, tp2⟩ := K2
    dsimp only at hK2 ⊢
    obtain ⟨rfl, rfl, rfl, rfl⟩ := hK2
    rw [hbr]
    (refine walk ?_; refine dy 7 ?_; refine dy 8 ?_; refine dy 9 ?_; refine dy 10 ?_; refine dy 11 ?_; refine dy 12 ?_; refine dy 13 ?_; refine walk ?_)
    refine walk ?_
    have q1 := hrel3.b
    have q2 := hs3.trans hs2
    generalize hg3 : g2.up r3 = g3 at *
    have e1 : r3 = g3.rig := by rw [← hg3]; rfl
    have e2 : g2.seg = g3.seg := by rw [← hg3]; rfl
    have e3 : g2.idx = g3.idx := by rw [← hg3]; rfl
    have e4 : g2.map = g3.map := by rw [← hg3]; rfl
    have e5 : g2.tbl = g3.tbl := by rw [← hg3]; rfl
    rw [e1, e2, e3, e4, e5]
    have q3 : g3.sh = K.k.sh := by rw [← hg3]; exact q2
    refine call (bis2_spec bp rows ⟨lp2, ⟨a2, K.k.n, K.k.pp, K.k.ps, lv2, K.k.sh⟩, mp2, tp2⟩ hbk q1 hi3 q3) ?_ (hg := frameL)
    intro _ _
    refine walk ?_
    refine call (bis2_spec bp rows K hbk q1 hi3 q3) ?_ (hg := frameL)
    intro _ _
    refine walk ?_
    exact wq_ret1 rfl rfl () rfl trivial permL

set_option maxRecDepth 100000 in
open Go.RowKit Go.ChangeShapes Go.WideShapes in
theorem ckptLost_lifted (os : Os) (started : os.Started) (H : Type) (enc : TypeId × Value → H) :
    ReturnsInHanded {} Tryz.checked os 8 .any (Rows.ckptLostSpec.pre6 enc Tryz.prog Tryz.f8 Rows.ckptLostRow.domain false) (Rows.ckptLostSpec.post enc Tryz.prog Tryz.f8 false true false false) := by
  refine returnsInHanded_of_change (C := Tryz.checked) Tryz.own started (by kernel_rfl) Tryz.func8
    (ChangeSpec.witness6 (enc := enc) (C := Tryz.checked) false ⟨#[], #[.agg #[.int .u8 0, .int .u8 0, .int .u8 0, .int .u8 0, .int .u8 0, .int .u8 0], .slice none 0 0, .int .u8 0, .int .u8 0], []⟩ 8 (by kernel_rfl) (by kernel_rfl) (by kernel_rfl) (by kernel_rfl)) ?_
  intro W base args ds gs before hval0 hW hcnd _
  rw [Tryz.same] at hval0 hW hcnd ⊢
  have hval : ∀ (j : Nat) t v, Tryz.f8.params[j]? = some t → args[j]? = some v → Value.okWide Tryz.prog W .any base t v := hval0
  have hW' := hW
  obtain ⟨p, q, hA, hV, rfl, hfz, hnd⟩ := hW
  have hA : DataW.TrodAll enc Tryz.prog W 0 (fun _ => true) true [23, 92, 5, 5] args.toList ds p := hA
  obtain ⟨v0, vs0, d0, ds0, q0, m0, y0, e0, rfl, t0, h0⟩ := trodAll_split1 hA
  obtain ⟨v1, vs1, d1, ds1, q1, m1, y1, e1, rfl, t1, h1⟩ := trodAll_split1 h0
  obtain ⟨v2, vs2, d2, ds2, q2, m2, y2, e2, rfl, t2, h2⟩ := trodAll_split1 h1
  obtain ⟨v3, vs3, d3, ds3, q3, m3, y3, e3, rfl, t3, h3⟩ := trodAll_split1 h2
  obtain ⟨e4, rfl⟩ := trodAll_split0 h3
  have ea : args = [v0, v1, v2, v3].toArray := by apply Array.toList_inj.1; rw [e0, e1, e2, e3, e4]
  subst ea
  obtain ⟨b0, c0, rfl, rfl, hx0⟩ := arg_struct Tryz.underlying23 @rdr_small (hval 0 23 v0 rfl rfl) t0
  obtain ⟨b1, w1, f1, hr1, hb1, hx1⟩ := arg_slice (@rdr_slicef Tryz.prog 92 37 3 A15 a15Cells _ _ (by kernel_rfl) (by decide) @rdr_a15) (hval 1 92 v1 rfl rfl) t1
  obtain rfl : v1 = w1 := by simpa using f1
  obtain ⟨x2, rfl⟩ := arg_u8 (hval 2 5 v2 rfl rfl) t2
  obtain ⟨x3, rfl⟩ := arg_u8 (hval 3 5 v3 rfl rfl) t3
  refine (clost_spec b0 v1 b1 x2 x3 hb1 [Old W] W (fun h hs => (Old.rd hr1).rd h hs) (sat_old W)).mono fun e W' he => ?_
  obtain ⟨hev, ⟨_, _, rfl, hs⟩ | ⟨_, hf, _⟩⟩ := he
  · exact ⟨_, rfl, law_post Tryz.laidOut rfl hW' rfl Tryz.underlying4 (by decide +kernel) (by cases gs <;> first | rfl | exact False.elim hV) (Sat.below hev hs)⟩
  · exact hf.elim

set_option maxRecDepth 100000 in
theorem ckptLost_holds : Rows.CkptLostSaid :=
  OpenClaim.holds_of_wide 8 Tryz.f8 rfl rfl rfl rfl rfl rfl rfl ⟨rfl, rfl, rfl, rfl, rfl⟩ rfl rfl rfl rfl rfl (by kernel_rfl) Tryz.func8 (Tryz.joined (by kernel_rfl))
    (of_decide_eq_true (by kernel_rfl)) (by unfold Func.isWrapper; first | (rw [if_pos (by decide +kernel)]; kernel_rfl) | (rw [if_neg (by decide +kernel)]; exact ⟨rfl, rfl⟩))
    (fun os started H enc _ => ckptLost_lifted os started H enc)
#print axioms ckptLost_holds

end Go.Proofs.YtohienhoifgmaaaGreat
end
