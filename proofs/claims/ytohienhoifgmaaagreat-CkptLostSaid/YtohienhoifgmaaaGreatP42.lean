/- several texts, one behind the other -/
import Derived.Test.YtohienhoifgmaaaGreatP24
import Derived.Test.YtohienhoifgmaaaGreatP25
import Derived.Test.YtohienhoifgmaaaGreatP31
import Derived.Test.YtohienhoifgmaaaGreatP41
import Derived.Test.YtohienhoifgmaaaGreatP17
import Derived.Test.YtohienhoifgmaaaGreatP33
import Derived.Test.YtohienhoifgmaaaGreatP12
import Derived.Test.YtohienhoifgmaaaGreatP37
import Derived.Test.YtohienhoifgmaaaGreatP09
import Derived.Test.YtohienhoifgmaaaGreatP16
import Derived.Test.YtohienhoifgmaaaGreatP32

section
/- Small shapes with as many blocks as may be; an empty log of one. -/
namespace Go.Proofs.YtohienhoifgmaaaGreat
open Go Go.Sl
attribute [local irreducible] Yl WL WC WQ WD
def fullOf (x : Small) : Shp := { shapeOf x with logical := ((shapeOf x).segments - 3) * ((shapeOf x).stripes - 1) * ((shapeOf x).members - 2) }
theorem fullOf_ok (x : Small) : (fullOf x).Ok := by
  have h := shapeOf_ok x
  have hb := bounds h
  have hl := h.logical
  refine ⟨h.members, h.segments, h.stripes, h.block, h.note, h.nv, ?_⟩
  show 1 ≤ (shapeOf x).most ∧ (shapeOf x).most ≤ (shapeOf x).most
  omega
theorem full5_spec (x : Small) :
    Spec0 Tryz.prog 11 [Small.val x] (fun _ => True) (fun F => F) (fun _ : Unit => True) (fun _ => Shp.val (fullOf x)) (fun _ F => F) := by
  (refine spec_of Tryz.func11 rfl Tryz.ntmps11 rfl (fun F w0 hrd => ?_))
  have h := shapeOf_ok x
  have hb := bounds h
  have hm := h.members
  have hg := h.segments
  have ht := h.stripes
  refine walk ?_
  intro c1
  refine walk ?_
  intro c2
  refine walk ?_
  refine call (shape5_spec x) ?_ (hg := frameL)
  intro _ _
  have hm1 := hb.most1
  have hm2 := hb.most
  have hsl : (shapeOf x).slots = (shapeOf x).members - 2 := rfl
  rw [hsl] at hm2
  obtain ⟨Z, hZ⟩ : ∃ Z, Z = fullOf x := ⟨_, rfl⟩
  have hZl : Z.logical = ((shapeOf x).segments - 3) * ((shapeOf x).stripes - 1) * ((shapeOf x).members - 2) := by rw [hZ]; rfl
  refine walk ?_
  intro c3
  refine walk ?_
  exact wq_retc rfl rfl rfl () rfl trivial perm
/-- a rig's own cells -/
abbrev RgC (l : LK) (F : List HP) : List HP := Cells l.g [vi l.k.sh.members, vi l.k.sh.block, vi l.k.sh.segments, vi l.k.sh.stripes, vi l.k.sh.nv, vi l.k.sh.logical, vp l.k.pp, l.dv, vp l.k.n, vp l.k.a] :: Sl l.dv 1 (l.k.ps.map vp) :: F
theorem play_fresh {s : Shp} (h : s.Ok) : Play (Bok.empty s) (Lg.fresh (Rig.fresh s)) := by
  obtain ⟨h1, h2⟩ := fresh_rel h (r := Rig.fresh s) rfl
  have hb := fresh_base h (fun _ => False)
  have hn := h.nv
  have hsl := (bounds h).slots
  exact ⟨h1, h2, hb.fits, ⟨rfl, rfl, rfl, fun i hi => hb.live i hi (fun x => x)⟩, Bok.Fair.empty s, by show ((0 : Nat) : Int) ≤ s.nv; omega⟩
set_option maxHeartbeats 4000000 in
theorem start_spec (s : Shp) (h : s.Ok) :
    Spec0 Tryz.prog 12 [Shp.val s] (fun _ => True) (fun F => F) (fun y : LK × GK => y.1.k.Ok ∧ y.1.k.sh = s ∧ y.2.k = y.1.k) (fun y => .tuple #[vp y.2.lp, vp y.1.g, .bool true])
      (fun y F => LogAt y.2 (Lg.fresh (Rig.fresh s)) (RgC y.1 F)) := by
  (refine spec_of Tryz.func12 rfl Tryz.ntmps12 rfl (fun F w0 hrd => ?_))
  refine walk ?_
  intro c1
  refine walk ?_
  refine call (new11_spec s h) ?_ (hg := frameL)
  intro l hl
  obtain ⟨g, dv, ⟨a, nv, pp, ps, lv, sh⟩⟩ := l
  obtain ⟨hk, hsh⟩ := hl
  dsimp only [LRigAt] at hk hsh ⊢
  subst hsh
  refine walk ?_
  (refine draw ?_; refine dy 0 ?_; refine dy 1 ?_; refine dy 2 ?_; refine dy 3 ?_; refine dy 4 ?_; refine dy 5 ?_; refine dy 6 ?_; refine dy 7 ?_; refine ddx 8 ?_)
  refine call (lnew_spec ⟨a, nv, pp, ps, lv, sh⟩ h (Rig.fresh sh).nv rfl) ?_ (hg := frameL)
  intro K _
  (refine walk ?_; refine dy 9 ?_; refine walk ?_)
  refine walk ?_
  (refine draw ?_; refine dy 0 ?_; refine dy 1 ?_; refine dy 2 ?_; refine dy 3 ?_; refine dy 4 ?_; refine dg 5 ?_; refine dg 6 ?_; refine dg 7 ?_; refine dg 8 ?_; refine dg 9 ?_; refine dy 10 ?_; refine dy 11 ?_; refine dg 12 ?_; refine dg 13 ?_; refine dg 14 ?_; refine dg 15 ?_; refine dg 16 ?_; refine dy 17 ?_; refine dy 18 ?_; refine dg 19 ?_; refine dg 20 ?_; refine dg 21 ?_; refine dg 22 ?_; refine dg 23 ?_; refine dy 24 ?_; refine dy 25 ?_; refine dg 26 ?_; refine dg 27 ?_; refine dg 28 ?_; refine dg 29 ?_; refine dg 30 ?_; refine dy 31 ?_; refine dy 32 ?_; refine dy 33 ?_; refine dy 34 ?_; refine walk ?_)
  refine wq_ret3 rfl rfl rfl rfl (⟨g, dv, ⟨a, nv, pp, ps, lv, sh⟩⟩, ⟨K.lp, ⟨a, nv, pp, ps, lv, sh⟩, K.mp, K.tp⟩) rfl ⟨hk, rfl, rfl⟩ ?_
  show Ent _ (Cells K.lp [vi sh.members, vi sh.block, vi sh.segments, vi sh.stripes, vi sh.nv, vi sh.logical, vp a, vp nv, vp K.mp, vp K.tp, vi 0, vi 0] :: MapAt K.mp (List.replicate sh.logical.toNat (-1)) :: TblAt K.tp (Tbl.open_ (List.replicate sh.segments.toNat Seg.zero) 0) :: RigAt ⟨a, nv, pp, ps, lv, sh⟩ (Rig.fresh sh) (RgC ⟨g, dv, ⟨a, nv, pp, ps, lv, sh⟩⟩ F))
  dsimp only [RgC, RigAt]
  exact permL
end Go.Proofs.YtohienhoifgmaaaGreat
end

section
/- The statements' view of what is staged. -/
namespace Go.Proofs.YtohienhoifgmaaaGreat
open Go Go.Sl
attribute [local irreducible] Yl WL WC WQ WD
theorem recs_drop (t : List (Rec × Value)) (n : Nat) : (t.flatMap recCells).drop (n * 4) = (t.drop n).flatMap recCells := by
  induction t generalizing n with
  | nil => simp
  | cons a t ih =>
    cases n with
    | zero => rfl
    | succ n =>
      rw [List.flatMap_cons, List.drop_succ_cons, ← ih, show (n + 1) * 4 = n * 4 + 4 by omega]
      rfl
set_option maxHeartbeats 4000000 in
theorem bview_spec (v : Value) (rs : List (Rec × Value)) (hn : rs.length ≤ 1048576) :
    Spec0 Tryz.prog 122 [v] (fun h => Rd v 4 (rs.flatMap recCells) h ∧ ∀ e ∈ rs, Rd e.2 1 (e.1.data.map vb) h) (fun F => F) (fun _ : Value => True) (fun r => r) (fun r F => Sl r 4 ((vw rkey rs).flatMap recCells) :: F) := by
  (refine spec_of Tryz.func122 rfl Tryz.ntmps122 rfl (fun F w0 hrd => ?_))
  haveI : RdIn F v 4 (rs.flatMap recCells) := ⟨fun h hs => (hrd h hs).1⟩
  have hrow : ∀ e ∈ rs, RdIn F e.2 1 (e.1.data.map vb) := fun e he => ⟨fun h hs => (hrd h hs).2 e he⟩
  have hl := rec_len rs
  refine walk ?_
  refine wc_loop (X := Nat × Value) (fun y => [(0, v), (3, y.2), (9, v), (10, vi rs.length), (11, vi y.1)])
    (fun y => Sl y.2 4 ((vwN rkey rs y.1).flatMap recCells) :: F)
    (fun y => y.1 ≤ rs.length) (fun y => rs.length - y.1) (0, .slice none 0 0) (Nat.zero_le _) envs (sl_nil 4) (fun y hy => ?_)
  obtain ⟨i, rv⟩ := y
  dsimp only at hy ⊢
  have hvl := vwN_length rkey rs i
  have hvf := rec_len (vwN rkey rs i)
  refine walk ?_
  refine wif_dec (fun hlt => ?_) (fun hlt => ?_)
  · have hlt : i < rs.length := by omega
    have hsucc := vwN_succ (key := rkey) hlt
    have hiff := isLast_iff (key := rkey) hlt
    refine walk ?_
    intro c5
    have hr := hrow _ (List.getElem_mem hlt)
    obtain ⟨X, hX⟩ : ∃ X, X = (vwN rkey rs i).flatMap recCells := ⟨_, rfl⟩
    rw [← hX] at hvf ⊢
    have hlastv : isLast rkey rs i = (rs.drop (i + 1)).all (fun e => decide (rkey e ≠ rkey rs[i])) := by
      rw [Bool.eq_iff_iff, hiff, List.all_eq_true]
      simp only [decide_eq_true_eq]
      constructor
      · intro h e he
        obtain ⟨j, hj, rfl⟩ := List.mem_iff_getElem.1 he
        rw [List.length_drop] at hj
        rw [List.getElem_drop]
        exact h _ (by omega) (by omega)
      · intro h j hj hij
        refine h _ ?_
        rw [List.mem_drop_iff_getElem]
        exact ⟨j - (i + 1), by omega, by congr 1; omega⟩
    generalize hee : rs[i] = e at hsucc hr hlastv ⊢
    obtain ⟨r, u⟩ := e
    dsimp only [recCells, rkey] at hsucc hr hlastv ⊢
    refine walk ?_
    refine wl_y (yl_sliceL (m := rs.length) (k := 4) (vs := rs.flatMap recCells) rfl rfl (by omega) (by omega) (by omega) (by omega)) rfl ?_
    have hDl : (rs.drop (i + 1)).length = rs.length - (i + 1) := List.length_drop
    have hrD : ∀ e ∈ rs.drop (i + 1), RdIn F e.2 1 (e.1.data.map vb) := fun e he => hrow e (List.mem_of_mem_drop he)
    rw [show ((i : Int) + 1).toNat = i + 1 by omega]
    haveI : RdIn F (slSub v 4 (i + 1) rs.length) 4 ((rs.drop (i + 1)).flatMap recCells) := by
      have := RdIn.sub (lo := i + 1) (hi := rs.length) (by decide) (inferInstance : RdIn F v 4 (rs.flatMap recCells)) (by omega) (by omega)
      rwa [recs_drop, recs_take, List.take_of_length_le (by omega)] at this
    generalize slSub v 4 (i + 1) rs.length = sv at *
    generalize rs.drop (i + 1) = D at *
    have hDf := rec_len D
    refine walk ?_
    refine wc_loop (X := Nat) (fun j => [(0, v), (3, rv), (9, v), (10, vi rs.length), (11, vi i), (5, vp c5), (6, .bool ((D.take j).all fun e => decide (e.1.lba ≠ r.lba))), (19, sv), (20, vi D.length), (21, vi j)])
      (fun _ => Cells c5 [.int .u64 r.seq, vi r.kind, vi r.lba, u] :: Sl rv 4 X :: F)
      (fun j => j ≤ D.length) (fun j => D.length - j) 0 (Nat.zero_le _) envs perm (fun j hj => ?_)
    refine walk ?_
    refine wif_dec (fun hlt2 => ?_) (fun hlt2 => ?_)
    · have hlt2 : j < D.length := by omega
      obtain ⟨ok, hok⟩ : ∃ ok : Bool, ok = (D.take j).all fun e => decide (e.1.lba ≠ r.lba) := ⟨_, rfl⟩
      rw [← hok, show ok = decide (ok = true) by simp]
      refine walk ?_
      intro c8
      have hr2 := hrD _ (List.getElem_mem hlt2)
      have hstep : (D.take (j + 1)).all (fun e => decide (e.1.lba ≠ r.lba)) = (decide (ok = true ∧ D[j].1.lba ≠ r.lba)) := by
        rw [Bool.eq_iff_iff, hok, List.take_add_one, List.getElem?_eq_getElem hlt2, Option.toList_some, List.all_append, Bool.and_eq_true, decide_eq_true_eq, List.all_cons, List.all_nil, Bool.and_true, decide_eq_true_eq]
      generalize D[j] = e at hr2 hstep ⊢
      obtain ⟨r2, u2⟩ := e
      dsimp only [recCells] at hr2 hstep ⊢
      refine walk ?_
      (first | (refine wif_cut 6 32 (.bool (decide (ok = true ∧ r2.lba ≠ r.lba))) (fun K => ?_) ?_; refine wif_dec (fun hc => ?_) (fun hc => ?_); (iterate 6 ((first | (refine wl_guard_yes rfl rfl rfl ?_; refine wl_ya ?_) | (refine wl_guard_no rfl rfl rfl rfl rfl ?_) | (refine wl_ya ?_)))); exact K true _ _ rfl (by (repeat (first | exact trivial | refine And.intro (by first | exact trivial | rfl) ?_))) (by simp [hc]) (by first | rfl | (simp; done) | (simp [hc]; done) | (simp [hc]; omega) | (simp; omega)); (iterate 6 ((first | (refine wl_guard_yes rfl rfl rfl ?_; refine wl_ya ?_) | (refine wl_guard_no rfl rfl rfl rfl rfl ?_) | (refine wl_ya ?_)))); exact K false _ _ rfl (by (repeat (first | exact trivial | refine And.intro (by first | exact trivial | rfl) ?_))) (by simp [hc]) (by first | rfl | (simp; done) | (simp [hc]; done) | (simp [hc]; omega) | (simp; omega)); try (refine wl_nil ?_)) | (refine wif_cutn 6 32 (.bool (decide (ok = true ∧ r2.lba ≠ r.lba))) (fun K => ?_) ?_; refine wif_dec (fun hc => ?_) (fun hc => ?_); (iterate 6 ((first | (refine wl_guard_yes rfl rfl rfl ?_; refine wl_ya ?_) | (refine wl_guard_no rfl rfl rfl rfl rfl ?_) | (refine wl_ya ?_)))); exact K false _ _ rfl (by (repeat (first | exact trivial | refine And.intro (by first | exact trivial | rfl) ?_))) (by simp [hc]) (by first | rfl | (simp; done) | (simp [hc]; done) | (simp [hc]; omega) | (simp; omega)); (iterate 6 ((first | (refine wl_guard_yes rfl rfl rfl ?_; refine wl_ya ?_) | (refine wl_guard_no rfl rfl rfl rfl rfl ?_) | (refine wl_ya ?_)))); exact K true _ _ rfl (by (repeat (first | exact trivial | refine And.intro (by first | exact trivial | rfl) ?_))) (by simp [hc]) (by first | rfl | (simp; done) | (simp [hc]; done) | (simp [hc]; omega) | (simp; omega)); try (refine wl_nil ?_)))
      refine walk ?_
      refine wq_round (j + 1) (by omega) (by omega) ?_ perm
      rw [hstep]
      exact envs
    · obtain rfl : j = D.length := by omega
      rw [List.take_length, ← hlastv]
      refine walk ?_
      cases hil : isLast rkey rs i with
      | true =>
        rw [hil, if_pos rfl] at hsucc
        refine WIf.yes ?_
        refine walk ?_
        refine wl_buildOneA (k := 4) rfl rfl (by decide) rfl (fun s1 _ _ => ?_)
        refine walk ?_
        intro rv' _ _
        refine walk ?_
        refine wq_round (i + 1, rv') (by dsimp only; omega) (by dsimp only; omega) envs ?_
        dsimp only
        rw [show vwN rkey rs (i + 1) = _ from hsucc, List.flatMap_append, ← hX, List.flatMap_cons, List.flatMap_nil, List.append_nil]
        exact perm
      | false =>
        rw [hil, if_neg (by decide), List.append_nil] at hsucc
        refine WIf.no ?_
        refine walk ?_
        refine wq_round (i + 1, rv) (by dsimp only; omega) (by dsimp only; omega) envs ?_
        dsimp only
        rw [show vwN rkey rs (i + 1) = _ from hsucc, ← hX]
        exact perm
  · obtain rfl : i = rs.length := by omega
    rw [vwN_all]
    refine walk ?_
    exact wq_ret1 rfl rfl rv rfl trivial perm
end Go.Proofs.YtohienhoifgmaaaGreat
end

section
/- A log's book, as the statements keep it: its parts; a record; how many segments are free; how many blocks live. -/
namespace Go.Proofs.YtohienhoifgmaaaGreat
open Go Go.Sl
attribute [local irreducible] Yl WL WC WQ WD
/-- where a book's parts lie -/
structure BV where
  rv : Value
  sv : Value
  bv : Value
  mv : Value
  dc : Nat
  nc : Nat
  rs : List (Rec × Value)
  cs : Both
  ns : IMap Value
structure BFits (rows : List Row) (x : BV) (b : Bok) : Prop where
  recs : x.rs.map (·.1) = b.recs
  mem : ∀ e ∈ x.rs, (e.2, e.1.data) ∈ rows
  data : Both.data x.cs = b.data
  rows : ∀ e ∈ x.cs, e.2 ∈ rows
abbrev bcells (b : Bok) (x : BV) : List Value := [vi b.s.members, vi b.s.block, vi b.s.segments, vi b.s.stripes, vi b.s.nv, vi b.s.logical, x.rv, .int .u64 b.next, .int .u64 b.durable, vi b.seg, vi b.idx, x.sv, x.bv, x.mv, .map (some x.dc), .map (some x.nc)]
abbrev BParts (p : Nat) (x : BV) (b : Bok) (Γ : List HP) : List HP := Cells p (bcells b x) :: Sl x.rv 4 (x.rs.flatMap recCells) :: Sl x.sv 1 (b.state.map vi) :: Sl x.bv 1 (b.born.map fun i => .int .u64 i) :: Sl x.mv 1 (b.map.map vi) :: MapI x.dc x.cs.vals :: MapI x.nc x.ns :: Γ
/-- a book; its records' bytes are among the rows -/
def BkAt (p : Nat) (rows : List Row) (b : Bok) : HP := fun h => ∃ x : BV, BFits rows x b ∧ Sat (BParts p x b []) h
theorem BkAt.opened {p : Nat} {rows : List Row} {b : Bok} {Γ : List HP} {h : Hp} (hs : Sat (BkAt p rows b :: Γ) h) : ∃ x : BV, BFits rows x b ∧ Sat (BParts p x b Γ) h := by
  obtain ⟨x, hx⟩ := Sat.ex.1 hs
  obtain ⟨hf, hx⟩ := Sat.pur.1 hx
  exact ⟨x, hf, Sat.flat.1 hx⟩
theorem BkAt.shut {p : Nat} {rows : List Row} {b : Bok} {Γ : List HP} (x : BV) (hf : BFits rows x b) : Ent (BParts p x b Γ) (BkAt p rows b :: Γ) := fun _ hs => Sat.ex.2 ⟨x, Sat.pur.2 ⟨hf, Sat.flat.2 hs⟩⟩
theorem BkAt.rows {p : Nat} {rows rows' : List Row} {b : Bok} {Γ : List HP} (h : ∀ r ∈ rows, r ∈ rows') : Ent (BkAt p rows b :: Γ) (BkAt p rows' b :: Γ) := Ent.imp fun _ ⟨x, hf, hs⟩ => ⟨x, ⟨hf.recs, fun e he => h _ (hf.mem e he), hf.data, fun e he => h _ (hf.rows e he)⟩, hs⟩
/-- a book that may be -/
structure BkOk (b : Bok) : Prop where
  ok : b.s.Ok
  recs : b.recs.length ≤ 1048576
  rok : ∀ r ∈ b.recs, RecOk b.s r
  seg : 0 ≤ b.seg ∧ b.seg < b.s.segments
  idx : 0 ≤ b.idx ∧ b.idx < b.s.stripes
  state : (b.state.length : Int) = b.s.segments
  born : (b.born.length : Int) = b.s.segments
  map : (b.map.length : Int) = b.s.logical
  places : ∀ p ∈ b.map, -1 ≤ p ∧ p < b.s.all * b.s.slots
theorem _root_.Go.Sl.Play.bk {b : Bok} {g : Lg} (h : Play b g) : BkOk b := by
  have hr := h.rel
  have hi := h.inv
  refine ⟨by rw [hr.s]; exact hi.shok, by rw [hr.recs]; have := h.recs; omega, by rw [hr.s, hr.recs]; exact hi.recs, by rw [hr.s, hr.seg]; exact hi.seg, by rw [hr.s, hr.idx]; exact hi.idx, by rw [hr.s, hr.state, List.length_map]; exact hi.tlen, by rw [hr.s, hr.born, List.length_map]; exact hi.tlen, by rw [hr.s, hr.map]; exact hi.len, ?_⟩
  rw [hr.s, hr.map]
  exact fun p hp => ⟨hi.map p hp, hi.places p hp⟩
theorem BkOk.recl {b : Bok} (h : BkOk b) {rows : List Row} {x : BV} (hx : BFits rows x b) : x.rs.length ≤ 1048576 := by
  have := congrArg List.length hx.recs
  rw [List.length_map] at this
  have := h.recs
  omega
set_option maxHeartbeats 2000000 in
theorem bappend_spec (p : Nat) (rows : List Row) (b : Bok) (h : BkOk b) (k lba : Int) (v : Value) (data : Bytes) (hv : (v, data) ∈ rows) :
    Spec0 Tryz.prog 79 [vp p, vi k, vi lba, v] (Rd v 1 (data.map vb)) (fun F => BkAt p rows b :: F) (fun _ : Unit => True) (fun _ => .bool (b.append k lba data).1) (fun _ F => BkAt p rows (b.append k lba data).2 :: F) := by
  (refine spec_of Tryz.func79 rfl Tryz.ntmps79 rfl (fun F w0 hrd => ?_))
  haveI : RdIn F v 1 (data.map vb) := ⟨hrd⟩
  (first | refine WC.ex (fun y => BkAt.opened) (fun x hx => ?_) | refine WL.ex (fun y => BkAt.opened) (fun x hx => ?_) | refine WQ.ex (fun y => BkAt.opened) (fun x hx => ?_))
  have hrl := h.recl hx
  obtain ⟨rv, sv, bv, mv, dc, nc, rs, cs, ns⟩ := x
  have hl := rec_len rs
  have hlen : rs.length = b.recs.length := by rw [← hx.recs]; simp
  dsimp only [BParts, bcells] at hrl hl hlen ⊢
  refine walk ?_
  (refine draw ?_; refine dy 0 ?_; refine dy 1 ?_; refine dy 2 ?_; refine dy 3 ?_; refine dy 4 ?_; refine dy 5 ?_; refine dy 6 ?_; refine dy 7 ?_; refine dy 8 ?_; refine dy 9 ?_; refine dy 10 ?_; refine walk ?_)
  unfold Bok.append
  refine wif_dec (fun hge => ?_) (fun hge => ?_)
  · rw [if_pos (by omega)]
    refine walk ?_
    exact wq_ret1 rfl rfl () rfl trivial (Ent.trans permL (BkAt.shut ⟨rv, sv, bv, mv, dc, nc, rs, cs, ns⟩ hx))
  · rw [if_neg (by omega)]
    refine walk ?_
    obtain ⟨X, hX⟩ : ∃ X, X = rs.flatMap recCells := ⟨_, rfl⟩
    rw [← hX] at hl ⊢
    (refine draw ?_; refine dy 0 ?_; refine dy 1 ?_; refine dy 2 ?_; refine dy 3 ?_; refine dy 4 ?_; refine dy 5 ?_; refine dy 6 ?_; refine dy 7 ?_; refine dy 8 ?_; refine dy 9 ?_; refine dy 10 ?_; refine dy 11 ?_; refine dy 12 ?_; refine ddx 13 ?_)
    refine wl_buildOneA (k := 4) rfl rfl (by decide) rfl (fun s1 _ _ => ?_)
    (refine walk ?_; refine ddx 14 ?_)
    refine walk ?_
    intro lv' _ _
    (refine walk ?_; refine dy 15 ?_; refine dy 16 ?_; refine ddx 17 ?_)
    (refine walk ?_)
    refine walk ?_

    refine wq_ret1 rfl rfl () rfl trivial ?_
    refine Ent.trans ?_ (BkAt.shut (b := { b with recs := b.recs ++ [⟨b.next, k, lba, data⟩], next := IntKind.u64.wrap (b.next + 1) }) ⟨lv', sv, bv, mv, dc, nc, rs ++ [(⟨b.next, k, lba, data⟩, v)], cs, ns⟩ ⟨by rw [List.map_append, hx.recs]; rfl, fun e he => ?_, hx.data, hx.rows⟩)
    · dsimp only [BParts, bcells]
      rw [List.flatMap_append, List.flatMap_cons, List.flatMap_nil, List.append_nil, ← hX]
      exact permL
    · rcases List.mem_append.1 he with he | he
      · exact hx.mem e he
      · rw [List.mem_singleton.1 he]; exact hv
/-! free segments -/
def zfirst (l : List Int) : Int := match l.findIdx? (fun x => decide (x = 0)) with
  | none => -1
  | some i => i
def zmany (l : List Int) : Int := (l.filter fun x => decide (x = 0)).length
theorem zfirst_range (l : List Int) : -1 ≤ zfirst l ∧ zfirst l < l.length + 1 := by
  unfold zfirst
  cases h : l.findIdx? (fun x => decide (x = 0)) with
  | none => dsimp only; omega
  | some i =>
    have := List.findIdx?_eq_some_iff_getElem.1 h
    obtain ⟨hi, _⟩ := this
    dsimp only
    omega
theorem zfirst_succ {l : List Int} {i : Nat} (h : i < l.length) : zfirst (l.take (i + 1)) = if l[i] = 0 ∧ zfirst (l.take i) < 0 then (i : Int) else zfirst (l.take i) := by
  unfold zfirst
  rw [List.take_add_one, List.getElem?_eq_getElem h, Option.toList_some, List.findIdx?_append]
  cases hf : (l.take i).findIdx? (fun x => decide (x = 0)) with
  | none =>
    by_cases h0 : l[i] = 0
    · rw [if_pos ⟨h0, by decide⟩]
      simp [h0, List.findIdx?_cons, List.length_take]
      omega
    · rw [if_neg (fun x => h0 x.1)]
      simp [h0, List.findIdx?_cons]
  | some j =>
    rw [if_neg (fun x => absurd x.2 (by dsimp only; omega))]
    rfl
theorem zmany_succ {l : List Int} {i : Nat} (h : i < l.length) : zmany (l.take (i + 1)) = zmany (l.take i) + if l[i] = 0 then 1 else 0 := by
  unfold zmany
  rw [List.take_add_one, List.getElem?_eq_getElem h, Option.toList_some, List.filter_append, List.length_append]
  by_cases h0 : l[i] = 0
  · simp [h0]
  · simp [h0]
theorem zmany_range (l : List Int) : 0 ≤ zmany l ∧ zmany l ≤ l.length := by
  unfold zmany
  have := List.length_filter_le (fun x : Int => decide (x = 0)) l
  omega
set_option maxHeartbeats 2000000 in
theorem bfree_spec0 (p : Nat) (b : Bok) (h : BkOk b) (x : BV) :
    Spec0 Tryz.prog 103 [vp p] (fun _ => True) (fun F => BParts p x b F) (fun _ : Unit => True) (fun _ => .tuple #[vi b.first, vi b.many]) (fun _ F => BParts p x b F) := by
  (refine spec_of Tryz.func103 rfl Tryz.ntmps103 rfl (fun F w0 hrd => ?_))
  have hsl := h.state
  have hsg := h.ok.segments
  have hml : (b.state.map vi).length = b.state.length := List.length_map ..
  refine walk ?_
  refine wc_loop (X := Nat) (fun i => [(0, vp p), (2, vi (zfirst (b.state.take i))), (3, vi (zmany (b.state.take i))), (9, x.sv), (10, vi b.state.length), (11, vi i)]) (fun _ => BParts p x b F)
    (fun i => i ≤ b.state.length) (fun i => b.state.length - i) 0 (Nat.zero_le _) envs perm (fun i hi => ?_)
  have hfr := zfirst_range (b.state.take i)
  have hmr := zmany_range (b.state.take i)
  rw [List.length_take] at hfr hmr
  refine walk ?_
  refine wif_dec (fun hlt => ?_) (fun hlt => ?_)
  · have hlt : i < b.state.length := by omega
    have hs1 := zfirst_succ hlt
    have hs2 := zmany_succ hlt
    refine walk ?_
    generalize b.state[i] = y at hs1 hs2 ⊢
    refine wif_dec (fun h0 => ?_) (fun h0 => ?_)
    · rw [if_pos h0] at hs2
      refine walk ?_
      refine wif_dec (fun hn => ?_) (fun hn => ?_)
      · rw [if_pos ⟨h0, hn⟩] at hs1
        refine walk ?_
        refine wq_round (i + 1) (by omega) (by omega) (by rw [hs1, hs2]; exact envs) perm
      · rw [if_neg (fun x => hn x.2)] at hs1
        refine walk ?_
        refine wq_round (i + 1) (by omega) (by omega) (by rw [hs1, hs2]; exact envs) perm
    · rw [if_neg h0, Int.add_zero] at hs2
      rw [if_neg (fun x => h0 x.1)] at hs1
      refine walk ?_
      refine wq_round (i + 1) (by omega) (by omega) (by rw [hs1, hs2]; exact envs) perm
  · obtain rfl : i = b.state.length := by omega
    rw [List.take_length]
    refine walk ?_
    exact wq_ret2 rfl rfl rfl () rfl trivial Ent.refl
theorem busable_spec0 (p : Nat) (b : Bok) (h : BkOk b) (x : BV) :
    Spec0 Tryz.prog 49 [vp p] (fun _ => True) (fun F => BParts p x b F) (fun _ : Unit => True) (fun _ => vi b.usable) (fun _ F => BParts p x b F) := by
  (refine spec_of Tryz.func49 rfl Tryz.ntmps49 rfl (fun F w0 hrd => ?_))
  have h1 := h.ok.stripes
  have h2 := h.ok.segments
  have h3 := h.state
  have h4 := h.idx
  have h5 : 0 ≤ b.many ∧ b.many ≤ 64 := by have := zmany_range b.state; change 0 ≤ b.many ∧ b.many ≤ b.state.length at this; omega
  have h6 : b.many * b.s.stripes ≤ 64 * 16 := Int.mul_le_mul h5.2 h1.2 (by omega) (by omega)
  have h7 : 0 ≤ b.many * b.s.stripes := Int.mul_nonneg h5.1 (by omega)
  refine walk ?_
  refine call (bfree_spec0 p b h x) ?_
  intro _ _
  refine walk ?_
  (refine draw ?_; refine dy 0 ?_; refine dy 1 ?_; refine dy 2 ?_; refine dy 3 ?_; refine dy 4 ?_; refine dy 5 ?_; refine dy 6 ?_; refine dy 7 ?_; refine dy 8 ?_; refine dy 9 ?_; refine dy 10 ?_; refine dy 11 ?_; refine dy 12 ?_; refine dy 13 ?_; refine dy 14 ?_; refine dy 15 ?_; refine dy 16 ?_; refine dy 17 ?_; refine dy 18 ?_; refine dy 19 ?_; refine walk ?_)
  exact wq_ret1 rfl rfl () rfl trivial Ent.refl
/-! how many blocks live in each segment -/
def livesL (s : Shp) (m : List Int) : List Int := (List.range s.segments.toNat).map fun (i : Nat) => (Lg.lives s m i : Int)
theorem livesL_len (s : Shp) (m : List Int) : (livesL s m).length = s.segments.toNat := by unfold livesL; simp
theorem livesL_nil (s : Shp) : livesL s [] = List.replicate s.segments.toNat 0 := by
  unfold livesL Lg.lives
  rw [List.eq_replicate_iff]
  refine ⟨by simp, fun y hy => ?_⟩
  obtain ⟨i, _, rfl⟩ := List.mem_map.1 hy
  rfl
theorem lives_succ {s : Shp} {m : List Int} {k : Nat} (h : k < m.length) (i : Int) : Lg.lives s (m.take (k + 1)) i = Lg.lives s (m.take k) i + if 0 ≤ m[k] ∧ Lg.home s m[k] = i then 1 else 0 := by
  unfold Lg.lives
  rw [List.take_add_one, List.getElem?_eq_getElem h, Option.toList_some, List.countP_append, List.countP_singleton]
  by_cases hc : 0 ≤ m[k] ∧ Lg.home s m[k] = i
  · rw [if_pos hc, if_pos (by simpa using hc)]
  · rw [if_neg hc, if_neg (by simpa using hc)]
theorem livesL_keep {s : Shp} {m : List Int} {k : Nat} (h : k < m.length) (hn : ¬ 0 ≤ m[k]) : livesL s (m.take (k + 1)) = livesL s (m.take k) := by
  unfold livesL
  apply List.map_congr_left
  intro i _
  rw [lives_succ h, if_neg (fun x => hn x.1)]
  rfl
theorem livesL_more {s : Shp} {m : List Int} {k j : Nat} (h : k < m.length) (h0 : 0 ≤ m[k]) (hj : Lg.home s m[k] = j) (_hs : (j : Int) < s.segments) : livesL s (m.take (k + 1)) = (livesL s (m.take k)).set j ((livesL s (m.take k)).getD j 0 + 1) := by
  apply List.ext_getElem
  · rw [List.length_set, livesL_len, livesL_len]
  · intro i h1 h2
    rw [livesL_len] at h1
    rw [List.getElem_set]
    have e : ∀ (m : List Int) (h9 : i < (livesL s m).length), (livesL s m)[i]'h9 = (Lg.lives s m i : Int) := fun m h9 => by simp [livesL]
    rw [e, lives_succ h]
    by_cases hc : j = i
    · subst hc
      rw [if_pos rfl, if_pos ⟨h0, hj⟩]
      have h3 : j < (livesL s (m.take k)).length := by rw [livesL_len]; exact h1
      rw [List.getD, List.getElem?_eq_getElem h3, Option.getD_some, e]
      omega
    · rw [if_neg hc, if_neg (fun x => hc (by have := x.2; omega)), e]
      rfl
set_option maxHeartbeats 2000000 in
theorem blives_spec0 (p : Nat) (b : Bok) (h : BkOk b) (x : BV) :
    Spec0 Tryz.prog 52 [vp p] (fun _ => True) (fun F => BParts p x b F) (fun _ : Value => True) (fun r => r) (fun r F => Sl r 1 ((livesL b.s b.map).map vi) :: BParts p x b F) := by
  (refine spec_of Tryz.func52 rfl Tryz.ntmps52 rfl (fun F w0 hrd => ?_))
  have hm := h.ok.members
  have hsg := h.ok.segments
  have hst := h.ok.stripes
  have hbo := (bounds h.ok).logical
  have hml := h.map
  have hll : (b.map.map vi).length = b.map.length := List.length_map ..
  refine walk ?_
  intro ov _ _
  have hz : (List.replicate b.s.segments.toNat (Value.int .i64 0)) = (livesL b.s (b.map.take 0)).map vi := by rw [List.take_zero, livesL_nil, List.map_replicate]
  refine walk ?_
  refine wc_loop (X := Nat) (fun i => [(0, vp p), (3, ov), (15, x.mv), (16, vi b.map.length), (17, vi i)]) (fun i => Sl ov 1 ((livesL b.s (b.map.take i)).map vi) :: BParts p x b F)
    (fun i => i ≤ b.map.length) (fun i => b.map.length - i) 0 (Nat.zero_le _) envs (by rw [← hz]; exact perm) (fun i hi => ?_)
  have hvl : ((livesL b.s (b.map.take i)).map vi).length = b.s.segments.toNat := by rw [List.length_map, livesL_len]
  refine walk ?_
  refine wif_dec (fun hlt => ?_) (fun hlt => ?_)
  · have hlt : i < b.map.length := by omega
    have hpl := h.places _ (List.getElem_mem hlt)
    have hk1 := livesL_keep (s := b.s) hlt
    have hk2 := fun j => livesL_more (s := b.s) (j := j) hlt
    refine walk ?_
    generalize b.map[i] = y at hpl hk1 hk2 ⊢
    refine wif_dec (fun h0 => ?_) (fun h0 => ?_)
    · have hhome : 0 ≤ Lg.home b.s y ∧ Lg.home b.s y < b.s.segments := by
        unfold Lg.home Shp.slots
        have h1 : 0 ≤ y / (b.s.members - 2) := Int.ediv_nonneg h0 (by omega)
        refine ⟨Int.ediv_nonneg h1 (by omega), ?_⟩
        rw [Int.ediv_lt_iff_lt_mul (by omega)]
        rw [Int.ediv_lt_iff_lt_mul (by omega)]
        have := hpl.2
        unfold Shp.all Shp.slots at this
        exact this
      obtain ⟨j, hj⟩ : ∃ j : Nat, Lg.home b.s y = j := ⟨(Lg.home b.s y).toNat, by omega⟩
      have hk2 := hk2 j h0 hj (by omega)
      have hlv : ∀ z ∈ livesL b.s (b.map.take i), 0 ≤ z ∧ z ≤ 1048576 := fun z hz => by
        unfold livesL at hz
        obtain ⟨q, _, rfl⟩ := List.mem_map.1 hz
        have := Lg.lives_le b.s (b.map.take i) q
        rw [List.length_take] at this
        omega
      have hj2 : j < (livesL b.s (b.map.take i)).length := by rw [livesL_len]; omega
      have hjv := hlv _ (List.getElem_mem hj2)
      rw [List.getD, List.getElem?_eq_getElem hj2, Option.getD_some] at hk2
      have hpy : y ≤ 64 * 16 * 14 := by
        have h2 : b.s.all ≤ 64 * 16 := Int.mul_le_mul hsg.2 hst.2 (by omega) (by omega)
        have h3 : b.s.slots ≤ 14 := by unfold Shp.slots; omega
        have h5 : b.s.all * b.s.slots ≤ 64 * 16 * 14 := Int.mul_le_mul h2 h3 (by unfold Shp.slots; omega) (by omega)
        omega
      have hq1 : 0 ≤ y / (b.s.members - 2) ∧ y / (b.s.members - 2) ≤ y := ⟨Int.ediv_nonneg h0 (by omega), Int.ediv_le_self _ h0⟩
      have hj : y / (b.s.members - 2) / b.s.stripes = (j : Int) := hj
      have hL : (livesL b.s (b.map.take i)).length = b.s.segments.toNat := livesL_len _ _
      (refine draw ?_; refine dy 0 ?_; refine dy 1 ?_; refine dy 2 ?_; refine dy 3 ?_; refine dy 4 ?_; refine dy 5 ?_; refine dy 6 ?_; refine dy 7 ?_; refine dy 8 ?_; refine dy 9 ?_; refine dy 10 ?_; refine dy 11 ?_; refine dy 12 ?_; refine dy 13 ?_; refine dy 14 ?_)
      rw [hj]
      generalize hLL : livesL b.s (b.map.take i) = LL at *
      (refine dy 15 ?_; refine dy 16 ?_; refine dy 17 ?_; refine dy 18 ?_; refine ddx 19 ?_; refine walk ?_)
      refine wq_round (i + 1) (by omega) (by omega) envs ?_
      rw [hk2, List.map_set]
      exact permL
    · rw [← hk1 h0]
      refine walk ?_
      refine wq_round (i + 1) (by omega) (by omega) envs perm
  · obtain rfl : i = b.map.length := by omega
    rw [List.take_length]
    refine walk ?_
    exact wq_ret1 rfl rfl ov rfl trivial Ent.refl
end Go.Proofs.YtohienhoifgmaaaGreat
end
