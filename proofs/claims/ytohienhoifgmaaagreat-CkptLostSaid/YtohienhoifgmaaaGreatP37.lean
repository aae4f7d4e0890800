/- several texts, one behind the other -/
import Derived.Test.YtohienhoifgmaaaGreatP36
import Derived.Test.YtohienhoifgmaaaGreatP33
import Derived.Test.YtohienhoifgmaaaGreatP34

section
/- The small memory: a stripe stays, its records are done with. -/
namespace Go.Proofs.YtohienhoifgmaaaGreat
open Go Go.Sl
attribute [local irreducible] Yl WL WC WQ WD
theorem filter_map_rec (p : Rec → Bool) (l : List (Rec × Value)) : (l.filter (fun e => p e.1)).map (·.1) = (l.map (·.1)).filter p := by
  rw [List.filter_map]; rfl
set_option maxHeartbeats 1000000 in
theorem ncommit_spec (n pp : Nat) (s : Nvm × Pow) (durable upTo : Int) (hn : s.1.recs.length ≤ 1048576) :
    SpecG Tryz.prog outage 85 [vp n, .int .u64 durable, .int .u64 upTo] (fun _ => True) (fun s F => NvAt n pp s.1 :: PowAt pp s.2 :: F)
      (match s.2.tick with | none => .gone s | some p => .ok () ({ s.1 with recs := s.1.recs.filter (fun x => decide (¬ x.seq ≤ upTo)), root := { s.1.root with durable := durable } }, p)) s (fun (_ : Unit) _ => True) (fun _ _ => .tuple #[]) (fun _ _ F => F) := by
  (refine spec_of Tryz.func85 rfl Tryz.ntmps85 rfl (fun F w0 hrd => ?_))
  obtain ⟨s, p⟩ := s
  dsimp only at hn ⊢
  (first | refine WC.ex (fun y => NvAt.opened) (fun y hf => ?_) | refine WL.ex (fun y => NvAt.opened) (fun y hf => ?_) | refine WQ.ex (fun y => NvAt.opened) (fun y hf => ?_))
  have hrl : y.rs.length = s.recs.length := by rw [← hf.recs, List.length_map]
  refine walk ?_
  intro b
  refine walk ?_
  refine gcall (tick_spec pp p) (fun s' hg => ⟨(s, s'), ?_, ?_⟩) (fun _ _ p' hp _ => ?_)
  · unfold ptick at hg
    cases hp : p.tick with
    | none => rw [hp] at hg; cases hg; rfl
    | some q => rw [hp] at hg; cases hg
  · exact Ent.trans perm (NvAt.shut y hf)
  have hp' : p.tick = some p' := by
    unfold ptick at hp
    cases hq : p.tick with
    | none => rw [hq] at hp; cases hp
    | some q => rw [hq] at hp; cases hp; rfl
  haveI : ∀ Γ : List HP, ReadIn (Pool y.rows :: Γ) (fun h => ∀ e ∈ y.rs, Rd e.2 1 (e.1.data.map vb) h) := fun Γ => ⟨fun h hs e he => (Pool.rdIn' (hf.mem e he)).rd h hs⟩
  refine walk ?_
  refine call (ndelete_spec commit1_spec y.lv y.rs b upTo (by omega)) ?_
  intro v _
  refine walk ?_
  refine wq_end0 rfl ((), (), ({ s with recs := s.recs.filter (fun x => decide (¬ x.seq ≤ upTo)), root := { s.root with durable := durable } }, p')) rfl ⟨by rw [hp'], trivial⟩ ?_
  refine Ent.trans ?_ (NvAt.shut (s := { s with recs := s.recs.filter (fun x => decide (¬ x.seq ≤ upTo)), root := { s.root with durable := durable } }) ⟨v, y.rs.filter fun e => decide (¬ e.1.seq ≤ upTo), y.rows⟩ ⟨?_, ?_⟩)
  · exact perm
  · dsimp only
    rw [← hf.recs, ← filter_map_rec]
  · intro e he
    exact hf.mem e (List.mem_filter.1 he).1
theorem _root_.Go.Sl.ncommit_up (d u : Int) (r : Rig) : ncommit d u r = (match r.pow.tick with | none => .gone (r.nv, r.pow) | some p => .ok () ({ r.nv with recs := r.nv.recs.filter (fun x => decide (¬ x.seq ≤ u)), root := { r.nv.root with durable := d } }, p) : Out (Nvm × Pow) Unit).up (fun s => { r with nv := s.1, pow := s.2 }) := by
  unfold ncommit
  cases r.pow.tick <;> rfl
theorem _root_.Go.Sl.nappend_up (k lba : Int) (data : Bytes) (r : Rig) : nappend k lba data r = (if (r.nv.recs.length : Int) ≥ r.nv.root.shape.nv then .ok 7 (r.nv, r.pow) else match r.pow.tick with | none => .gone (r.nv, r.pow) | some p => .ok 0 ({ r.nv with recs := r.nv.recs ++ [⟨r.nv.next, k, lba, data⟩], next := IntKind.u64.wrap (r.nv.next + 1) }, p) : Out (Nvm × Pow) Int).up (fun s => { r with nv := s.1, pow := s.2 }) := by
  unfold nappend
  split
  · rfl
  · cases r.pow.tick <;> rfl
abbrev NvBut (k : Keys) (r : Rig) (F : List HP) : List HP := Cells k.a [vi k.sh.members, vi k.sh.block, vi k.sh.segments, vi k.sh.stripes, vi k.sh.nv, vi k.sh.logical, k.lv, vp k.n, .bool r.broken] :: Sl k.lv 1 (k.ps.map dev) :: Dks k.pp k.ps r.ds :: F
theorem rcommit_spec (k : Keys) (r : Rig) (d u : Int) (hn : r.nv.recs.length ≤ 1048576) : SpecG Tryz.prog outage 85 [vp k.n, .int .u64 d, .int .u64 u] (fun _ => True) (RigAt k) (ncommit d u r) r (fun (_ : Unit) _ => True) (fun _ _ => .tuple #[]) (fun _ _ F => F) :=
  SpecG.conv (ncommit_spec k.n k.pp (r.nv, r.pow) d u hn) (fun s => { r with nv := s.1, pow := s.2 }) (NvBut k r) (ncommit_up d u r) (fun _ => perm) (fun _ _ => perm) (fun _ => perm) (fun _ _ _ _ h => h)
theorem rappend_spec (k : Keys) (r : Rig) (kd lba : Int) (v : Value) (data : Bytes) (hb : data.length ≤ 1099511627776) (hn : r.nv.recs.length ≤ 1048576) : SpecG Tryz.prog outage 35 [vp k.n, vi kd, vi lba, v] (Rd v 1 (data.map vb)) (RigAt k) (nappend kd lba data r) r (fun (_ : Unit) _ => True) (fun _ e => vi e) (fun _ _ F => F) :=
  SpecG.conv (nappend_spec k.n k.pp (r.nv, r.pow) kd lba v data hb hn) (fun s => { r with nv := s.1, pow := s.2 }) (NvBut k r) (nappend_up kd lba data r) (fun _ => perm) (fun _ _ => perm) (fun _ => perm) (fun _ _ _ _ h => h)
end Go.Proofs.YtohienhoifgmaaaGreat
end

section
/- A log, as the program has it: its small functions. -/
namespace Go.Proofs.YtohienhoifgmaaaGreat
open Go Go.Sl
attribute [local irreducible] Yl WL WC WQ WD
section geom
variable (s : Shp) (h : s.Ok)
include h
theorem segment_spec (t : Int) (ht : 0 ≤ t ∧ t ≤ 1099511627776) : Spec0 Tryz.prog 120 [Shp.val s, vi t] (fun _ => True) (fun F => F) (fun _ : Unit => True) (fun _ => vi (t / s.stripes)) (fun _ F => F) := by
  (refine spec_of Tryz.func120 rfl Tryz.ntmps120 rfl (fun F w0 hrd => ?_))
  have b1 := h.stripes
  refine walk ?_
  intro p
  refine walk ?_
  exact wq_ret1 rfl rfl () rfl trivial perm
theorem spot_spec (t : Int) (ht : 0 ≤ t ∧ t ≤ 1099511627776) : Spec0 Tryz.prog 121 [Shp.val s, vi t] (fun _ => True) (fun F => F) (fun _ : Unit => True) (fun _ => .agg #[vi (t / s.slots), vi (1 + t % s.slots)]) (fun _ F => F) := by
  (refine spec_of Tryz.func121 rfl Tryz.ntmps121 rfl (fun F w0 hrd => ?_))
  have b1 := (bounds h).slots
  have b2 := Int.emod_lt_of_pos t (show 0 < s.slots by omega)
  have b3 := Int.emod_nonneg t (show s.slots ≠ 0 by omega)
  refine walk ?_
  intro p
  refine walk ?_
  intro c
  refine walk ?_
  (refine draw ?_; refine dy 0 ?_; refine dy 1 ?_; refine dy 4 ?_; refine dy 5 ?_; refine ddo 2 ?_)
  refine call (slots_spec s h) ?_
  intro _ _
  (refine walk ?_; refine dy 3 ?_; refine ddo 6 ?_)
  refine call (slots_spec s h) ?_
  intro _ _
  (refine walk ?_; refine dy 7 ?_; refine dy 8 ?_; refine dy 9 ?_; refine dlast 10 ?_)
  refine walk ?_
  exact wq_retc rfl rfl rfl () rfl trivial perm
theorem place_spec (t i : Int) (ht : 0 ≤ t ∧ t ≤ 1048576) (hi : 0 ≤ i ∧ i ≤ 1048576) : Spec0 Tryz.prog 136 [Shp.val s, vi t, vi i] (fun _ => True) (fun F => F) (fun _ : Unit => True) (fun _ => vi (t * s.slots + i)) (fun _ F => F) := by
  (refine spec_of Tryz.func136 rfl Tryz.ntmps136 rfl (fun F w0 hrd => ?_))
  have b1 := (bounds h).slots
  have b2 : 0 ≤ t * s.slots := Int.mul_nonneg (by omega) (by omega)
  have b3 : t * s.slots ≤ 1048576 * 14 := Int.mul_le_mul (by omega) (by omega) (by omega) (by omega)
  refine walk ?_
  intro p
  refine walk ?_
  refine call (slots_spec s h) ?_
  intro _ _
  refine walk ?_
  exact wq_ret1 rfl rfl () rfl trivial perm
theorem pageAt_spec (r i : Int) (hr : 0 ≤ r ∧ r ≤ 1) (hi : 0 ≤ i ∧ i ≤ 1048576) : Spec0 Tryz.prog 25 [Shp.val s, vi r, vi i] (fun _ => True) (fun F => F) (fun _ : Unit => True) (fun _ => vi (s.pageAt r i)) (fun _ F => F) := by
  (refine spec_of Tryz.func25 rfl Tryz.ntmps25 rfl (fun F w0 hrd => ?_))
  have b1 := (bounds h).pages
  have b2 : 0 ≤ r * s.pages := Int.mul_nonneg (by omega) (by omega)
  have b3 : r * s.pages ≤ 1 * 60000 := Int.mul_le_mul (by omega) (by omega) (by omega) (by omega)
  refine walk ?_
  intro p
  refine walk ?_
  refine call (pages_spec s h) ?_
  intro _ _
  refine walk ?_
  exact wq_ret1 rfl rfl () rfl trivial perm
end geom
/-- where a log lies -/
structure GK where
  lp : Nat
  k : Keys
  mp : Nat
  tp : Nat
abbrev LCells (K : GK) (seg idx : Int) : HP := Cells K.lp [vi K.k.sh.members, vi K.k.sh.block, vi K.k.sh.segments, vi K.k.sh.stripes, vi K.k.sh.nv, vi K.k.sh.logical, vp K.k.a, vp K.k.n, vp K.mp, vp K.tp, vi seg, vi idx]
abbrev LogB (K : GK) (g : Lg) (F : List HP) : List HP := LCells K g.seg g.idx :: MapAt K.mp g.map :: TblAt K.tp g.tbl :: F
abbrev LogAt (K : GK) (g : Lg) (F : List HP) : List HP := LogB K g (RigAt K.k g.rig F)
/-- a log's numbers are small -/
structure Lsm (K : GK) (g : Lg) : Prop where
  sh : g.sh = K.k.sh
  ok : K.k.sh.Ok
  seg : -1048576 ≤ g.seg ∧ g.seg ≤ 1048576
  idx : -1048576 ≤ g.idx ∧ g.idx ≤ 1048576
  tbl : g.tbl.length ≤ 65536
  map : g.map.length ≤ 1048576
  big : ∀ (j : Nat) (h : j < g.map.length), g.map[j] ≤ 1099511627776
theorem Lg.stripe_eq {K : GK} {g : Lg} (h : Lsm K g) : g.stripe = g.seg * K.k.sh.stripes + g.idx := by unfold Lg.stripe; rw [h.sh]
theorem llast_spec (K : GK) (g : Lg) (h : Lsm K g) : Spec0 Tryz.prog 50 [vp K.lp] (fun _ => True) (fun F => LCells K g.seg g.idx :: F) (fun _ : Unit => True) (fun _ => .bool g.last) (fun _ F => LCells K g.seg g.idx :: F) := by
  (refine spec_of Tryz.func50 rfl Tryz.ntmps50 rfl (fun F w0 hrd => ?_))
  have b1 := h.ok.stripes
  have e : g.last = decide (g.idx = K.k.sh.stripes - 1) := by unfold Lg.last; rw [h.sh]
  refine walk ?_
  (refine draw ?_; refine dy 0 ?_; refine dy 1 ?_; refine dy 2 ?_; refine dy 3 ?_; refine dy 4 ?_; refine dy 5 ?_; refine dy 6 ?_; refine dy 7 ?_; refine dy 8 ?_; refine dy 9 ?_; refine dy 10 ?_; refine dy 11 ?_; refine walk ?_)
  rw [e]
  exact wq_ret1 rfl rfl () rfl trivial perm
theorem lstripe_spec (K : GK) (g : Lg) (h : Lsm K g) : Spec0 Tryz.prog 51 [vp K.lp] (fun _ => True) (fun F => LCells K g.seg g.idx :: F) (fun _ : Unit => True) (fun _ => vi g.stripe) (fun _ F => LCells K g.seg g.idx :: F) := by
  (refine spec_of Tryz.func51 rfl Tryz.ntmps51 rfl (fun F w0 hrd => ?_))
  have b1 := h.ok.stripes
  have b2 := h.seg
  have b3 := h.idx
  have b4 : g.seg * K.k.sh.stripes ≤ 16777216 := by
    rcases Int.le_total 0 g.seg with h0 | h0
    · have : g.seg * K.k.sh.stripes ≤ 1048576 * 16 := Int.mul_le_mul (by omega) (by omega) (by omega) (by omega)
      omega
    · have : g.seg * K.k.sh.stripes ≤ 0 := Int.mul_nonpos_of_nonpos_of_nonneg h0 (by omega)
      omega
  have b5 : -16777216 ≤ g.seg * K.k.sh.stripes := by
    rcases Int.le_total 0 g.seg with h0 | h0
    · have : 0 ≤ g.seg * K.k.sh.stripes := Int.mul_nonneg h0 (by omega)
      omega
    · have : -g.seg * K.k.sh.stripes ≤ 1048576 * 16 := Int.mul_le_mul (by omega) (by omega) (by omega) (by omega)
      rw [Int.neg_mul] at this
      omega
  refine walk ?_
  (refine draw ?_; refine dy 0 ?_; refine dy 1 ?_; refine dy 2 ?_; refine dy 3 ?_; refine dy 4 ?_; refine dy 5 ?_; refine dy 6 ?_; refine dy 7 ?_; refine dy 8 ?_; refine dy 9 ?_; refine dy 10 ?_; refine dy 11 ?_; refine dy 12 ?_; refine dy 13 ?_; refine dy 14 ?_; refine dy 15 ?_; refine walk ?_)
  rw [Lg.stripe_eq h]
  exact wq_ret1 rfl rfl () rfl trivial perm
theorem lusable_spec (K : GK) (g : Lg) (h : Lsm K g) : Spec0 Tryz.prog 30 [vp K.lp] (fun _ => True) (fun F => LCells K g.seg g.idx :: TblAt K.tp g.tbl :: F) (fun _ : Unit => True) (fun _ => vi g.usable) (fun _ F => LCells K g.seg g.idx :: TblAt K.tp g.tbl :: F) := by
  (refine spec_of Tryz.func30 rfl Tryz.ntmps30 rfl (fun F w0 hrd => ?_))
  have b1 := h.ok.stripes
  have b3 := h.idx
  have b4 : 0 ≤ g.tbl.many 0 ∧ g.tbl.many 0 ≤ 65536 := by
    have := h.tbl
    have h1 : (g.tbl.filter fun s => decide (s.state = 0)).length ≤ g.tbl.length := List.length_filter_le _ _
    unfold Tbl.many; omega
  have b5 : 0 ≤ g.tbl.many 0 * K.k.sh.stripes := Int.mul_nonneg b4.1 (by omega)
  have b6 : g.tbl.many 0 * K.k.sh.stripes ≤ 65536 * 16 := Int.mul_le_mul b4.2 (by omega) (by omega) (by omega)
  refine walk ?_
  (refine draw ?_; refine dy 0 ?_; refine dy 1 ?_; refine dy 2 ?_; refine dy 3 ?_; refine dy 4 ?_; refine dy 5 ?_; refine dy 6 ?_; refine dy 7 ?_; refine dy 8 ?_; refine dy 9 ?_; refine dy 10 ?_; refine dy 11 ?_; refine dy 12 ?_; refine dy 13 ?_; refine dy 15 ?_; refine dy 16 ?_; refine dy 17 ?_; refine dy 18 ?_; refine dy 19 ?_; refine ddo 14 ?_)
  refine call (tmany_spec K.tp g.tbl 0 h.tbl) ?_
  intro _ _
  (refine walk ?_; refine dy 20 ?_; refine dy 21 ?_; refine dy 22 ?_; refine dy 23 ?_; refine walk ?_)
  refine wq_ret1 rfl rfl () ?_ trivial perm
  unfold Lg.usable
  rw [h.sh]
end Go.Proofs.YtohienhoifgmaaaGreat
end
