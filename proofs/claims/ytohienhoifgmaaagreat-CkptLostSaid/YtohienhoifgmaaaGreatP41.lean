/- several texts, one behind the other -/
import Derived.Test.YtohienhoifgmaaaGreatP35
import Derived.Test.YtohienhoifgmaaaGreatP36
import Derived.Test.YtohienhoifgmaaaGreatP33
import Derived.Test.YtohienhoifgmaaaGreatP40

section
/- What is staged, as the program has it: of each block its last record; a stripe's worth; a block's record. -/
namespace Go.Proofs.YtohienhoifgmaaaGreat
open Go Go.Sl
attribute [local irreducible] Yl WL WC WQ WD
abbrev rkey : Rec × Value → Int := fun e => e.1.lba
set_option maxHeartbeats 2000000 in
theorem sview_spec (v : Value) (rs : List (Rec × Value)) (hn : rs.length ≤ 1048576) :
    Spec0 Tryz.prog 125 [v] (fun h => Rd v 4 (rs.flatMap recCells) h ∧ ∀ e ∈ rs, Rd e.2 1 (e.1.data.map vb) h) (fun F => F) (fun _ : Value => True) (fun r => r) (fun r F => Sl r 4 ((vw rkey rs).flatMap recCells) :: F) := by
  (refine spec_of Tryz.func125 rfl Tryz.ntmps125 rfl (fun F w0 hrd => ?_))
  haveI : RdIn F v 4 (rs.flatMap recCells) := ⟨fun h hs => (hrd h hs).1⟩
  have hrow : ∀ e ∈ rs, RdIn F e.2 1 (e.1.data.map vb) := fun e he => ⟨fun h hs => (hrd h hs).2 e he⟩
  have hl := rec_len rs
  refine walk ?_
  intro c
  refine walk ?_
  refine wc_loop (X := Nat × IMap Int) (fun y => [(0, v), (3, .map (some c)), (10, v), (11, vi rs.length), (12, vi y.1)])
    (fun y => MapI c (y.2.map fun p => (p.1, vi p.2)) :: F)
    (fun y => y.1 ≤ rs.length ∧ LastAt rkey rs y.1 y.2) (fun y => rs.length - y.1) (0, []) ⟨Nat.zero_le _, LastAt.zero _ _ _⟩ envs Ent.refl (fun y hy => ?_)
  obtain ⟨i, m⟩ := y
  dsimp only at hy ⊢
  obtain ⟨hi, hm⟩ := hy
  refine walk ?_
  refine wif_dec (fun hlt => ?_) (fun hlt => ?_)
  · have hlt : i < rs.length := by omega
    have hms := hm.step hlt
    refine walk ?_
    intro c5
    have hr := hrow _ (List.getElem_mem hlt)
    generalize rs[i] = e at hms hr ⊢
    obtain ⟨r, u⟩ := e
    dsimp only [recCells, rkey] at hms hr ⊢
    refine walk ?_
    rw [mset_map (fun x : Int => vi x)]
    refine wq_round (i + 1, mset m r.lba i) ⟨by dsimp only; omega, hms⟩ (by dsimp only; omega) envs perm
  · obtain rfl : i = rs.length := by omega
    refine walk ?_
    refine wc_loop (X := Nat × Value) (fun y => [(0, v), (3, .map (some c)), (6, y.2), (22, v), (23, vi rs.length), (24, vi y.1)])
      (fun y => Sl y.2 4 ((vwN rkey rs y.1).flatMap recCells) :: MapI c (m.map fun p => (p.1, vi p.2)) :: F)
      (fun y => y.1 ≤ rs.length) (fun y => rs.length - y.1) (0, .slice none 0 0) (Nat.zero_le _) envs (sl_nil 4) (fun y hy => ?_)
    obtain ⟨i, rv⟩ := y
    dsimp only at hy ⊢
    have hvl := vwN_length rkey rs i
    have hvf := rec_len (vwN rkey rs i)
    refine walk ?_
    refine wif_dec (fun hlt => ?_) (fun hlt => ?_)
    · have hlt : i < rs.length := by omega
      obtain ⟨j, hget, hlast⟩ := hm.eq hlt
      have hsucc := vwN_succ (key := rkey) hlt
      refine walk ?_
      intro c8
      have hr := hrow _ (List.getElem_mem hlt)
      generalize rs[i] = e at hget hsucc hr ⊢
      obtain ⟨r, u⟩ := e
      obtain ⟨X, hX⟩ : ∃ X, X = (vwN rkey rs i).flatMap recCells := ⟨_, rfl⟩
      rw [← hX] at hvf ⊢
      dsimp only [recCells, rkey] at hget hsucc hr ⊢
      refine walk ?_
      rw [mget_map (fun x : Int => vi x), hget]
      dsimp only [Option.map, Option.getD]
      refine walk ?_
      refine wif_dec (fun heq => ?_) (fun heq => ?_)
      · rw [if_pos (hlast.1 heq)] at hsucc
        refine walk ?_
        refine wl_buildOneA (k := 4) rfl rfl (by decide) rfl (fun s1 _ _ => ?_)
        refine walk ?_
        intro rv' _ _
        refine walk ?_
        refine wq_round (i + 1, rv') (by dsimp only; omega) (by dsimp only; omega) envs ?_
        dsimp only
        rw [show vwN rkey rs (i + 1) = _ from hsucc, List.flatMap_append, ← hX, List.flatMap_cons, List.flatMap_nil, List.append_nil]
        exact perm
      · rw [if_neg (fun h => heq (hlast.2 h)), List.append_nil] at hsucc
        refine walk ?_
        refine wq_round (i + 1, rv) (by dsimp only; omega) (by dsimp only; omega) envs ?_
        dsimp only
        rw [show vwN rkey rs (i + 1) = _ from hsucc, ← hX]
        exact perm
    · obtain rfl : i = rs.length := by omega
      rw [vwN_all]
      refine walk ?_
      exact wq_ret1 rfl rfl rv rfl trivial perm
theorem flat_cell {α : Type} {f : α → List Value} {k : Nat} [h : FLen f k] (xs : List α) (i j : Nat) (hi : i < xs.length) (hj : j < k) : (xs.flatMap f)[i * k + j]? = some ((f xs[i])[j]'(by rw [h.len]; exact hj)) := by
  have h1 := flat_get xs i hi (f := f) (k := k)
  have h2 := congrArg (fun l => l[j]?) h1
  simp only [List.getElem?_take_of_lt hj, List.getElem?_drop] at h2
  rw [h2, List.getElem?_eq_getElem]
theorem recs_take (t : List (Rec × Value)) (n : Nat) : (t.flatMap recCells).take (n * 4) = (t.take n).flatMap recCells := by
  induction t generalizing n with
  | nil => simp
  | cons a t ih =>
    cases n with
    | zero => rfl
    | succ n =>
      rw [List.flatMap_cons, List.take_succ_cons, List.flatMap_cons, ← ih, show (n + 1) * 4 = n * 4 + 4 by omega]
      rfl
def seqOf (l : List (Rec × Value)) : Int := (l.getLast?).elim 0 (·.1.seq)
set_option maxHeartbeats 2000000 in
theorem sbatch_spec (v : Value) (rs : List (Rec × Value)) (most : Int) (hn : rs.length ≤ 1048576) :
    Spec0 Tryz.prog 80 [v, vi most] (fun h => Rd v 4 (rs.flatMap recCells) h ∧ ∀ e ∈ rs, Rd e.2 1 (e.1.data.map vb) h) (fun F => F) (fun _ : Value => True) (fun r => .tuple #[r, .int .u64 (seqOf ((vw rkey rs).take most.toNat))]) (fun r F => Sl r 4 (((vw rkey rs).take most.toNat).flatMap recCells) :: F) := by
  (refine spec_of Tryz.func80 rfl Tryz.ntmps80 rfl (fun F w0 hrd => ?_))
  haveI : ReadIn F (fun h => Rd v 4 (rs.flatMap recCells) h ∧ ∀ e ∈ rs, Rd e.2 1 (e.1.data.map vb) h) := ⟨hrd⟩
  have hvl := vw_length rkey rs
  refine walk ?_
  refine call (sview_spec v rs hn) ?_
  intro r _
  have hl := rec_len (vw rkey rs)
  obtain ⟨B, hB⟩ : ∃ B, B = (vw rkey rs).take most.toNat := ⟨_, rfl⟩
  have hBl := rec_len B
  have hBn : B.length = min most.toNat (vw rkey rs).length := by rw [hB, List.length_take]
  refine walk ?_
  have hmn : (min (max most 0) ((vw rkey rs).length : Int)).toNat = B.length := by omega
  refine wl_y (yl_sliceH (vs := (vw rkey rs).flatMap recCells) (k := 4) rfl rfl (by decide) (by omega) (by omega)) rfl ?_
  rw [hmn]
  refine WL.ent (Γ' := Sl (slSub r 4 0 B.length) 4 (B.flatMap recCells) :: F) (Ent.imp fun h hr => ?_) ?_
  · have := Sl.sub (lo := 0) (hi := B.length) (by decide) hr (Nat.zero_le _) (by omega)
    rw [Nat.sub_zero, Nat.zero_mul, List.drop_zero, recs_take, show (vw rkey rs).take B.length = B by rw [hBn, ← List.take_eq_take_min, ← hB]] at this
    exact this
  obtain ⟨rv, hrv⟩ : ∃ rv, rv = slSub r 4 0 B.length := ⟨_, rfl⟩
  rw [← hrv, ← hB]
  refine walk ?_
  refine wif_dec (fun hz => ?_) (fun hz => ?_)
  · obtain rfl : B = [] := List.length_eq_zero_iff.1 (by omega)
    refine walk ?_
    exact wq_ret2 rfl rfl rfl (.slice none 0 0) rfl trivial (Ent.trans (Ent.drop Ent.refl) (sl_nil 4))
  · have hlt : B.length - 1 < B.length := by omega
    have hs : seqOf B = B[B.length - 1].1.seq := by
      unfold seqOf
      rw [List.getLast?_eq_getElem?, List.getElem?_eq_getElem hlt]; rfl
    rw [hs]
    refine walk ?_
    (refine draw ?_; refine dy 0 ?_; refine dy 1 ?_; refine dy 2 ?_; refine dy 3 ?_; refine dy 4 ?_)
    rw [show (B.length : Int) - 1 = ((B.length - 1 : Nat) : Int) by omega]
    (refine dy 5 ?_; refine dy 6 ?_)
    refine dy 7 (y := by exact yl_loadx (k' := 4) rfl (flat_cell B (B.length - 1) 0 hlt (by decide))) ?_
    (refine dy 8 ?_; refine dy 9 ?_; refine walk ?_)
    exact wq_ret2 rfl rfl rfl rv rfl trivial perm
end Go.Proofs.YtohienhoifgmaaaGreat
end

section
/- A log, as the program has it: a stripe's chunks; a new log. -/
namespace Go.Proofs.YtohienhoifgmaaaGreat
open Go Go.Sl
attribute [local irreducible] Yl WL WC WQ WD
theorem note_enc_spec' (x : Note) (block : Int) (h0 : 0 ≤ block) (sv : Value) (hx : x.Fits) (hn : x.slots.length ≤ 1024) (hb : block ≤ 4096) :
    Spec0 Tryz.prog 133 [.agg #[.int .u64 x.seq, vi x.next, sv], vi block] (Rd sv 2 (x.slots.flatMap entCells)) (fun F => F) (fun _ : Value => True) (fun r => r) (fun r F => SlB r (x.enc block.toNat) :: F) := by
  have := note_enc_spec x block.toNat sv hx hn (by omega)
  rwa [Int.toNat_of_nonneg h0] at this
theorem copy_block (m : Nat) (d : Bytes) : (d.map vb).take ((List.replicate m (0 : UInt8)).map vb).length ++ ((List.replicate m (0 : UInt8)).map vb).drop (d.map vb).length = (padTo m (d.take m)).map vb := by
  unfold padTo
  rw [List.map_append, ← List.map_take, List.length_map, List.length_replicate, List.length_map]
  congr 1
  rw [← List.map_drop, List.drop_replicate]
  congr 2
  rw [List.length_take]; omega
theorem block_nil (m : Nat) : padTo m (([] : Bytes).take m) = List.replicate m 0 := by unfold padTo; simp
set_option maxHeartbeats 4000000 in
theorem lchunks_spec (K : GK) (seg idx : Int) (hok : K.k.sh.Ok) (x : Note) (sv v : Value) (rs : List (Rec × Value)) (hx : x.Fits) (hn : x.slots.length ≤ 1024) (_hr : rs.length ≤ 1048576) (hd : ∀ e ∈ rs, e.1.data.length ≤ 1099511627776) :
    Spec0 Tryz.prog 84 [vp K.lp, .agg #[.int .u64 x.seq, vi x.next, sv], v] (fun h => Rd sv 2 (x.slots.flatMap entCells) h ∧ Rd v 4 (rs.flatMap recCells) h ∧ ∀ e ∈ rs, Rd e.2 1 (e.1.data.map vb) h) (fun F => LCells K seg idx :: F)
      (fun y : Value × List Row => y.2.map (·.2) = Lg.chunksB K.k.sh x (rs.map (·.1))) (fun y => y.1) (fun y F => Sl y.1 1 (y.2.map (·.1)) :: Pool y.2 :: LCells K seg idx :: F) := by
  (refine spec_of Tryz.func84 rfl Tryz.ntmps84 rfl (fun F w0 hrd => ?_))
  haveI : RdIn F sv 2 (x.slots.flatMap entCells) := ⟨fun h hs => (hrd h hs).1⟩
  haveI : RdIn F v 4 (rs.flatMap recCells) := ⟨fun h hs => (hrd h hs).2.1⟩
  have hrow : ∀ e ∈ rs, RdIn F e.2 1 (e.1.data.map vb) := fun e he => ⟨fun h hs => (hrd h hs).2.2 e he⟩
  have hl := rec_len rs
  have hbk := hok.block
  have hsl := (bounds hok).slots
  obtain ⟨n, hnn⟩ : ∃ n : Nat, K.k.sh.slots = n := ⟨K.k.sh.slots.toNat, by omega⟩
  obtain ⟨B, hB⟩ : ∃ B : Nat, B = K.k.sh.block.toNat := ⟨_, rfl⟩
  have hBi : (B : Int) = K.k.sh.block := by omega
  refine walk ?_
  intro b
  refine walk ?_
  (refine draw ?_; refine dy 0 ?_; refine dy 1 ?_; refine dy 2 ?_; refine dy 3 ?_; refine dy 4 ?_; refine dy 5 ?_; refine ddo 6 ?_)
  refine call (note_enc_spec' x K.k.sh.block (by omega) sv hx hn (by omega)) ?_
  intro v0 _
  (refine walk ?_; refine ddo 7 ?_)
  refine walk ?_
  intro s1 _ _
  (refine walk ?_; refine dy 8 ?_; refine walk ?_)
  refine walk ?_
  refine call (slots_spec K.k.sh hok) ?_
  intro _ _
  rw [hnn]
  refine walk ?_
  refine wc_loop (X := Nat × Value × List Row) (fun y => [(0, vp K.lp), (2, v), (7, y.2.1), (22, vi n), (23, vi y.1)])
    (fun y => Sl y.2.1 1 (y.2.2.map (·.1)) :: Pool y.2.2 :: LCells K seg idx :: F)
    (fun y => y.1 ≤ n ∧ y.2.2.map (·.2) = x.enc B :: (List.range y.1).map fun i => Lg.blockB K.k.sh (((rs.map (·.1))[i]?).elim [] (·.data))) (fun y => n - y.1) (0, s1, [(v0, x.enc B)]) ⟨by omega, rfl⟩ envs ?_ (fun y hy => ?_)
  · dsimp only
    refine Ent.trans (Γ' := SlB v0 (x.enc B) :: Sl s1 1 [v0] :: LCells K seg idx :: F) (by rw [hB]; exact perm) ?_
    refine Ent.trans (Ent.skip Pool.nil) (Ent.trans (Pool.put (rows := [])) perm)
  obtain ⟨k, ov, rows⟩ := y
  dsimp only at hy ⊢
  obtain ⟨hk, hro⟩ := hy
  have hrl : rows.length = k + 1 := by simpa using congrArg List.length hro
  have hrl2 : (rows.map (·.1)).length = k + 1 := by simpa using hrl
  refine walk ?_
  refine wif_dec (fun hlt => ?_) (fun hlt => ?_)
  · have hlt : k < n := by omega
    obtain ⟨D, hD⟩ : ∃ D : Bytes, D = ((rs.map (·.1))[k]?).elim [] (·.data) := ⟨_, rfl⟩
    refine walk ?_
    intro v3 _ _
    refine walk ?_
    refine wif_dec (fun hlr => ?_) (fun hlr => ?_)
    · have hlr : k < rs.length := by omega
      have hri := hrow _ (List.getElem_mem hlr)
      have hDe : D = rs[k].1.data := by rw [hD, List.getElem?_map, List.getElem?_eq_getElem hlr]; rfl
      have hdl := hd _ (List.getElem_mem hlr)
      rw [← hDe] at hri hdl
      refine walk ?_
      refine wl_y (yl_loadx (k' := 4) rfl (show (rs.flatMap recCells)[k * 4 + 3]? = some rs[k].2 from flat_cell rs k 3 hlr (by decide))) rfl ?_
      refine walk ?_
      rw [copy_block, show padTo K.k.sh.block.toNat (D.take K.k.sh.block.toNat) = Lg.blockB K.k.sh D from rfl]
      intro v4 _ _
      refine walk ?_
      intro ov' _ _
      refine walk ?_
      refine wq_round (k + 1, ov', rows ++ [(v3, Lg.blockB K.k.sh D)]) ⟨by dsimp only; omega, ?_⟩ (by dsimp only; omega) envs ?_
      · dsimp only
        rw [List.map_append, hro, List.range_succ, List.map_append, List.cons_append]
        rw [hD]; rfl
      · dsimp only
        rw [List.map_append]
        refine Ent.trans (Γ' := SlB v3 (Lg.blockB K.k.sh D) :: Pool rows :: Sl ov' 1 (rows.map (·.1) ++ [v3]) :: LCells K seg idx :: F) perm (Ent.trans Pool.put (Ent.trans (Pool.sub (rows' := rows ++ [(v3, Lg.blockB K.k.sh D)]) (fun q hq => ?_)) perm))
        rcases List.mem_append.1 hq with hq | hq
        · exact List.mem_cons_of_mem _ hq
        · rw [List.mem_singleton.1 hq]; exact List.mem_cons_self
    · have hDe : D = [] := by rw [hD, List.getElem?_eq_none (by simp; omega)]; rfl
      have hbb : Lg.blockB K.k.sh D = List.replicate K.k.sh.block.toNat 0 := by unfold Lg.blockB; rw [hDe, block_nil]
      rw [← hbb]
      refine walk ?_
      intro v4 _ _
      refine walk ?_
      intro ov' _ _
      refine walk ?_
      refine wq_round (k + 1, ov', rows ++ [(v3, Lg.blockB K.k.sh D)]) ⟨by dsimp only; omega, ?_⟩ (by dsimp only; omega) envs ?_
      · dsimp only
        rw [List.map_append, hro, List.range_succ, List.map_append, List.cons_append]
        rw [hD]; rfl
      · dsimp only
        rw [List.map_append]
        refine Ent.trans (Γ' := SlB v3 (Lg.blockB K.k.sh D) :: Pool rows :: Sl ov' 1 (rows.map (·.1) ++ [v3]) :: LCells K seg idx :: F) perm (Ent.trans Pool.put (Ent.trans (Pool.sub (rows' := rows ++ [(v3, Lg.blockB K.k.sh D)]) (fun q hq => ?_)) perm))
        rcases List.mem_append.1 hq with hq | hq
        · exact List.mem_cons_of_mem _ hq
        · rw [List.mem_singleton.1 hq]; exact List.mem_cons_self
  · obtain rfl : k = n := by omega
    refine walk ?_
    refine wq_ret1 rfl rfl (ov, rows) rfl ?_ perm
    show rows.map (·.2) = _
    rw [hro]
    unfold Lg.chunksB
    rw [hnn, hB]; rfl
set_option maxHeartbeats 2000000 in
theorem lnew_spec (k : Keys) (hok : k.sh.Ok) (s : Nvm) (hs : s.root.shape = k.sh) :
    Spec0 Tryz.prog 48 [vp k.a, vp k.n] (fun _ => True) (fun F => NvAt k.n k.pp s :: F) (fun _ : GK => True) (fun K => vp K.lp)
      (fun K F => Cells K.lp [vi k.sh.members, vi k.sh.block, vi k.sh.segments, vi k.sh.stripes, vi k.sh.nv, vi k.sh.logical, vp k.a, vp k.n, vp K.mp, vp K.tp, vi 0, vi 0] :: MapAt K.mp (List.replicate k.sh.logical.toNat (-1)) :: TblAt K.tp (Tbl.open_ (List.replicate k.sh.segments.toNat Seg.zero) 0) :: NvAt k.n k.pp s :: F) := by
  (refine spec_of Tryz.func48 rfl Tryz.ntmps48 rfl (fun F w0 hrd => ?_))
  have hlo := hok.logical
  have hlb := (bounds hok).logical
  have hsg := hok.segments
  refine walk ?_
  refine call (nroot_spec k.n k.pp s) ?_
  intro _ _
  rw [show Root.val s.root = .agg #[vi k.sh.members, vi k.sh.block, vi k.sh.segments, vi k.sh.stripes, vi k.sh.nv, vi k.sh.logical, .int .u64 s.root.gen, .int .u64 s.root.durable, vi s.root.stale] by unfold Root.val; rw [hs]]
  refine walk ?_
  intro c5
  refine walk ?_
  (refine draw ?_; refine dy 0 ?_; refine dy 1 ?_; refine dy 2 ?_; refine dy 3 ?_; refine dy 4 ?_; refine dy 6 ?_; refine dy 7 ?_; refine ddo 5 ?_)
  have h1 := mnew_spec k.sh.logical.toNat (by omega)
  rw [Int.toNat_of_nonneg (by omega)] at h1
  refine call (h1) ?_
  intro mp _
  (refine walk ?_; refine ddo 8 ?_)
  have h2 := tnew_spec k.sh.segments.toNat (by omega)
  rw [Int.toNat_of_nonneg (by omega)] at h2
  refine call (h2) ?_
  intro tp _
  (refine walk ?_; refine dy 9 ?_; refine ddo 10 ?_)
  refine walk ?_
  intro lp
  (refine walk ?_; refine dy 11 ?_; refine walk ?_)
  refine walk ?_
  refine call (topen_spec tp (List.replicate k.sh.segments.toNat Seg.zero) 0 (by simp; omega)) ?_
  intro _ _
  refine walk ?_
  exact wq_ret1 rfl rfl ⟨lp, k, mp, tp⟩ rfl trivial perm
end Go.Proofs.YtohienhoifgmaaaGreat
end
