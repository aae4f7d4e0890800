/- A log, as the program has it: the first records go into a stripe. -/
import Derived.Test.YtohienhoifgmaaaGreatP30
import Derived.Test.YtohienhoifgmaaaGreatP41
import Derived.Test.YtohienhoifgmaaaGreatP18
import Derived.Test.YtohienhoifgmaaaGreatP16
import Derived.Test.YtohienhoifgmaaaGreatP32

namespace Go.Proofs.YtohienhoifgmaaaGreat
open Go Go.Sl
attribute [local irreducible] Yl WL WC WQ WD
instance : Fld1 Tryz.prog 43 2 7 := ⟨fun cs v w h => by simp [Instr.field, Tryz.runUnderlying43, part, asAgg, Tryz.isAgg35, h]⟩
theorem small_of {K : GK} {g : Lg} (hi : g.Inv) (hsh : g.sh = K.k.sh) : Lsm K g := by
  have h1 := hi.seg
  have h2 := hi.idx
  have h3 := hi.tlen
  have h4 := hi.len
  have h5 := (bounds hi.shok).logical
  have h6 := hi.shok.segments
  have h7 := hi.shok.stripes
  exact ⟨hsh, by rw [← hsh]; exact hi.shok, by omega, by omega, by omega, by omega, hi.big⟩
theorem ent_set {t : List Entry} {n : Nat} (h : n < t.length) (s : Entry) : (t.flatMap entCells).take (n * 2) ++ entCells s ++ (t.flatMap entCells).drop (n * 2 + 2) = (t.set n s).flatMap entCells := by
  induction t generalizing n with
  | nil => simp at h
  | cons a t ih =>
    cases n with
    | zero => rfl
    | succ n =>
      rw [List.set_cons_succ]
      show _ = entCells a ++ (t.set n s).flatMap entCells
      rw [← ih (by simpa using h), List.flatMap_cons, show (n + 1) * 2 = n * 2 + 2 by omega]
      rfl
theorem recsIn {v : Value} {rs : List (Rec × Value)} {rows : List Row} {Γ : List HP} (hm : ∀ e ∈ rs, (e.2, e.1.data) ∈ rows) : ReadIn (Sl v 4 (rs.flatMap recCells) :: Pool rows :: Γ) (fun h => Rd v 4 (rs.flatMap recCells) h ∧ ∀ e ∈ rs, Rd e.2 1 (e.1.data.map vb) h) := ⟨fun h hs => ⟨(inferInstance : RdIn (Sl v 4 (rs.flatMap recCells) :: Pool rows :: Γ) v 4 (rs.flatMap recCells)).rd h hs, fun e he => (Pool.rdIn' (hm e he) : RdIn (Pool rows :: Γ) _ _ _).rd h hs.tail⟩⟩
theorem batch_of {rs : List (Rec × Value)} {g : Lg} (h : rs.map (·.1) = g.rig.nv.recs) : ((vw rkey rs).take g.sh.slots.toNat).map (·.1) = g.batch := by
  unfold Lg.batch
  rw [List.map_take, ← h, ← vw_map (fun r : Rec => r.lba) (fun e : Rec × Value => e.1)]
theorem seq_of {B : List (Rec × Value)} {l : List Rec} (h : B.map (·.1) = l) {e : Rec} (he : l.getLast? = some e) : seqOf B = e.seq := by
  unfold seqOf
  rw [← h, List.getLast?_map] at he
  cases hb : B.getLast? with
  | none => rw [hb] at he; cases he
  | some x => rw [hb] at he; cases he; rfl
set_option maxHeartbeats 8000000 in
theorem ldestage_spec (K : GK) (hk : K.k.Ok) (g : Lg) (hi : g.Inv) (hf : Fits g.sh g.rig) (hsh : g.sh = K.k.sh) (hn : g.rig.nv.recs.length ≤ 1048576) :
    SpecG Tryz.prog outage 34 [vp K.lp] (fun _ => True) (LogAt K) g.dst g (fun (_ : Unit) _ => True) (fun _ e => vi e) (fun _ _ F => F) := by
  (refine spec_of Tryz.func34 rfl Tryz.ntmps34 rfl (fun F w0 hrd => ?_))
  have h := small_of hi hsh
  have hok := h.ok
  have hsl := (bounds hok).slots
  have hdl : ∀ r ∈ g.rig.nv.recs, r.data.length ≤ 1099511627776 := fun r hr => by
    have h1 := (hi.recs r hr).data
    have h2 := hi.shok.block
    omega
  obtain ⟨d, hd⟩ : ∃ d, g.dst = d := ⟨_, rfl⟩
  rw [hd]
  unfold Lg.dst at hd
  obtain ⟨hnf, hnl⟩ := hi.note
  obtain ⟨n, hnn⟩ : ∃ n : Nat, K.k.sh.slots = n := ⟨K.k.sh.slots.toNat, by omega⟩
  refine walk ?_
  (refine draw ?_; refine dy 0 ?_; refine dy 1 ?_; refine dy 2 ?_; refine dy 3 ?_; refine dy 5 ?_; refine dy 6 ?_; refine dy 7 ?_; refine dy 8 ?_; refine ddx 4 ?_)
  refine call (nrecords_spec K.k.n K.k.pp g.rig.nv hn hdl) ?_
  intro y hy
  obtain ⟨rv, rs, rows⟩ := y
  dsimp only at hy ⊢
  obtain ⟨hrs, hmem⟩ := hy
  have hrl : rs.length ≤ 1048576 := by rw [← List.length_map (f := (·.1)), hrs]; exact hn
  haveI : ∀ Γ, ReadIn (Sl rv 4 (rs.flatMap recCells) :: Pool rows :: Γ) (fun h => Rd rv 4 (rs.flatMap recCells) h ∧ ∀ e ∈ rs, Rd e.2 1 (e.1.data.map vb) h) := fun Γ => recsIn hmem
  (refine walk ?_; refine ddx 9 ?_)
  refine call (slots_spec K.k.sh hok) ?_
  intro _ _
  (refine walk ?_; refine ddx 10 ?_)
  refine call (sbatch_spec rv rs K.k.sh.slots hrl) ?_
  intro bv _
  have hBb : ((vw rkey rs).take K.k.sh.slots.toNat).map (·.1) = g.batch := by rw [← hsh]; exact batch_of hrs
  have hBm : ∀ e ∈ (vw rkey rs).take K.k.sh.slots.toNat, (e.2, e.1.data) ∈ rows := fun e he => hmem e (vw_mem (List.mem_of_mem_take he))
  have hBl : ((vw rkey rs).take K.k.sh.slots.toNat).length ≤ n := by rw [List.length_take]; omega
  generalize (vw rkey rs).take K.k.sh.slots.toNat = B at hBb hBm hBl ⊢
  have hB4 := rec_len B
  (refine walk ?_; refine dy 11 ?_; refine dy 12 ?_; refine dy 13 ?_; refine dy 14 ?_; refine dy 15 ?_; refine walk ?_)
  refine wif_dec (fun hz => ?_) (fun hz => ?_)
  · obtain rfl : B = [] := List.length_eq_zero_iff.1 (by omega)
    rw [← hBb] at hd
    (try dsimp only [List.map_nil, List.getLast?_nil] at hd)
    refine walk ?_
    exact wq_ret1 rfl rfl ((), 0, g) rfl ⟨hd.symm, trivial⟩ perm
  · have hBne : g.batch ≠ [] := by rw [← hBb]; intro h0; exact hz (by have := congrArg List.length h0; simp at this; simp [this])
    obtain ⟨e, he⟩ : ∃ e, g.batch.getLast? = some e := ⟨_, List.getLast?_eq_some_getLast hBne⟩
    have hse := seq_of hBb he
    rw [hse]
    rw [he] at hd
    (try dsimp only at hd)
    refine walk ?_
    have hz0 : (List.replicate n (⟨0, 0⟩ : Entry)).flatMap entCells = (List.replicate (Int.toNat (n : Int)) (Array.toList (Value.cells (Value.agg #[Value.int IntKind.i64 0, Value.int IntKind.i64 0])))).flatten := by
      rw [List.flatMap_def, List.map_replicate]; rfl
    obtain ⟨W, hW⟩ : ∃ W, W = IntKind.u64.wrap (g.rig.nv.root.durable + 1) := ⟨_, rfl⟩
    refine wc_join (X := Nat × Value) (fun y => [(0, vp K.lp), (3, bv), (4, .int .u64 e.seq), (5, vp y.1)]) (fun y => Cells y.1 [.int .u64 W, vi (-1), y.2] :: Sl y.2 2 ((List.replicate n (⟨0, 0⟩ : Entry)).flatMap entCells) :: Sl bv 4 (B.flatMap recCells) :: Pool rows :: LogAt K g F) (fun _ => True) ?_ (fun y _ => ?_)
    · (refine draw ?_; refine dy 0 ?_; refine dy 1 ?_; refine dy 2 ?_; refine dy 3 ?_; refine dy 7 ?_; refine dy 8 ?_; refine dy 9 ?_; refine dy 10 ?_)
      refine fork2 4 14 ?_ ?_
      · skip
        refine call (nroot_spec K.k.n K.k.pp g.rig.nv) ?_
        intro _ _
        (refine walk ?_; refine dy 5 ?_; refine dy 6 ?_)
        rw [← hW]
        refine fork2 11 14 ?_ ?_
        · skip
          refine call (slots_spec K.k.sh hok) ?_
          intro _ _
          rw [hnn]
          (refine walk ?_)
          refine fork2 12 14 ?_ ?_
          · skip
            refine walk ?_
            intro sv _ _
            (refine walk ?_; refine dy 13 ?_)
            (refine ddx 14 ?_)
            refine walk ?_
            intro c5
            (refine walk ?_; refine ddx 15 ?_; refine walk ?_)
            refine wq_meet _ _ _ (c5, sv) trivial envs ?_
            dsimp only
            rw [hz0]
            exact permL
          · skip
            refine walk ?_
            intro c5
            (refine walk ?_)
            (refine ddx 12 ?_)
            refine walk ?_
            intro sv _ _
            (refine walk ?_; refine dy 13 ?_)
            (refine ddx 15 ?_; refine walk ?_)
            refine wq_meet _ _ _ (c5, sv) trivial envs ?_
            dsimp only
            rw [hz0]
            exact permL
        · skip
          refine walk ?_
          intro c5
          (refine walk ?_)
          (refine ddx 11 ?_)
          refine call (slots_spec K.k.sh hok) ?_
          intro _ _
          rw [hnn]
          (refine walk ?_)
          (refine ddx 12 ?_)
          refine walk ?_
          intro sv _ _
          (refine walk ?_; refine dy 13 ?_)
          (refine ddx 15 ?_; refine walk ?_)
          refine wq_meet _ _ _ (c5, sv) trivial envs ?_
          dsimp only
          rw [hz0]
          exact permL
      · skip
        refine walk ?_
        intro c5
        (refine walk ?_)
        (refine ddx 4 ?_)
        refine call (nroot_spec K.k.n K.k.pp g.rig.nv) ?_
        intro _ _
        (refine walk ?_; refine dy 5 ?_; refine dy 6 ?_)
        rw [← hW]
        (refine ddx 11 ?_)
        refine call (slots_spec K.k.sh hok) ?_
        intro _ _
        rw [hnn]
        (refine walk ?_)
        (refine ddx 12 ?_)
        refine walk ?_
        intro sv _ _
        (refine walk ?_; refine dy 13 ?_)
        (refine ddx 15 ?_; refine walk ?_)
        refine wq_meet _ _ _ (c5, sv) trivial envs ?_
        dsimp only
        rw [hz0]
        exact permL
    · obtain ⟨c5, sv⟩ := y
      dsimp only
      refine walk ?_
      refine call (llast_spec K g h) ?_
      intro _ _
      obtain ⟨x, hx⟩ : ∃ x, x = g.noteOf g.batch := ⟨_, rfl⟩
      rw [← hx] at hnf hnl hd
      have hw64 := wrap64_range (g.rig.nv.root.durable + 1)
      have hxq : (x.seq : Int) = W := by rw [hx, hW]; unfold Lg.noteOf; dsimp only; omega
      have hBg : B.length = g.batch.length := by rw [← hBb, List.length_map]
      have hxs : x.slots = B.map (fun e => Lg.entry e.1) ++ List.replicate (n - B.length) ⟨0, 0⟩ := by
        rw [hx]; unfold Lg.noteOf; dsimp only
        rw [← hBb, List.map_map, hsh, hnn, List.length_map]; rfl
      have hstr := hi.stripe
      have hstr2 : g.stripe ≤ 1048576 := by
        have h1 := (bounds hok).all
        have h2 := hstr.2
        rw [hsh] at h2
        unfold Shp.all at h2; omega
      cases hl : g.last with
      | false =>
        have hnx : x.next = -1 := by rw [hx]; unfold Lg.noteOf; dsimp only; rw [hl]; rfl
        rw [if_neg (by rw [hl]; simp)] at hd
        refine walk ?_
        refine WC.ent (Γ' := Sl sv 2 ((List.replicate n (⟨0, 0⟩ : Entry)).flatMap entCells) :: Cells c5 [.int .u64 (x.seq : Int), vi x.next, sv] :: Sl bv 4 (B.flatMap recCells) :: Pool rows :: LogAt K g F) (by rw [hxq, hnx]; exact permL) ?_
        refine walk ?_
        refine wc_loop (X := Nat × List Entry) (fun y => [(0, vp K.lp), (3, bv), (4, .int .u64 e.seq), (5, vp c5), (51, bv), (52, vi B.length), (53, vi y.1)]) (fun y => Sl sv 2 (y.2.flatMap entCells) :: Cells c5 [.int .u64 (x.seq : Int), vi x.next, sv] :: Sl bv 4 (B.flatMap recCells) :: Pool rows :: LogAt K g F)
          (fun y => y.1 ≤ B.length ∧ y.2.length = n ∧ y.2 = (B.take y.1).map (fun e => Lg.entry e.1) ++ List.replicate (n - y.1) ⟨0, 0⟩) (fun y => B.length - y.1) (0, List.replicate n ⟨0, 0⟩) ⟨Nat.zero_le _, List.length_replicate, rfl⟩ envs permL (fun y hy => ?_)
        obtain ⟨i, E⟩ := y
        dsimp only at hy ⊢
        obtain ⟨hib, hEl, hE⟩ := hy
        have hE2 := ent_len E
        refine walk ?_
        refine wif_dec (fun hlt => ?_) (fun hlt => ?_)
        · have hlt : i < B.length := by omega
          haveI : ∀ Γ : List HP, RdIn (Pool rows :: Γ) B[i].2 1 (B[i].1.data.map vb) := fun Γ => Pool.rdIn' (hBm _ (List.getElem_mem hlt))
          have htk : B.take (i + 1) = B.take i ++ [B[i]] := by rw [List.take_add_one, List.getElem?_eq_getElem hlt]; rfl
          have hset : (B.take (i + 1)).map (fun e => Lg.entry e.1) ++ List.replicate (n - (i + 1)) ⟨0, 0⟩ = E.set i (Lg.entry B[i].1) := by
            have h1 : ((B.take i).map fun e => Lg.entry e.1).length = i := by rw [List.length_map, List.length_take]; omega
            rw [hE, htk, List.set_append_right _ _ (by omega), h1, Nat.sub_self, show n - i = (n - (i + 1)) + 1 by omega, List.replicate_succ, List.set_cons_zero, List.map_append, List.append_assoc]; rfl
          refine walk ?_
          intro c7
          generalize B[i] = eb at this hset ⊢
          obtain ⟨rb, ub⟩ := eb
          obtain ⟨Y, hY⟩ : ∃ Y, Y = B.flatMap recCells := ⟨_, rfl⟩
          rw [← hY]
          dsimp only [recCells] at this hset ⊢
          refine walk ?_
          refine wl_storesSl (us := entCells (Lg.entry rb)) (m' := 2) rfl rfl rfl (by decide) ?_ ?_
          · omega
          rw [show (entCells (Lg.entry rb)).length = 2 from rfl, ent_set (by omega), hY]
          refine walk ?_
          refine wq_round (i + 1, E.set i (Lg.entry rb)) ⟨by dsimp only; omega, by dsimp only; rw [List.length_set]; exact hEl, hset.symm⟩ (by dsimp only; omega) envs permL
        · obtain rfl : i = B.length := by omega
          rw [List.take_length, ← hxs] at hE
          subst hE
          haveI hrB : ∀ Γ : List HP, ReadIn (Pool rows :: Γ) (fun h => ∀ e ∈ B, Rd e.2 1 (e.1.data.map vb) h) := fun Γ => ⟨fun h hs e he => (Pool.rdIn' (hBm e he) : RdIn (Pool rows :: Γ) _ _ _).rd h hs⟩
          have hdB : ∀ e ∈ B, e.1.data.length ≤ 1099511627776 := fun e he => hdl _ (Lg.batch_sub (by rw [← hBb]; exact List.mem_map.2 ⟨e, he, rfl⟩))
          refine walk ?_
          (refine draw ?_; refine dy 0 ?_; refine dy 1 ?_; refine dy 2 ?_; refine dy 3 ?_; refine dy 4 ?_; refine dy 6 ?_; refine dy 7 ?_; refine dy 8 ?_; refine ddx 5 ?_)
          refine call (lstripe_spec K g h) ?_
          intro _ _
          (refine walk ?_; refine ddx 9 ?_)
          refine call (lchunks_spec K g.seg g.idx hok x sv bv B hnf (by omega) (by omega) hdB) ?_ (hr := fun h hs => ⟨RdIn.rd h hs, RdIn.rd h hs, ReadIn.rd (rd := fun h => ∀ e ∈ B, Rd e.2 1 (e.1.data.map vb) h) h hs⟩) (hg := by exact frameL)
          intro y hy
          obtain ⟨cv, crows⟩ := y
          dsimp only at hy ⊢
          (refine walk ?_; refine ddx 10 ?_)
          haveI : ∀ Γ : List HP, ReadIn (Pool crows :: Γ) (fun h => ∀ r ∈ crows, Rd r.1 1 (r.2.map vb) h) := fun Γ => ⟨fun h hs r hr => (Pool.rdIn' hr : RdIn (Pool crows :: Γ) _ _ _).rd h hs⟩
          have hch := hi.chunks
          rw [← hx, hsh, ← hBb, ← hy] at hch
          have hcl : crows.length ≤ 1048576 := by
            have h1 := hch.many
            have h2 := hok.members
            rw [List.length_map] at h1; omega
          have hcb : ∀ q ∈ crows, q.2.length ≤ 1099511627776 := fun q hq => by
            have h1 := hch.each _ (List.mem_map.2 ⟨q, hq, rfl⟩)
            have h2 := hok.block
            omega
          have hsat := aput_sat hok (by rw [← hsh]; exact hf) (t := g.stripe) (by rw [← hsh]; exact hstr) hch
          rw [hsh, ← hBb, ← hy] at hd
          refine gcall (aput_spec K.k hk g.rig g.stripe cv crows hcl hcb) (fun s' hg => ⟨g.up s', ?_, ?_⟩) (fun _ c r1 h1 _ => ?_) (hr := fun h hs => ⟨RdIn.rd h hs, ReadIn.rd (rd := fun h => ∀ r ∈ crows, Rd r.1 1 (r.2.map vb) h) h hs⟩) (hg := frameL)
          · rw [hg] at hd; exact hd.symm
          · show Ent _ (LCells K g.seg g.idx :: MapAt K.mp g.map :: TblAt K.tp g.tbl :: RigAt K.k s' F)
            exact permL
          rw [h1] at hd hsat
          have hnv := hsat.1.toTr0.nv
          have hd : (if c ≠ 0 then Out.ok c (g.up r1) else ((ncommit (IntKind.u64.wrap (g.rig.nv.root.durable + 1)) e.seq r1).lift g.up).bind fun _ g2 => .ok 0 (g2.apply x)) = d := hd
          rw [← hW, ← hxq] at hd
          (refine walk ?_; refine dy 11 ?_; refine walk ?_)
          refine wif_dec (fun hc => ?_) (fun hc => ?_)
          · rw [if_pos hc] at hd
            refine walk ?_
            refine wq_ret1 rfl rfl ((), c, g.up r1) rfl ⟨hd.symm, trivial⟩ ?_
            show Ent _ (LCells K g.seg g.idx :: MapAt K.mp g.map :: TblAt K.tp g.tbl :: RigAt K.k r1 F)
            exact permL
          · rw [if_neg hc] at hd
            have hn1 : r1.nv.recs.length ≤ 1048576 := by rw [hnv]; exact hn
            refine walk ?_
            (refine draw ?_; refine dy 0 ?_; refine dy 1 ?_; refine dy 2 ?_; refine dy 3 ?_; refine dy 4 ?_; refine dy 5 ?_; refine dy 6 ?_; refine ddx 7 ?_)
            refine gcall (rcommit_spec K.k r1 x.seq e.seq hn1) (fun s' hg => ⟨g.up s', ?_, ?_⟩) (fun _ _ r2 h2 _ => ?_) (hg := frameL)
            · rw [hg] at hd; exact hd.symm
            · show Ent _ (LCells K g.seg g.idx :: MapAt K.mp g.map :: TblAt K.tp g.tbl :: RigAt K.k s' F)
              exact permL
            rw [h2] at hd
            have hd : Out.ok 0 ((g.up r2).apply x) = d := hd
            have hsh2 : (g.up r2).sh = K.k.sh := by
              rw [← hsh]
              show r2.nv.root.shape = g.rig.nv.root.shape
              unfold ncommit at h2
              split at h2
              · cases h2
              · cases h2
                dsimp only
                rw [hnv]
            have hst2 : (g.up r2).stripe = g.stripe := by unfold Lg.stripe; rw [hsh2, hsh]; rfl
            have hap := lapply_spec K (g.up r2) ⟨hsh2, h.ok, h.seg, h.idx, h.tbl, h.map, h.big⟩ (by rw [hst2]; exact ⟨hstr.1, hstr2⟩) x sv (by omega) hnf.seq
            change Spec0 Tryz.prog 86 [vp K.lp, .agg #[.int .u64 x.seq, vi x.next, sv]] (Rd sv 2 (x.slots.flatMap entCells)) (fun F => LCells K g.seg g.idx :: MapAt K.mp g.map :: TblAt K.tp g.tbl :: F) (fun _ : Unit => True) (fun _ => .tuple #[]) (fun _ F => LogB K ((g.up r2).apply x) F) at hap
            refine walk ?_
            refine call hap ?_ (hg := frameL)
            intro _ _
            refine walk ?_
            refine wq_ret1 rfl rfl ((), 0, (g.up r2).apply x) rfl ⟨hd.symm, trivial⟩ ?_
            show Ent _ (LogB K ((g.up r2).apply x) (RigAt K.k ((g.up r2).apply x).rig F))
            rw [show ((g.up r2).apply x).rig = r2 from Lg.apply_rig _ _]
            exact permL
      | true =>
        refine walk ?_
        refine call (tfirst_spec K.tp g.tbl h.tbl) ?_
        intro _ _
        refine walk ?_
        refine wif_dec (fun hneg => ?_) (fun hneg => ?_)
        · rw [if_pos ⟨hl, hneg⟩] at hd
          refine walk ?_
          exact wq_ret1 rfl rfl ((), 2, g) rfl ⟨hd.symm, trivial⟩ permL
        · rw [if_neg (fun hz => hneg hz.2)] at hd
          have hnx : x.next = g.tbl.first := by rw [hx]; unfold Lg.noteOf; dsimp only; rw [hl]; rfl
          refine WC.ent (Γ' := Sl sv 2 ((List.replicate n (⟨0, 0⟩ : Entry)).flatMap entCells) :: Cells c5 [.int .u64 (x.seq : Int), vi x.next, sv] :: Sl bv 4 (B.flatMap recCells) :: Pool rows :: LogAt K g F) (by rw [hxq, hnx]; exact permL) ?_
          refine walk ?_
          refine wc_loop (X := Nat × List Entry) (fun y => [(0, vp K.lp), (3, bv), (4, .int .u64 e.seq), (5, vp c5), (51, bv), (52, vi B.length), (53, vi y.1)]) (fun y => Sl sv 2 (y.2.flatMap entCells) :: Cells c5 [.int .u64 (x.seq : Int), vi x.next, sv] :: Sl bv 4 (B.flatMap recCells) :: Pool rows :: LogAt K g F)
            (fun y => y.1 ≤ B.length ∧ y.2.length = n ∧ y.2 = (B.take y.1).map (fun e => Lg.entry e.1) ++ List.replicate (n - y.1) ⟨0, 0⟩) (fun y => B.length - y.1) (0, List.replicate n ⟨0, 0⟩) ⟨Nat.zero_le _, List.length_replicate, rfl⟩ envs permL (fun y hy => ?_)
          obtain ⟨i, E⟩ := y
          dsimp only at hy ⊢
          obtain ⟨hib, hEl, hE⟩ := hy
          have hE2 := ent_len E
          refine walk ?_
          refine wif_dec (fun hlt => ?_) (fun hlt => ?_)
          · have hlt : i < B.length := by omega
            haveI : ∀ Γ : List HP, RdIn (Pool rows :: Γ) B[i].2 1 (B[i].1.data.map vb) := fun Γ => Pool.rdIn' (hBm _ (List.getElem_mem hlt))
            have htk : B.take (i + 1) = B.take i ++ [B[i]] := by rw [List.take_add_one, List.getElem?_eq_getElem hlt]; rfl
            have hset : (B.take (i + 1)).map (fun e => Lg.entry e.1) ++ List.replicate (n - (i + 1)) ⟨0, 0⟩ = E.set i (Lg.entry B[i].1) := by
              have h1 : ((B.take i).map fun e => Lg.entry e.1).length = i := by rw [List.length_map, List.length_take]; omega
              rw [hE, htk, List.set_append_right _ _ (by omega), h1, Nat.sub_self, show n - i = (n - (i + 1)) + 1 by omega, List.replicate_succ, List.set_cons_zero, List.map_append, List.append_assoc]; rfl
            refine walk ?_
            intro c7
            generalize B[i] = eb at this hset ⊢
            obtain ⟨rb, ub⟩ := eb
            obtain ⟨Y, hY⟩ : ∃ Y, Y = B.flatMap recCells := ⟨_, rfl⟩
            rw [← hY]
            dsimp only [recCells] at this hset ⊢
            refine walk ?_
            refine wl_storesSl (us := entCells (Lg.entry rb)) (m' := 2) rfl rfl rfl (by decide) ?_ ?_
            · omega
            rw [show (entCells (Lg.entry rb)).length = 2 from rfl, ent_set (by omega), hY]
            refine walk ?_
            refine wq_round (i + 1, E.set i (Lg.entry rb)) ⟨by dsimp only; omega, by dsimp only; rw [List.length_set]; exact hEl, hset.symm⟩ (by dsimp only; omega) envs permL
          · obtain rfl : i = B.length := by omega
            rw [List.take_length, ← hxs] at hE
            subst hE
            haveI hrB : ∀ Γ : List HP, ReadIn (Pool rows :: Γ) (fun h => ∀ e ∈ B, Rd e.2 1 (e.1.data.map vb) h) := fun Γ => ⟨fun h hs e he => (Pool.rdIn' (hBm e he) : RdIn (Pool rows :: Γ) _ _ _).rd h hs⟩
            have hdB : ∀ e ∈ B, e.1.data.length ≤ 1099511627776 := fun e he => hdl _ (Lg.batch_sub (by rw [← hBb]; exact List.mem_map.2 ⟨e, he, rfl⟩))
            refine walk ?_
            (refine draw ?_; refine dy 0 ?_; refine dy 1 ?_; refine dy 2 ?_; refine dy 3 ?_; refine dy 4 ?_; refine dy 6 ?_; refine dy 7 ?_; refine dy 8 ?_; refine ddx 5 ?_)
            refine call (lstripe_spec K g h) ?_
            intro _ _
            (refine walk ?_; refine ddx 9 ?_)
            refine call (lchunks_spec K g.seg g.idx hok x sv bv B hnf (by omega) (by omega) hdB) ?_ (hr := fun h hs => ⟨RdIn.rd h hs, RdIn.rd h hs, ReadIn.rd (rd := fun h => ∀ e ∈ B, Rd e.2 1 (e.1.data.map vb) h) h hs⟩) (hg := by exact frameL)
            intro y hy
            obtain ⟨cv, crows⟩ := y
            dsimp only at hy ⊢
            (refine walk ?_; refine ddx 10 ?_)
            haveI : ∀ Γ : List HP, ReadIn (Pool crows :: Γ) (fun h => ∀ r ∈ crows, Rd r.1 1 (r.2.map vb) h) := fun Γ => ⟨fun h hs r hr => (Pool.rdIn' hr : RdIn (Pool crows :: Γ) _ _ _).rd h hs⟩
            have hch := hi.chunks
            rw [← hx, hsh, ← hBb, ← hy] at hch
            have hcl : crows.length ≤ 1048576 := by
              have h1 := hch.many
              have h2 := hok.members
              rw [List.length_map] at h1; omega
            have hcb : ∀ q ∈ crows, q.2.length ≤ 1099511627776 := fun q hq => by
              have h1 := hch.each _ (List.mem_map.2 ⟨q, hq, rfl⟩)
              have h2 := hok.block
              omega
            have hsat := aput_sat hok (by rw [← hsh]; exact hf) (t := g.stripe) (by rw [← hsh]; exact hstr) hch
            rw [hsh, ← hBb, ← hy] at hd
            refine gcall (aput_spec K.k hk g.rig g.stripe cv crows hcl hcb) (fun s' hg => ⟨g.up s', ?_, ?_⟩) (fun _ c r1 h1 _ => ?_) (hr := fun h hs => ⟨RdIn.rd h hs, ReadIn.rd (rd := fun h => ∀ r ∈ crows, Rd r.1 1 (r.2.map vb) h) h hs⟩) (hg := frameL)
            · rw [hg] at hd; exact hd.symm
            · show Ent _ (LCells K g.seg g.idx :: MapAt K.mp g.map :: TblAt K.tp g.tbl :: RigAt K.k s' F)
              exact permL
            rw [h1] at hd hsat
            have hnv := hsat.1.toTr0.nv
            have hd : (if c ≠ 0 then Out.ok c (g.up r1) else ((ncommit (IntKind.u64.wrap (g.rig.nv.root.durable + 1)) e.seq r1).lift g.up).bind fun _ g2 => .ok 0 (g2.apply x)) = d := hd
            rw [← hW, ← hxq] at hd
            (refine walk ?_; refine dy 11 ?_; refine walk ?_)
            refine wif_dec (fun hc => ?_) (fun hc => ?_)
            · rw [if_pos hc] at hd
              refine walk ?_
              refine wq_ret1 rfl rfl ((), c, g.up r1) rfl ⟨hd.symm, trivial⟩ ?_
              show Ent _ (LCells K g.seg g.idx :: MapAt K.mp g.map :: TblAt K.tp g.tbl :: RigAt K.k r1 F)
              exact permL
            · rw [if_neg hc] at hd
              have hn1 : r1.nv.recs.length ≤ 1048576 := by rw [hnv]; exact hn
              refine walk ?_
              (refine draw ?_; refine dy 0 ?_; refine dy 1 ?_; refine dy 2 ?_; refine dy 3 ?_; refine dy 4 ?_; refine dy 5 ?_; refine dy 6 ?_; refine ddx 7 ?_)
              refine gcall (rcommit_spec K.k r1 x.seq e.seq hn1) (fun s' hg => ⟨g.up s', ?_, ?_⟩) (fun _ _ r2 h2 _ => ?_) (hg := frameL)
              · rw [hg] at hd; exact hd.symm
              · show Ent _ (LCells K g.seg g.idx :: MapAt K.mp g.map :: TblAt K.tp g.tbl :: RigAt K.k s' F)
                exact permL
              rw [h2] at hd
              have hd : Out.ok 0 ((g.up r2).apply x) = d := hd
              have hsh2 : (g.up r2).sh = K.k.sh := by
                rw [← hsh]
                show r2.nv.root.shape = g.rig.nv.root.shape
                unfold ncommit at h2
                split at h2
                · cases h2
                · cases h2
                  dsimp only
                  rw [hnv]
              have hst2 : (g.up r2).stripe = g.stripe := by unfold Lg.stripe; rw [hsh2, hsh]; rfl
              have hap := lapply_spec K (g.up r2) ⟨hsh2, h.ok, h.seg, h.idx, h.tbl, h.map, h.big⟩ (by rw [hst2]; exact ⟨hstr.1, hstr2⟩) x sv (by omega) hnf.seq
              change Spec0 Tryz.prog 86 [vp K.lp, .agg #[.int .u64 x.seq, vi x.next, sv]] (Rd sv 2 (x.slots.flatMap entCells)) (fun F => LCells K g.seg g.idx :: MapAt K.mp g.map :: TblAt K.tp g.tbl :: F) (fun _ : Unit => True) (fun _ => .tuple #[]) (fun _ F => LogB K ((g.up r2).apply x) F) at hap
              refine walk ?_
              refine call hap ?_ (hg := frameL)
              intro _ _
              refine walk ?_
              refine wq_ret1 rfl rfl ((), 0, (g.up r2).apply x) rfl ⟨hd.symm, trivial⟩ ?_
              show Ent _ (LogB K ((g.up r2).apply x) (RigAt K.k ((g.up r2).apply x).rig F))
              rw [show ((g.up r2).apply x).rig = r2 from Lg.apply_rig _ _]
              exact permL
end Go.Proofs.YtohienhoifgmaaaGreat
