/- several texts, one behind the other -/
import Derived.Test.YtohienhoifgmaaaGreatP30
import Derived.Test.YtohienhoifgmaaaGreatP14
import Derived.Test.YtohienhoifgmaaaGreatP10
import Derived.Test.YtohienhoifgmaaaGreatP08

section
/- A book and a log, side by side, while nothing fails: records staged, stripes, checkpoints. No program. -/
namespace Go.Sl
open Go
/-- the members, and what they know, are the same -/
structure Like (r r' : Rig) : Prop where
  ds : r'.ds = r.ds
  broken : r'.broken = r.broken
  limit : r'.pow.limit = r.pow.limit
  stale : r'.stale = r.stale
theorem Like.refl (r : Rig) : Like r r := ⟨rfl, rfl, rfl, rfl⟩
theorem Like.at {r r' : Rig} (h : Like r r') (i : Nat) : r'.at i = r.at i := Rig.at_congr h.ds i
theorem Like.fits {s : Shp} {r r' : Rig} (h : Like r r') (hf : Fits s r) : Fits s r' :=
  ⟨by rw [h.ds]; exact hf.many, fun i hi => by rw [h.at]; exact hf.size i (by rw [← h.ds]; exact hi), fun i hi => by rw [h.at]; exact hf.on i (by rw [← h.ds]; exact hi)⟩
theorem Like.calm {r r' : Rig} (h : Like r r') (hc : Calm r) : Calm r' :=
  ⟨h.limit.trans hc.limit, h.broken.trans hc.broken, h.stale.trans hc.stale, fun i hi => by rw [h.at]; exact hc.live i (by rw [← h.ds]; exact hi)⟩
theorem Like.good {m : Nat} {r r' : Rig} (h : Like r r') (hc : Good m r) : Good m r' :=
  ⟨h.limit.trans hc.limit, h.broken.trans hc.broken, by rw [h.stale]; exact hc.stale, fun i hm hi => by rw [h.at]; exact hc.live i hm (by rw [← h.ds]; exact hi)⟩
theorem Like.paged {s : Shp} {r r' : Rig} {reg : Int} {l : List Bytes} (h : Like r r') (hp : Paged s r reg l) : Paged s r' reg l := fun k hk i hi hn => by
  rw [h.at]; exact hp k hk i (by rw [← h.ds]; exact hi) (by rw [← h.stale]; exact hn)
theorem Like.holds {s : Shp} {r r' : Rig} {t : Int} {L : List Bytes} (h : Like r r') (hp : Holds s r t L) : Holds s r' t L := fun i hi hn => by
  rw [h.at]; exact hp i (by rw [← h.ds]; exact hi) (by rw [← h.stale]; exact hn)
theorem tick_free {p : Pow} (h : p.limit = -1) : ∃ q, p.tick = some q ∧ q.limit = -1 := by
  refine ⟨{ p with used := w64 (p.used + 1) }, ?_, h⟩
  unfold Pow.tick
  rw [if_neg (by rw [h]; omega)]
structure Play (b : Bok) (g : Lg) : Prop where
  rel : Rel b g
  inv : g.Inv
  fits : Fits g.sh g.rig
  calm : Calm g.rig
  fair : b.Fair
  room : (g.rig.nv.recs.length : Int) ≤ g.sh.nv
theorem Play.recs {b : Bok} {g : Lg} (h : Play b g) : g.rig.nv.recs.length ≤ 256 := by
  have h1 := h.room
  have h2 := h.inv.shok.nv
  omega
/-- a record is staged, or there is no room -/
theorem play_append {b : Bok} {g : Lg} (h : Play b g) {k lba : Int} {data : Bytes} (hr : RecOk g.sh ⟨b.next, k, lba, data⟩) :
    ∃ c r', nappend k lba data g.rig = .ok c r' ∧ c = (if (b.append k lba data).1 = true then 0 else 7) ∧ Play (b.append k lba data).2 (g.up r') ∧ Like g.rig r' ∧ (g.up r').sh = g.sh ∧ r'.nv.root = g.rig.nv.root := by
  have hb : (b.recs.length : Int) = g.rig.nv.recs.length := by rw [h.rel.recs]
  have hs : b.s.nv = g.rig.nv.root.shape.nv := by rw [h.rel.s]; rfl
  unfold nappend
  by_cases hf : (b.recs.length : Int) ≥ b.s.nv
  · rw [if_pos (by omega)]
    have he : b.append k lba data = (false, b) := by unfold Bok.append; rw [if_pos hf]
    rw [he]
    exact ⟨7, g.rig, rfl, rfl, h, Like.refl _, rfl, rfl⟩
  · rw [if_neg (by omega)]
    obtain ⟨p, hp, hpl⟩ := tick_free h.calm.limit
    rw [hp]
    dsimp only
    obtain ⟨h1, h2, h3⟩ := appended h.rel h.inv hr hf (r := { g.rig with pow := p, nv := { g.rig.nv with recs := g.rig.nv.recs ++ [⟨g.rig.nv.next, k, lba, data⟩], next := IntKind.u64.wrap (g.rig.nv.next + 1) } }) rfl
    have hl : Like g.rig { g.rig with pow := p, nv := { g.rig.nv with recs := g.rig.nv.recs ++ [⟨g.rig.nv.next, k, lba, data⟩], next := IntKind.u64.wrap (g.rig.nv.next + 1) } } := ⟨rfl, rfl, by rw [h.calm.limit]; exact hpl, rfl⟩
    refine ⟨_, _, rfl, by rw [h1]; rfl, ⟨h2, h3, hl.fits h.fits, hl.calm h.calm, h.fair.append _ _ _, ?_⟩, hl, rfl, rfl⟩
    show ((g.rig.nv.recs ++ [_]).length : Int) ≤ g.rig.nv.root.shape.nv
    rw [List.length_append, List.length_singleton]
    omega
/-- the first records go into a stripe, or there is no room -/
theorem play_dst {b : Bok} {g : Lg} (h : Play b g) :
    ∃ c g', g.dst = .ok c g' ∧ c = (if b.destage.1 = true then 0 else 2) ∧ Play b.destage.2 g' ∧ g'.sh = g.sh ∧ g'.rig.nv.root.gen = g.rig.nv.root.gen ∧
      (g' = g ∧ b.destage.2 = b ∨ ∃ e r1 r2, g.batch.getLast? = some e ∧ Tr (SA (g.sh.stripeAt g.stripe)) g.rig r1 ∧ Holds g.sh r1 g.stripe (Lg.chunksB g.sh (g.noteOf g.batch) g.batch) ∧ Like r1 r2 ∧ g' = (g.up r2).apply (g.noteOf g.batch)) := by
  unfold Lg.dst
  cases he : g.batch.getLast? with
  | none =>
    have hb : b.destage = (true, b) := by unfold Bok.destage; rw [h.rel.batch, he]
    rw [hb]
    exact ⟨0, g, rfl, rfl, h, rfl, rfl, .inl ⟨rfl, rfl⟩⟩
  | some e =>
    dsimp only
    by_cases hroom : g.last = true ∧ g.tbl.first < 0
    · rw [if_pos hroom]
      have hb : b.destage = (false, b) := by
        unfold Bok.destage
        rw [h.rel.batch, he]
        dsimp only
        rw [h.rel.last, h.rel.first, if_pos hroom]
      rw [hb]
      exact ⟨2, g, rfl, rfl, h, rfl, rfl, .inl ⟨rfl, rfl⟩⟩
    · rw [if_neg hroom]
      have hsat := aput_sat h.inv.shok h.fits h.inv.stripe h.inv.chunks
      cases hp : aput g.sh g.stripe (Lg.chunksB g.sh (g.noteOf g.batch) g.batch) g.rig with
      | gone r1 =>
        rw [hp] at hsat
        have := hsat.2
        have := h.calm.limit
        omega
      | ok c r1 =>
        rw [hp] at hsat
        obtain ⟨t1, ⟨rfl, b1, h1, _⟩ | ⟨rfl, b1⟩⟩ := hsat
        · have hc1 := h.calm.tr t1.toTr0
          obtain ⟨p, hpt, hpl⟩ := tick_free hc1.limit
          have hnv : r1.nv = g.rig.nv := by
            have h2 := t1.toTr0.nv
            have h3 : r1.stale = g.rig.stale := hc1.stale.trans h.calm.stale.symm
            rw [h2, h3]; rfl
          obtain ⟨r2, hr2⟩ : ∃ r2 : Rig, r2 = { r1 with pow := p, nv := { r1.nv with recs := r1.nv.recs.filter (fun x => decide (¬ x.seq ≤ e.seq)), root := { r1.nv.root with durable := IntKind.u64.wrap (g.rig.nv.root.durable + 1) } } } := ⟨_, rfl⟩
          have hcm : ncommit (IntKind.u64.wrap (g.rig.nv.root.durable + 1)) e.seq r1 = .ok () r2 := by unfold ncommit; rw [hpt, hr2]
          have hl : Like r1 r2 := by rw [hr2]; exact ⟨rfl, rfl, by rw [hc1.limit]; exact hpl, rfl⟩
          have hw := wrap64_range (g.rig.nv.root.durable + 1)
          have hs2 : r2.nv.root.shape = g.rig.nv.root.shape := by rw [hr2]; show r1.nv.root.shape = _; rw [hnv]
          obtain ⟨k1, k2, k3⟩ := destaged h.rel h.inv he hroom (r := r2) hs2 (by rw [hr2]; show r1.nv.recs.filter _ = _; rw [hnv]) (by rw [hr2]; show r1.nv.next = _; rw [hnv]) (by rw [hr2]) hw.1
          have hrig : ((g.up r2).apply (g.noteOf g.batch)).rig = r2 := Lg.apply_rig _ _
          have hsh : ((g.up r2).apply (g.noteOf g.batch)).sh = g.sh := by unfold Lg.sh; rw [hrig]; exact hs2
          refine ⟨0, (g.up r2).apply (g.noteOf g.batch), ?_, by rw [k1]; rfl, ⟨k2, k3, ?_, ?_, h.fair.destage, ?_⟩, hsh, ?_, .inr ⟨e, r1, r2, rfl, t1, h1, hl, rfl⟩⟩
          · show Out.bind (Out.lift (g.up r1).up (ncommit _ e.seq r1)) _ = _
            rw [hcm]
            rfl
          · rw [hsh, hrig]; exact hl.fits (h.fits.tr t1.toTr0)
          · rw [hrig]; exact hl.calm hc1
          · rw [hsh, hrig, hr2]
            show ((r1.nv.recs.filter _).length : Int) ≤ _
            have h4 := List.length_filter_le (fun x : Rec => decide (¬ x.seq ≤ e.seq)) r1.nv.recs
            have h5 := h.room
            rw [hnv] at h4 ⊢
            omega
          · rw [hrig, hr2]; show r1.nv.root.gen = _; rw [hnv]
        · rw [(h.calm.tr t1.toTr0).broken] at b1; cases b1
/-- a checkpoint -/
theorem play_ckpt {b : Bok} {g : Lg} (h : Play b g) {W : Int} (hW : W = IntKind.u64.wrap (g.rig.nv.root.gen + 1)) :
    ∃ g', g.ckpt = .ok 0 g' ∧ Play b.free g' ∧ g'.sh = g.sh ∧ g'.rig.nv.root.gen = W ∧ Paged g.sh g'.rig (W % 2) (g.pages W.toNat) ∧ ∃ r', Tr (SP g.sh (W % 2)) g.rig r' ∧ Like r' g'.rig ∧ g' = { g with rig := g'.rig, tbl := g.tbl.clear g.tbl.dead } := by
  have hw := wrap64_range (g.rig.nv.root.gen + 1)
  have hsat := ckpt_sat h.inv h.fits hW (by omega)
  cases hc : g.ckpt with
  | gone g' =>
    rw [hc] at hsat
    have := hsat.1
    have := h.calm.limit
    omega
  | ok c g' =>
    rw [hc] at hsat
    rcases hsat with ⟨rfl, r', p, t1, b1, hp, hpl, rfl⟩ | ⟨rfl, r', t1, b1, _⟩
    · have hc1 := h.calm.tr t1.toTr0
      have hnv : r'.nv = g.rig.nv := by
        have h2 := t1.toTr0.nv
        have h3 : r'.stale = g.rig.stale := hc1.stale.trans h.calm.stale.symm
        rw [h2, h3]; rfl
      have hl : Like r' { r' with pow := p, nv := { r'.nv with root := { r'.nv.root with gen := W } } } := ⟨rfl, rfl, by rw [hc1.limit, hpl]; exact h.calm.limit, rfl⟩
      obtain ⟨k1, k2⟩ := freed h.rel h.inv (r := { r' with pow := p, nv := { r'.nv with root := { r'.nv.root with gen := W } } }) (by show r'.nv.root.shape = _; rw [hnv]) (by show r'.nv.recs = _; rw [hnv]) (by show r'.nv.next = _; rw [hnv]) (by show r'.nv.root.durable = _; rw [hnv])
      have hsh : Lg.sh { g with rig := { r' with pow := p, nv := { r'.nv with root := { r'.nv.root with gen := W } } }, tbl := g.tbl.clear g.tbl.dead } = g.sh := by show r'.nv.root.shape = _; rw [hnv]; rfl
      refine ⟨_, rfl, ⟨k1, k2, ?_, hl.calm hc1, h.fair.free, ?_⟩, hsh, rfl, hl.paged hp, r', t1, hl, rfl⟩
      · rw [hsh]; exact hl.fits (h.fits.tr t1.toTr0)
      · rw [hsh]; show (r'.nv.recs.length : Int) ≤ _; rw [hnv]; exact h.room
    · rw [(h.calm.tr t1.toTr0).broken] at b1; cases b1
end Go.Sl
end

section
/- Results of which the first lies in a variable of its own. No program. -/
namespace Go.Sl
open Go
section
variable {P : Program} {w0 : World} {n : Nat} {env : Env} {Γ : List HP}
theorem wq_retc2 {fn : Func} {F : List HP} {X Y : Type} {φ : X → Prop} {v : X → Value} {post : X → List HP → List HP} {φc : Y → Prop} {chain : List PanicEntry} {postc : Y → List HP → List HP}
    {t t' : Tmp} {T : TypeId} {m b : Nat} {cs : List Value} {u : Value} {Γ' : List HP} [g : AggT P T true m] [p : PickC Γ b cs Γ'] (hr : fn.results = #[.cell t T, .tmp t']) (hb : env.get t = some (vp b)) (hu : env.get t' = some u) (hm : cs.length = m) (x : X) (hv : .tuple #[.agg cs.toArray, u] = v x) (hφ : φ x) (hg : Ent Γ' (post x F)) :
    WQ (bodyPost P fn (SpecR w0 F φ v post φc chain postc)) .ret w0 n env Γ := fun a w s => by
  obtain ⟨T', hT⟩ := (p.pick _ s.sat).cells
  refine ⟨s.defers, .tuple #[.agg cs.toArray, u], ?_, s.evo, .inl ⟨x, hφ, by rw [hv], hg _ (p.pick _ s.sat).tail⟩⟩
  have ht := s.env.get _ _ hb
  have hu' := s.env.get _ _ hu
  have hc : (loadCells ⟨b, 0, none⟩ m).run P w = .ok cs.toArray w := by
    rw [← hm]
    refine run_loadCells w b 0 cs fun i hi => ?_
    rw [cell_of_hp hT]; simp
  simp [results, hr, ht, hu', asAddr, loadVar, g.agg, g.size, hc]
/-- a slice of one struct -/
theorem wl_buildOneA {Q : Exit → Act → World → Prop} {ops : Array Oper} {rest : List Oper} {ty : TypeId} {pos : String} {after : Array Edge} {d : Nat} {t e : TypeId} {k by' : Nat} {z : Value} {x : Operand} {cs : List Value} [u : Und P t (.slice e)] [el : ElemT P e k by' z] (hx : evl env x = some (.agg cs.toArray)) (hk : cs.length = k) (hk2 : k ≤ 1000)
    (hd : Nat.blt d n = true) (kk : ∀ v, slLen v = 1 → isNil v = false → WL P ops rest Q w0 n ((d, v) :: env) (Sl v k cs :: Γ)) :
    WL P ops (⟨some d, .buildSlice t 1 #[(0, x)], ty, pos, after, none⟩ :: rest) Q w0 n env Γ := by
  refine wl_buildSlice (k := k) (ps := [(0, .agg cs.toArray)]) (cs := cs) ?_ (by omega) ?_ (by omega) hd kk
  · show evp env [(0, x)] = _
    unfold evp
    rw [hx]
    rfl
  · have h := fill_seq k [(0, .agg cs.toArray)] 0 [] ((List.range (1 * k)).map fun i => (z.cells[i % z.cells.size]!)) rfl (fun p hp => by rw [List.mem_singleton.1 hp]; simpa [Value.cells] using hk) (by simp) (by simp)
    rw [List.nil_append] at h
    rw [h]
    simp [Value.cells]
theorem lay_mid {A vs B us : List Value} {off m : Nat} (hA : A.length = off) (h : m + us.length ≤ vs.length) :
    (((A ++ vs ++ B).take (off + m) ++ us ++ (A ++ vs ++ B).drop (off + m + us.length)).drop off).take vs.length = vs.take m ++ us ++ vs.drop (m + us.length) := by
  subst hA
  have e1 : (A ++ vs ++ B).take (A.length + m) = A ++ vs.take m := by
    rw [List.append_assoc, List.take_append, List.take_of_length_le (by omega), show A.length + m - A.length = m by omega, List.take_append_of_le_length (by omega)]
  have e2 : (A ++ vs ++ B).drop (A.length + m + us.length) = vs.drop (m + us.length) ++ B := by
    rw [List.append_assoc, List.drop_append, List.drop_of_length_le (by omega), List.nil_append, show A.length + m + us.length - A.length = m + us.length by omega, List.drop_append_of_le_length (by omega)]
  rw [e1, e2, List.append_assoc A, List.append_assoc A, List.drop_left', List.append_assoc, ← List.append_assoc us, ← List.append_assoc (vs.take m), List.take_left']
  · rw [List.append_assoc]
  · simp; omega
  · rfl
/-- a struct is written into a slice of one's own -/
theorem wl_storesSl {Q : Exit → Act → World → Prop} {ops : Array Oper} {rest : List Oper} {ty : TypeId} {pos : String} {after : Array Edge} {t : TypeId} {m' : Nat} {x y : Operand} {v : Value} {m k' : Nat} {vs us : List Value} {Γ' : List HP} [g : AggT P t true m'] (hx : evl env x = some (.pointer (some (slAddr v m)))) (hy : evl env y = some (.agg us.toArray)) [p : PickS Γ v k' vs Γ']
    [one : OneIn Γ us] (hm' : us.length = m') (h0 : 0 < m') (hm : m + m' ≤ vs.length)
    (k : WL P ops rest Q w0 n env (Sl v k' (vs.take m ++ us ++ vs.drop (m + us.length)) :: Γ')) :
    WL P ops (⟨none, .store t x y, ty, pos, after, none⟩ :: rest) Q w0 n env Γ := by
  refine wl_do (fun c w s => ?_) k
  have hs := p.pick _ s.sat
  have h1 := one.one _ s.sat
  obtain ⟨h1', h2', a, b, c', hA, e⟩ := hs
  rcases hA with ⟨rfl, rfl⟩ | ⟨bk, off, len, cap, cs, rfl, q1, q2, q3, q4, q5⟩
  · simp at hm; omega
  · have hs' : Sat (Cells bk cs :: Γ') (hpOf w) := ⟨h1', h2', a, b, c', q5, e⟩
    have hlk : len * k' ≤ cap * k' := Nat.mul_le_mul_right k' q1
    obtain ⟨r1, r2⟩ := sl_write (P := P) (o := m) (news := us) q2 hs' h1 (by omega)
    refine ⟨.skip, w.setRow bk (cs.take (off + m) ++ us ++ cs.drop (off + m + us.length)).toArray, ?_, .inl rfl, evo_setRow w bk _, ?_⟩
    · simp [execOp, s.env.evl hx, s.env.evl hy, Instr.storeAt, Instr.sureAddr, storeVar, g.size, Value.cells, hm', slAddr, r1]
    · refine r2.imp fun hh hc => .inr ⟨bk, off, len, cap, _, rfl, q1, ?_, ?_, ?_, hc⟩
      · simp; omega
      · simp; omega
      · have hcs : cs = cs.take off ++ vs ++ cs.drop (off + len * k') := by
          rw [← q4, ← List.drop_drop, List.append_assoc, List.take_append_drop, List.take_append_drop]
        have hl : (cs.take off).length = off := by rw [List.length_take]; omega
        have := lay_mid (A := cs.take off) (vs := vs) (B := cs.drop (off + len * k')) (us := us) (m := m) hl (by omega)
        rw [← hcs, q3] at this
        exact this
end
end Go.Sl
end

section
/- No pointer is none. No program. -/
namespace Go.Sl
open Go
theorem run_equalIn_pnn {P : Program} (d : Nat) {t e : TypeId} [u : Und P t (.pointer e)] (w : World) : (Op.equalIn (d + 1) t (.pointer none) (.pointer none)).run P w = .ok true w := by
  simp [Op.equalIn, u.run]
theorem yl_eqpnn {P : Program} {w0 : World} {n : Nat} {env : Env} {Γ : List HP} {ty t e yt : TypeId} {x y : Operand} [u : Und P t (.pointer e)] (hx : evl env x = some (.pointer none)) (hy : evl env y = some (.pointer none)) :
    Yl P (.binOp .eql t x y yt) ty w0 n env Γ (.bool true) Tt := by
  refine fun _ _ _ _ _ w s => ⟨trivial, fun w' _ => ?_⟩
  have h1 := run_equalIn_pnn (P := P) (t := t) 9999 w'
  simp [execOp, s.env.evl hx, s.env.evl hy, eqGuard, binOp, Op.equal, Op.maxDepth, h1]
/-- a pointer, or none -/
def optp : Option Nat → Value
  | none => .pointer none
  | some b => vp b
theorem yl_eqopt {P : Program} {w0 : World} {n : Nat} {env : Env} {Γ : List HP} {ty t e yt : TypeId} {x y : Operand} {o : Option Nat} [u : Und P t (.pointer e)] (hx : evl env x = some (optp o)) (hy : evl env y = some (.pointer none)) :
    Yl P (.binOp .eql t x y yt) ty w0 n env Γ (.bool (decide (o = none))) Tt := by
  cases o with
  | none => exact yl_eqpnn hx hy
  | some b => exact yl_eqpnil hx hy
end Go.Sl
end

section
/- Elements of an array. No program. -/
namespace Go.Sl
open Go
section
variable {P : Program} {w0 : World} {n : Nat} {env : Env} {Γ : List HP} {ty : TypeId}
theorem yl_indexA {t e : TypeId} {ag : Bool} {k' m : Nat} {x y : Operand} {a : Addr} {kd : IntKind} {i : Nat} [u : Und P t (.array m e)] [g : AggT P e ag k'] (hx : evl env x = some (.pointer (some a))) (hy : evl env y = some (.int kd (i : Int)))
    (hi : i < m) : Yl P (.indexAddr t x y) ty w0 n env Γ (.pointer (some (a.add (i * k')))) Tt := by
  refine fun _ _ _ _ a w s => ⟨trivial, fun w' _ => ?_⟩
  simp [execOp, s.env.evl hx, s.env.evl hy, Instr.indexAt, Instr.sureAddr, asIntOf, u.run, g.size, hi]
theorem yl_indexA1 {t e : TypeId} {ag : Bool} {m b o : Nat} {x y : Operand} {kd : IntKind} {i : Nat} [u : Und P t (.array m e)] [g : AggT P e ag 1] (hx : evl env x = some (.pointer (some ⟨b, o, none⟩))) (hy : evl env y = some (.int kd (i : Int)))
    (hi : i < m) : Yl P (.indexAddr t x y) ty w0 n env Γ (.pointer (some ⟨b, o + i, none⟩)) Tt := by
  have := yl_indexA (P := P) (w0 := w0) (n := n) (Γ := Γ) (ty := ty) (t := t) hx hy hi
  rw [Nat.mul_one, show (⟨b, o, none⟩ : Addr).add i = ⟨b, o + i, none⟩ from by simp [Addr.add]] at this
  exact this
end
end Go.Sl
end
