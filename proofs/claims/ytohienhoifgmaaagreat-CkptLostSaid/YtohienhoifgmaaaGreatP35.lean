/- several texts, one behind the other -/
import Derived.Test.YtohienhoifgmaaaGreatP17
import Derived.Test.YtohienhoifgmaaaGreatP13
import Derived.Test.YtohienhoifgmaaaGreatP29
import Derived.Test.YtohienhoifgmaaaGreatP31
import Derived.Test.YtohienhoifgmaaaGreatP10

section
/- The small memory's records, as the program has them. -/
namespace Go.Proofs.YtohienhoifgmaaaGreat
open Go Go.Sl
attribute [local irreducible] Yl WL WC WQ WD
instance : FLen recCells 4 := ⟨fun _ => rfl⟩
theorem rec_len (rs : List (Rec × Value)) : (rs.flatMap recCells).length = 4 * rs.length := by
  induction rs with
  | nil => rfl
  | cons s t ih => rw [List.flatMap_cons, List.length_append, ih]; simp; omega
theorem own_spec (e : Rec) (v : Value) (hb : e.data.length ≤ 1099511627776) :
    Spec0 Tryz.prog 87 [.agg (recCells (e, v)).toArray] (Rd v 1 (e.data.map vb)) (fun F => F) (fun _ : Value => True) (fun r => .agg (recCells (e, r)).toArray) (fun r F => SlB r e.data :: F) := by
  (refine spec_of Tryz.func87 rfl Tryz.ntmps87 rfl (fun F w0 hrd => ?_))
  haveI : RdIn F v 1 (e.data.map vb) := ⟨hrd⟩
  refine walk ?_
  intro c1
  refine walk ?_
  intro c2
  refine walk ?_
  refine call (clone_spec v e.data hb) ?_
  intro r _
  refine walk ?_
  refine wq_retc rfl rfl rfl r rfl trivial ?_
  exact perm
set_option maxHeartbeats 2000000 in
theorem nappend_spec (n pp : Nat) (s : Nvm × Pow) (k lba : Int) (v : Value) (data : Bytes) (hb : data.length ≤ 1099511627776) (hn : s.1.recs.length ≤ 1048576) :
    SpecG Tryz.prog outage 35 [vp n, vi k, vi lba, v] (Rd v 1 (data.map vb)) (fun s F => NvAt n pp s.1 :: PowAt pp s.2 :: F)
      (if (s.1.recs.length : Int) ≥ s.1.root.shape.nv then .ok (7 : Int) s else match s.2.tick with | none => .gone s | some p => .ok 0 ({ s.1 with recs := s.1.recs ++ [⟨s.1.next, k, lba, data⟩], next := IntKind.u64.wrap (s.1.next + 1) }, p)) s (fun (_ : Unit) _ => True) (fun _ e => vi e) (fun _ _ F => F) := by
  (refine spec_of Tryz.func35 rfl Tryz.ntmps35 rfl (fun F w0 hrd => ?_))
  obtain ⟨s, p⟩ := s
  dsimp only at hn ⊢
  haveI : RdIn F v 1 (data.map vb) := ⟨hrd⟩
  (first | refine WC.ex (fun y => NvAt.opened) (fun x hf => ?_) | refine WL.ex (fun y => NvAt.opened) (fun x hf => ?_) | refine WQ.ex (fun y => NvAt.opened) (fun x hf => ?_))
  have hrl : x.rs.length = s.recs.length := by rw [← hf.recs, List.length_map]
  have hrl2 := rec_len x.rs
  refine walk ?_
  (refine draw ?_; refine dy 0 ?_; refine dy 1 ?_; refine dy 2 ?_; refine dy 3 ?_; refine dy 4 ?_; refine dy 5 ?_; refine dy 6 ?_; refine dy 7 ?_; refine dy 8 ?_; refine dy 9 ?_; refine dy 10 ?_; refine dy 11 ?_; refine walk ?_)
  refine walk ?_
  refine wif_dec (fun hfull => ?_) (fun hfull => ?_)
  · refine walk ?_
    exact wq_ret1 rfl rfl ((), 7, (s, p)) rfl ⟨by rw [if_pos (by omega)], trivial⟩ (Ent.trans perm (NvAt.shut x hf))
  · rw [if_neg (by omega)]
    refine walk ?_
    refine gcall (tick_spec pp p) (fun s' hg => ⟨(s, s'), ?_, ?_⟩) (fun _ _ p' hp _ => ?_)
    · unfold ptick at hg
      cases hp : p.tick with
      | none => rw [hp] at hg; cases hg; rfl
      | some q => rw [hp] at hg; cases hg
    · exact Ent.trans perm (NvAt.shut x hf)
    have hp' : p.tick = some p' := by
      unfold ptick at hp
      cases hq : p.tick with
      | none => rw [hq] at hp; cases hp
      | some q => rw [hq] at hp; cases hp; rfl
    rw [hp']
    refine walk ?_
    (refine draw ?_; refine dy 0 ?_; refine dy 1 ?_; refine dy 2 ?_; refine dy 3 ?_; refine dy 4 ?_; refine dy 5 ?_; refine dy 6 ?_; refine dy 7 ?_; refine dy 8 ?_; refine dy 9 ?_; refine dy 10 ?_; refine dy 11 ?_; refine dy 12 ?_; refine ddx 13 ?_)
    refine call (own_spec ⟨s.next, k, lba, data⟩ v hb) ?_
    intro r _
    (refine walk ?_; refine ddx 14 ?_)
    dsimp only [recCells]
    refine wl_buildOneA (k := 4) rfl rfl (by decide) rfl (fun s1 _ _ => ?_)
    obtain ⟨X, hX⟩ : ∃ X, X = x.rs.flatMap recCells := ⟨_, rfl⟩
    rw [← hX] at hrl2
    rw [show (x.rs.flatMap fun e => [Value.int .u64 e.1.seq, vi e.1.kind, vi e.1.lba, e.2]) = X from hX.symm]
    (refine walk ?_; refine ddx 15 ?_)
    refine walk ?_
    intro lv' _ _
    (refine walk ?_; refine dy 16 ?_; refine dy 17 ?_; refine ddx 18 ?_)
    refine walk ?_
    refine wq_ret1 rfl rfl ((), 0, ({ s with recs := s.recs ++ [⟨s.next, k, lba, data⟩], next := IntKind.u64.wrap (s.next + 1) }, p')) rfl ⟨rfl, trivial⟩ ?_
    refine Ent.trans ?_ (NvAt.shut (s := { s with recs := s.recs ++ [⟨s.next, k, lba, data⟩], next := IntKind.u64.wrap (s.next + 1) }) ⟨lv', x.rs ++ [(⟨s.next, k, lba, data⟩, r)], (r, data) :: x.rows⟩ ⟨by rw [List.map_append, hf.recs]; rfl, fun e he => ?_⟩)
    · dsimp only [NParts]
      rw [List.flatMap_append, List.flatMap_cons, List.flatMap_nil, List.append_nil]
      rw [show (x.rs.flatMap fun e => [Value.int .u64 e.1.seq, vi e.1.kind, vi e.1.lba, e.2]) = X from hX.symm]
      exact Ent.skip (Ent.skip (Ent.drop ((Ent.skip Ent.swap).trans Pool.put)))
    · rcases List.mem_append.1 he with he | he
      · exact List.mem_cons_of_mem _ (hf.mem e he)
      · rw [List.mem_singleton.1 he]; exact List.mem_cons_self
set_option maxHeartbeats 2000000 in
theorem nrecords_spec (n pp : Nat) (s : Nvm) (hn : s.recs.length ≤ 1048576) (hb : ∀ r ∈ s.recs, r.data.length ≤ 1099511627776) :
    Spec0 Tryz.prog 81 [vp n] (fun _ => True) (fun F => NvAt n pp s :: F) (fun y : Value × List (Rec × Value) × List Row => y.2.1.map (·.1) = s.recs ∧ ∀ e ∈ y.2.1, (e.2, e.1.data) ∈ y.2.2) (fun y => y.1)
      (fun y F => Sl y.1 4 (y.2.1.flatMap recCells) :: Pool y.2.2 :: NvAt n pp s :: F) := by
  (refine spec_of Tryz.func81 rfl Tryz.ntmps81 rfl (fun F w0 hrd => ?_))
  (first | refine WC.ex (fun y => NvAt.opened) (fun x hf => ?_) | refine WL.ex (fun y => NvAt.opened) (fun x hf => ?_) | refine WQ.ex (fun y => NvAt.opened) (fun x hf => ?_))
  have hrl : x.rs.length = s.recs.length := by rw [← hf.recs, List.length_map]
  have hrl2 := rec_len x.rs
  refine walk ?_
  refine wc_loop (X := Nat × Value × List (Rec × Value) × List Row) (fun y => [(3, y.2.1), (9, x.lv), (10, vi x.rs.length), (11, vi y.1)])
    (fun y => Sl y.2.1 4 (y.2.2.1.flatMap recCells) :: Pool y.2.2.2 :: NParts n pp x s F)
    (fun y => y.1 ≤ x.rs.length ∧ y.2.2.1.map (·.1) = s.recs.take y.1 ∧ ∀ e ∈ y.2.2.1, (e.2, e.1.data) ∈ y.2.2.2) (fun y => x.rs.length - y.1) (0, .slice none 0 0, [], []) ⟨by omega, by simp, fun e he => by cases he⟩ envs ((sl_nil 4).trans (Ent.skip Pool.nil)) (fun y hy => ?_)
  obtain ⟨k, rv, rs, rows⟩ := y
  dsimp only at hy ⊢
  obtain ⟨hk, hm, hp⟩ := hy
  have hrs : rs.length = k := by have := congrArg List.length hm; simp at this; omega
  have hrs2 := rec_len rs
  refine walk ?_
  refine wif_dec (fun hlt => ?_) (fun hlt => ?_)
  · have hlt : k < x.rs.length := by omega
    have hmem := hf.mem _ (List.getElem_mem hlt)
    have htk : s.recs.take (k + 1) = s.recs.take k ++ [x.rs[k].1] := by
      have h2 : k < s.recs.length := by omega
      rw [List.take_add_one, List.getElem?_eq_getElem h2, Option.toList_some]
      congr 2
      simp [← hf.recs]
    have hdl : (x.rs[k].1).data.length ≤ 1099511627776 := hb _ (by rw [← hf.recs]; exact List.mem_map.2 ⟨_, List.getElem_mem hlt, rfl⟩)
    refine walk ?_
    intro c5
    generalize x.rs[k] = e at *
    obtain ⟨r, v⟩ := e
    dsimp only at hmem htk hdl
    haveI : ∀ Γ : List HP, RdIn (Pool x.rows :: Γ) v 1 (r.data.map vb) := fun Γ => Pool.rdIn' hmem
    dsimp only [recCells]
    refine walk ?_
    refine call (own_spec r v hdl) ?_
    intro u _
    refine walk ?_
    dsimp only [recCells]
    refine wl_buildOneA (k := 4) rfl rfl (by decide) rfl (fun s1 _ _ => ?_)
    obtain ⟨X, hX⟩ : ∃ X, X = rs.flatMap recCells := ⟨_, rfl⟩
    rw [← hX] at hrs2
    rw [show (rs.flatMap fun e => [Value.int .u64 e.1.seq, vi e.1.kind, vi e.1.lba, e.2]) = X from hX.symm]
    refine walk ?_
    intro rv' _ _
    refine walk ?_
    refine wq_round (k + 1, rv', rs ++ [(r, u)], (u, r.data) :: rows) ⟨by dsimp only; omega, ?_, fun e he => ?_⟩ (by dsimp only; omega) envs ?_
    · dsimp only
      rw [htk, List.map_append, hm]; rfl
    · dsimp only at he ⊢
      rcases List.mem_append.1 he with he | he
      · exact List.mem_cons_of_mem _ (hp e he)
      · rw [List.mem_singleton.1 he]; exact List.mem_cons_self
    · dsimp only
      rw [List.flatMap_append, List.flatMap_cons, List.flatMap_nil, List.append_nil]
      rw [show (rs.flatMap fun e => [Value.int .u64 e.1.seq, vi e.1.kind, vi e.1.lba, e.2]) = X from hX.symm]
      exact Ent.skip (Ent.drop ((Ent.skip (Ent.drop Ent.refl)).trans Pool.put))
  · obtain rfl : k = x.rs.length := by omega
    rw [hrl, List.take_length] at hm
    refine walk ?_
    refine wq_ret1 rfl rfl (rv, rs, rows) rfl ⟨hm, hp⟩ ?_
    exact Ent.skip (Ent.skip (NvAt.shut x hf))
end Go.Proofs.YtohienhoifgmaaaGreat
end

section
/- Parts of a slice that can be read. No program. -/
namespace Go.Sl
open Go
/-- a slice's part -/
def slSub (v : Value) (k lo hi : Nat) : Value := match v with
  | .slice a _n c => .slice (if c = lo then a else a.map (·.add (lo * k))) (hi - lo) (c - lo)
  | v => v
theorem addr_add (b o i : Nat) : (⟨b, o, none⟩ : Addr).add i = ⟨b, o + i, none⟩ := by simp [Addr.add]
theorem Rd.sub {v : Value} {k : Nat} {vs : List Value} {h : Hp} (hk : 0 < k) (r : Rd v k vs h) {lo hi : Nat} (h1 : lo ≤ hi) (h2 : hi * k ≤ vs.length) : Rd (slSub v k lo hi) k ((vs.drop (lo * k)).take ((hi - lo) * k)) h := by
  rcases r with ⟨rfl, rfl⟩ | ⟨a, cap, rfl, rfl⟩ | ⟨b, off, len, cap, cs, T, fr, rfl, c, d, e, f⟩
  · have hh : hi = 0 := by
      rcases Nat.eq_zero_or_pos hi with h | h
      · exact h
      · have := Nat.mul_pos h hk
        simp only [List.length_nil] at h2
        omega
    subst hh
    obtain rfl : lo = 0 := by omega
    exact .inl ⟨rfl, by simp⟩
  · have hh : hi = 0 := by
      rcases Nat.eq_zero_or_pos hi with h | h
      · exact h
      · have := Nat.mul_pos h hk
        simp only [List.length_nil] at h2
        omega
    subst hh
    obtain rfl : lo = 0 := by omega
    refine .inr (.inl ⟨if cap = 0 then a else a.add (0 * k), cap, ?_, by simp⟩)
    simp only [slSub]
    split <;> simp
  · have h3 : hi ≤ len := by rw [d] at h2; exact Nat.le_of_mul_le_mul_right h2 hk
    by_cases hc : cap = lo
    · refine .inr (.inl ⟨⟨b, off, none⟩, 0, ?_, ?_⟩)
      · simp only [slSub, if_pos hc]
        rw [show hi - lo = 0 by omega, show cap - lo = 0 by omega]
      · rw [show hi - lo = 0 by omega, Nat.zero_mul, List.take_zero]
    · refine .inr (.inr ⟨b, off + lo * k, hi - lo, cap - lo, cs, T, fr, ?_, by omega, ?_, ?_, f⟩)
      · simp only [slSub, if_neg hc, Option.map_some, addr_add]
      · rw [List.length_take, List.length_drop, d, ← Nat.sub_mul]
        exact Nat.min_eq_left (Nat.mul_le_mul_right k (by omega))
      · rw [← e, List.drop_take, List.drop_drop, List.take_take, ← Nat.sub_mul, Nat.min_eq_left (Nat.mul_le_mul_right k (by omega))]
theorem RdIn.sub {Γ : List HP} {v : Value} {k : Nat} {vs : List Value} (hk : 0 < k) (r : RdIn Γ v k vs) {lo hi : Nat} (h1 : lo ≤ hi) (h2 : hi * k ≤ vs.length) : RdIn Γ (slSub v k lo hi) k ((vs.drop (lo * k)).take ((hi - lo) * k)) := ⟨fun h hs => Rd.sub hk (r.rd h hs) h1 h2⟩
theorem RdIn.subB {Γ : List HP} {v : Value} {b : Bytes} (r : RdIn Γ v 1 (b.map vb)) {lo hi : Nat} (h1 : lo ≤ hi) (h2 : hi ≤ b.length) : RdIn Γ (slSub v 1 lo hi) 1 (((b.drop lo).take (hi - lo)).map vb) := by
  have := RdIn.sub (by omega) r h1 (by simpa using h2)
  rw [Nat.mul_one, Nat.mul_one, ← List.map_drop, ← List.map_take] at this
  exact this
section
variable {P : Program} {w0 : World} {n : Nat} {env : Env} {Γ : List HP} {ty : TypeId}
theorem rd_form {v : Value} {k : Nat} {vs : List Value} {h : Hp} (r : Rd v k vs h) : ∃ a len cap, v = .slice a len cap ∧ len ≤ cap ∧ len * k = vs.length := by
  rcases r with ⟨rfl, rfl⟩ | ⟨a, cap, rfl, rfl⟩ | ⟨b, off, len, cap, cs, T, fr, rfl, c, d, e, f⟩
  · exact ⟨_, _, _, rfl, by omega, by simp⟩
  · exact ⟨_, _, _, rfl, by omega, by simp⟩
  · exact ⟨_, _, _, rfl, c, by rw [d]⟩
theorem yl_sliceLH {t e : TypeId} {ag : Bool} {k : Nat} {x y z : Operand} {v : Value} {vs : List Value} {kd kd' : IntKind} {l h : Int} [u : Und P t (.slice e)] [g : AggT P e ag k] (hx : evl env x = some v) (hy : evl env y = some (.int kd l)) (hz : evl env z = some (.int kd' h)) [r : RdIn Γ v k vs]
    (hk : 0 < k) (h0 : 0 ≤ l) (h1 : l ≤ h) (h2 : h.toNat * k ≤ vs.length) : Yl P (.slice t x (some y) (some z) none) ty w0 n env Γ (slSub v k l.toNat h.toNat) Tt := by
  refine fun _ _ _ _ a w s => ⟨trivial, fun w' _ => ?_⟩
  obtain ⟨ad, len, cap, rfl, hc, hl⟩ := rd_form (r.rd _ s.sat)
  have h3 : h.toNat ≤ len := by rw [← hl] at h2; exact Nat.le_of_mul_le_mul_right h2 hk
  simp only [execOp, s.env.evl hx, Option.map, s.env.evl hy, s.env.evl hz, Instr.sliceAt, Sem.run_bind, u.run, Result.andThen_ok, Instr.slice, Instr.sliceBounds, Sem.run_pure]
  rw [run_sliceBound' kd' h cap _ (by omega) (by omega)]
  simp only [Result.andThen_ok]
  rw [run_sliceBound' kd l _ _ h0 (by omega)]
  simp only [Result.andThen_ok, g.size]
  cases ad <;> simp [slSub]
theorem yl_sliceL {t e : TypeId} {ag : Bool} {k : Nat} {x y : Operand} {v : Value} {vs : List Value} {kd : IntKind} {l : Int} {m : Nat} [u : Und P t (.slice e)] [g : AggT P e ag k] (hx : evl env x = some v) (hy : evl env y = some (.int kd l)) [r : RdIn Γ v k vs]
    (hm : m * k = vs.length) (hk : 0 < k) (h0 : 0 ≤ l) (h1 : l ≤ m) : Yl P (.slice t x (some y) none none) ty w0 n env Γ (slSub v k l.toNat m) Tt := by
  refine fun _ _ _ _ a w s => ⟨trivial, fun w' _ => ?_⟩
  obtain ⟨ad, len, cap, rfl, hc, hl⟩ := rd_form (r.rd _ s.sat)
  have h3 : m = len := by rw [← hl] at hm; exact Nat.eq_of_mul_eq_mul_right hk hm
  subst h3
  simp only [execOp, s.env.evl hx, Option.map, s.env.evl hy, Instr.sliceAt, Sem.run_bind, u.run, Result.andThen_ok, Instr.slice, Instr.sliceBounds, Sem.run_pure]
  rw [run_sliceBound' kd l _ _ h0 (by omega)]
  simp only [Result.andThen_ok, g.size]
  cases ad <;> simp [slSub]
theorem yl_sliceH {t e : TypeId} {ag : Bool} {k : Nat} {x z : Operand} {v : Value} {vs : List Value} {kd' : IntKind} {h : Int} [u : Und P t (.slice e)] [g : AggT P e ag k] (hx : evl env x = some v) (hz : evl env z = some (.int kd' h)) [r : RdIn Γ v k vs]
    (hk : 0 < k) (h1 : 0 ≤ h) (h2 : h.toNat * k ≤ vs.length) : Yl P (.slice t x none (some z) none) ty w0 n env Γ (slSub v k 0 h.toNat) Tt := by
  refine fun _ _ _ _ a w s => ⟨trivial, fun w' _ => ?_⟩
  obtain ⟨ad, len, cap, rfl, hc, hl⟩ := rd_form (r.rd _ s.sat)
  have h3 : h.toNat ≤ len := by rw [← hl] at h2; exact Nat.le_of_mul_le_mul_right h2 hk
  simp only [execOp, s.env.evl hx, Option.map, s.env.evl hz, Instr.sliceAt, Sem.run_bind, u.run, Result.andThen_ok, Instr.slice, Instr.sliceBounds, Sem.run_pure]
  rw [run_sliceBound' kd' h cap _ (by omega) (by omega)]
  simp only [Result.andThen_ok, g.size]
  cases ad <;> simp [slSub]
end
end Go.Sl
end
