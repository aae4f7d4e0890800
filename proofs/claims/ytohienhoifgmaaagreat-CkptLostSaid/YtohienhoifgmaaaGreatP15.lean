/- several texts, one behind the other -/
import Derived.Test.YtohienhoifgmaaaGreatP14
import Derived.Test.YtohienhoifgmaaaGreatP12

section
/- The small memory: a new one; its root. -/
namespace Go.Proofs.YtohienhoifgmaaaGreat
open Go Go.Sl
attribute [local irreducible] Yl WL WC WQ WD

abbrev Root.val (x : Root) : Value := .agg [vi x.shape.members, vi x.shape.block, vi x.shape.segments, vi x.shape.stripes, vi x.shape.nv, vi x.shape.logical, .int .u64 x.gen, .int .u64 x.durable, vi x.stale].toArray
abbrev recCells (e : Rec × Value) : List Value := [.int .u64 e.1.seq, vi e.1.kind, vi e.1.lba, e.2]
structure NV where
  lv : Value
  rs : List (Rec × Value)
  rows : List Row
structure NFits (x : NV) (s : Nvm) : Prop where
  recs : x.rs.map (·.1) = s.recs
  mem : ∀ e ∈ x.rs, (e.2, e.1.data) ∈ x.rows
abbrev NParts (n pp : Nat) (x : NV) (s : Nvm) (Γ : List HP) : List HP :=
  Cells n [vp pp, x.lv, .int .u64 s.next, vi s.root.shape.members, vi s.root.shape.block, vi s.root.shape.segments, vi s.root.shape.stripes, vi s.root.shape.nv, vi s.root.shape.logical, .int .u64 s.root.gen, .int .u64 s.root.durable, vi s.root.stale]
    :: Sl x.lv 4 (x.rs.flatMap recCells) :: Pool x.rows :: Γ
def NvAt (n pp : Nat) (s : Nvm) : HP := fun h => ∃ x : NV, NFits x s ∧ Sat (NParts n pp x s []) h
theorem NvAt.opened {n pp : Nat} {s : Nvm} {Γ : List HP} {h : Hp} (hs : Sat (NvAt n pp s :: Γ) h) : ∃ x : NV, NFits x s ∧ Sat (NParts n pp x s Γ) h := by
  obtain ⟨x, hx⟩ := Sat.ex.1 hs
  obtain ⟨hf, hx⟩ := Sat.pur.1 hx
  exact ⟨x, hf, Sat.flat.1 hx⟩
theorem NvAt.shut {n pp : Nat} {s : Nvm} {Γ : List HP} (x : NV) (hf : NFits x s) : Ent (NParts n pp x s Γ) (NvAt n pp s :: Γ) := fun _ hs =>
  Sat.ex.2 ⟨x, Sat.pur.2 ⟨hf, Sat.flat.2 hs⟩⟩

theorem nroot_spec (n pp : Nat) (s : Nvm) :
    Spec0 Tryz.prog 16 [vp n] (fun _ => True) (fun F => NvAt n pp s :: F) (fun _ : Unit => True) (fun _ => Root.val s.root) (fun _ F => NvAt n pp s :: F) := by
  (refine spec_of Tryz.func16 rfl Tryz.ntmps16 rfl (fun F w0 hrd => ?_))
  (first | refine WC.ex (fun y => NvAt.opened) (fun x hf => ?_) | refine WL.ex (fun y => NvAt.opened) (fun x hf => ?_) | refine WQ.ex (fun y => NvAt.opened) (fun x hf => ?_))
  refine walk ?_
  intro b
  refine walk ?_
  refine wq_retc rfl rfl rfl () rfl trivial ?_
  exact NvAt.shut x hf

theorem nset_spec (n pp : Nat) (s : Nvm × Pow) (x : Root) :
    SpecG Tryz.prog outage 23 [vp n, Root.val x] (fun _ => True) (fun s F => NvAt n pp s.1 :: PowAt pp s.2 :: F)
      (match s.2.tick with | none => .gone s | some p => .ok () ({ s.1 with root := x }, p)) s (fun (_ : Unit) _ => True) (fun _ _ => .tuple #[]) (fun _ _ F => F) := by
  (refine spec_of Tryz.func23 rfl Tryz.ntmps23 rfl (fun F w0 hrd => ?_))
  obtain ⟨s, p⟩ := s
  dsimp only
  (first | refine WC.ex (fun y => NvAt.opened) (fun y hf => ?_) | refine WL.ex (fun y => NvAt.opened) (fun y hf => ?_) | refine WQ.ex (fun y => NvAt.opened) (fun y hf => ?_))
  refine walk ?_
  intro b
  refine walk ?_
  refine gcall (tick_spec pp p) (fun s' hg => ⟨(s, s'), ?_, ?_⟩) (fun _ _ p' hp _ => ?_)
  · unfold ptick at hg
    cases hp : p.tick with
    | none => rw [hp] at hg; cases hg; rfl
    | some q => rw [hp] at hg; cases hg
  · exact Ent.trans perm (NvAt.shut y hf)
  have hp' : p.tick = some p' := by
    unfold ptick at hp
    cases hq : p.tick with
    | none => rw [hq] at hp; cases hp
    | some q => rw [hq] at hp; cases hp; rfl
  refine walk ?_
  refine wq_end0 rfl ((), (), ({ s with root := x }, p')) rfl ⟨by rw [hp'], trivial⟩ ?_
  exact Ent.trans perm (NvAt.shut (s := { s with root := x }) y ⟨hf.recs, hf.mem⟩)

set_option maxHeartbeats 1000000 in
theorem nnew_spec (pp : Nat) :
    Spec0 Tryz.prog 98 [vp pp] (fun _ => True) (fun F => F) (fun _ : Nat => True) (fun n => vp n) (fun n F => NvAt n pp ⟨[], 1, ⟨⟨0, 0, 0, 0, 0, 0⟩, 0, 0, -1⟩⟩ :: F) := by
  (refine spec_of Tryz.func98 rfl Tryz.ntmps98 rfl (fun F w0 hrd => ?_))
  refine walk ?_
  intro b
  refine walk ?_
  refine wq_ret1 rfl rfl b rfl trivial ?_
  refine Ent.trans ?_ (NvAt.shut (s := ⟨[], 1, ⟨⟨0, 0, 0, 0, 0, 0⟩, 0, 0, -1⟩⟩) ⟨.slice none 0 0, [], []⟩ ⟨rfl, fun e he => by cases he⟩)
  exact Ent.skip ((sl_nil 4).trans (Ent.skip Pool.nil))
end Go.Proofs.YtohienhoifgmaaaGreat
end

section
/- Disks: Read, Write, Flush, a blank one. -/
namespace Go.Proofs.YtohienhoifgmaaaGreat
open Go Go.Sl
attribute [local irreducible] Yl WL WC WQ WD

theorem dstep_ok {s s' : DP} {e : Int} (h : dstep s = .ok e s') : ∃ p, s.2.tick = some p ∧ s' = (s.1.begun p, p) ∧ e = if (s.1.begun p).dead then 8 else 0 := by
  unfold dstep at h
  cases hp : s.2.tick with
  | none => rw [hp] at h; cases h
  | some p => rw [hp] at h; cases h; exact ⟨p, rfl, rfl, rfl⟩
theorem dstep_on {s s' : DP} {e : Int} (h : dstep s = .ok e s') : s'.1.on = s.1.on := by
  obtain ⟨p, _, rfl, _⟩ := dstep_ok h; rfl
theorem dread_spec (d pp : Nat) (s : DP) (i : Int) :
    SpecG Tryz.prog outage 197 [vp d, vi i] (fun _ => True) (fun s F => DiskAt d pp s.1 :: PowAt pp s.2 :: F) (dread i s) s (fun (_ : Value) _ => True) (fun r a => .tuple #[r, vi a.2]) (fun r a F => SlB r a.1 :: F) := by
  (refine spec_of Tryz.func197 rfl Tryz.ntmps197 rfl (fun F w0 hrd => ?_))
  refine walk ?_
  refine call (has_spec d pp s.1 i) ?_
  intro _ _
  refine walk ?_
  refine wif_dec (fun hh => ?_) (fun hh => ?_)
  rotate_left
  · refine walk ?_
    exact wq_ret2 rfl rfl rfl (_, ([], 1), s) rfl ⟨by unfold dread; rw [if_neg (by simpa [Dsk.has] using hh)], trivial⟩ (sl_nil 1)
  have hm : dread i s = (dstep s).bind fun e s => if e = 0 then .ok (s.1.see i, 0) s else .ok ([], e) s := by unfold dread; rw [if_pos (by simpa [Dsk.has] using hh)]
  refine walk ?_
  refine gcall (step_spec d pp s) (fun s' hg => ⟨s', ?_, ?_⟩) (fun _ e s' hs _ => ?_)
  · rw [hm, hg]; rfl
  · exact ent
  rw [hs] at hm
  refine walk ?_
  refine wif_dec (fun he => ?_) (fun he => ?_) <;> refine walk ?_
  · exact wq_ret2 rfl rfl rfl (_, ([], e), s') rfl ⟨by rw [hm]; simp [he], trivial⟩ (sl_nil 1)
  have he : e = 0 := by omega
  have hh' : 0 ≤ i ∧ i < s'.1.on.length := by rw [dstep_on hs]; exact hh
  have hm : dread i s = .ok (s'.1.see i, 0) s' := by rw [hm]; simp [he]
  (first | refine WC.ex (fun y => DiskAt.opened) (fun x hf => ?_) | refine WL.ex (fun y => DiskAt.opened) (fun x hf => ?_) | refine WQ.ex (fun y => DiskAt.opened) (fun x hf => ?_))
  have hl : x.ons.length = s'.1.on.length := by have := congrArg List.length hf.on; simpa using this
  have hlen : ∀ r ∈ x.rows, True := fun _ _ => trivial
  refine walk ?_
  refine WIf.both (fun hc => ?_) (fun hc => ?_) <;> refine walk ?_
  · rw [Both.vals_get] at hc ⊢
    cases hg : mget x.cs i with
    | none => rw [hg] at hc; cases hc
    | some r =>
      have hr : r ∈ x.rows := hf.mem2 _ (mget_mem hg)
      haveI : RdIn (Pool x.rows :: PowAt pp s'.2 :: F) r.1 1 (r.2.map vb) := Pool.rdIn hr
      have hsee : s'.1.see i = r.2 := by unfold Dsk.see; rw [← hf.cache, Both.data_get, hg]; rfl
      have hb := (hf.ok.cache (i, r.2) (by rw [← hf.cache]; exact List.mem_map.2 ⟨_, mget_mem hg, rfl⟩)).2
      have hsz := hf.ok.size
      refine call (clone_spec r.1 r.2 (by dsimp only at hb; omega)) ?_
      intro v _
      refine walk ?_
      refine wq_ret2 rfl rfl rfl (v, (s'.1.see i, 0), s') rfl ⟨hm, trivial⟩ ?_
      rw [hsee]
      exact Ent.skip (DiskAt.shut x hf)
  · rw [Both.vals_get] at hc
    have hg : mget x.cs i = none := by cases hg : mget x.cs i with
      | none => rfl
      | some r => rw [hg] at hc; cases hc
    have hi : i.toNat < x.ons.length := by omega
    have hr := List.getElem_mem hi
    have hsee : s'.1.see i = x.ons[i.toNat].2 := by
      unfold Dsk.see
      rw [← hf.cache, Both.data_get, hg, ← hf.on]
      simp [hi]
    generalize x.ons[i.toNat] = r at *
    haveI : RdIn (Pool x.rows :: PowAt pp s'.2 :: F) r.1 1 (r.2.map vb) := Pool.rdIn (hf.mem r hr)
    have hb := hf.ok.on r.2 (by rw [← hf.on]; exact List.mem_map.2 ⟨_, hr, rfl⟩)
    have hsz := hf.ok.size
    refine call (clone_spec r.1 r.2 (by omega)) ?_
    intro v _
    refine walk ?_
    refine wq_ret2 rfl rfl rfl (v, (s'.1.see i, 0), s') rfl ⟨hm, trivial⟩ ?_
    rw [hsee]
    exact Ent.skip (DiskAt.shut x hf)


theorem dwrite_spec (d pp : Nat) (s : DP) (i : Int) (v : Value) (b : Bytes) :
    SpecG Tryz.prog outage 198 [vp d, vi i, v] (Rd v 1 (b.map vb)) (fun s F => DiskAt d pp s.1 :: PowAt pp s.2 :: F) (dwrite i b s) s (fun (_ : Unit) _ => True) (fun _ e => vi e) (fun _ _ F => F) := by
  (refine spec_of Tryz.func198 rfl Tryz.ntmps198 rfl (fun F w0 hrd => ?_))
  haveI : RdIn F v 1 (b.map vb) := ⟨hrd⟩
  refine walk ?_
  refine call (has_spec d pp s.1 i) ?_
  intro _ _
  (first | refine WC.ex (fun y => DiskAt.opened) (fun x hf => ?_) | refine WL.ex (fun y => DiskAt.opened) (fun x hf => ?_) | refine WQ.ex (fun y => DiskAt.opened) (fun x hf => ?_))
  refine walk ?_
  (first | (refine wif_cut 8 20 (.bool (decide (¬ ((0 ≤ i ∧ i < s.1.on.length) ∧ (b.length : Int) = s.1.size)))) (fun K => ?_) ?_; refine wif_dec (fun hc => ?_) (fun hc => ?_); (iterate 8 ((first | (refine wl_guard_yes rfl rfl rfl ?_; refine wl_ya ?_) | (refine wl_guard_no rfl rfl rfl rfl rfl ?_) | (refine wl_ya ?_)))); exact K true _ _ rfl (by (repeat (first | exact trivial | refine And.intro (by first | exact trivial | rfl) ?_))) (by simp [hc]) (by first | rfl | (simp; done) | (simp; omega) | (simp [*]; done) | (simp [*]; omega)); (iterate 8 ((first | (refine wl_guard_yes rfl rfl rfl ?_; refine wl_ya ?_) | (refine wl_guard_no rfl rfl rfl rfl rfl ?_) | (refine wl_ya ?_)))); exact K false _ _ rfl (by (repeat (first | exact trivial | refine And.intro (by first | exact trivial | rfl) ?_))) (by simp [hc]) (by first | rfl | (simp; done) | (simp; omega) | (simp [*]; done) | (simp [*]; omega)); try (refine wl_nil ?_)) | (refine wif_cutn 8 20 (.bool (decide (¬ ((0 ≤ i ∧ i < s.1.on.length) ∧ (b.length : Int) = s.1.size)))) (fun K => ?_) ?_; refine wif_dec (fun hc => ?_) (fun hc => ?_); (iterate 8 ((first | (refine wl_guard_yes rfl rfl rfl ?_; refine wl_ya ?_) | (refine wl_guard_no rfl rfl rfl rfl rfl ?_) | (refine wl_ya ?_)))); exact K false _ _ rfl (by (repeat (first | exact trivial | refine And.intro (by first | exact trivial | rfl) ?_))) (by simp [hc]) (by first | rfl | (simp; done) | (simp; omega) | (simp [*]; done) | (simp [*]; omega)); (iterate 8 ((first | (refine wl_guard_yes rfl rfl rfl ?_; refine wl_ya ?_) | (refine wl_guard_no rfl rfl rfl rfl rfl ?_) | (refine wl_ya ?_)))); exact K true _ _ rfl (by (repeat (first | exact trivial | refine And.intro (by first | exact trivial | rfl) ?_))) (by simp [hc]) (by first | rfl | (simp; done) | (simp; omega) | (simp [*]; done) | (simp [*]; omega)); try (refine wl_nil ?_)))
  refine walk ?_
  refine wif_dec (fun hh => ?_) (fun hh => ?_) <;> refine walk ?_
  · exact wq_ret1 rfl rfl ((), 1, s) rfl ⟨by unfold dwrite; rw [if_neg (by simpa [Dsk.has] using hh)], trivial⟩ (DiskAt.shut x hf)
  have hh := Decidable.not_not.1 hh
  have hm : dwrite i b s = (dstep s).bind fun e s => if e = 0 then .ok 0 (s.1.put i b, s.2) else .ok e s := by unfold dwrite; rw [if_pos (by simpa [Dsk.has] using hh)]
  refine WL.ent (DiskAt.shut x hf) ?_
  refine walk ?_
  refine gcall (step_spec d pp s) (fun s' hg => ⟨s', ?_, ?_⟩) (fun _ e s' hs _ => ?_)
  · rw [hm, hg]; rfl
  · exact ent
  rw [hs] at hm
  refine walk ?_
  refine wif_dec (fun he => ?_) (fun he => ?_) <;> refine walk ?_
  · exact wq_ret1 rfl rfl ((), e, s') rfl ⟨by rw [hm]; simp [he], trivial⟩ ent
  have he : e = 0 := by omega
  have hm : dwrite i b s = .ok 0 (s'.1.put i b, s'.2) := by rw [hm]; simp [he]
  obtain ⟨p', _, hs', _⟩ := dstep_ok hs
  have hon : s'.1.on = s.1.on := dstep_on hs
  have hsz : s'.1.size = s.1.size := by rw [hs']; rfl
  (first | refine WC.ex (fun y => DiskAt.opened) (fun x hf => ?_) | refine WL.ex (fun y => DiskAt.opened) (fun x hf => ?_) | refine WQ.ex (fun y => DiskAt.opened) (fun x hf => ?_))
  have hb : b.length ≤ 1099511627776 := by have := hf.ok.size; omega
  have hw := hf.ok.writes
  (refine draw ?_; refine dy 0 ?_; refine dy 1 ?_; refine dy 2 ?_; refine dy 3 ?_; refine dy 4 ?_; refine dy 5 ?_; refine ddo 6 ?_)
  refine call (clone_spec v b hb) ?_
  intro r _
  have hi : i.toNat < s'.1.writes.length := by rw [hw, hon]; omega
  have hf' : DFits { x with cs := mset x.cs i (r, b), rows := (r, b) :: x.rows } (s'.1.put i b) := by
    refine ⟨⟨hf.ok.size0, hf.ok.size, hf.ok.many, ?_, hf.ok.on, ?_, ?_⟩, hf.on, ?_, fun r hr => List.mem_cons_of_mem _ (hf.mem r hr), ?_⟩
    · simp [Dsk.put, hw]
    · intro e he
      rcases mset_in he with rfl | he
      · exact ⟨by show 0 ≤ i ∧ i < s'.1.on.length; rw [hon]; exact hh.1, by show (b.length : Int) = s'.1.size; rw [hsz]; exact hh.2⟩
      · exact hf.ok.cache e he
    · exact mset_nodup hf.ok.keys _ _
    · show Both.data (mset x.cs i (r, b)) = mset s'.1.cache i b
      rw [Both.data_set, hf.cache]
    · intro e he
      rcases mset_in he with rfl | he
      · exact List.mem_cons_self
      · exact List.mem_cons_of_mem _ (hf.mem2 e he)
  have hl : (s'.1.writes.length : Int) = s.1.on.length := by rw [hw, hon]
  (refine walk ?_; refine dlast 7 ?_)
  refine walk ?_
  refine wq_ret1 rfl rfl ((), 0, (s'.1.put i b, s'.2)) rfl ⟨hm, trivial⟩ ?_
  have e1 : s'.1.writes.set i.toNat (w64 (s'.1.writes[i.toNat] + 1)) = (s'.1.put i b).writes := by
    simp [Dsk.put, List.getD, hi]
  have e2 : mset x.cs.vals i r = Both.vals (mset x.cs i (r, b)) := (Both.vals_set x.cs i (r, b)).symm
  rw [e1, e2]
  refine Ent.trans (Γ' := SlB r b :: Pool x.rows :: DCells d pp x s'.1 :: Sl x.onv 1 (x.ons.map (·.1)) :: Sl x.wv 1 ((s'.1.put i b).writes.map vi) :: MapI x.c (Both.vals (mset x.cs i (r, b))) :: PowAt pp s'.2 :: F) perm (Pool.put.trans (Ent.trans ?_ (DiskAt.shut _ hf')))
  exact perm
end Go.Proofs.YtohienhoifgmaaaGreat
end
