/- several texts, one behind the other -/
import Derived.Test.YtohienhoifgmaaaGreatP15
import Derived.Test.YtohienhoifgmaaaGreatP16
import Derived.Test.YtohienhoifgmaaaGreatP10
import Derived.Test.YtohienhoifgmaaaGreatP11
import Derived.Test.YtohienhoifgmaaaGreatP12

section
/- A rig: members, a memory, of one power; what each does, of them all. -/
namespace Go.Proofs.YtohienhoifgmaaaGreat
open Go Go.Sl
attribute [local irreducible] Yl WL WC WQ WD

/-- disks, one behind the other -/
def Disks (pp : Nat) : List Nat → List Dsk → List HP
  | [], _ => []
  | _ :: _, [] => []
  | p :: ps, d :: ds => DiskAt p pp d :: Disks pp ps ds
/-- all but one -/
def DisksBut (pp : Nat) : Nat → List Nat → List Dsk → List HP
  | _, [], _ => []
  | _, _ :: _, [] => []
  | 0, _ :: ps, _ :: ds => Disks pp ps ds
  | i + 1, p :: ps, d :: ds => DiskAt p pp d :: DisksBut pp i ps ds
theorem Disks.take {pp : Nat} : ∀ (i : Nat) (ps : List Nat) (ds : List Dsk) (Γ : List HP) (hi : i < ps.length) (hd : i < ds.length), Ent (Disks pp ps ds ++ Γ) (DiskAt ps[i] pp ds[i] :: (DisksBut pp i ps ds ++ Γ))
  | _, [], _, _, hi, _ => by simp at hi
  | _, _ :: _, [], _, _, hd => by simp at hd
  | 0, p :: ps, d :: ds, Γ, _, _ => Ent.refl
  | i + 1, p :: ps, d :: ds, Γ, hi, hd => by
    simp only [List.length_cons] at hi hd
    exact (Ent.skip (Disks.take i ps ds Γ (by omega) (by omega))).trans Ent.swap
theorem Disks.give {pp : Nat} : ∀ (i : Nat) (ps : List Nat) (ds : List Dsk) (Γ : List HP) (d : Dsk) (hi : i < ps.length) (_hd : i < ds.length), Ent (DiskAt ps[i] pp d :: (DisksBut pp i ps ds ++ Γ)) (Disks pp ps (ds.set i d) ++ Γ)
  | _, [], _, _, _, hi, _ => by simp at hi
  | _, _ :: _, [], _, _, _, hd => by simp at hd
  | 0, p :: ps, d :: ds, Γ, _, _, _ => Ent.refl
  | i + 1, p :: ps, d :: ds, Γ, d', hi, hd => by
    simp only [List.length_cons] at hi hd
    exact Ent.swap.trans (Ent.skip (Disks.give i ps ds Γ d' (by omega) (by omega)))
/-- all disks, as one part -/
def Dks (pp : Nat) (ps : List Nat) (ds : List Dsk) : HP := fun h => ds.length = ps.length ∧ Sat (Disks pp ps ds) h
def DksBut (pp i : Nat) (ps : List Nat) (ds : List Dsk) : HP := fun h => ds.length = ps.length ∧ Sat (DisksBut pp i ps ds) h
theorem Dks.len {pp : Nat} {ps : List Nat} {ds : List Dsk} {Γ : List HP} {h : Hp} (hs : Sat (Dks pp ps ds :: Γ) h) : ds.length = ps.length := (Sat.pur.1 hs).1
theorem Dks.take {pp : Nat} {ps : List Nat} {ds : List Dsk} {Γ : List HP} {i : Nat} (hi : i < ps.length) : Ent (Dks pp ps ds :: Γ) (DiskAt ps[i] pp (ds.getD i (Dsk.blank 0 0)) :: DksBut pp i ps ds :: Γ) := fun _ hs => by
  obtain ⟨hl, hs⟩ := Sat.pur.1 hs
  have hd : i < ds.length := by omega
  rw [show ds.getD i (Dsk.blank 0 0) = ds[i] from by simp [List.getD, hd]]
  exact (Disks.take i ps ds Γ hi hd _ (Sat.flat.1 hs)).cons (fun _ x => Sat.pur.2 ⟨hl, Sat.flat.2 x⟩)
theorem Dks.give {pp : Nat} {ps : List Nat} {ds : List Dsk} {Γ : List HP} {i : Nat} (hi : i < ps.length) (d : Dsk) : Ent (DiskAt ps[i] pp d :: DksBut pp i ps ds :: Γ) (Dks pp ps (ds.set i d) :: Γ) := fun _ hs => by
  obtain ⟨hl, hs⟩ := Sat.pur.1 hs.swap
  have hd : i < ds.length := by omega
  exact Sat.pur.2 ⟨by simpa using hl, Sat.flat.2 (Disks.give i ps ds Γ d hi hd _ (hs.swap.cons (fun _ x => Sat.flat.1 x)))⟩

/-- where all lies: the array, the memory, the power, the members -/
structure Keys where
  a : Nat
  n : Nat
  pp : Nat
  ps : List Nat
  lv : Value
  sh : Shp
abbrev dev (p : Nat) : Value := .iface 98 (vp p)
/-- an array over disks -/
abbrev RigAt (k : Keys) (r : Rig) (F : List HP) : List HP :=
  Cells k.a [vi k.sh.members, vi k.sh.block, vi k.sh.segments, vi k.sh.stripes, vi k.sh.nv, vi k.sh.logical, k.lv, vp k.n, .bool r.broken] ::
    Sl k.lv 1 (k.ps.map dev) :: NvAt k.n k.pp r.nv :: PowAt k.pp r.pow :: Dks k.pp k.ps r.ds :: F
/-- a shape that may be, and as many members -/
structure Keys.Ok (k : Keys) : Prop where
  sh : k.sh.Ok
  mem : (k.ps.length : Int) = k.sh.members

instance : MethT Tryz.prog 98 "Read" 197 := ⟨fun v w => by kernel_rfl⟩
instance : MethT Tryz.prog 98 "Write" 198 := ⟨fun v w => by kernel_rfl⟩
instance : MethT Tryz.prog 98 "Flush" 196 := ⟨fun v w => by kernel_rfl⟩
instance : Fld1 Tryz.prog 43 3 8 := ⟨fun cs v w h => by simp [Instr.field, Tryz.runUnderlying43, part, asAgg, Tryz.isAgg3, h]⟩
instance : FldA Tryz.prog 43 0 0 6 := ⟨fun cs w => by simp [Instr.field, Tryz.runUnderlying43, part, asAgg, Tryz.isAgg27, Tryz.sizeOf27]⟩

/-- what is done, with the state put into a greater one -/
def _root_.Go.Sl.Out.up {σ σ' α : Type} (f : σ → σ') : Out σ α → Out σ' α
  | .ok a s => .ok a (f s)
  | .gone s => .gone (f s)
theorem _root_.Go.Sl.SpecG.conv {P : Program} {t : TypeId} {f : FuncId} {args : List Value} {rd : Hp → Prop} {σ σ' α X : Type} {part : σ → List HP → List HP} {m : Out σ α} {s : σ} {φ : X → α → Prop} {v : X → α → Value} {res : X → α → List HP → List HP}
    (hs : SpecG P t f args rd part m s φ v res) (up : σ → σ') {part' : σ' → List HP → List HP} {s' : σ'} {m' : Out σ' α} (fr : List HP → List HP) (hm : m' = m.up up)
    (hin : ∀ F, Ent (part' s' F) (part s (fr F))) (hout : ∀ s1 F, Ent (part s1 (fr F)) (part' (up s1) F)) (hfr : ∀ F, Ent (fr F) F)
    (hres : ∀ x a A B, Ent A B → Ent (res x a A) (res x a B)) : SpecG P t f args rd part' m' s' φ v res := by
  subst hm
  intro F w hr hsat
  refine (hs (fr F) w (fun h hh => hr h (hfr F h hh)) (hin F _ hsat)).mono fun e w' he => ?_
  obtain ⟨hev, ⟨x, ⟨hx, hp⟩, he, hq⟩ | ⟨y, hy, he, hq⟩⟩ := he
  · refine ⟨hev, .inl ⟨(x.1, x.2.1, up x.2.2), ⟨?_, hp⟩, he, hres _ _ _ _ (hout _ _) _ hq⟩⟩
    show Out.up up m = _
    rw [hx]; rfl
  · refine ⟨hev, .inr ⟨up y, ?_, he, hout _ _ _ hq⟩⟩
    show Out.up up m = _
    rw [show m = .gone y from hy]; rfl
theorem _root_.Go.Sl.Rig.dev_up {α : Type} (r : Rig) (m : Nat) (f : DP → Out DP α) : r.dev m f = (f (r.at m, r.pow)).up (r.put m) := by
  unfold Rig.dev
  cases f (r.at m, r.pow) <;> rfl
abbrev RigBut (k : Keys) (r : Rig) (m : Nat) (F : List HP) : List HP :=
  Cells k.a [vi k.sh.members, vi k.sh.block, vi k.sh.segments, vi k.sh.stripes, vi k.sh.nv, vi k.sh.logical, k.lv, vp k.n, .bool r.broken] ::
    Sl k.lv 1 (k.ps.map dev) :: NvAt k.n k.pp r.nv :: DksBut k.pp m k.ps r.ds :: F
theorem RigAt.take {k : Keys} {r : Rig} {m : Nat} (hm : m < k.ps.length) {F : List HP} : Ent (RigAt k r F) (DiskAt k.ps[m] k.pp (r.ds.getD m (Dsk.blank 0 0)) :: PowAt k.pp r.pow :: RigBut k r m F) :=
  Ent.trans (Γ' := Dks k.pp k.ps r.ds :: Cells k.a [vi k.sh.members, vi k.sh.block, vi k.sh.segments, vi k.sh.stripes, vi k.sh.nv, vi k.sh.logical, k.lv, vp k.n, .bool r.broken] ::
    Sl k.lv 1 (k.ps.map dev) :: NvAt k.n k.pp r.nv :: PowAt k.pp r.pow :: F) perm ((Dks.take hm).trans perm)
theorem RigAt.give {k : Keys} {r : Rig} {m : Nat} (hm : m < k.ps.length) {F : List HP} (s : DP) : Ent (DiskAt k.ps[m] k.pp s.1 :: PowAt k.pp s.2 :: RigBut k r m F) (RigAt k { r with pow := s.2, ds := r.ds.set m s.1 } F) :=
  Ent.trans (Γ' := DiskAt k.ps[m] k.pp s.1 :: DksBut k.pp m k.ps r.ds :: Cells k.a [vi k.sh.members, vi k.sh.block, vi k.sh.segments, vi k.sh.stripes, vi k.sh.nv, vi k.sh.logical, k.lv, vp k.n, .bool r.broken] ::
    Sl k.lv 1 (k.ps.map dev) :: NvAt k.n k.pp r.nv :: PowAt k.pp s.2 :: F) perm ((Dks.give hm s.1).trans perm)
theorem RigBut.drop {k : Keys} {r : Rig} {m : Nat} {F : List HP} : Ent (RigBut k r m F) F := perm
section dev
variable (k : Keys) (r : Rig) (m : Nat) (hm : m < k.ps.length) (i : Int)
include hm
theorem rread_spec : SpecG Tryz.prog outage 197 [vp k.ps[m], vi i] (fun _ => True) (RigAt k) (r.dev m (dread i)) r (fun (_ : Value) _ => True) (fun v a => .tuple #[v, vi a.2]) (fun v a F => SlB v a.1 :: F) :=
  SpecG.conv (dread_spec k.ps[m] k.pp (r.at m, r.pow) i) (r.put m) (RigBut k r m) (r.dev_up m _) (fun _ => RigAt.take hm) (fun s _ => RigAt.give hm s) (fun _ => RigBut.drop) (fun _ _ _ _ h => Ent.skip h)
theorem rwrite_spec (v : Value) (b : Bytes) : SpecG Tryz.prog outage 198 [vp k.ps[m], vi i, v] (Rd v 1 (b.map vb)) (RigAt k) (r.dev m (dwrite i b)) r (fun (_ : Unit) _ => True) (fun _ e => vi e) (fun _ _ F => F) :=
  SpecG.conv (dwrite_spec k.ps[m] k.pp (r.at m, r.pow) i v b) (r.put m) (RigBut k r m) (r.dev_up m _) (fun _ => RigAt.take hm) (fun s _ => RigAt.give hm s) (fun _ => RigBut.drop) (fun _ _ _ _ h => h)
theorem rflush_spec : SpecG Tryz.prog outage 196 [vp k.ps[m]] (fun _ => True) (RigAt k) (r.dev m dflush) r (fun (_ : Unit) _ => True) (fun _ e => vi e) (fun _ _ F => F) :=
  SpecG.conv (dflush_spec k.ps[m] k.pp (r.at m, r.pow)) (r.put m) (RigBut k r m) (r.dev_up m _) (fun _ => RigAt.take hm) (fun s _ => RigAt.give hm s) (fun _ => RigBut.drop) (fun _ _ _ _ h => h)
end dev
theorem _root_.Go.Sl.Rig.set_up (r : Rig) (x : Root) : r.set x = (match r.pow.tick with | none => .gone (r.nv, r.pow) | some p => .ok () ({ r.nv with root := x }, p) : Out (Nvm × Pow) Unit).up (fun s => { r with nv := s.1, pow := s.2 }) := by
  unfold Rig.set
  cases r.pow.tick <;> rfl
theorem rset_spec (k : Keys) (r : Rig) (x : Root) : SpecG Tryz.prog outage 23 [vp k.n, Root.val x] (fun _ => True) (RigAt k) (r.set x) r (fun (_ : Unit) _ => True) (fun _ _ => .tuple #[]) (fun _ _ F => F) :=
  SpecG.conv (nset_spec k.n k.pp (r.nv, r.pow) x) (fun s => { r with nv := s.1, pow := s.2 }) (fun F => Cells k.a [vi k.sh.members, vi k.sh.block, vi k.sh.segments, vi k.sh.stripes, vi k.sh.nv, vi k.sh.logical, k.lv, vp k.n, .bool r.broken] ::
    Sl k.lv 1 (k.ps.map dev) :: Dks k.pp k.ps r.ds :: F) (r.set_up x) (fun _ => perm) (fun _ _ => perm) (fun _ => perm) (fun _ _ _ _ h => h)
theorem stale_spec (k : Keys) (r : Rig) :
    Spec0 Tryz.prog 64 [vp k.a] (fun _ => True) (fun F => RigAt k r F) (fun _ : Unit => True) (fun _ => vi r.stale) (fun _ F => RigAt k r F) := by
  (refine spec_of Tryz.func64 rfl Tryz.ntmps64 rfl (fun F w0 hrd => ?_))
  refine walk ?_
  refine call (nroot_spec k.n k.pp r.nv) ?_
  intro _ _
  refine walk ?_
  exact wq_ret1 rfl rfl () rfl trivial perm

theorem lost_spec (k : Keys) (r : Rig) (m : Int) :
    SpecG Tryz.prog outage 65 [vp k.a, vi m] (fun _ => True) (RigAt k) (alost m r) r (fun (_ : Unit) _ => True) (fun _ e => vi e) (fun _ _ F => F) := by
  (refine spec_of Tryz.func65 rfl Tryz.ntmps65 rfl (fun F w0 hrd => ?_))
  refine walk ?_
  refine call (nroot_spec k.n k.pp r.nv) ?_
  intro _ _
  refine walk ?_
  intro b
  refine walk ?_
  refine wif_dec (fun h1 => ?_) (fun h1 => ?_) <;> refine walk ?_
  · exact wq_ret1 rfl rfl ((), 0, r) rfl ⟨by unfold alost Rig.stale; rw [if_pos h1], trivial⟩ perm
  refine wif_dec (fun h2 => ?_) (fun h2 => ?_) <;> refine walk ?_
  · have hm : alost m r = (r.set { r.nv.root with stale := m }).bind fun _ r => .ok 0 r := by unfold alost Rig.stale; rw [if_neg h1, if_pos h2]
    (refine draw ?_; refine dy 0 ?_; refine dy 1 ?_; refine dy 2 ?_; refine dy 3 ?_; refine dy 4 ?_; refine ddx 5 ?_)
    (refine gcall (rset_spec k r { r.nv.root with stale := m }) (fun s' hg => ⟨s', ?_, ?_⟩) (fun x a r' hp _ => ?_); (rw [hm, hg] <;> rfl); (first | (exact perm) | (exact permL)); (rw [hp] at hm); (try rw [Out.bind_ok] at hm))
    refine walk ?_
    exact wq_ret1 rfl rfl ((), 0, r') rfl ⟨hm, trivial⟩ perm
  · have hm : alost m r = .ok 3 { r with broken := true } := by unfold alost Rig.stale; rw [if_neg h1, if_neg h2]
    exact wq_ret1 rfl rfl ((), 3, _) rfl ⟨hm, trivial⟩ perm

theorem awrite_spec (k : Keys) (r : Rig) (m : Nat) (hm : m < k.ps.length) (i : Int) (v : Value) (b : Bytes) :
    SpecG Tryz.prog outage 66 [vp k.a, vi m, vi i, v] (Rd v 1 (b.map vb)) (RigAt k) (awrite m i b r) r (fun (_ : Unit) _ => True) (fun _ e => vi e) (fun _ _ F => F) := by
  (refine spec_of Tryz.func66 rfl Tryz.ntmps66 rfl (fun F w0 hrd => ?_))
  haveI : RdIn F v 1 (b.map vb) := ⟨hrd⟩
  have hr : awrite m i b r = (r.dev m (dwrite i b)).bind fun e r => if e ≠ 0 ∧ (m : Int) ≠ r.stale then alost m r else .ok 0 r := rfl
  refine walk ?_
  (refine gicall (rwrite_spec k r m hm i v b) (fun s' hg => ⟨s', ?_, ?_⟩) (fun x e r1 h1 _ => ?_); (rw [hr, hg] <;> rfl); (first | (exact perm) | (exact permL)); (rw [h1] at hr); (try rw [Out.bind_ok] at hr))
  refine walk ?_
  refine wif_dec (fun h0 => ?_) (fun h0 => ?_) <;> refine walk ?_
  · refine call (stale_spec k r1) ?_
    intro _ _
    refine walk ?_
    refine wif_dec (fun h2 => ?_) (fun h2 => ?_) <;> refine walk ?_
    · rw [if_pos ⟨h0, h2⟩] at hr
      (refine gcall (lost_spec k r1 m) (fun s' hg => ⟨s', ?_, ?_⟩) (fun x e2 r2 h2 _ => ?_); (rw [hr, hg] <;> rfl); (first | (exact perm) | (exact permL)); (rw [h2] at hr); (try rw [Out.bind_ok] at hr))
      refine walk ?_
      exact wq_ret1 rfl rfl ((), e2, r2) rfl ⟨hr, trivial⟩ perm
    · exact wq_ret1 rfl rfl ((), 0, r1) rfl ⟨by rw [hr, if_neg (fun h => h2 h.2)], trivial⟩ perm
  · exact wq_ret1 rfl rfl ((), 0, r1) rfl ⟨by rw [hr, if_neg (fun h => h0 h.1)], trivial⟩ perm
end Go.Proofs.YtohienhoifgmaaaGreat
end

section
/- xor.Of: bytes, bit by bit. -/
namespace Go.Proofs.YtohienhoifgmaaaGreat
open Go Go.Sl
attribute [local irreducible] Yl WL WC WQ WD

/-- the first of others are put onto bytes -/
def xorTo (j : Nat) (out b : Bytes) : Bytes := out.mapIdx fun i x => if i < j ∧ i < b.length then x ^^^ b.getD i 0 else x
theorem xorTo_zero (out b : Bytes) : xorTo 0 out b = out := by
  apply List.ext_getElem? ; intro i; simp [xorTo]
theorem xorTo_all (out b : Bytes) : xorTo b.length out b = xorIn out b := by
  apply List.ext_getElem? ; intro i; simp [xorTo, xorIn]
theorem xorTo_len (j : Nat) (out b : Bytes) : (xorTo j out b).length = out.length := by simp [xorTo]
theorem xorTo_next {j : Nat} {out b : Bytes} (hj : j < b.length) (ho : j < out.length) : (xorTo j out b).set j ((xorTo j out b)[j]'(by rw [xorTo_len]; exact ho) ^^^ b[j]) = xorTo (j + 1) out b := by
  apply List.ext_getElem (by simp [xorTo])
  intro i h1 h2
  rw [List.getElem_set]
  have h3 : i < out.length := by simpa [xorTo] using h2
  by_cases h : j = i
  · subst h; simp [xorTo, hj]
  · rw [if_neg h]
    simp only [xorTo, List.getElem_mapIdx]
    by_cases h4 : i < j
    · simp [h4, (by omega : i < j + 1)]
    · rw [if_neg (by omega), if_neg (by omega)]
theorem xorIn_len (out b : Bytes) : (xorIn out b).length = out.length := by simp [xorIn]
theorem longest_snoc (l : List Bytes) (b : Bytes) : longest (l ++ [b]) = max (longest l) b.length := by simp [longest]
theorem longest_le {l : List Bytes} {b : Bytes} (h : b ∈ l) : b.length ≤ longest l := by
  obtain ⟨s, t, rfl⟩ := List.append_of_mem h
  have h1 : ∀ (t : List Bytes) n, n ≤ t.foldl (fun n b => max n b.length) n := fun t => by
    induction t with
    | nil => intro n; simp
    | cons c t ih => intro n; simp only [List.foldl_cons]; exact Nat.le_trans (Nat.le_max_left _ _) (ih _)
  unfold longest
  rw [List.foldl_append, List.foldl_cons]
  exact Nat.le_trans (Nat.le_max_right _ _) (h1 t _)
theorem xors_len (l : List Bytes) (out : Bytes) : (l.foldl xorIn out).length = out.length := by
  induction l generalizing out with
  | nil => rfl
  | cons b l ih => rw [List.foldl_cons, ih, xorIn_len]

def xorUp (l : List Bytes) (k : Nat) : Bytes := (l.take k).foldl xorIn (List.replicate (longest l) 0)
theorem xorUp_zero (l : List Bytes) : xorUp l 0 = List.replicate (longest l) 0 := rfl
theorem xorUp_next {l : List Bytes} {k : Nat} (hk : k < l.length) : xorUp l (k + 1) = xorIn (xorUp l k) l[k] := by
  unfold xorUp
  rw [List.take_succ_eq_append_getElem hk, List.foldl_append]; rfl
theorem xorUp_all (l : List Bytes) : xorUp l l.length = xorOf l := by
  unfold xorUp xorOf
  rw [List.take_length]
theorem xorUp_len (l : List Bytes) (k : Nat) : (xorUp l k).length = longest l := by
  unfold xorUp
  rw [xors_len, List.length_replicate]
theorem xorOf_len (l : List Bytes) : (xorOf l).length = longest l := by rw [← xorUp_all, xorUp_len]

theorem xorOf_spec (v : Value) (rows : List Row) (hn : rows.length ≤ 1048576) (hb : ∀ r ∈ rows, r.2.length ≤ 1099511627776) :
    Spec0 Tryz.prog 132 [v] (fun h => Rd v 1 (rows.map (·.1)) h ∧ ∀ r ∈ rows, Rd r.1 1 (r.2.map vb) h) (fun F => F) (fun _ : Value => True) (fun r => r) (fun r F => SlB r (xorOf (rows.map (·.2))) :: F) := by
  (refine spec_of Tryz.func132 rfl Tryz.ntmps132 rfl (fun F w0 hrd => ?_))
  haveI : RdIn F v 1 (rows.map (·.1)) := ⟨fun h hs => (hrd h hs).1⟩
  have hrow : ∀ r ∈ rows, RdIn F r.1 1 (r.2.map vb) := fun r hr => ⟨fun h hs => (hrd h hs).2 r hr⟩
  have hlen : ∀ k, longest ((rows.take k).map (·.2)) ≤ 1099511627776 := fun k => by
    induction k with
    | zero => simp [longest]
    | succ k ih =>
      by_cases hk : k < rows.length
      · rw [List.take_succ_eq_append_getElem hk, List.map_append, List.map_singleton, longest_snoc]
        have := hb _ (List.getElem_mem hk)
        omega
      · rwa [List.take_of_length_le (by omega), ← List.take_of_length_le (l := rows) (i := k) (by omega)]
  refine walk ?_
  refine wc_loop (X := Nat) (fun k => [(0, v), (3, vi (longest ((rows.take k).map (·.2)) : Nat)), (11, v), (12, vi rows.length), (13, vi k)]) (fun _ => F) (fun k => k ≤ rows.length) (fun k => rows.length - k) 0 (by omega) envs perm (fun k hk => ?_)
  refine walk ?_
  refine wif_dec (fun hlt => ?_) (fun hlt => ?_)
  · have hlt : k < rows.length := by omega
    have htake := List.take_succ_eq_append_getElem hlt
    have hr := List.getElem_mem hlt
    refine walk ?_
    generalize rows[k] = r at *
    haveI := hrow r hr
    refine walk ?_
    refine wq_round (k + 1) (by omega) (by omega) ?_ perm
    rw [htake, List.map_append, List.map_singleton, longest_snoc, show ((max (longest ((rows.take k).map (·.2))) r.2.length : Nat) : Int) = max (longest ((rows.take k).map (·.2)) : Int) r.2.length from by omega]
    exact envs
  · have hk' : k = rows.length := by omega
    subst hk'
    rw [List.take_length]
    have hle := hlen rows.length
    rw [List.take_length] at hle
    refine walk ?_
    intro o _ _
    rw [Int.toNat_natCast]
    refine walk ?_
    have hl : (rows.map (·.2)).length = rows.length := by simp
    refine wc_loop (X := Nat) (fun k => [(6, o), (24, v), (25, vi rows.length), (26, vi k)]) (fun k => SlB o (xorUp (rows.map (·.2)) k) :: F) (fun k => k ≤ rows.length) (fun k => rows.length - k) 0 (by omega) envs (by rw [xorUp_zero]; exact perm) (fun k hk => ?_)
    have hzk := xorUp_len (rows.map (·.2)) k
    refine walk ?_
    refine wif_dec (fun hlt => ?_) (fun hlt => ?_)
    · have hlt : k < rows.length := by omega
      have hnext := xorUp_next (l := rows.map (·.2)) (k := k) (by omega)
      rw [List.getElem_map] at hnext
      have hr := List.getElem_mem hlt
      have hll : rows[k].2.length ≤ longest (rows.map (·.2)) := longest_le (List.mem_map.2 ⟨_, hr, rfl⟩)
      have hb1 := hb _ hr
      refine walk ?_
      generalize rows[k] = r at *
      haveI := hrow r hr
      refine walk ?_
      refine wc_loop (X := Nat) (fun j => [(6, o), (24, v), (25, vi rows.length), (26, vi k), (30, r.1), (31, vi r.2.length), (32, vi j)]) (fun j => SlB o (xorTo j (xorUp (rows.map (·.2)) k) r.2) :: F) (fun j => j ≤ r.2.length) (fun j => r.2.length - j) 0 (by omega) envs (by rw [xorTo_zero]; exact perm) (fun j hj => ?_)
      have hzj := xorTo_len j (xorUp (rows.map (·.2)) k) r.2
      refine walk ?_
      refine wif_dec (fun hlt => ?_) (fun hlt => ?_)
      · have hlt : j < r.2.length := by omega
        have hjo : j < (xorTo j (xorUp (rows.map (·.2)) k) r.2).length := by omega
        have hset := xorTo_next (out := xorUp (rows.map (·.2)) k) hlt (by omega)
        refine walk ?_
        refine wq_round (j + 1) (by omega) (by omega) envs ?_
        rw [← hset]
        exact Ent.refl
      · have hj' : j = r.2.length := by omega
        subst hj'
        rw [xorTo_all, ← hnext]
        refine walk ?_
        exact wq_round (k + 1) (by omega) (by omega) envs perm
    · have hk' : k = rows.length := by omega
      subst hk'
      have hall := xorUp_all (rows.map (·.2))
      rw [hl] at hall
      rw [hall]
      refine walk ?_
      exact wq_ret1 rfl rfl o rfl trivial perm
end Go.Proofs.YtohienhoifgmaaaGreat
end
