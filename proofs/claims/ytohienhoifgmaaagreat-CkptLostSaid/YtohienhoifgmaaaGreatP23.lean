/- several texts, one behind the other -/
import Derived.Test.YtohienhoifgmaaaGreatP22
import Derived.Test.YtohienhoifgmaaaGreatP10
import Derived.Test.YtohienhoifgmaaaGreatP12
import Derived.Test.YtohienhoifgmaaaGreatP14

section
/- The statements' rig: stripes put, and read. -/
namespace Go.Proofs.YtohienhoifgmaaaGreat
open Go Go.Sl
attribute [local irreducible] Yl WL WC WQ WD

/-- a map of bytes, by number -/
abbrev MapB (c : Nat) (m : IMap UInt8) : HP := MapI c (m.map fun p => (p.1, vb p.2))
abbrev strCells (x : UInt8 × UInt8) : List Value := [vb x.1, vb x.2]
instance : FLen strCells 2 := ⟨fun _ => rfl⟩
instance {cv : Value} {rows : List Row} {Γ : List HP} : ReadIn (Sl cv 1 (rows.map (·.1)) :: Pool rows :: Γ) (fun h => Rd cv 1 (rows.map (·.1)) h ∧ ∀ r ∈ rows, Rd r.1 1 (r.2.map vb) h) := ⟨fun h hs => by
  obtain ⟨h1, a, p⟩ := hs.one
  obtain ⟨h2, a', p'⟩ := hs.tail.one
  exact ⟨(Sl.rd p).mono a, fun r hr => (p' r hr).mono a'⟩⟩

/-- what the statements' shapes are -/
structure Neat (s : Shp) : Prop where
  ok : s.Ok
theorem chunksOf_chunks {s : Shp} (h : s.Ok) (f : UInt8) : Chunks s (chunksOf s f) := by
  have h1 := h.members
  have h2 := h.block
  refine ⟨by simp [chunksOf]; omega, fun b hb => ?_⟩
  obtain ⟨k, _, rfl⟩ := List.mem_map.1 hb
  exact blockOf_len s (by omega) _
theorem chunksOf_get {s : Shp} (f : UInt8) {c : Nat} (hc : (c : Int) < s.members - 1) : (chunksOf s f).getD c [] = blockOf s (chunkFill f c) := by
  have : c < (s.members - 1).toNat := by omega
  unfold chunksOf
  rw [List.getD, List.getElem?_map, List.getElem?_range this]; rfl

/-- stripes are put: what is kept of them all -/
def PutJ (s : Shp) (bk : Bool) (J : IMap UInt8 → Rig → Prop) : Prop := ∀ m r (t : Int) (f : UInt8), 0 ≤ t ∧ t < s.all → J m r →
  (aput s t (chunksOf s f) r).Sat (fun e r' => (e = 0 ∧ J (mset m t f) r') ∨ (bk = true ∧ e = 3 ∧ r'.broken = true ∧ J (mdel m t) r')) (fun _ => False)
theorem sat_ok {σ α : Type} {m : Out σ α} {Q : α → σ → Prop} (h : m.Sat Q (fun _ => False)) : ∃ a s, m = .ok a s ∧ Q a s := by
  cases m with
  | ok a s => exact ⟨a, s, rfl, h⟩
  | gone s => exact h.elim

/-- stripes are read: what is kept -/
def GetJ (s : Shp) (bk : Bool) (J : Rig → Prop) (m : IMap UInt8) : Prop := ∀ r (t : Int) (f : UInt8) (c : Nat), 0 ≤ t ∧ t < s.all → (c : Int) < s.members - 1 → mget m t = some f → J r →
  (achunk s t c r).Sat (fun x r' => J r' ∧ (x = (blockOf s (chunkFill f c), 0) ∨ (bk = true ∧ x = ([], 3) ∧ r'.broken = true))) (fun _ => False)
end Go.Proofs.YtohienhoifgmaaaGreat
end

section
/- Small shapes: the statements' own. -/
namespace Go.Proofs.YtohienhoifgmaaaGreat
open Go Go.Sl
attribute [local irreducible] Yl WL WC WQ WD

structure Small where
  members : UInt8
  block : UInt8
  segments : UInt8
  stripes : UInt8
  nv : UInt8
  logical : UInt8
abbrev Small.val (x : Small) : Value := .agg [vb x.members, vb x.block, vb x.segments, vb x.stripes, vb x.nv, vb x.logical].toArray
abbrev u5 (x : UInt8) : Int := x.toNat
def shapeOf (x : Small) : Shp :=
  let m := 3 + u5 x.members % 3
  let g := 4 + u5 x.segments % 3
  let t := 2 + u5 x.stripes % 2
  ⟨m, max (15 + 5 * (m - 2)) 32 + u5 x.block % 9, g, t, (m - 2) + u5 x.nv % (t * (m - 2) - (m - 2) + 1), 1 + u5 x.logical % ((g - 3) * (t - 1) * (m - 2))⟩
theorem shapeOf_ok (x : Small) : (shapeOf x).Ok := by
  have h1 := x.members.toNat_lt
  have h2 := x.segments.toNat_lt
  have hm : 3 ≤ (shapeOf x).members ∧ (shapeOf x).members ≤ 5 := by unfold shapeOf; dsimp only; omega
  have hg : 4 ≤ (shapeOf x).segments ∧ (shapeOf x).segments ≤ 6 := by unfold shapeOf; dsimp only; omega
  have ht : 2 ≤ (shapeOf x).stripes ∧ (shapeOf x).stripes ≤ 3 := by unfold shapeOf; dsimp only; omega
  have hb : max (15 + 5 * ((shapeOf x).members - 2)) 32 ≤ (shapeOf x).block ∧ (shapeOf x).block ≤ max (15 + 5 * ((shapeOf x).members - 2)) 32 + 8 := by unfold shapeOf; dsimp only; omega
  have hts : (shapeOf x).slots ≤ (shapeOf x).stripes * (shapeOf x).slots := by
    unfold Shp.slots
    have : 1 * ((shapeOf x).members - 2) ≤ (shapeOf x).stripes * ((shapeOf x).members - 2) := Int.mul_le_mul_of_nonneg_right (by omega) (by omega)
    omega
  have hts2 : (shapeOf x).stripes * (shapeOf x).slots ≤ 9 := by
    unfold Shp.slots
    have : (shapeOf x).stripes * ((shapeOf x).members - 2) ≤ 3 * 3 := Int.mul_le_mul (by omega) (by omega) (by omega) (by omega)
    omega
  have hn : (shapeOf x).slots ≤ (shapeOf x).nv ∧ (shapeOf x).nv ≤ (shapeOf x).stripes * (shapeOf x).slots := by
    have e : (shapeOf x).nv = (shapeOf x).slots + u5 x.nv % ((shapeOf x).stripes * (shapeOf x).slots - (shapeOf x).slots + 1) := rfl
    have h3 := Int.emod_nonneg (u5 x.nv) (b := (shapeOf x).stripes * (shapeOf x).slots - (shapeOf x).slots + 1) (by omega)
    have h4 := Int.emod_lt_of_pos (u5 x.nv) (b := (shapeOf x).stripes * (shapeOf x).slots - (shapeOf x).slots + 1) (by omega)
    omega
  have hl : 1 ≤ (shapeOf x).logical ∧ (shapeOf x).logical ≤ (shapeOf x).most := by
    have e : (shapeOf x).logical = 1 + u5 x.logical % (shapeOf x).most := rfl
    have hp : 0 < (shapeOf x).most := by
      unfold Shp.most Shp.slots
      exact Int.mul_pos (Int.mul_pos (by omega) (by omega)) (by omega)
    have h3 := Int.emod_nonneg (u5 x.logical) (b := (shapeOf x).most) (by omega)
    have h4 := Int.emod_lt_of_pos (u5 x.logical) hp
    omega
  refine ⟨by omega, by omega, by omega, by omega, ?_, by omega, hl⟩
  unfold Shp.note Shp.slots
  omega
theorem shape5_spec (x : Small) :
    Spec0 Tryz.prog 20 [Small.val x] (fun _ => True) (fun F => F) (fun _ : Unit => True) (fun _ => Shp.val (shapeOf x)) (fun _ F => F) := by
  (refine spec_of Tryz.func20 rfl Tryz.ntmps20 rfl (fun F w0 hrd => ?_))
  have h1 := x.members.toNat_lt
  have h2 := x.segments.toNat_lt
  refine walk ?_
  intro c
  refine walk ?_
  intro b
  refine walk ?_
  obtain ⟨m, hm⟩ : ∃ m, m = 3 + u5 x.members % 3 := ⟨_, rfl⟩
  obtain ⟨g, hg⟩ : ∃ g, g = 4 + u5 x.segments % 3 := ⟨_, rfl⟩
  obtain ⟨t, ht⟩ : ∃ t, t = 2 + u5 x.stripes % 2 := ⟨_, rfl⟩
  have hs : shapeOf x = ⟨m, max (15 + 5 * (m - 2)) 32 + u5 x.block % 9, g, t, (m - 2) + u5 x.nv % (t * (m - 2) - (m - 2) + 1), 1 + u5 x.logical % ((g - 3) * (t - 1) * (m - 2))⟩ := by rw [hm, hg, ht]; rfl
  rw [hs, ← hm, ← hg, ← ht]
  have hm' : 3 ≤ m ∧ m ≤ 5 := by omega
  have hg' : 4 ≤ g ∧ g ≤ 6 := by omega
  have ht' : 2 ≤ t ∧ t ≤ 3 := by omega
  clear hs hm hg ht
  have p1 : 1 * (m - 2) ≤ t * (m - 2) := Int.mul_le_mul_of_nonneg_right (by omega) (by omega)
  have p2 : t * (m - 2) ≤ 3 * 3 := Int.mul_le_mul (by omega) (by omega) (by omega) (by omega)
  have p3 : (g - 3) * (t - 1) ≤ 3 * 2 := Int.mul_le_mul (by omega) (by omega) (by omega) (by omega)
  have p4 : 0 < (g - 3) * (t - 1) := Int.mul_pos (by omega) (by omega)
  have p5 : (g - 3) * (t - 1) * (m - 2) ≤ 6 * 3 := Int.mul_le_mul (by omega) (by omega) (by omega) (by omega)
  have p6 : 0 < (g - 3) * (t - 1) * (m - 2) := Int.mul_pos p4 (by omega)
  have n1 := x.block.toNat_lt
  have n2 := x.nv.toNat_lt
  have n3 := x.logical.toNat_lt
  have q1 := Int.emod_nonneg (x.nv.toNat : Int) (b := t * (m - 2) - (m - 2) + 1) (by omega)
  have q2 := Int.emod_lt_of_pos (x.nv.toNat : Int) (b := t * (m - 2) - (m - 2) + 1) (by omega)
  have q3 := Int.emod_nonneg (x.logical.toNat : Int) (b := (g - 3) * (t - 1) * (m - 2)) (by omega)
  have q4 := Int.emod_lt_of_pos (x.logical.toNat : Int) p6
  intro b3
  refine walk ?_
  exact wq_retc rfl rfl rfl () rfl trivial perm
end Go.Proofs.YtohienhoifgmaaaGreat
end
