/- several texts, one behind the other -/
import Derived.Test.YtohienhoifgmaaaGreatP09
import Derived.Test.YtohienhoifgmaaaGreatP11
import Derived.Test.YtohienhoifgmaaaGreatP10

section
/- Shapes, the root, parity, and members of which one may be missing, in plain Lean: what each operation does. No program. -/
namespace Go.Sl
open Go

structure Shp where
  members : Int
  block : Int
  segments : Int
  stripes : Int
  nv : Int
  logical : Int
def Shp.slots (s : Shp) : Int := s.members - 2
def Shp.note (s : Shp) : Int := 15 + 5 * s.slots
def Shp.most (s : Shp) : Int := (s.segments - 3) * (s.stripes - 1) * s.slots
def Shp.all (s : Shp) : Int := s.segments * s.stripes
def Shp.image (s : Shp) : Int := 12 + 9 * s.segments + 4 * s.logical
def Shp.page (s : Shp) : Int := s.block - 15
def Shp.pages (s : Shp) : Int := (s.image + s.page - 1) / s.page
def Shp.sectors (s : Shp) : Int := 1 + 2 * s.pages + s.all
def Shp.stripeAt (s : Shp) (t : Int) : Int := 1 + 2 * s.pages + t
def Shp.parity (s : Shp) (t : Int) : Int := t % s.members
def Shp.member (s : Shp) (t c : Int) : Int := (t + 1 + c) % s.members
/-- a shape that may be -/
structure Shp.Ok (s : Shp) : Prop where
  members : 3 ≤ s.members ∧ s.members ≤ 16
  segments : 4 ≤ s.segments ∧ s.segments ≤ 64
  stripes : 2 ≤ s.stripes ∧ s.stripes ≤ 16
  block : 32 ≤ s.block ∧ s.block ≤ 512
  note : s.note ≤ s.block
  nv : s.slots ≤ s.nv ∧ s.nv ≤ min (s.stripes * s.slots) 256
  logical : 1 ≤ s.logical ∧ s.logical ≤ s.most

structure Root where
  shape : Shp
  gen : Int
  durable : Int
  stale : Int
structure Rec where
  seq : Int
  kind : Int
  lba : Int
  data : Bytes
structure Nvm where
  recs : List Rec
  next : Int
  root : Root
/-- members, a memory, of one power, and whether a second member failed -/
structure Rig where
  pow : Pow
  ds : List Dsk
  nv : Nvm
  broken : Bool

def Rig.stale (r : Rig) : Int := r.nv.root.stale
def Rig.at (r : Rig) (m : Nat) : Dsk := r.ds.getD m (Dsk.blank 0 0)
def Rig.put (r : Rig) (m : Nat) (s : DP) : Rig := { r with pow := s.2, ds := r.ds.set m s.1 }
/-- what a member does -/
def Rig.dev {α : Type} (r : Rig) (m : Nat) (f : DP → Out DP α) : Out Rig α := match f (r.at m, r.pow) with
  | .ok a s => .ok a (r.put m s)
  | .gone s => .gone (r.put m s)
def Rig.set (r : Rig) (x : Root) : Out Rig Unit := match r.pow.tick with
  | none => .gone r
  | some p => .ok () { r with pow := p, nv := { r.nv with root := x } }
/-- a member failed -/
def alost (m : Int) (r : Rig) : Out Rig Int :=
  if r.stale = m then .ok 0 r
  else if r.stale = -1 then (r.set { r.nv.root with stale := m }).bind fun _ r => .ok 0 r
  else .ok 3 { r with broken := true }
/-- one behind the other, till one says an error -/
def each {α : Type} (f : α → Rig → Out Rig Int) : List α → Rig → Out Rig Int
  | [], r => .ok 0 r
  | x :: l, r => (f x r).bind fun e r => if e = 0 then each f l r else .ok e r
def awrite (m sector : Int) (b : Bytes) (r : Rig) : Out Rig Int :=
  (r.dev m.toNat (dwrite sector b)).bind fun e r => if e ≠ 0 ∧ m ≠ r.stale then alost m r else .ok 0 r
def aflush1 (m : Nat) (r : Rig) : Out Rig Int :=
  (r.dev m dflush).bind fun e r => if e ≠ 0 ∧ (m : Int) ≠ r.stale then alost m r else .ok 0 r
def aflush (r : Rig) : Out Rig Int := if r.broken then .ok 3 r else each aflush1 (List.range r.ds.length) r
/-- bytes, bit by bit, onto others -/
def xorIn (out b : Bytes) : Bytes := out.mapIdx fun i x => if i < b.length then x ^^^ b.getD i 0 else x
def longest (l : List Bytes) : Nat := l.foldl (fun n b => max n b.length) 0
def xorOf (l : List Bytes) : Bytes := l.foldl xorIn (List.replicate (longest l) 0)
/-- the same sector of all members but one: the bytes of each, or the error -/
def gather (m sector : Int) : List Nat → List Bytes → Rig → Out Rig (List Bytes ⊕ Int)
  | [], acc, r => .ok (.inl acc) r
  | i :: l, acc, r =>
    if (i : Int) = m then gather m sector l acc r
    else (r.dev i (dread sector)).bind fun x r => if x.2 ≠ 0 then (alost i r).bind fun e r => .ok (.inr e) r else gather m sector l (acc ++ [x.1]) r
def aothers (m sector : Int) (r : Rig) : Out Rig (Bytes × Int) :=
  (gather m sector (List.range r.ds.length) [] r).bind fun x r => match x with
    | .inl acc => .ok (xorOf acc, 0) r
    | .inr e => .ok ([], e) r
def achunk (s : Shp) (t c : Int) (r : Rig) : Out Rig (Bytes × Int) :=
  if ¬ (0 ≤ t ∧ t < s.all) ∨ c < 0 ∨ c > s.slots then .ok ([], 1) r
  else if r.broken then .ok ([], 3) r
  else if s.member t c ≠ r.stale then
    (r.dev (s.member t c).toNat (dread (s.stripeAt t))).bind fun x r =>
      if x.2 = 0 then .ok (x.1, 0) r
      else (alost (s.member t c) r).bind fun e r => if e ≠ 0 then .ok ([], e) r else aothers (s.member t c) (s.stripeAt t) r
  else aothers (s.member t c) (s.stripeAt t) r
/-- the chunks of a stripe that is put, each with its number -/
def aputs (s : Shp) (t : Int) (chunks : List Bytes) (r : Rig) : Out Rig Int :=
  each (fun x : Bytes × Nat => awrite (s.member t x.2) (s.stripeAt t) x.1) chunks.zipIdx r
def aput (s : Shp) (t : Int) (chunks : List Bytes) (r : Rig) : Out Rig Int :=
  if ¬ ((chunks.length : Int) = s.members - 1 ∧ (0 ≤ t ∧ t < s.all) ∧ ∀ b ∈ chunks, (b.length : Int) = s.block) then .ok 1 r
  else if r.broken then .ok 3 r
  else (aputs s t chunks r).bind fun e r => if e ≠ 0 then .ok e r
    else (awrite (s.parity t) (s.stripeAt t) (xorOf chunks) r).bind fun e r => if e ≠ 0 then .ok e r else aflush r
/-- a sector that all have, from the first one that is current -/
def sameL (sector : Int) : List Nat → Rig → Out Rig (Bytes × Int)
  | [], r => .ok ([], 3) r
  | i :: l, r =>
    if (i : Int) = r.stale then sameL sector l r
    else (r.dev i (dread sector)).bind fun x r => if x.2 = 0 then .ok (x.1, 0) r
      else (alost i r).bind fun e r => if e ≠ 0 then .ok ([], e) r else sameL sector l r
def asame (s : Shp) (sector : Int) (r : Rig) : Out Rig (Bytes × Int) :=
  if sector < 0 ∨ sector ≥ s.sectors then .ok ([], 1) r else if r.broken then .ok ([], 3) r else sameL sector (List.range r.ds.length) r
def aputSame (s : Shp) (sector : Int) (b : Bytes) (r : Rig) : Out Rig Int :=
  if sector < 0 ∨ sector ≥ s.sectors ∨ (b.length : Int) ≠ s.block then .ok 1 r else if r.broken then .ok 3 r
  else each (fun m : Nat => awrite m sector b) (List.range r.ds.length) r
def acopied (m sector : Int) (from_ : Int → Rig → Out Rig (Bytes × Int)) (r : Rig) : Out Rig Int :=
  (from_ sector r).bind fun x r => if x.2 ≠ 0 then .ok x.2 r else r.dev m.toNat (dwrite sector x.1)
def amend (s : Shp) (t : Int) (r : Rig) : Out Rig Int :=
  if ¬ (0 ≤ t ∧ t < s.all) then .ok 1 r else if r.broken then .ok 3 r else if r.stale < 0 then .ok 10 r
  else acopied r.stale (s.stripeAt t) (aothers r.stale) r
def afinish (s : Shp) (first : Bytes) (r : Rig) : Out Rig Int :=
  if (first.length : Int) ≠ s.block then .ok 1 r else if r.broken then .ok 3 r else if r.stale < 0 then .ok 10 r
  else (each (fun i : Nat => acopied r.stale (i + 1 : Nat) (asame s)) (List.range (s.stripeAt 0 - 1).toNat) r).bind fun e r' => if e ≠ 0 then .ok e r'
    else (r'.dev r.stale.toNat (dwrite 0 first)).bind fun e r' => if e ≠ 0 then .ok e r'
    else (r'.dev r.stale.toNat dflush).bind fun e r' => if e ≠ 0 then .ok e r'
    else (r'.set { r'.nv.root with stale := -1 }).bind fun _ r' => .ok 0 r'
def alose (m : Int) (r : Rig) : Out Rig Int :=
  if m < 0 ∨ m ≥ r.ds.length then .ok 1 r else if r.broken then .ok 3 r else alost m r
/-- a blank disk takes the place -/
def areplace (m : Int) (r : Rig) : Out Rig Int :=
  if r.broken then .ok 3 r else if m < 0 ∨ m ≥ r.ds.length ∨ m ≠ r.stale then .ok 1 r
  else .ok 0 { r with ds := r.ds.set m.toNat (r.at m.toNat).anew }
end Go.Sl
end

section
/- What lies where: each function of shapes. -/
namespace Go.Proofs.YtohienhoifgmaaaGreat
open Go Go.Sl
attribute [local irreducible] Yl WL WC WQ WD

abbrev Shp.cells (s : Shp) : List Value := [vi s.members, vi s.block, vi s.segments, vi s.stripes, vi s.nv, vi s.logical]
abbrev Shp.val (s : Shp) : Value := .agg [vi s.members, vi s.block, vi s.segments, vi s.stripes, vi s.nv, vi s.logical].toArray
structure Bounds (s : Shp) : Prop where
  slots : 1 ≤ s.slots ∧ s.slots ≤ 14
  all : 8 ≤ s.segments * s.stripes ∧ s.segments * s.stripes ≤ 1024
  most1 : 0 ≤ (s.segments - 3) * (s.stripes - 1) ∧ (s.segments - 3) * (s.stripes - 1) ≤ 915
  most : 0 ≤ (s.segments - 3) * (s.stripes - 1) * s.slots ∧ (s.segments - 3) * (s.stripes - 1) * s.slots ≤ 12810
  nvs : 0 ≤ s.stripes * s.slots ∧ s.stripes * s.slots ≤ 224
  image : 0 ≤ s.image ∧ s.image ≤ 51828
  page : 17 ≤ s.page ∧ s.page ≤ 497
  pages : 0 ≤ s.pages ∧ s.pages ≤ 60000
  logical : s.logical ≤ 12810
theorem bounds {s : Shp} (h : s.Ok) : Bounds s := by
  have hm := h.members
  have hg := h.segments
  have ht := h.stripes
  have hb := h.block
  have s1 : 1 ≤ s.slots ∧ s.slots ≤ 14 := by unfold Shp.slots; omega
  have a1 : s.segments * s.stripes ≤ 64 * 16 := Int.mul_le_mul hg.2 ht.2 (by omega) (by omega)
  have a2 : 4 * 2 ≤ s.segments * s.stripes := Int.mul_le_mul hg.1 ht.1 (by omega) (by omega)
  have m1 : (s.segments - 3) * (s.stripes - 1) ≤ 61 * 15 := Int.mul_le_mul (by omega) (by omega) (by omega) (by omega)
  have m2 : 0 ≤ (s.segments - 3) * (s.stripes - 1) := Int.mul_nonneg (by omega) (by omega)
  have m3 : (s.segments - 3) * (s.stripes - 1) * s.slots ≤ 915 * 14 := Int.mul_le_mul (by omega) (by omega) (by omega) (by omega)
  have m4 : 0 ≤ (s.segments - 3) * (s.stripes - 1) * s.slots := Int.mul_nonneg m2 (by omega)
  have n1 : s.stripes * s.slots ≤ 16 * 14 := Int.mul_le_mul (by omega) (by omega) (by omega) (by omega)
  have n2 : 0 ≤ s.stripes * s.slots := Int.mul_nonneg (by omega) (by omega)
  have hl : s.logical ≤ 12810 := by have := h.logical; unfold Shp.most at this; omega
  have i1 : 0 ≤ s.image ∧ s.image ≤ 51828 := by have := h.logical; unfold Shp.image; omega
  have p1 : 17 ≤ s.page ∧ s.page ≤ 497 := by unfold Shp.page; omega
  have q1 : 0 ≤ s.pages := by unfold Shp.pages; exact Int.ediv_nonneg (by omega) (by omega)
  have q2 : s.pages ≤ s.image + s.page - 1 := by unfold Shp.pages; exact Int.ediv_le_self _ (by omega)
  exact ⟨s1, by omega, by omega, by omega, by omega, i1, p1, by omega, hl⟩

section geom
variable (s : Shp) (h : s.Ok)
include h
theorem all_spec : Spec0 Tryz.prog 71 [Shp.val s] (fun _ => True) (fun F => F) (fun _ : Unit => True) (fun _ => vi s.all) (fun _ F => F) := by
  (refine spec_of Tryz.func71 rfl Tryz.ntmps71 rfl (fun F w0 hrd => ?_))
  have b := bounds h
  have b1 := b.all
  refine walk ?_
  intro p
  refine walk ?_
  exact wq_ret1 rfl rfl () rfl trivial perm
theorem slots_spec : Spec0 Tryz.prog 72 [Shp.val s] (fun _ => True) (fun F => F) (fun _ : Unit => True) (fun _ => vi s.slots) (fun _ F => F) := by
  (refine spec_of Tryz.func72 rfl Tryz.ntmps72 rfl (fun F w0 hrd => ?_))
  have b := h.members
  refine walk ?_
  intro p
  refine walk ?_
  exact wq_ret1 rfl rfl () rfl trivial perm
theorem note_spec : Spec0 Tryz.prog 114 [Shp.val s] (fun _ => True) (fun F => F) (fun _ : Unit => True) (fun _ => vi s.note) (fun _ F => F) := by
  (refine spec_of Tryz.func114 rfl Tryz.ntmps114 rfl (fun F w0 hrd => ?_))
  have b := (bounds h).slots
  refine walk ?_
  intro p
  refine walk ?_
  refine call (slots_spec s h) ?_
  intro _ _
  refine walk ?_
  exact wq_ret1 rfl rfl () rfl trivial perm
theorem most_spec : Spec0 Tryz.prog 115 [Shp.val s] (fun _ => True) (fun F => F) (fun _ : Unit => True) (fun _ => vi s.most) (fun _ F => F) := by
  (refine spec_of Tryz.func115 rfl Tryz.ntmps115 rfl (fun F w0 hrd => ?_))
  have b := bounds h
  have b1 := b.most1
  have b2 := b.most
  have b3 := h.segments
  have b4 := h.stripes
  refine walk ?_
  intro p
  refine walk ?_
  (refine draw ?_; refine dy 0 ?_; refine dy 1 ?_; refine dy 2 ?_; refine dy 3 ?_; refine dy 4 ?_; refine dy 5 ?_; refine dy 6 ?_; refine dy 7 ?_; refine ddo 8 ?_)
  refine call (slots_spec s h) ?_
  intro _ _
  (refine walk ?_; refine dy 9 ?_; refine dy 10 ?_; refine walk ?_)
  exact wq_ret1 rfl rfl () rfl trivial perm
theorem image_spec : Spec0 Tryz.prog 61 [Shp.val s] (fun _ => True) (fun F => F) (fun _ : Unit => True) (fun _ => vi s.image) (fun _ F => F) := by
  (refine spec_of Tryz.func61 rfl Tryz.ntmps61 rfl (fun F w0 hrd => ?_))
  have b1 := h.segments
  have b2 := h.logical
  have b3 := (bounds h).logical
  refine walk ?_
  intro p
  refine walk ?_
  exact wq_ret1 rfl rfl () rfl trivial perm
theorem page_spec : Spec0 Tryz.prog 62 [Shp.val s] (fun _ => True) (fun F => F) (fun _ : Unit => True) (fun _ => vi s.page) (fun _ F => F) := by
  (refine spec_of Tryz.func62 rfl Tryz.ntmps62 rfl (fun F w0 hrd => ?_))
  have b1 := h.block
  refine walk ?_
  intro p
  refine walk ?_
  exact wq_ret1 rfl rfl () rfl trivial perm
theorem pages_spec : Spec0 Tryz.prog 24 [Shp.val s] (fun _ => True) (fun F => F) (fun _ : Unit => True) (fun _ => vi s.pages) (fun _ F => F) := by
  (refine spec_of Tryz.func24 rfl Tryz.ntmps24 rfl (fun F w0 hrd => ?_))
  have b1 := (bounds h).image
  have b2 := (bounds h).page
  refine walk ?_
  intro p
  refine walk ?_
  (refine draw ?_; refine dy 0 ?_; refine dy 2 ?_; refine dy 6 ?_; refine ddo 1 ?_)
  refine call (image_spec s h) ?_
  intro _ _
  (refine walk ?_; refine ddo 3 ?_)
  refine call (page_spec s h) ?_
  intro _ _
  (refine walk ?_; refine dy 4 ?_; refine dy 5 ?_; refine ddo 7 ?_)
  refine call (page_spec s h) ?_
  intro _ _
  (refine walk ?_; refine dy 8 ?_; refine dy 9 ?_; refine walk ?_)
  exact wq_ret1 rfl rfl () rfl trivial perm
theorem gsectors_spec : Spec0 Tryz.prog 63 [Shp.val s] (fun _ => True) (fun F => F) (fun _ : Unit => True) (fun _ => vi s.sectors) (fun _ F => F) := by
  (refine spec_of Tryz.func63 rfl Tryz.ntmps63 rfl (fun F w0 hrd => ?_))
  have b := bounds h
  have b1 := b.pages
  have b2 := b.all
  refine walk ?_
  intro p
  refine walk ?_
  (refine draw ?_; refine dy 0 ?_; refine dy 4 ?_; refine ddo 1 ?_)
  refine call (pages_spec s h) ?_
  intro _ _
  (refine walk ?_; refine dy 2 ?_; refine dy 3 ?_; refine ddo 5 ?_)
  refine call (all_spec s h) ?_
  intro _ _
  have b3 : s.all ≤ 1024 := b2.2
  have b4 : 0 ≤ s.all := by have := b2.1; unfold Shp.all; omega
  (refine walk ?_; refine dy 6 ?_; refine dy 7 ?_; refine walk ?_)
  exact wq_ret1 rfl rfl () rfl trivial perm
theorem stripeAt_spec (t : Int) (ht : 0 ≤ t ∧ t ≤ 1099511627776) : Spec0 Tryz.prog 129 [Shp.val s, vi t] (fun _ => True) (fun F => F) (fun _ : Unit => True) (fun _ => vi (s.stripeAt t)) (fun _ F => F) := by
  (refine spec_of Tryz.func129 rfl Tryz.ntmps129 rfl (fun F w0 hrd => ?_))
  have b1 := (bounds h).pages
  refine walk ?_
  intro p
  refine walk ?_
  refine call (pages_spec s h) ?_
  intro _ _
  refine walk ?_
  exact wq_ret1 rfl rfl () rfl trivial perm
theorem parity_spec (t : Int) (ht : 0 ≤ t ∧ t ≤ 1099511627776) : Spec0 Tryz.prog 131 [Shp.val s, vi t] (fun _ => True) (fun F => F) (fun _ : Unit => True) (fun _ => vi (s.parity t)) (fun _ F => F) := by
  (refine spec_of Tryz.func131 rfl Tryz.ntmps131 rfl (fun F w0 hrd => ?_))
  have b1 := h.members
  refine walk ?_
  intro p
  refine walk ?_
  exact wq_ret1 rfl rfl () rfl trivial perm
theorem member_spec (t c : Int) (ht : 0 ≤ t ∧ t ≤ 1099511627776) (hc : 0 ≤ c ∧ c ≤ 1099511627776) : Spec0 Tryz.prog 130 [Shp.val s, vi t, vi c] (fun _ => True) (fun F => F) (fun _ : Unit => True) (fun _ => vi (s.member t c)) (fun _ F => F) := by
  (refine spec_of Tryz.func130 rfl Tryz.ntmps130 rfl (fun F w0 hrd => ?_))
  have b1 := h.members
  refine walk ?_
  intro p
  refine walk ?_
  exact wq_ret1 rfl rfl () rfl trivial perm
end geom
theorem in_spec (n a b : Int) : Spec0 Tryz.prog 113 [vi n, vi a, vi b] (fun _ => True) (fun F => F) (fun _ : Unit => True) (fun _ => .bool (decide (a ≤ n ∧ n ≤ b))) (fun _ F => F) := by
  (refine spec_of Tryz.func113 rfl Tryz.ntmps113 rfl (fun F w0 hrd => ?_))
  refine walk ?_
  (first | (refine wif_cut 4 14 (.bool (decide (a ≤ n ∧ n ≤ b))) (fun K => ?_) ?_; refine wif_dec (fun hc => ?_) (fun hc => ?_); (iterate 4 ((first | (refine wl_guard_yes rfl rfl rfl ?_; refine wl_ya ?_) | (refine wl_guard_no rfl rfl rfl rfl rfl ?_) | (refine wl_ya ?_)))); exact K true _ _ rfl (by (repeat (first | exact trivial | refine And.intro (by first | exact trivial | rfl) ?_))) (by simp [hc]) (by first | rfl | (simp; done) | (simp; omega) | (simp [*]; done) | (simp [*]; omega)); (iterate 4 ((first | (refine wl_guard_yes rfl rfl rfl ?_; refine wl_ya ?_) | (refine wl_guard_no rfl rfl rfl rfl rfl ?_) | (refine wl_ya ?_)))); exact K false _ _ rfl (by (repeat (first | exact trivial | refine And.intro (by first | exact trivial | rfl) ?_))) (by simp [hc]) (by first | rfl | (simp; done) | (simp; omega) | (simp [*]; done) | (simp [*]; omega)); try (refine wl_nil ?_)) | (refine wif_cutn 4 14 (.bool (decide (a ≤ n ∧ n ≤ b))) (fun K => ?_) ?_; refine wif_dec (fun hc => ?_) (fun hc => ?_); (iterate 4 ((first | (refine wl_guard_yes rfl rfl rfl ?_; refine wl_ya ?_) | (refine wl_guard_no rfl rfl rfl rfl rfl ?_) | (refine wl_ya ?_)))); exact K false _ _ rfl (by (repeat (first | exact trivial | refine And.intro (by first | exact trivial | rfl) ?_))) (by simp [hc]) (by first | rfl | (simp; done) | (simp; omega) | (simp [*]; done) | (simp [*]; omega)); (iterate 4 ((first | (refine wl_guard_yes rfl rfl rfl ?_; refine wl_ya ?_) | (refine wl_guard_no rfl rfl rfl rfl rfl ?_) | (refine wl_ya ?_)))); exact K true _ _ rfl (by (repeat (first | exact trivial | refine And.intro (by first | exact trivial | rfl) ?_))) (by simp [hc]) (by first | rfl | (simp; done) | (simp; omega) | (simp [*]; done) | (simp [*]; omega)); try (refine wl_nil ?_)))
  refine walk ?_
  exact wq_ret1 rfl rfl () rfl trivial perm
theorem check_spec (s : Shp) (h : s.Ok) : Spec0 Tryz.prog 67 [Shp.val s] (fun _ => True) (fun F => F) (fun _ : Unit => True) (fun _ => vi 0) (fun _ F => F) := by
  (refine spec_of Tryz.func67 rfl Tryz.ntmps67 rfl (fun F w0 hrd => ?_))
  have b := bounds h
  have h1 := h.members
  have h2 := h.segments
  have h3 := h.stripes
  have h4 := h.block
  have h5 := h.note
  have h6 := h.nv
  have h7 := h.logical
  refine walk ?_
  intro p
  refine walk ?_
  refine call (in_spec s.members 3 16) ?_
  intro _ _
  rw [show decide (3 ≤ s.members ∧ s.members ≤ 16) = true from by simpa using h1]
  refine walk ?_
  refine call (in_spec s.segments 4 64) ?_
  intro _ _
  rw [show decide (4 ≤ s.segments ∧ s.segments ≤ 64) = true from by simpa using h2]
  refine walk ?_
  refine call (in_spec s.stripes 2 16) ?_
  intro _ _
  rw [show decide (2 ≤ s.stripes ∧ s.stripes ≤ 16) = true from by simpa using h3]
  refine walk ?_
  (refine draw ?_; refine dy 0 ?_; refine dy 1 ?_; refine dy 2 ?_; refine dg 3 ?_; refine dg 4 ?_; refine dg 5 ?_; refine ddo 6 ?_)
  refine walk ?_
  refine call (note_spec s h) ?_
  intro _ _
  (refine walk ?_; refine dg 7 ?_; refine ddo 8 ?_)
  refine walk ?_
  refine call (in_spec s.block (max s.note 32) 512) ?_
  intro _ _
  rw [show decide (max s.note 32 ≤ s.block ∧ s.block ≤ 512) = true from by simp; omega]
  (refine walk ?_; refine dg 9 ?_; refine dy 10 ?_; refine dy 11 ?_; refine dg 12 ?_; refine dg 13 ?_; refine dg 14 ?_; refine dg 16 ?_; refine dg 17 ?_; refine dg 18 ?_; refine ddo 15 ?_)
  refine walk ?_
  refine call (slots_spec s h) ?_
  intro _ _
  have hn := b.nvs
  (refine walk ?_; refine ddo 19 ?_)
  refine walk ?_
  refine call (slots_spec s h) ?_
  intro _ _
  (refine walk ?_; refine dg 20 ?_; refine dg 21 ?_; refine ddo 22 ?_)
  refine walk ?_
  refine call (in_spec s.nv s.slots (min (s.stripes * s.slots) 256)) ?_
  intro _ _
  rw [show decide (s.slots ≤ s.nv ∧ s.nv ≤ min (s.stripes * s.slots) 256) = true from by simpa using h6]
  (refine walk ?_; refine dg 23 ?_; refine dy 24 ?_; refine dy 25 ?_; refine dg 26 ?_; refine dg 27 ?_; refine dg 28 ?_; refine ddo 29 ?_)
  refine walk ?_
  refine call (most_spec s h) ?_
  intro _ _
  (refine walk ?_; refine ddo 30 ?_)
  refine walk ?_
  refine call (in_spec s.logical 1 s.most) ?_
  intro _ _
  rw [show decide (1 ≤ s.logical ∧ s.logical ≤ s.most) = true from by simpa using h7]
  (refine walk ?_; refine dg 31 ?_; refine dy 32 ?_; refine walk ?_)
  exact wq_ret1 rfl rfl () rfl trivial perm
end Go.Proofs.YtohienhoifgmaaaGreat
end
