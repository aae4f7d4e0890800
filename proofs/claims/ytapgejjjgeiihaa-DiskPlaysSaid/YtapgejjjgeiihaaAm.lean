/- Shapes, the root, parity, and members of which one may be missing, in plain Lean: what each operation does. No program. -/
import Derived.Test.YtapgejjjgeiihaaDm
namespace Go.Sl
open Go

structure Shp where
  members : Int
  block : Int
  segments : Int
  stripes : Int
  nv : Int
  logical : Int
def Shp.slots (s : Shp) : Int := s.members - 2
def Shp.note (s : Shp) : Int := 15 + 5 * s.slots
def Shp.most (s : Shp) : Int := (s.segments - 3) * (s.stripes - 1) * s.slots
def Shp.all (s : Shp) : Int := s.segments * s.stripes
def Shp.image (s : Shp) : Int := 12 + 9 * s.segments + 4 * s.logical
def Shp.page (s : Shp) : Int := s.block - 15
def Shp.pages (s : Shp) : Int := (s.image + s.page - 1) / s.page
def Shp.sectors (s : Shp) : Int := 1 + 2 * s.pages + s.all
def Shp.stripeAt (s : Shp) (t : Int) : Int := 1 + 2 * s.pages + t
def Shp.parity (s : Shp) (t : Int) : Int := t % s.members
def Shp.member (s : Shp) (t c : Int) : Int := (t + 1 + c) % s.members
/-- a shape that may be -/
structure Shp.Ok (s : Shp) : Prop where
  members : 3 ≤ s.members ∧ s.members ≤ 16
  segments : 4 ≤ s.segments ∧ s.segments ≤ 64
  stripes : 2 ≤ s.stripes ∧ s.stripes ≤ 16
  block : 32 ≤ s.block ∧ s.block ≤ 512
  note : s.note ≤ s.block
  nv : s.slots ≤ s.nv ∧ s.nv ≤ min (s.stripes * s.slots) 256
  logical : 1 ≤ s.logical ∧ s.logical ≤ s.most

structure Root where
  shape : Shp
  gen : Int
  durable : Int
  stale : Int
structure Rec where
  seq : Int
  kind : Int
  lba : Int
  data : Bytes
structure Nvm where
  recs : List Rec
  next : Int
  root : Root
/-- members, a memory, of one power, and whether a second member failed -/
structure Rig where
  pow : Pow
  ds : List Dsk
  nv : Nvm
  broken : Bool

def Rig.stale (r : Rig) : Int := r.nv.root.stale
def Rig.at (r : Rig) (m : Nat) : Dsk := r.ds.getD m (Dsk.blank 0 0)
def Rig.put (r : Rig) (m : Nat) (s : DP) : Rig := { r with pow := s.2, ds := r.ds.set m s.1 }
/-- what a member does -/
def Rig.dev {α : Type} (r : Rig) (m : Nat) (f : DP → Out DP α) : Out Rig α := match f (r.at m, r.pow) with
  | .ok a s => .ok a (r.put m s)
  | .gone s => .gone (r.put m s)
def Rig.set (r : Rig) (x : Root) : Out Rig Unit := match r.pow.tick with
  | none => .gone r
  | some p => .ok () { r with pow := p, nv := { r.nv with root := x } }
/-- a member failed -/
def alost (m : Int) (r : Rig) : Out Rig Int :=
  if r.stale = m then .ok 0 r
  else if r.stale = -1 then (r.set { r.nv.root with stale := m }).bind fun _ r => .ok 0 r
  else .ok 3 { r with broken := true }
/-- one behind the other, till one says an error -/
def each {α : Type} (f : α → Rig → Out Rig Int) : List α → Rig → Out Rig Int
  | [], r => .ok 0 r
  | x :: l, r => (f x r).bind fun e r => if e = 0 then each f l r else .ok e r
def awrite (m sector : Int) (b : Bytes) (r : Rig) : Out Rig Int :=
  (r.dev m.toNat (dwrite sector b)).bind fun e r => if e ≠ 0 ∧ m ≠ r.stale then alost m r else .ok 0 r
def aflush1 (m : Nat) (r : Rig) : Out Rig Int :=
  (r.dev m dflush).bind fun e r => if e ≠ 0 ∧ (m : Int) ≠ r.stale then alost m r else .ok 0 r
def aflush (r : Rig) : Out Rig Int := if r.broken then .ok 3 r else each aflush1 (List.range r.ds.length) r
/-- bytes, bit by bit, onto others -/
def xorIn (out b : Bytes) : Bytes := out.mapIdx fun i x => if i < b.length then x ^^^ b.getD i 0 else x
def longest (l : List Bytes) : Nat := l.foldl (fun n b => max n b.length) 0
def xorOf (l : List Bytes) : Bytes := l.foldl xorIn (List.replicate (longest l) 0)
/-- the same sector of all members but one: the bytes of each, or the error -/
def gather (m sector : Int) : List Nat → List Bytes → Rig → Out Rig (List Bytes ⊕ Int)
  | [], acc, r => .ok (.inl acc) r
  | i :: l, acc, r =>
    if (i : Int) = m then gather m sector l acc r
    else (r.dev i (dread sector)).bind fun x r => if x.2 ≠ 0 then (alost i r).bind fun e r => .ok (.inr e) r else gather m sector l (acc ++ [x.1]) r
def aothers (m sector : Int) (r : Rig) : Out Rig (Bytes × Int) :=
  (gather m sector (List.range r.ds.length) [] r).bind fun x r => match x with
    | .inl acc => .ok (xorOf acc, 0) r
    | .inr e => .ok ([], e) r
def achunk (s : Shp) (t c : Int) (r : Rig) : Out Rig (Bytes × Int) :=
  if ¬ (0 ≤ t ∧ t < s.all) ∨ c < 0 ∨ c > s.slots then .ok ([], 1) r
  else if r.broken then .ok ([], 3) r
  else if s.member t c ≠ r.stale then
    (r.dev (s.member t c).toNat (dread (s.stripeAt t))).bind fun x r =>
      if x.2 = 0 then .ok (x.1, 0) r
      else (alost (s.member t c) r).bind fun e r => if e ≠ 0 then .ok ([], e) r else aothers (s.member t c) (s.stripeAt t) r
  else aothers (s.member t c) (s.stripeAt t) r
/-- the chunks of a stripe that is put, each with its number -/
def aputs (s : Shp) (t : Int) (chunks : List Bytes) (r : Rig) : Out Rig Int :=
  each (fun x : Bytes × Nat => awrite (s.member t x.2) (s.stripeAt t) x.1) chunks.zipIdx r
def aput (s : Shp) (t : Int) (chunks : List Bytes) (r : Rig) : Out Rig Int :=
  if ¬ ((chunks.length : Int) = s.members - 1 ∧ (0 ≤ t ∧ t < s.all) ∧ ∀ b ∈ chunks, (b.length : Int) = s.block) then .ok 1 r
  else if r.broken then .ok 3 r
  else (aputs s t chunks r).bind fun e r => if e ≠ 0 then .ok e r
    else (awrite (s.parity t) (s.stripeAt t) (xorOf chunks) r).bind fun e r => if e ≠ 0 then .ok e r else aflush r
/-- a sector that all have, from the first one that is current -/
def sameL (sector : Int) : List Nat → Rig → Out Rig (Bytes × Int)
  | [], r => .ok ([], 3) r
  | i :: l, r =>
    if (i : Int) = r.stale then sameL sector l r
    else (r.dev i (dread sector)).bind fun x r => if x.2 = 0 then .ok (x.1, 0) r
      else (alost i r).bind fun e r => if e ≠ 0 then .ok ([], e) r else sameL sector l r
def asame (s : Shp) (sector : Int) (r : Rig) : Out Rig (Bytes × Int) :=
  if sector < 0 ∨ sector ≥ s.sectors then .ok ([], 1) r else if r.broken then .ok ([], 3) r else sameL sector (List.range r.ds.length) r
def aputSame (s : Shp) (sector : Int) (b : Bytes) (r : Rig) : Out Rig Int :=
  if sector < 0 ∨ sector ≥ s.sectors ∨ (b.length : Int) ≠ s.block then .ok 1 r else if r.broken then .ok 3 r
  else each (fun m : Nat => awrite m sector b) (List.range r.ds.length) r
def acopied (m sector : Int) (from_ : Int → Rig → Out Rig (Bytes × Int)) (r : Rig) : Out Rig Int :=
  (from_ sector r).bind fun x r => if x.2 ≠ 0 then .ok x.2 r else r.dev m.toNat (dwrite sector x.1)
def amend (s : Shp) (t : Int) (r : Rig) : Out Rig Int :=
  if ¬ (0 ≤ t ∧ t < s.all) then .ok 1 r else if r.broken then .ok 3 r else if r.stale < 0 then .ok 10 r
  else acopied r.stale (s.stripeAt t) (aothers r.stale) r
def afinish (s : Shp) (first : Bytes) (r : Rig) : Out Rig Int :=
  if (first.length : Int) ≠ s.block then .ok 1 r else if r.broken then .ok 3 r else if r.stale < 0 then .ok 10 r
  else (each (fun i : Nat => acopied r.stale (i + 1 : Nat) (asame s)) (List.range (s.stripeAt 0 - 1).toNat) r).bind fun e r' => if e ≠ 0 then .ok e r'
    else (r'.dev r.stale.toNat (dwrite 0 first)).bind fun e r' => if e ≠ 0 then .ok e r'
    else (r'.dev r.stale.toNat dflush).bind fun e r' => if e ≠ 0 then .ok e r'
    else (r'.set { r'.nv.root with stale := -1 }).bind fun _ r' => .ok 0 r'
def alose (m : Int) (r : Rig) : Out Rig Int :=
  if m < 0 ∨ m ≥ r.ds.length then .ok 1 r else if r.broken then .ok 3 r else alost m r
/-- a blank disk takes the place -/
def areplace (m : Int) (r : Rig) : Out Rig Int :=
  if r.broken then .ok 3 r else if m < 0 ∨ m ≥ r.ds.length ∨ m ≠ r.stale then .ok 1 r
  else .ok 0 { r with ds := r.ds.set m.toNat (r.at m.toNat).anew }
end Go.Sl
