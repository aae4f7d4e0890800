/- Power and member disks in plain Lean: what an operation does, and when the power goes. No program. -/
import Derived.Test.YtihkfklpoliilaaDoorOwn
namespace Go.Sl
open Go

/-- what a run comes to: an answer, or the power went -/
inductive Out (σ α : Type) where
  | ok (a : α) (s : σ)
  | gone (s : σ)
def Out.bind {σ α β : Type} : Out σ α → (α → σ → Out σ β) → Out σ β
  | .ok a s, k => k a s
  | .gone s, _ => .gone s
@[simp] theorem Out.bind_ok {σ α β : Type} (a : α) (s : σ) (k : α → σ → Out σ β) : (Out.ok a s).bind k = k a s := rfl
@[simp] theorem Out.bind_gone {σ α β : Type} (s : σ) (k : α → σ → Out σ β) : (Out.gone (α := α) s).bind k = .gone s := rfl

abbrev w64 (a : Int) : Int := IntKind.i64.wrap a

structure Pow where
  used : Int
  limit : Int
def Pow.tick (p : Pow) : Option Pow := if 0 ≤ p.limit ∧ p.limit ≤ p.used then none else some { p with used := w64 (p.used + 1) }
def Pow.may (p : Pow) (more : Int) : Pow := { p with limit := if 0 ≤ more then w64 (p.used + more) else -1 }

structure Dsk where
  size : Int
  on : List Bytes
  cache : IMap Bytes
  writes : List Int
  dead : Bool
  failAt : Int
def Dsk.blank (n : Nat) (size : Int) : Dsk := ⟨size, List.replicate n (List.replicate size.toNat 0), [], List.replicate n 0, false, -1⟩
def Dsk.sectors (d : Dsk) : Int := d.on.length
def Dsk.has (d : Dsk) (i : Int) : Bool := decide (0 ≤ i ∧ i < d.on.length)
/-- a sector, as it reads now -/
def Dsk.see (d : Dsk) (i : Int) : Bytes := (mget d.cache i).getD (d.on.getD i.toNat [])
/-- an operation was counted: has the disk failed by now? -/
def Dsk.begun (d : Dsk) (p : Pow) : Dsk := { d with dead := d.dead || decide (0 ≤ d.failAt ∧ d.failAt < p.used) }
abbrev DP := Dsk × Pow
/-- an operation begins: the error -/
def dstep (s : DP) : Out DP Int := match s.2.tick with
  | none => .gone s
  | some p => let d := s.1.begun p; .ok (if d.dead then 8 else 0) (d, p)
def dread (i : Int) (s : DP) : Out DP (Bytes × Int) :=
  if s.1.has i then (dstep s).bind fun e s => if e = 0 then .ok (s.1.see i, 0) s else .ok ([], e) s
  else .ok ([], 1) s
def Dsk.put (d : Dsk) (i : Int) (b : Bytes) : Dsk := { d with cache := mset d.cache i b, writes := d.writes.set i.toNat (w64 (d.writes.getD i.toNat 0 + 1)) }
def dwrite (i : Int) (b : Bytes) (s : DP) : Out DP Int :=
  if s.1.has i ∧ (b.length : Int) = s.1.size then (dstep s).bind fun e s => if e = 0 then .ok 0 (s.1.put i b, s.2) else .ok e s
  else .ok 1 s
/-- each sector that waits stays, if it is one of those -/
def Dsk.settle (d : Dsk) (keep : Int → Bool) : Dsk := { d with on := d.on.mapIdx fun i b => if keep i then (mget d.cache i).getD b else b, cache := [] }
def dflush (s : DP) : Out DP Int := (dstep s).bind fun e s => if e = 0 then .ok 0 (s.1.settle (fun _ => true), s.2) else .ok e s
def Dsk.fail (d : Dsk) : Dsk := { d with dead := true }
def Dsk.failing (d : Dsk) (ops : Int) : Dsk := { d with failAt := max ops (-1) }
def Dsk.anew (d : Dsk) : Dsk := Dsk.blank d.on.length d.size

/-- the sectors that wait, rising -/
def Dsk.waiting (d : Dsk) : List Int := (d.cache.map (·.1)).mergeSort (fun x y => decide (x ≤ y))
def keepBit (keep k : Nat) : Bool := (keep >>> (k % 64)) % 2 == 1
/-- the power went, and is back -/
def Dsk.cycle (d : Dsk) (keep : Nat) : Dsk := d.settle fun i => keepBit keep (d.waiting.idxOf i)

/-- what holds of each disk -/
structure Dsk.Ok (d : Dsk) : Prop where
  size0 : 0 ≤ d.size
  size : d.size ≤ 1099511627776
  many : d.on.length ≤ 1073741824
  writes : d.writes.length = d.on.length
  on : ∀ b ∈ d.on, (b.length : Int) = d.size
  cache : ∀ e ∈ d.cache, (0 ≤ e.1 ∧ e.1 < d.on.length) ∧ (e.2.length : Int) = d.size
  keys : (d.cache.map (·.1)).Nodup
/-- nothing fails, and the power stays -/
structure Fine (s : DP) : Prop where
  limit : s.2.limit = -1
  dead : s.1.dead = false
  failAt : s.1.failAt = -1
def Pow.more (p : Pow) : Pow := ⟨w64 (p.used + 1), p.limit⟩
theorem dstep_fine {s : DP} (h : Fine s) : dstep s = .ok 0 (s.1, s.2.more) := by
  obtain ⟨⟨a, b, c, e, f, g⟩, ⟨u, l⟩⟩ := s
  obtain ⟨h1, h2, h3⟩ := h
  dsimp only at h1 h2 h3
  subst h1 h2 h3
  simp [dstep, Pow.tick, Dsk.begun, Pow.more]
theorem Fine.more {s : DP} (h : Fine s) : Fine (s.1, s.2.more) := ⟨h.limit, h.dead, h.failAt⟩
theorem dread_fine {s : DP} (h : Fine s) {i : Int} (hi : 0 ≤ i ∧ i < s.1.on.length) : dread i s = .ok (s.1.see i, 0) (s.1, s.2.more) := by
  unfold dread Dsk.has
  rw [if_pos (by simpa using hi), dstep_fine h]; rfl
theorem dread_none {s : DP} {i : Int} (hi : ¬ (0 ≤ i ∧ i < s.1.on.length)) : dread i s = .ok ([], 1) s := by
  unfold dread Dsk.has
  rw [if_neg (by simpa using hi)]
theorem dwrite_fine {s : DP} (h : Fine s) {i : Int} {b : Bytes} (hi : 0 ≤ i ∧ i < s.1.on.length) (hb : (b.length : Int) = s.1.size) : dwrite i b s = .ok 0 (s.1.put i b, s.2.more) := by
  unfold dwrite Dsk.has
  rw [if_pos ⟨by simpa using hi, hb⟩, dstep_fine h]; rfl
theorem dflush_fine {s : DP} (h : Fine s) : dflush s = .ok 0 (s.1.settle (fun _ => true), s.2.more) := by
  unfold dflush
  rw [dstep_fine h]; rfl
theorem Fine.put {s : DP} (h : Fine s) (i : Int) (b : Bytes) : Fine (s.1.put i b, s.2) := ⟨h.limit, h.dead, h.failAt⟩
theorem Fine.settle {s : DP} (h : Fine s) (k : Int → Bool) : Fine (s.1.settle k, s.2) := ⟨h.limit, h.dead, h.failAt⟩
end Go.Sl
