/- several texts, one behind the other -/
import Derived.Test.YtohienhoifgmaaaGreatP05

section
/- Power and member disks in plain Lean: what an operation does, and when the power goes. No program. -/
namespace Go.Sl
open Go

/-- what a run comes to: an answer, or the power went -/
inductive Out (σ α : Type) where
  | ok (a : α) (s : σ)
  | gone (s : σ)
def Out.bind {σ α β : Type} : Out σ α → (α → σ → Out σ β) → Out σ β
  | .ok a s, k => k a s
  | .gone s, _ => .gone s
@[simp] theorem Out.bind_ok {σ α β : Type} (a : α) (s : σ) (k : α → σ → Out σ β) : (Out.ok a s).bind k = k a s := rfl
@[simp] theorem Out.bind_gone {σ α β : Type} (s : σ) (k : α → σ → Out σ β) : (Out.gone (α := α) s).bind k = .gone s := rfl

abbrev w64 (a : Int) : Int := IntKind.i64.wrap a

structure Pow where
  used : Int
  limit : Int
def Pow.tick (p : Pow) : Option Pow := if 0 ≤ p.limit ∧ p.limit ≤ p.used then none else some { p with used := w64 (p.used + 1) }
def Pow.may (p : Pow) (more : Int) : Pow := { p with limit := if 0 ≤ more then w64 (p.used + more) else -1 }

structure Dsk where
  size : Int
  on : List Bytes
  cache : IMap Bytes
  writes : List Int
  dead : Bool
  failAt : Int
def Dsk.blank (n : Nat) (size : Int) : Dsk := ⟨size, List.replicate n (List.replicate size.toNat 0), [], List.replicate n 0, false, -1⟩
def Dsk.sectors (d : Dsk) : Int := d.on.length
def Dsk.has (d : Dsk) (i : Int) : Bool := decide (0 ≤ i ∧ i < d.on.length)
/-- a sector, as it reads now -/
def Dsk.see (d : Dsk) (i : Int) : Bytes := (mget d.cache i).getD (d.on.getD i.toNat [])
/-- an operation was counted: has the disk failed by now? -/
def Dsk.begun (d : Dsk) (p : Pow) : Dsk := { d with dead := d.dead || decide (0 ≤ d.failAt ∧ d.failAt < p.used) }
abbrev DP := Dsk × Pow
/-- an operation begins: the error -/
def dstep (s : DP) : Out DP Int := match s.2.tick with
  | none => .gone s
  | some p => let d := s.1.begun p; .ok (if d.dead then 8 else 0) (d, p)
def dread (i : Int) (s : DP) : Out DP (Bytes × Int) :=
  if s.1.has i then (dstep s).bind fun e s => if e = 0 then .ok (s.1.see i, 0) s else .ok ([], e) s
  else .ok ([], 1) s
def Dsk.put (d : Dsk) (i : Int) (b : Bytes) : Dsk := { d with cache := mset d.cache i b, writes := d.writes.set i.toNat (w64 (d.writes.getD i.toNat 0 + 1)) }
def dwrite (i : Int) (b : Bytes) (s : DP) : Out DP Int :=
  if s.1.has i ∧ (b.length : Int) = s.1.size then (dstep s).bind fun e s => if e = 0 then .ok 0 (s.1.put i b, s.2) else .ok e s
  else .ok 1 s
/-- each sector that waits stays, if it is one of those -/
def Dsk.settle (d : Dsk) (keep : Int → Bool) : Dsk := { d with on := d.on.mapIdx fun i b => if keep i then (mget d.cache i).getD b else b, cache := [] }
def dflush (s : DP) : Out DP Int := (dstep s).bind fun e s => if e = 0 then .ok 0 (s.1.settle (fun _ => true), s.2) else .ok e s
def Dsk.fail (d : Dsk) : Dsk := { d with dead := true }
def Dsk.failing (d : Dsk) (ops : Int) : Dsk := { d with failAt := max ops (-1) }
def Dsk.anew (d : Dsk) : Dsk := Dsk.blank d.on.length d.size

/-- the sectors that wait, rising -/
def Dsk.waiting (d : Dsk) : List Int := (d.cache.map (·.1)).mergeSort (fun x y => decide (x ≤ y))
def keepBit (keep k : Nat) : Bool := (keep >>> (k % 64)) % 2 == 1
/-- the power went, and is back -/
def Dsk.cycle (d : Dsk) (keep : Nat) : Dsk := d.settle fun i => keepBit keep (d.waiting.idxOf i)

/-- what holds of each disk -/
structure Dsk.Ok (d : Dsk) : Prop where
  size0 : 0 ≤ d.size
  size : d.size ≤ 1099511627776
  many : d.on.length ≤ 1073741824
  writes : d.writes.length = d.on.length
  on : ∀ b ∈ d.on, (b.length : Int) = d.size
  cache : ∀ e ∈ d.cache, (0 ≤ e.1 ∧ e.1 < d.on.length) ∧ (e.2.length : Int) = d.size
  keys : (d.cache.map (·.1)).Nodup
/-- nothing fails, and the power stays -/
structure Fine (s : DP) : Prop where
  limit : s.2.limit = -1
  dead : s.1.dead = false
  failAt : s.1.failAt = -1
def Pow.more (p : Pow) : Pow := ⟨w64 (p.used + 1), p.limit⟩
theorem dstep_fine {s : DP} (h : Fine s) : dstep s = .ok 0 (s.1, s.2.more) := by
  obtain ⟨⟨a, b, c, e, f, g⟩, ⟨u, l⟩⟩ := s
  obtain ⟨h1, h2, h3⟩ := h
  dsimp only at h1 h2 h3
  subst h1 h2 h3
  simp [dstep, Pow.tick, Dsk.begun, Pow.more]
theorem Fine.more {s : DP} (h : Fine s) : Fine (s.1, s.2.more) := ⟨h.limit, h.dead, h.failAt⟩
theorem dread_fine {s : DP} (h : Fine s) {i : Int} (hi : 0 ≤ i ∧ i < s.1.on.length) : dread i s = .ok (s.1.see i, 0) (s.1, s.2.more) := by
  unfold dread Dsk.has
  rw [if_pos (by simpa using hi), dstep_fine h]; rfl
theorem dread_none {s : DP} {i : Int} (hi : ¬ (0 ≤ i ∧ i < s.1.on.length)) : dread i s = .ok ([], 1) s := by
  unfold dread Dsk.has
  rw [if_neg (by simpa using hi)]
theorem dwrite_fine {s : DP} (h : Fine s) {i : Int} {b : Bytes} (hi : 0 ≤ i ∧ i < s.1.on.length) (hb : (b.length : Int) = s.1.size) : dwrite i b s = .ok 0 (s.1.put i b, s.2.more) := by
  unfold dwrite Dsk.has
  rw [if_pos ⟨by simpa using hi, hb⟩, dstep_fine h]; rfl
theorem dflush_fine {s : DP} (h : Fine s) : dflush s = .ok 0 (s.1.settle (fun _ => true), s.2.more) := by
  unfold dflush
  rw [dstep_fine h]; rfl
theorem Fine.put {s : DP} (h : Fine s) (i : Int) (b : Bytes) : Fine (s.1.put i b, s.2) := ⟨h.limit, h.dead, h.failAt⟩
theorem Fine.settle {s : DP} (h : Fine s) (k : Int → Bool) : Fine (s.1.settle k, s.2) := ⟨h.limit, h.dead, h.failAt⟩
end Go.Sl
end

section
/- Rows of bytes that are read alone, each with what it holds; maps that hold such rows. No program. -/
namespace Go.Sl
open Go

theorem mset_map {α β : Type} (f : α → β) (m : IMap α) (k : Int) (v : α) : mset (m.map fun p => (p.1, f p.2)) k (f v) = (mset m k v).map fun p => (p.1, f p.2) := by
  induction m with
  | nil => rfl
  | cons p r ih => obtain ⟨a, u⟩ := p; simp only [List.map_cons, mset]; split <;> simp [ih]
theorem mdel_map {α β : Type} (f : α → β) (m : IMap α) (k : Int) : mdel (m.map fun p => (p.1, f p.2)) k = (mdel m k).map fun p => (p.1, f p.2) := by
  induction m with
  | nil => rfl
  | cons p r ih => obtain ⟨a, u⟩ := p; simp only [List.map_cons, mdel]; split <;> simp [ih]
theorem mget_map {α β : Type} (f : α → β) (m : IMap α) (k : Int) : mget (m.map fun p => (p.1, f p.2)) k = (mget m k).map f := by
  induction m with
  | nil => rfl
  | cons p r ih => obtain ⟨a, u⟩ := p; simp only [List.map_cons, mget]; split <;> simp [ih]
theorem mset_in {α : Type} {m : IMap α} {k : Int} {v : α} {e : Int × α} (h : e ∈ mset m k v) : e = (k, v) ∨ e ∈ m := by
  induction m with
  | nil => simp only [mset, List.mem_singleton] at h; exact .inl h
  | cons p r ih =>
    obtain ⟨a, u⟩ := p
    unfold mset at h
    split at h
    · rcases List.mem_cons.1 h with h | h
      · rename_i hk; left; rw [h]; simp_all
      · exact .inr (List.mem_cons_of_mem _ h)
    · rcases List.mem_cons.1 h with h | h
      · exact .inr (h ▸ List.mem_cons_self)
      · rcases ih h with h | h
        · exact .inl h
        · exact .inr (List.mem_cons_of_mem _ h)

/-- a row's slice, and its bytes -/
abbrev Row := Value × Bytes
abbrev Both := IMap Row
def Both.vals (m : Both) : IMap Value := m.map fun p => (p.1, p.2.1)
def Both.data (m : Both) : IMap Bytes := m.map fun p => (p.1, p.2.2)
theorem Both.vals_set (m : Both) (k : Int) (r : Row) : Both.vals (mset m k r) = mset m.vals k r.1 := (mset_map (fun q : Row => q.1) m k r).symm
theorem Both.data_set (m : Both) (k : Int) (r : Row) : Both.data (mset m k r) = mset m.data k r.2 := (mset_map (fun q : Row => q.2) m k r).symm
theorem Both.vals_get (m : Both) (k : Int) : mget m.vals k = (mget m k).map (·.1) := mget_map (fun q : Row => q.1) m k
theorem Both.data_get (m : Both) (k : Int) : mget m.data k = (mget m k).map (·.2) := mget_map (fun q : Row => q.2) m k
theorem Both.vals_keys (m : Both) : (m.vals).map (·.1) = m.map (·.1) := by simp [Both.vals]
theorem Both.data_keys (m : Both) : (m.data).map (·.1) = m.map (·.1) := by simp [Both.data]

/-- rows that can be read, all of them -/
def Pool (rows : List Row) : HP := fun h => ∀ r ∈ rows, Rd r.1 1 (r.2.map vb) h
theorem Pool.mono {rows : List Row} {h h' : Hp} (hl : Hle h h') (p : Pool rows h) : Pool rows h' := fun r hr => (p r hr).mono hl
theorem Pool.nil {Γ : List HP} : Ent Γ (Pool [] :: Γ) := fun h hs =>
  ⟨fun _ => none, h, (fun _ _ e => by cases e), Hle.refl _, (fun _ => Or.inl rfl), (fun r hr => by cases hr), hs⟩
/-- a row of one's own becomes one that is read alone -/
theorem Pool.put {rows : List Row} {v : Value} {b : Bytes} {Γ : List HP} : Ent (SlB v b :: Pool rows :: Γ) (Pool ((v, b) :: rows) :: Γ) := fun h hs => by
  obtain ⟨h1, h2, a, c, d, e, h3, h4, p, q, r, s, t⟩ := hs
  refine ⟨Hjoin h1 h3, h4, Hjoin.le a (p.trans c), q.trans c, Hjoin.dis (d.le (Hle.refl _) q) r, ?_, t⟩
  have hd : Hdis h1 h3 := d.le (Hle.refl _) p
  intro x hx
  rcases List.mem_cons.1 hx with rfl | hx
  · exact (Sl.rd e).mono (Hjoin.left _ _)
  · exact (s x hx).mono (Hjoin.right hd)
theorem Pool.sub {rows rows' : List Row} {Γ : List HP} (h : ∀ r ∈ rows', r ∈ rows) : Ent (Pool rows :: Γ) (Pool rows' :: Γ) := Ent.imp fun _ p r hr => p r (h r hr)
theorem Pool.rdIn {rows : List Row} {Γ : List HP} {r : Row} (h : r ∈ rows) : RdIn (Pool rows :: Γ) r.1 1 (r.2.map vb) := ⟨fun x hs => by
  obtain ⟨h1, a, p⟩ := hs.one; exact (p r h).mono a⟩
theorem Pool.rdIn' {rows : List Row} {Γ : List HP} {v : Value} {b : Bytes} (h : (v, b) ∈ rows) : RdIn (Pool rows :: Γ) v 1 (b.map vb) := Pool.rdIn (r := (v, b)) h
end Go.Sl
end
