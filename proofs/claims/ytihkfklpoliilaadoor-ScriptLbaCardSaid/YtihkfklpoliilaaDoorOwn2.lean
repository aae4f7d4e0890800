/- Rows of bytes that are read alone, each with what it holds; maps that hold such rows. No program. -/
import Derived.Test.YtihkfklpoliilaaDoorOwn
namespace Go.Sl
open Go

theorem mset_map {α β : Type} (f : α → β) (m : IMap α) (k : Int) (v : α) : mset (m.map fun p => (p.1, f p.2)) k (f v) = (mset m k v).map fun p => (p.1, f p.2) := by
  induction m with
  | nil => rfl
  | cons p r ih => obtain ⟨a, u⟩ := p; simp only [List.map_cons, mset]; split <;> simp [ih]
theorem mdel_map {α β : Type} (f : α → β) (m : IMap α) (k : Int) : mdel (m.map fun p => (p.1, f p.2)) k = (mdel m k).map fun p => (p.1, f p.2) := by
  induction m with
  | nil => rfl
  | cons p r ih => obtain ⟨a, u⟩ := p; simp only [List.map_cons, mdel]; split <;> simp [ih]
theorem mget_map {α β : Type} (f : α → β) (m : IMap α) (k : Int) : mget (m.map fun p => (p.1, f p.2)) k = (mget m k).map f := by
  induction m with
  | nil => rfl
  | cons p r ih => obtain ⟨a, u⟩ := p; simp only [List.map_cons, mget]; split <;> simp [ih]
theorem mset_in {α : Type} {m : IMap α} {k : Int} {v : α} {e : Int × α} (h : e ∈ mset m k v) : e = (k, v) ∨ e ∈ m := by
  induction m with
  | nil => simp only [mset, List.mem_singleton] at h; exact .inl h
  | cons p r ih =>
    obtain ⟨a, u⟩ := p
    unfold mset at h
    split at h
    · rcases List.mem_cons.1 h with h | h
      · rename_i hk; left; rw [h]; simp_all
      · exact .inr (List.mem_cons_of_mem _ h)
    · rcases List.mem_cons.1 h with h | h
      · exact .inr (h ▸ List.mem_cons_self)
      · rcases ih h with h | h
        · exact .inl h
        · exact .inr (List.mem_cons_of_mem _ h)

/-- a row's slice, and its bytes -/
abbrev Row := Value × Bytes
abbrev Both := IMap Row
def Both.vals (m : Both) : IMap Value := m.map fun p => (p.1, p.2.1)
def Both.data (m : Both) : IMap Bytes := m.map fun p => (p.1, p.2.2)
theorem Both.vals_set (m : Both) (k : Int) (r : Row) : Both.vals (mset m k r) = mset m.vals k r.1 := (mset_map (fun q : Row => q.1) m k r).symm
theorem Both.data_set (m : Both) (k : Int) (r : Row) : Both.data (mset m k r) = mset m.data k r.2 := (mset_map (fun q : Row => q.2) m k r).symm
theorem Both.vals_get (m : Both) (k : Int) : mget m.vals k = (mget m k).map (·.1) := mget_map (fun q : Row => q.1) m k
theorem Both.data_get (m : Both) (k : Int) : mget m.data k = (mget m k).map (·.2) := mget_map (fun q : Row => q.2) m k
theorem Both.vals_keys (m : Both) : (m.vals).map (·.1) = m.map (·.1) := by simp [Both.vals]
theorem Both.data_keys (m : Both) : (m.data).map (·.1) = m.map (·.1) := by simp [Both.data]

/-- rows that can be read, all of them -/
def Pool (rows : List Row) : HP := fun h => ∀ r ∈ rows, Rd r.1 1 (r.2.map vb) h
theorem Pool.mono {rows : List Row} {h h' : Hp} (hl : Hle h h') (p : Pool rows h) : Pool rows h' := fun r hr => (p r hr).mono hl
theorem Pool.nil {Γ : List HP} : Ent Γ (Pool [] :: Γ) := fun h hs =>
  ⟨fun _ => none, h, (fun _ _ e => by cases e), Hle.refl _, (fun _ => Or.inl rfl), (fun r hr => by cases hr), hs⟩
/-- a row of one's own becomes one that is read alone -/
theorem Pool.put {rows : List Row} {v : Value} {b : Bytes} {Γ : List HP} : Ent (SlB v b :: Pool rows :: Γ) (Pool ((v, b) :: rows) :: Γ) := fun h hs => by
  obtain ⟨h1, h2, a, c, d, e, h3, h4, p, q, r, s, t⟩ := hs
  refine ⟨Hjoin h1 h3, h4, Hjoin.le a (p.trans c), q.trans c, Hjoin.dis (d.le (Hle.refl _) q) r, ?_, t⟩
  have hd : Hdis h1 h3 := d.le (Hle.refl _) p
  intro x hx
  rcases List.mem_cons.1 hx with rfl | hx
  · exact (Sl.rd e).mono (Hjoin.left _ _)
  · exact (s x hx).mono (Hjoin.right hd)
theorem Pool.sub {rows rows' : List Row} {Γ : List HP} (h : ∀ r ∈ rows', r ∈ rows) : Ent (Pool rows :: Γ) (Pool rows' :: Γ) := Ent.imp fun _ p r hr => p r (h r hr)
theorem Pool.rdIn {rows : List Row} {Γ : List HP} {r : Row} (h : r ∈ rows) : RdIn (Pool rows :: Γ) r.1 1 (r.2.map vb) := ⟨fun x hs => by
  obtain ⟨h1, a, p⟩ := hs.one; exact (p r h).mono a⟩
theorem Pool.rdIn' {rows : List Row} {Γ : List HP} {v : Value} {b : Bytes} (h : (v, b) ∈ rows) : RdIn (Pool rows :: Γ) v 1 (b.map vb) := Pool.rdIn (r := (v, b)) h
end Go.Sl
