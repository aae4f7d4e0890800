/- several texts, one behind the other -/
import Derived.Test.YtohienhoifgmaaaGreatP27
import Derived.Test.YtohienhoifgmaaaGreatP24
import Derived.Test.YtohienhoifgmaaaGreatP26

section
/- A log's book, in plain Lean; a stripe that stays, in the book and in the log. No program. -/
namespace Go.Sl
open Go

structure Bok where
  s : Shp
  recs : List Rec
  next : Int
  durable : Int
  seg : Int
  idx : Int
  state : List Int
  born : List Int
  map : List Int
  data : IMap Bytes
namespace Bok
/-- the first free segment; -1: none is -/
def first (b : Bok) : Int := match b.state.findIdx? (fun x => decide (x = 0)) with
  | none => -1
  | some i => i
def many (b : Bok) : Int := (b.state.filter fun x => decide (x = 0)).length
def usable (b : Bok) : Int := b.s.stripes - b.idx + b.many * b.s.stripes - 1
def last (b : Bok) : Bool := decide (b.idx = b.s.stripes - 1)
def append (b : Bok) (k lba : Int) (data : Bytes) : Bool × Bok :=
  if (b.recs.length : Int) ≥ b.s.nv then (false, b) else (true, { b with recs := b.recs ++ [⟨b.next, k, lba, data⟩], next := IntKind.u64.wrap (b.next + 1) })
/-- records lie in the slots of a stripe now -/
def puts (at_ : Int) : List Rec → Nat → List Int × IMap Bytes → List Int × IMap Bytes
  | [], _, x => x
  | r :: l, i, x => puts at_ l (i + 1) (x.1.set r.lba.toNat (if r.kind = 2 then -1 else at_ + i), mset x.2 (at_ + i) r.data)
def batch (b : Bok) : List Rec := (vw (fun r : Rec => r.lba) b.recs).take b.s.slots.toNat
def place (b : Bok) : Int := (b.seg * b.s.stripes + b.idx) * b.s.slots
def destage (b : Bok) : Bool × Bok :=
  match b.batch.getLast? with
  | none => (true, b)
  | some e =>
    if b.last = true ∧ b.first < 0 then (false, b)
    else
      let p := puts b.place b.batch 0 (b.map, b.data)
      let b1 := { b with recs := b.recs.filter (fun r => decide (¬ r.seq ≤ e.seq)), durable := IntKind.u64.wrap (b.durable + 1), map := p.1, data := p.2 }
      (true, if b.last = true then { b1 with state := (b.state.set b.seg.toNat 2).set b.first.toNat 1, born := b.born.set b.seg.toNat (IntKind.u64.wrap (b.durable + 1)), seg := b.first, idx := 0 }
        else { b1 with idx := b.idx + 1 })
/-- dead segments are free -/
def free (b : Bok) : Bok :=
  { b with state := b.state.mapIdx fun i x => if x = 2 ∧ Lg.lives b.s b.map i = 0 then 0 else x, born := b.born.mapIdx fun i x => if b.state.getD i 0 = 2 ∧ Lg.lives b.s b.map i = 0 then 0 else x }
end Bok

/-! the memory -/
def ncommit (durable upTo : Int) (r : Rig) : Out Rig Unit := match r.pow.tick with
  | none => .gone r
  | some p => .ok () { r with pow := p, nv := { r.nv with recs := r.nv.recs.filter (fun x => decide (¬ x.seq ≤ upTo)), root := { r.nv.root with durable := durable } } }
def nappend (k lba : Int) (data : Bytes) (r : Rig) : Out Rig Int :=
  if (r.nv.recs.length : Int) ≥ r.nv.root.shape.nv then .ok 7 r else match r.pow.tick with
  | none => .gone r
  | some p => .ok 0 { r with pow := p, nv := { r.nv with recs := r.nv.recs ++ [⟨r.nv.next, k, lba, data⟩], next := IntKind.u64.wrap (r.nv.next + 1) } }
/-- what is done, with the state put into a greater one -/
def Out.lift {σ σ' α : Type} (f : σ → σ') : Out σ α → Out σ' α
  | .ok a s => .ok a (f s)
  | .gone s => .gone (f s)
theorem Out.Sat.lift {σ σ' α : Type} {f : σ → σ'} {m : Out σ α} {Q : α → σ' → Prop} {G : σ' → Prop} (h : m.Sat (fun a s => Q a (f s)) (fun s => G (f s))) : (m.lift f).Sat Q G := by
  cases m <;> exact h

namespace Lg
def batch (g : Lg) : List Rec := (vw (fun r : Rec => r.lba) g.rig.nv.recs).take g.sh.slots.toNat
def entry (r : Rec) : Entry := ⟨r.kind, r.lba⟩
/-- the note of a stripe of these records -/
def noteOf (g : Lg) (l : List Rec) : Note := ⟨(IntKind.u64.wrap (g.rig.nv.root.durable + 1)).toNat, if g.last = true then g.tbl.first else -1, l.map entry ++ List.replicate (g.sh.slots.toNat - l.length) ⟨0, 0⟩⟩
/-- a record's block -/
def blockB (s : Shp) (d : Bytes) : Bytes := padTo s.block.toNat (d.take s.block.toNat)
def chunksB (s : Shp) (x : Note) (l : List Rec) : List Bytes := x.enc s.block.toNat :: (List.range s.slots.toNat).map fun i => blockB s ((l[i]?).elim [] (·.data))
def up (g : Lg) (r : Rig) : Lg := { g with rig := r }
def destage (g : Lg) : Out Lg Int :=
  match g.batch.getLast? with
  | none => .ok 0 g
  | some e =>
    if g.last = true ∧ g.tbl.first < 0 then .ok 2 g
    else ((aput g.sh g.stripe (chunksB g.sh (g.noteOf g.batch) g.batch) g.rig).lift g.up).bind fun c g => if c ≠ 0 then .ok c g
      else ((ncommit (IntKind.u64.wrap (g.rig.nv.root.durable + 1)) e.seq g.rig).lift g.up).bind fun _ g' => .ok 0 (g'.apply (g.noteOf g.batch))
end Lg

/-- a book is as a log -/
structure Rel (b : Bok) (g : Lg) : Prop where
  s : b.s = g.sh
  recs : b.recs = g.rig.nv.recs
  next : b.next = g.rig.nv.next
  durable : b.durable = g.rig.nv.root.durable
  seg : b.seg = g.seg
  idx : b.idx = g.idx
  state : b.state = g.tbl.map (·.state)
  born : b.born = g.tbl.map (·.born)
  map : b.map = g.map
/-- a record that may be -/
structure RecOk (s : Shp) (r : Rec) : Prop where
  kind : r.kind = 1 ∨ r.kind = 2 ∨ r.kind = 3
  lba : 0 ≤ r.lba ∧ r.lba < s.logical
  data : (r.data.length : Int) ≤ s.block
structure Lg.Inv (g : Lg) : Prop extends Lg.Ok g where
  shok : g.sh.Ok
  seg : 0 ≤ g.seg ∧ g.seg < g.sh.segments
  idx : 0 ≤ g.idx ∧ g.idx < g.sh.stripes
  tlen : (g.tbl.length : Int) = g.sh.segments
  opened : (g.tbl.see g.seg).state = 1
  recs : ∀ r ∈ g.rig.nv.recs, RecOk g.sh r
  places : ∀ p ∈ g.map, p < g.sh.all * g.sh.slots
theorem findIdx_map {α β : Type} (f : α → β) (p : β → Bool) (l : List α) : (l.map f).findIdx? p = l.findIdx? (fun a => p (f a)) := by
  induction l with
  | nil => rfl
  | cons a l ih => simp [List.findIdx?_cons, ih]
theorem Rel.first {b : Bok} {g : Lg} (h : Rel b g) : b.first = g.tbl.first := by
  unfold Bok.first Tbl.first
  rw [h.state, findIdx_map]
  rfl
theorem Rel.many {b : Bok} {g : Lg} (h : Rel b g) : b.many = g.tbl.many 0 := by
  unfold Bok.many Tbl.many
  rw [h.state, List.filter_map, List.length_map]
  rfl
theorem Rel.usable {b : Bok} {g : Lg} (h : Rel b g) : b.usable = g.usable := by
  unfold Bok.usable Lg.usable
  rw [h.many, h.s, h.idx]
theorem Rel.last {b : Bok} {g : Lg} (h : Rel b g) : b.last = g.last := by
  unfold Bok.last Lg.last
  rw [h.s, h.idx]
theorem Rel.batch {b : Bok} {g : Lg} (h : Rel b g) : b.batch = g.batch := by
  unfold Bok.batch Lg.batch
  rw [h.s, h.recs]
theorem Rel.place {b : Bok} {g : Lg} (h : Rel b g) : b.place = g.stripe * g.sh.slots := by
  unfold Bok.place Lg.stripe
  rw [h.s, h.seg, h.idx]
/-- the slots behind the records change nothing -/
theorem puts_none (at_ : Int) (n : Nat) (slot : Int) (g : Lg) : Lg.puts at_ (List.replicate n ⟨0, 0⟩) slot g = g := by
  induction n generalizing slot with
  | zero => rfl
  | succ n ih =>
    rw [List.replicate_succ]
    unfold Lg.puts
    rw [if_neg (by decide), if_neg (by decide)]
    exact ih _
theorem puts_append (at_ : Int) (l m : List Entry) (slot : Int) (g : Lg) : Lg.puts at_ (l ++ m) slot g = Lg.puts at_ m (slot + l.length) (Lg.puts at_ l slot g) := by
  induction l generalizing slot g with
  | nil => simp [Lg.puts]
  | cons e l ih =>
    show Lg.puts at_ (l ++ m) (slot + 1) _ = Lg.puts at_ m _ (Lg.puts at_ l (slot + 1) _)
    rw [ih, List.length_cons, show slot + 1 + (l.length : Int) = slot + ((l.length + 1 : Nat) : Int) by omega]
/-- what puts keeps -/
structure Kept (g g' : Lg) : Prop where
  rig : g'.rig = g.rig
  seg : g'.seg = g.seg
  idx : g'.idx = g.idx
  tlen : g'.tbl.length = g.tbl.length
  mlen : g'.map.length = g.map.length
  see : ∀ i, (g'.tbl.see i).state = (g.tbl.see i).state ∧ (g'.tbl.see i).born = (g.tbl.see i).born
  states : g'.tbl.map (·.state) = g.tbl.map (·.state)
  borns : g'.tbl.map (·.born) = g.tbl.map (·.born)
theorem Kept.refl (g : Lg) : Kept g g := ⟨rfl, rfl, rfl, rfl, rfl, fun _ => ⟨rfl, rfl⟩, rfl, rfl⟩
theorem Kept.trans {a b c : Lg} (h : Kept a b) (h' : Kept b c) : Kept a c :=
  ⟨h'.rig.trans h.rig, h'.seg.trans h.seg, h'.idx.trans h.idx, h'.tlen.trans h.tlen, h'.mlen.trans h.mlen, fun i => ⟨(h'.see i).1.trans (h.see i).1, (h'.see i).2.trans (h.see i).2⟩, h'.states.trans h.states, h'.borns.trans h.borns⟩
theorem map_set_same {α β : Type} (f : α → β) (l : List α) (i : Nat) (x : α) (d : α) (h : i < l.length → f x = f (l.getD i d)) : (l.set i x).map f = l.map f := by
  induction l generalizing i with
  | nil => rfl
  | cons a l ih =>
    cases i with
    | zero => simp only [List.set_cons_zero, List.map_cons]; rw [h (by simp)]; rfl
    | succ i =>
      simp only [List.set_cons_succ, List.map_cons]
      rw [ih i (fun hi => by have := h (by simpa using hi); simpa using this)]
theorem live_kept (t : Tbl) (i more : Int) : (t.live i more).length = t.length ∧ (∀ j, ((t.live i more).see j).state = (t.see j).state ∧ ((t.live i more).see j).born = (t.see j).born) ∧ (t.live i more).map (·.state) = t.map (·.state) ∧ (t.live i more).map (·.born) = t.map (·.born) := by
  refine ⟨Tbl.upd_length _ _ _, fun j => ?_, ?_, ?_⟩
  · rw [Lg.see_live]
    split
    · rename_i h; rw [h.1]; exact ⟨rfl, rfl⟩
    · exact ⟨rfl, rfl⟩
  · unfold Tbl.live Tbl.upd
    split
    · exact map_set_same _ _ _ _ Seg.zero (fun _ => rfl)
    · rfl
  · unfold Tbl.live Tbl.upd
    split
    · exact map_set_same _ _ _ _ Seg.zero (fun _ => rfl)
    · rfl
theorem put_kept (g : Lg) (lba place : Int) : Kept g (g.put lba place) := by
  unfold Lg.put
  have key : ∀ t : Tbl, t.length = g.tbl.length → (∀ j, (t.see j).state = (g.tbl.see j).state ∧ (t.see j).born = (g.tbl.see j).born) → t.map (·.state) = g.tbl.map (·.state) → t.map (·.born) = g.tbl.map (·.born) →
      Kept g { g with map := g.map.put lba place, tbl := t } := fun t h1 h2 h3 h4 => ⟨rfl, rfl, rfl, h1, Lm.put_length _ _ _, h2, h3, h4⟩
  apply key
  · split <;> split <;> simp only [(live_kept _ _ _).1]
  · intro j
    split <;> split <;> simp only [((live_kept _ _ _).2.1 j).1, ((live_kept _ _ _).2.1 j).2, and_self]
  · split <;> split <;> simp only [(live_kept _ _ _).2.2.1]
  · split <;> split <;> simp only [(live_kept _ _ _).2.2.2]
theorem puts_kept (at_ : Int) (l : List Entry) (slot : Int) (g : Lg) : Kept g (Lg.puts at_ l slot g) := by
  induction l generalizing slot g with
  | nil => exact Kept.refl g
  | cons e l ih =>
    unfold Lg.puts
    refine Kept.trans ?_ (ih _ _)
    split
    · exact put_kept _ _ _
    · split
      · exact put_kept _ _ _
      · exact Kept.refl _
theorem Kept.sh {g g' : Lg} (h : Kept g g') : g'.sh = g.sh := by unfold Lg.sh; rw [h.rig]
theorem lm_put_set {m : Lm} {l p : Int} (hl : 0 ≤ l ∧ l < m.length) (hp : -1 ≤ p) : Lm.put m l p = m.set l.toNat p := by
  unfold Lm.put
  rw [if_pos (by unfold Lm.has; simpa using hl), show max p (-1) = p by omega]
/-- records lie where the book says -/
theorem puts_map (l : List Rec) : ∀ (i : Nat) (g : Lg) (at_ : Int) (d : IMap Bytes), (∀ r ∈ l, (r.kind = 1 ∨ r.kind = 2 ∨ r.kind = 3) ∧ 0 ≤ r.lba ∧ r.lba < g.map.length) → 0 ≤ at_ →
    (Bok.puts (at_ * g.sh.slots) l i (g.map, d)).1 = (Lg.puts at_ (l.map Lg.entry) i g).map ∨ g.sh.slots < 0 := by
  induction l with
  | nil => intro i g at_ d _ _; exact .inl rfl
  | cons r l ih =>
    intro i g at_ d h h0
    by_cases hs : g.sh.slots < 0
    · exact .inr hs
    refine .inl ?_
    obtain ⟨hk, hl⟩ := h r List.mem_cons_self
    have hpos : 0 ≤ at_ * g.sh.slots := Int.mul_nonneg h0 (by omega)
    unfold Bok.puts Lg.puts
    rw [List.map_cons]
    dsimp only
    have step : ∀ p : Int, -1 ≤ p → (Bok.puts (at_ * g.sh.slots) l (i + 1) (g.map.set r.lba.toNat p, mset d (at_ * g.sh.slots + i) r.data)).1 = (Lg.puts at_ (l.map Lg.entry) ((i : Int) + 1) (g.put r.lba p)).map := fun p hp => by
      have e1 : (g.put r.lba p).map = g.map.set r.lba.toNat p := lm_put_set hl hp
      have e2 : (g.put r.lba p).sh = g.sh := (put_kept g r.lba p).sh
      have := ih (i + 1) (g.put r.lba p) at_ (mset d (at_ * g.sh.slots + i) r.data) (fun q hq => by
        rw [(put_kept g r.lba p).mlen]; exact h q (List.mem_cons_of_mem _ hq)) h0
      rw [e2] at this
      rcases this with this | this
      · rw [← e1, this]; rfl
      · exact absurd this hs
    have ek : (Lg.entry r).kind = r.kind := rfl
    have el : (Lg.entry r).lba = r.lba := rfl
    rw [ek, el]
    by_cases h2 : r.kind = 2
    · rw [if_pos h2, if_neg (by omega), if_pos h2]
      exact step (-1) (by omega)
    · rw [if_neg h2, if_pos (by omega)]
      exact step (at_ * g.sh.slots + i) (by omega)
theorem Tbl.first_spec {t : Tbl} (h : 0 ≤ t.first) : t.first < t.length ∧ (t.see t.first).state = 0 := by
  unfold Tbl.first at h ⊢
  cases hf : t.findIdx? (fun s => decide (s.state = 0)) with
  | none => rw [hf] at h; exact absurd h (by decide)
  | some i =>
    dsimp only
    obtain ⟨hi, hp, _⟩ := List.findIdx?_eq_some_iff_getElem.1 hf
    refine ⟨by omega, ?_⟩
    unfold Tbl.see Tbl.has
    rw [if_pos (by simp; omega)]
    simp only [List.getD, Int.toNat_natCast, List.getElem?_eq_getElem hi, Option.getD_some]
    simpa using hp
theorem Tbl.map_upd {α : Type} (f : Seg → α) (t : Tbl) (i : Int) (g : Seg → Seg) (x : α) (hx : ∀ s, f (g s) = x) (hi : 0 ≤ i ∧ i < t.length) : (t.upd i g).map f = (t.map f).set i.toNat x := by
  unfold Tbl.upd
  rw [if_pos (by unfold Tbl.has; simpa using hi), List.map_set, hx]
theorem Tbl.map_upd_same {α : Type} (f : Seg → α) (t : Tbl) (i : Int) (g : Seg → Seg) (hx : ∀ s, f (g s) = f s) : (t.upd i g).map f = t.map f := by
  unfold Tbl.upd
  split
  · exact map_set_same _ _ _ _ Seg.zero (fun _ => hx _)
  · rfl
theorem Lg.Ok.tbl {g : Lg} (h : g.Ok) {t : Tbl} (h1 : ∀ i, t.has i = g.tbl.has i) (h2 : ∀ i, (t.see i).live = (g.tbl.see i).live) (seg idx : Int) : Lg.Ok { g with tbl := t, seg := seg, idx := idx } :=
  ⟨h.map, h.len, h.small, fun i hi => by
    show (t.see i).live = _
    rw [h2, h.live i (by rw [← h1]; exact hi)]; rfl⟩
theorem see_upd_live (t : Tbl) (i j : Int) (f : Seg → Seg) (hf : ∀ s, (f s).live = s.live) : ((t.upd i f).see j).live = (t.see j).live := by
  rw [Tbl.see_upd]
  split
  · rename_i h; rw [hf, h.1]
  · rfl
theorem seal_open {t : Tbl} {a c : Int} (x : Int) (ha : 0 ≤ a ∧ a < t.length) (hc : 0 ≤ c ∧ c < t.length) :
    ((t.seal_ a x).open_ c).map (·.state) = ((t.map (·.state)).set a.toNat 2).set c.toNat 1 ∧ ((t.seal_ a x).open_ c).map (·.born) = (t.map (·.born)).set a.toNat x ∧
    (∀ i, ((t.seal_ a x).open_ c).has i = t.has i) ∧ (∀ i, (((t.seal_ a x).open_ c).see i).live = (t.see i).live) ∧ ((t.seal_ a x).open_ c).length = t.length ∧ (((t.seal_ a x).open_ c).see c).state = 1 := by
  unfold Tbl.open_ Tbl.seal_
  refine ⟨?_, ?_, fun i => by rw [Tbl.has_upd, Tbl.has_upd], fun i => ?_, by rw [Tbl.upd_length, Tbl.upd_length], ?_⟩
  · rw [Tbl.map_upd (fun s : Seg => s.state) _ c (fun s => { s with state := 1 }) 1 (fun _ => rfl) (by rw [Tbl.upd_length]; exact hc), Tbl.map_upd (fun s : Seg => s.state) t a (fun s => { s with state := 2, born := x }) 2 (fun _ => rfl) ha]
  · rw [Tbl.map_upd_same (fun s : Seg => s.born) _ c (fun s => { s with state := 1 }) (fun _ => rfl), Tbl.map_upd (fun s : Seg => s.born) t a (fun s => { s with state := 2, born := x }) x (fun _ => rfl) ha]
  · rw [see_upd_live _ c i (fun s => { s with state := 1 }) (fun _ => rfl), see_upd_live t a i (fun s => { s with state := 2, born := x }) (fun _ => rfl)]
  · rw [Tbl.see_upd, if_pos ⟨rfl, by rw [Tbl.has_upd]; unfold Tbl.has; simpa using hc⟩]
/-- records lie in a stripe: the log is sound -/
theorem puts_ok (l : List Rec) : ∀ (i : Nat) (g : Lg) (at_ : Int), g.Ok → g.sh.Ok → (∀ p ∈ g.map, p < g.sh.all * g.sh.slots) → (∀ r ∈ l, (r.kind = 1 ∨ r.kind = 2 ∨ r.kind = 3) ∧ 0 ≤ r.lba ∧ r.lba < g.sh.logical) → 0 ≤ at_ ∧ at_ < g.sh.all → (i : Int) + l.length ≤ g.sh.slots →
    (Lg.puts at_ (l.map Lg.entry) i g).Ok ∧ ∀ p ∈ (Lg.puts at_ (l.map Lg.entry) i g).map, p < g.sh.all * g.sh.slots := by
  induction l with
  | nil => intro i g at_ h _ hp _ _ _; exact ⟨h, hp⟩
  | cons r l ih =>
    intro i g at_ h hsh hp hl ha hn
    obtain ⟨hk, hlb⟩ := hl r List.mem_cons_self
    rw [List.length_cons] at hn
    have hmm := hsh.members
    have hall : at_ * g.sh.slots + i < g.sh.all * g.sh.slots := by
      have h1 : (at_ + 1) * g.sh.slots ≤ g.sh.all * g.sh.slots := Int.mul_le_mul_of_nonneg_right (by omega) (by unfold Shp.slots; omega)
      rw [Int.add_mul, Int.one_mul] at h1
      omega
    have h0 : 0 ≤ g.sh.all * g.sh.slots := by
      have := Int.mul_nonneg (show 0 ≤ g.sh.all by omega) (show 0 ≤ g.sh.slots by unfold Shp.slots; omega)
      exact this
    have step : ∀ p : Int, -1 ≤ p → p < g.sh.all * g.sh.slots → (Lg.puts at_ (l.map Lg.entry) ((i : Int) + 1) (g.put r.lba p)).Ok ∧ ∀ q ∈ (Lg.puts at_ (l.map Lg.entry) ((i : Int) + 1) (g.put r.lba p)).map, q < g.sh.all * g.sh.slots := fun p hp1 hp2 => by
      have e2 : (g.put r.lba p).sh = g.sh := (put_kept g r.lba p).sh
      have := ih (i + 1) (g.put r.lba p) at_ (h.put hlb) (by rw [e2]; exact hsh) (fun q hq => by
        rw [e2]
        rw [show (g.put r.lba p).map = g.map.set r.lba.toNat p from lm_put_set ⟨hlb.1, by rw [h.len]; exact hlb.2⟩ hp1] at hq
        rcases List.mem_or_eq_of_mem_set hq with hq | rfl
        · exact hp q hq
        · exact hp2) (by rw [e2]; exact fun r hr => hl r (List.mem_cons_of_mem _ hr)) (by rw [e2]; exact ha) (by rw [e2]; omega)
      rw [e2] at this
      exact this
    unfold Lg.puts
    rw [List.map_cons]
    dsimp only
    have ek : (Lg.entry r).kind = r.kind := rfl
    have el : (Lg.entry r).lba = r.lba := rfl
    rw [ek, el]
    by_cases h2 : r.kind = 2
    · rw [if_neg (by omega), if_pos h2]
      exact step (-1) (by omega) (by omega)
    · rw [if_pos (by omega)]
      exact step (at_ * g.sh.slots + i) (by have := Int.mul_nonneg ha.1 (show 0 ≤ g.sh.slots by unfold Shp.slots; omega); omega) hall
theorem Lg.Inv.stripe {g : Lg} (h : g.Inv) : 0 ≤ g.stripe ∧ g.stripe < g.sh.all := by
  unfold Lg.stripe Shp.all
  have h1 := h.seg
  have h2 := h.idx
  have h3 : (g.seg + 1) * g.sh.stripes ≤ g.sh.segments * g.sh.stripes := Int.mul_le_mul_of_nonneg_right (by omega) (by omega)
  have h4 : 0 ≤ g.seg * g.sh.stripes := Int.mul_nonneg (by omega) (by omega)
  rw [Int.add_mul, Int.one_mul] at h3
  omega
theorem Lg.batch_sub {g : Lg} {r : Rec} (hr : r ∈ g.batch) : r ∈ g.rig.nv.recs := vw_mem (List.mem_of_mem_take hr)
theorem Lg.batch_len {g : Lg} (h : 0 ≤ g.sh.slots) : (g.batch.length : Int) ≤ g.sh.slots := by
  unfold Lg.batch
  rw [List.length_take]; omega
theorem shOk_up {g : Lg} {r : Rig} (hs : r.nv.root.shape = g.rig.nv.root.shape) : (g.up r).sh = g.sh := hs
/-- a stripe of records stays: the book of it is as the log -/
theorem destaged {b : Bok} {g : Lg} (h : Rel b g) (hi : g.Inv) {e : Rec} (he : g.batch.getLast? = some e) (hroom : ¬ (g.last = true ∧ g.tbl.first < 0))
    {r : Rig} (hs : r.nv.root.shape = g.rig.nv.root.shape) (hrecs : r.nv.recs = g.rig.nv.recs.filter (fun x => decide (¬ x.seq ≤ e.seq))) (hn : r.nv.next = g.rig.nv.next) (hd : r.nv.root.durable = IntKind.u64.wrap (g.rig.nv.root.durable + 1)) (hd0 : 0 ≤ IntKind.u64.wrap (g.rig.nv.root.durable + 1)) :
    b.destage.1 = true ∧ Rel b.destage.2 ((g.up r).apply (g.noteOf g.batch)) ∧ ((g.up r).apply (g.noteOf g.batch)).Inv := by
  have hsh : (g.up r).sh = g.sh := hs
  have hslots : 0 ≤ g.sh.slots := by have := hi.shok.members; unfold Shp.slots; omega
  have hst := hi.stripe
  have hrec : ∀ q ∈ g.batch, (q.kind = 1 ∨ q.kind = 2 ∨ q.kind = 3) ∧ 0 ≤ q.lba ∧ q.lba < g.sh.logical := fun q hq => by
    have := hi.recs q (Lg.batch_sub hq)
    exact ⟨this.kind, this.lba⟩
  have hup : (g.up r).Ok := ⟨hi.map, by rw [hsh]; exact hi.len, hi.small, fun i hh => by rw [hsh]; exact hi.live i hh⟩
  obtain ⟨g2, hg2⟩ : ∃ g2, g2 = Lg.puts g.stripe (g.batch.map Lg.entry) 0 (g.up r) := ⟨_, rfl⟩
  have hk : Kept (g.up r) g2 := by rw [hg2]; exact puts_kept _ _ _ _
  have hslot : Lg.puts (g.up r).stripe (g.noteOf g.batch).slots 0 (g.up r) = g2 := by
    have : (g.up r).stripe = g.stripe := by unfold Lg.stripe; rw [hsh]; rfl
    rw [this]
    unfold Lg.noteOf
    dsimp only
    rw [puts_append, puts_none, hg2]
  have hok := puts_ok g.batch 0 (g.up r) g.stripe hup (by rw [hsh]; exact hi.shok) (by rw [hsh]; exact hi.places) (by rw [hsh]; exact hrec) (by rw [hsh]; exact hst) (by rw [hsh]; have := Lg.batch_len hslots; omega)
  rw [hsh, show ((0 : Nat) : Int) = 0 from rfl, ← hg2] at hok
  have hmap : (Bok.puts (g.stripe * g.sh.slots) g.batch 0 (g.map, b.data)).1 = g2.map := by
    have := puts_map g.batch 0 (g.up r) g.stripe b.data (fun q hq => ⟨(hrec q hq).1, (hrec q hq).2.1, by have := (hrec q hq).2.2; have := hi.len; show q.lba < (g.map.length : Int); omega⟩) hst.1
    rw [hsh] at this
    rcases this with this | this
    · rw [hg2]; exact this
    · omega
  have hg2sh : g2.sh = g.sh := hk.sh.trans hsh
  have hlast : (g.up r).last = g.last := by unfold Lg.last; rw [hsh]; rfl
  have hb1 : b.destage = (true, if b.last = true then { { b with recs := b.recs.filter (fun r => decide (¬ r.seq ≤ e.seq)), durable := IntKind.u64.wrap (b.durable + 1), map := (Bok.puts b.place b.batch 0 (b.map, b.data)).1, data := (Bok.puts b.place b.batch 0 (b.map, b.data)).2 } with state := (b.state.set b.seg.toNat 2).set b.first.toNat 1, born := b.born.set b.seg.toNat (IntKind.u64.wrap (b.durable + 1)), seg := b.first, idx := 0 }
        else { { b with recs := b.recs.filter (fun r => decide (¬ r.seq ≤ e.seq)), durable := IntKind.u64.wrap (b.durable + 1), map := (Bok.puts b.place b.batch 0 (b.map, b.data)).1, data := (Bok.puts b.place b.batch 0 (b.map, b.data)).2 } with idx := b.idx + 1 }) := by
    unfold Bok.destage
    rw [h.batch, he]
    dsimp only
    rw [h.last, h.first, if_neg hroom]
  rw [hb1]
  refine ⟨rfl, ?_⟩
  dsimp only
  have hmap' : (Bok.puts b.place b.batch 0 (b.map, b.data)).1 = g2.map := by rw [h.place, h.batch, h.map]; exact hmap
  rw [hmap', h.last]
  have happly : (g.up r).apply (g.noteOf g.batch) = if g.last = true then { g2 with tbl := (g2.tbl.seal_ g.seg (g.noteOf g.batch).seq).open_ (g.noteOf g.batch).next, seg := (g.noteOf g.batch).next, idx := 0 } else { g2 with idx := g.idx + 1 } := by
    unfold Lg.apply
    rw [hlast, hsh]
    rw [if_neg]
    · dsimp only
      rw [hslot]
      rfl
    · rintro ⟨h1, h2⟩
      have e1 : (g.noteOf g.batch).next = g.tbl.first := by unfold Lg.noteOf; dsimp only; rw [if_pos h1]
      rw [e1] at h2
      have h3 : 0 ≤ g.tbl.first := by
        rcases Int.lt_or_le g.tbl.first 0 with h4 | h4
        · exact absurd ⟨h1, h4⟩ hroom
        · exact h4
      have := (Tbl.first_spec h3).1
      have := hi.tlen
      omega
  rw [happly]
  have hseq : ((g.noteOf g.batch).seq : Int) = IntKind.u64.wrap (b.durable + 1) := by
    unfold Lg.noteOf; dsimp only; rw [h.durable]; omega
  by_cases hl : g.last = true
  · rw [if_pos hl, if_pos hl]
    have e1 : (g.noteOf g.batch).next = g.tbl.first := by unfold Lg.noteOf; dsimp only; rw [if_pos hl]
    rw [e1]
    have h3 : 0 ≤ g.tbl.first := by
      rcases Int.lt_or_le g.tbl.first 0 with h4 | h4
      · exact absurd ⟨hl, h4⟩ hroom
      · exact h4
    obtain ⟨h4, h5⟩ := Tbl.first_spec h3
    have ht2 : g2.tbl.length = g.tbl.length := hk.tlen
    have htl := hi.tlen
    have hseg := hi.seg
    obtain ⟨q1, q2, q3, q4, q5, q6⟩ := seal_open (t := g2.tbl) (a := g.seg) (c := g.tbl.first) ((g.noteOf g.batch).seq : Int) (by rw [ht2]; omega) (by rw [ht2]; omega)
    obtain ⟨T, hT⟩ : ∃ T, T = (g2.tbl.seal_ g.seg (g.noteOf g.batch).seq).open_ g.tbl.first := ⟨_, rfl⟩
    rw [← hT] at q1 q2 q3 q4 q5 q6 ⊢
    constructor
    · refine ⟨?_, ?_, ?_, ?_, h.first, rfl, ?_, ?_, rfl⟩
      · rw [h.s]; exact hg2sh.symm
      · show b.recs.filter _ = g2.rig.nv.recs
        rw [hk.rig, h.recs]; exact hrecs.symm
      · show b.next = g2.rig.nv.next
        rw [hk.rig, h.next]; exact hn.symm
      · show IntKind.u64.wrap (b.durable + 1) = g2.rig.nv.root.durable
        rw [hk.rig, h.durable]; exact hd.symm
      · show (b.state.set b.seg.toNat 2).set b.first.toNat 1 = T.map (·.state)
        rw [q1, hk.states, h.state, h.seg, h.first]
        rfl
      · show b.born.set b.seg.toNat _ = T.map (·.born)
        rw [q2, hk.borns, h.born, h.seg, hseq]
        rfl
    · refine { toOk := hok.1.tbl q3 q4 _ _, shok := by show g2.sh.Ok; rw [hg2sh]; exact hi.shok, seg := ?_, idx := ?_, tlen := ?_, opened := q6, recs := ?_, places := ?_ }
      · show 0 ≤ g.tbl.first ∧ g.tbl.first < g2.sh.segments
        rw [hg2sh]; omega
      · show 0 ≤ (0 : Int) ∧ 0 < g2.sh.stripes
        rw [hg2sh]; have := hi.idx; omega
      · show (T.length : Int) = g2.sh.segments
        rw [q5, ht2, hg2sh]; exact htl
      · show ∀ q ∈ g2.rig.nv.recs, RecOk g2.sh q
        rw [hk.rig, hg2sh]
        intro q hq
        have hq : q ∈ r.nv.recs := hq
        rw [hrecs] at hq
        exact hi.recs q (List.mem_filter.1 hq).1
      · show ∀ p ∈ g2.map, p < g2.sh.all * g2.sh.slots
        rw [hg2sh]; exact hok.2
  · rw [if_neg hl, if_neg hl]
    have hne : g.idx ≠ g.sh.stripes - 1 := fun e => hl (by unfold Lg.last; simpa using e)
    constructor
    · refine ⟨?_, ?_, ?_, ?_, ?_, ?_, ?_, ?_, rfl⟩
      · rw [h.s]; exact hg2sh.symm
      · show b.recs.filter _ = g2.rig.nv.recs
        rw [hk.rig, h.recs]; exact hrecs.symm
      · show b.next = g2.rig.nv.next
        rw [hk.rig, h.next]; exact hn.symm
      · show IntKind.u64.wrap (b.durable + 1) = g2.rig.nv.root.durable
        rw [hk.rig, h.durable]; exact hd.symm
      · show b.seg = g2.seg
        rw [hk.seg, h.seg]; rfl
      · show b.idx + 1 = g.idx + 1
        rw [h.idx]
      · show b.state = g2.tbl.map (·.state)
        rw [hk.states, h.state]; rfl
      · show b.born = g2.tbl.map (·.born)
        rw [hk.borns, h.born]; rfl
    · refine { toOk := hok.1.tbl (fun _ => rfl) (fun _ => rfl) _ _, shok := by show g2.sh.Ok; rw [hg2sh]; exact hi.shok, seg := ?_, idx := ?_, tlen := ?_, opened := ?_, recs := ?_, places := ?_ }
      · show 0 ≤ g2.seg ∧ g2.seg < g2.sh.segments
        rw [hg2sh, hk.seg]; exact hi.seg
      · show 0 ≤ g.idx + 1 ∧ g.idx + 1 < g2.sh.stripes
        rw [hg2sh]; have := hi.idx; omega
      · show (g2.tbl.length : Int) = g2.sh.segments
        rw [hk.tlen, hg2sh]; exact hi.tlen
      · show (g2.tbl.see g2.seg).state = 1
        rw [hk.seg, (hk.see _).1]; exact hi.opened
      · show ∀ q ∈ g2.rig.nv.recs, RecOk g2.sh q
        rw [hk.rig, hg2sh]
        intro q hq
        have hq : q ∈ r.nv.recs := hq
        rw [hrecs] at hq
        exact hi.recs q (List.mem_filter.1 hq).1
      · show ∀ p ∈ g2.map, p < g2.sh.all * g2.sh.slots
        rw [hg2sh]; exact hok.2
end Go.Sl
end

section
/- Checkpoints' pages, and labels, in plain Lean: what is written is read again. No program. -/
namespace Go.Sl
open Go

structure Img where
  seq : Nat
  seg : Int
  idx : Int
  segs : List (Int × Nat)
  map : List Int
def segBytes (s : Int × Nat) : Bytes := le 1 s.1.toNat ++ le 8 s.2
def mapBytes (p : Int) : Bytes := le 4 (p + 1).toNat
def Img.bytes (x : Img) : Bytes := le 8 x.seq ++ le 2 (x.seg + 1).toNat ++ le 2 x.idx.toNat ++ x.segs.flatMap segBytes ++ x.map.flatMap mapBytes
theorem flatMap_len {α : Type} {f : α → Bytes} {k : Nat} (h : ∀ a, (f a).length = k) (l : List α) : (l.flatMap f).length = k * l.length := by
  induction l with
  | nil => rfl
  | cons a l ih => rw [List.flatMap_cons, List.length_append, h, ih, List.length_cons, Nat.mul_succ, Nat.add_comm]
theorem Img.bytes_length (x : Img) : x.bytes.length = 12 + 9 * x.segs.length + 4 * x.map.length := by
  simp only [Img.bytes, List.length_append, le_length, flatMap_len (k := 9) (f := segBytes) (fun a => by simp [segBytes, le_length]), flatMap_len (k := 4) (f := mapBytes) (fun a => by simp [mapBytes, le_length])]
/-- a page of these bytes -/
def pageHead (gen i : Nat) : Bytes := le 1 80 ++ le 8 gen ++ le 2 i
def pageB (block : Nat) (gen : Nat) (all : Bytes) (i : Nat) : Bytes := seal_ (padTo (block - 4) (pageHead gen i ++ (all.drop (i * (block - 15))).take (block - 15)))
theorem pageHead_length (gen i : Nat) : (pageHead gen i).length = 11 := by simp [pageHead, le_length]
theorem pageB_length {block gen : Nat} {all : Bytes} {i : Nat} (hb : 15 ≤ block) : (pageB block gen all i).length = block := by
  unfold pageB
  rw [seal_length, padTo_length]
  · omega
  · rw [List.length_append, pageHead_length, List.length_take]; omega
/-- all pages -/
def pagesB (block gen n : Nat) (all : Bytes) : List Bytes := (List.range n).map (pageB block gen all)
/-- what a page holds; or why it is none -/
def pageOne (block gen i : Nat) (b : Bytes) : Bytes ⊕ Int :=
  if b.length ≠ block then .inr 6 else match opened b with
    | .inr e => .inr e
    | .inl h => if (takeN 1 h).map (·.1) = some 80 ∧ (takeN 8 (h.drop 1)).map (·.1) = some gen ∧ (takeN 2 (h.drop 9)).map (·.1) = some i then .inl (h.drop 11) else .inr 4
theorem pageOne_pageB {block gen : Nat} {all : Bytes} {i : Nat} (hb : 15 ≤ block) (hg : gen < 2 ^ 64) (hi : i < 65536) :
    pageOne block gen i (pageB block gen all i) = .inl (padTo (block - 15) ((all.drop (i * (block - 15))).take (block - 15))) := by
  unfold pageOne
  rw [pageB_length hb, if_neg (fun h => h rfl)]
  unfold pageB
  rw [opened_seal]
  dsimp only
  have h0 : padTo (block - 4) (pageHead gen i ++ (all.drop (i * (block - 15))).take (block - 15)) = le 1 80 ++ (le 8 gen ++ (le 2 i ++ padTo (block - 15) ((all.drop (i * (block - 15))).take (block - 15)))) := by
    unfold padTo pageHead
    simp only [List.append_assoc, List.length_append, le_length]
    congr 5
    omega
  rw [h0, takeN_le]
  have h1 : (le 1 80 ++ (le 8 gen ++ (le 2 i ++ padTo (block - 15) ((all.drop (i * (block - 15))).take (block - 15))))).drop 1 = le 8 gen ++ (le 2 i ++ padTo (block - 15) ((all.drop (i * (block - 15))).take (block - 15))) := List.drop_left' (le_length 1 80)
  have h2 : (le 1 80 ++ (le 8 gen ++ (le 2 i ++ padTo (block - 15) ((all.drop (i * (block - 15))).take (block - 15))))).drop 9 = le 2 i ++ padTo (block - 15) ((all.drop (i * (block - 15))).take (block - 15)) := by
    rw [← List.append_assoc]
    exact List.drop_left' (by simp [le_length])
  have h3 : (le 1 80 ++ (le 8 gen ++ (le 2 i ++ padTo (block - 15) ((all.drop (i * (block - 15))).take (block - 15))))).drop 11 = padTo (block - 15) ((all.drop (i * (block - 15))).take (block - 15)) := by
    rw [← List.append_assoc, ← List.append_assoc]
    exact List.drop_left' (by simp [le_length])
  rw [h1, h2, h3, takeN_le, takeN_le]
  rw [if_pos ⟨by simp, by simp; omega, by simp; omega⟩]
/-- the pages' bytes, one behind the other; or why they are none -/
def pagesIn (block gen : Nat) : List Bytes → Nat → Bytes ⊕ Int
  | [], _ => .inl []
  | b :: l, i => match pageOne block gen i b with
    | .inr e => .inr e
    | .inl h => match pagesIn block gen l (i + 1) with
      | .inr e => .inr e
      | .inl r => .inl (h ++ r)
theorem drop_all (P : Nat) (all : Bytes) (n : Nat) (h : all.length ≤ n * P) : ∀ k i, i + k = n →
    ((List.range' i k).flatMap fun i => padTo P ((all.drop (i * P)).take P)) = padTo (k * P) (all.drop (i * P))
  | 0, i, hi => by
    obtain rfl : i = n := by omega
    simp [padTo, List.drop_of_length_le h]
  | k + 1, i, hi => by
    rw [List.range'_succ, List.flatMap_cons, drop_all P all n h k (i + 1) (by omega)]
    have e : (i + 1) * P = i * P + P := by rw [Nat.add_mul, Nat.one_mul]
    have e2 : (k + 1) * P = k * P + P := by rw [Nat.add_mul, Nat.one_mul]
    have e3 : all.drop ((i + 1) * P) = (all.drop (i * P)).drop P := by rw [List.drop_drop, e]
    rw [e3, e2]
    unfold padTo
    by_cases hP : P ≤ (all.drop (i * P)).length
    · have h1 : ((all.drop (i * P)).take P).length = P := by rw [List.length_take]; omega
      rw [h1, Nat.sub_self, List.replicate_zero, List.append_nil, ← List.append_assoc, List.take_append_drop]
      congr 2
      rw [List.length_drop (i := P)]; omega
    · have h1 : (all.drop (i * P)).take P = all.drop (i * P) := List.take_of_length_le (by omega)
      have h2 : (all.drop (i * P)).drop P = [] := List.drop_of_length_le (by omega)
      rw [h1, h2, List.nil_append, List.append_assoc, List.replicate_append_replicate]
      congr 2
      simp only [List.length_nil]
      omega
theorem pagesIn_pagesB {block gen n : Nat} {all : Bytes} (hb : 15 ≤ block) (hg : gen < 2 ^ 64) (hn : n ≤ 65536) (h : all.length ≤ n * (block - 15)) :
    pagesIn block gen (pagesB block gen n all) 0 = .inl (padTo (n * (block - 15)) all) := by
  have key : ∀ k i, i + k = n → pagesIn block gen ((List.range' i k).map (pageB block gen all)) i = .inl ((List.range' i k).flatMap fun i => padTo (block - 15) ((all.drop (i * (block - 15))).take (block - 15))) := by
    intro k
    induction k with
    | zero => intro i _; rfl
    | succ k ih =>
      intro i hi
      rw [List.range'_succ, List.map_cons, List.flatMap_cons]
      unfold pagesIn
      rw [pageOne_pageB hb hg (by omega)]
      dsimp only
      rw [ih (i + 1) (by omega)]
  unfold pagesB
  rw [List.range_eq_range', key n 0 (by omega), drop_all (block - 15) all n h n 0 (by omega)]
  simp
/-- so many segments; so many places -/
def takeSegs : Nat → Bytes → List (Int × Nat) × Bytes
  | 0, b => ([], b)
  | k + 1, b =>
    let p := (takeN 1 b).getD (0, [])
    let q := (takeN 8 p.2).getD (0, [])
    let r := takeSegs k q.2
    (((p.1 : Int), q.1) :: r.1, r.2)
def takeMap : Nat → Bytes → List Int × Bytes
  | 0, b => ([], b)
  | k + 1, b =>
    let p := (takeN 4 b).getD (0, [])
    let r := takeMap k p.2
    (((p.1 : Int) - 1) :: r.1, r.2)
theorem takeSegs_bytes (l : List (Int × Nat)) (h : ∀ e ∈ l, (0 ≤ e.1 ∧ e.1 ≤ 255) ∧ e.2 < 2 ^ 64) (r : Bytes) : takeSegs l.length (l.flatMap segBytes ++ r) = (l, r) := by
  induction l with
  | nil => rfl
  | cons e l ih =>
    obtain ⟨h1, h2⟩ := h e List.mem_cons_self
    rw [List.flatMap_cons, segBytes]
    simp only [List.length_cons, takeSegs, List.append_assoc]
    rw [takeN_le]
    simp only [Option.getD_some]
    rw [takeN_le]
    simp only [Option.getD_some]
    rw [ih (fun e he => h e (List.mem_cons_of_mem _ he))]
    have h3 : e.1.toNat % 256 ^ 1 = e.1.toNat := Nat.mod_eq_of_lt (by omega)
    have h4 : e.2 % 256 ^ 8 = e.2 := Nat.mod_eq_of_lt (by omega)
    rw [h3, h4]
    obtain ⟨a, b⟩ := e
    simp only [Prod.mk.injEq, List.cons.injEq, and_true]
    dsimp only at *
    omega
theorem takeMap_bytes (l : List Int) (h : ∀ p ∈ l, -1 ≤ p ∧ p < 4294967295) (r : Bytes) : takeMap l.length (l.flatMap mapBytes ++ r) = (l, r) := by
  induction l with
  | nil => rfl
  | cons p l ih =>
    have h1 := h p List.mem_cons_self
    rw [List.flatMap_cons, mapBytes]
    simp only [List.length_cons, takeMap, List.append_assoc]
    rw [takeN_le]
    simp only [Option.getD_some]
    rw [ih (fun e he => h e (List.mem_cons_of_mem _ he))]
    have h3 : (p + 1).toNat % 256 ^ 4 = (p + 1).toNat := Nat.mod_eq_of_lt (by omega)
    rw [h3]
    simp only [Prod.mk.injEq, List.cons.injEq, and_true]
    omega
/-- an image of a shape's pages; or why there is none -/
def Img.dec (block gen pages segments stripes logical places : Nat) (l : List Bytes) : Img ⊕ Int :=
  if l.length ≠ pages then .inr 6
  else match pagesIn block gen l 0 with
    | .inr e => .inr e
    | .inl b =>
      let p := (takeN 8 b).getD (0, [])
      let q := (takeN 2 p.2).getD (0, [])
      let r := (takeN 2 q.2).getD (0, [])
      let s := takeSegs segments r.2
      let m := takeMap logical s.2
      if (q.1 : Int) - 1 < segments ∧ r.1 < stripes ∧ (∀ e ∈ s.1, e.1 ≤ 2) ∧ (∀ p ∈ m.1, p < places) ∧ ∀ c ∈ m.2, c = 0 then .inl ⟨p.1, (q.1 : Int) - 1, r.1, s.1, m.1⟩ else .inr 4
/-- an image that may be -/
structure Img.Fits (x : Img) (segments stripes logical places : Nat) : Prop where
  seq : x.seq < 2 ^ 64
  seg : -1 ≤ x.seg ∧ x.seg < segments
  idx : 0 ≤ x.idx ∧ x.idx < stripes
  nsegs : x.segs.length = segments
  segs : ∀ e ∈ x.segs, (0 ≤ e.1 ∧ e.1 ≤ 2) ∧ e.2 < 2 ^ 64
  nmap : x.map.length = logical
  map : ∀ p ∈ x.map, -1 ≤ p ∧ p < places
theorem Img.dec_enc {x : Img} {block gen pages segments stripes logical places : Nat} (hx : x.Fits segments stripes logical places) (hb : 15 ≤ block) (hg : gen < 2 ^ 64) (hn : pages ≤ 65536)
    (hp : x.bytes.length ≤ pages * (block - 15)) (hs : segments ≤ 65535) (ht : stripes ≤ 65535) (hpl : places < 4294967295) :
    Img.dec block gen pages segments stripes logical places (pagesB block gen pages x.bytes) = .inl x := by
  unfold Img.dec
  rw [if_neg (by simp [pagesB]), pagesIn_pagesB hb hg hn hp]
  dsimp only
  have h0 : padTo (pages * (block - 15)) x.bytes = le 8 x.seq ++ (le 2 (x.seg + 1).toNat ++ (le 2 x.idx.toNat ++ (x.segs.flatMap segBytes ++ (x.map.flatMap mapBytes ++ List.replicate (pages * (block - 15) - x.bytes.length) 0)))) := by
    unfold padTo
    conv => lhs; arg 1; unfold Img.bytes
    simp only [List.append_assoc]
  rw [h0, takeN_le]
  simp only [Option.getD_some]
  rw [takeN_le]
  simp only [Option.getD_some]
  rw [takeN_le]
  simp only [Option.getD_some]
  have e1 := takeSegs_bytes x.segs (fun e he => ⟨⟨(hx.segs e he).1.1, by have := (hx.segs e he).1.2; omega⟩, (hx.segs e he).2⟩) (x.map.flatMap mapBytes ++ List.replicate (pages * (block - 15) - x.bytes.length) 0)
  rw [hx.nsegs] at e1
  rw [e1]
  dsimp only
  have e2 := takeMap_bytes x.map (fun p hp => ⟨(hx.map p hp).1, by have := (hx.map p hp).2; omega⟩) (List.replicate (pages * (block - 15) - x.bytes.length) 0)
  rw [hx.nmap] at e2
  rw [e2]
  dsimp only
  have h1 : x.seq % 256 ^ 8 = x.seq := Nat.mod_eq_of_lt (by have := hx.seq; omega)
  have h2 : (x.seg + 1).toNat % 256 ^ 2 = (x.seg + 1).toNat := Nat.mod_eq_of_lt (by have := hx.seg; omega)
  have h3 : x.idx.toNat % 256 ^ 2 = x.idx.toNat := Nat.mod_eq_of_lt (by have := hx.idx; omega)
  rw [h1, h2, h3]
  have h4 := hx.seg
  have h5 := hx.idx
  rw [if_pos ⟨by omega, by omega, fun e he => (hx.segs e he).1.2, fun p hp => (hx.map p hp).2, fun c hc => List.eq_of_mem_replicate hc⟩]
  obtain ⟨a, b, c, d, e⟩ := x
  simp only [Sum.inl.injEq, Img.mk.injEq, true_and, and_true]
  dsimp only at *
  omega

/-! labels -/
def labelB (s : Shp) (m : Int) : Bytes := le 4 0x31534452 ++ le 1 m.toNat ++ le 1 s.members.toNat ++ le 2 s.block.toNat ++ le 2 s.segments.toNat ++ le 2 s.stripes.toNat ++ le 2 s.nv.toNat ++ le 4 s.logical.toNat
def labelOf (s : Shp) (m : Int) : Bytes := padTo s.block.toNat (seal_ (labelB s m))
theorem labelB_length (s : Shp) (m : Int) : (labelB s m).length = 18 := by simp [labelB, le_length]
theorem labelOf_length {s : Shp} (hs : 22 ≤ s.block) (m : Int) : ((labelOf s m).length : Int) = s.block := by
  unfold labelOf
  rw [padTo_length _ _ (by rw [seal_length, labelB_length]; omega)]
  omega
end Go.Sl
end
