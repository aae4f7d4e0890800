/- several texts, one behind the other -/
import Derived.Test.YtohienhoifgmaaaGreatP04
import Derived.ProofKit
import Derived.Below
import Derived.Carry

section
/- Maps whose elements are slices of one's own; the library's Clone and Equal of bytes are walked elsewhere. No program. -/
namespace Go.Sl
open Go

/-- the bytes of slices, each one's own -/
abbrev SlB (v : Value) (b : Bytes) : HP := Sl v 1 (b.map vb)
/-- the slices that a map holds, with their bytes -/
def Ow : IMap Value → IMap Bytes → List HP
  | (_, v) :: vs, (_, b) :: m => SlB v b :: Ow vs m
  | _, _ => []
/-- a map of bytes, each element its own -/
def MB (c : Nat) (m : IMap Bytes) : HP := fun h => ∃ vs : IMap Value, vs.map (·.1) = m.map (·.1) ∧ Sat (MapI c vs :: Ow vs m) h

theorem Sat.flat {l l' : List HP} {h : Hp} : Sat ((fun h => Sat l h) :: l') h ↔ Sat (l ++ l') h := Sat.app.symm

theorem MB.opened {c : Nat} {m : IMap Bytes} {Γ : List HP} {h : Hp} : Sat (MB c m :: Γ) h ↔ ∃ vs : IMap Value, vs.map (·.1) = m.map (·.1) ∧ Sat (MapI c vs :: (Ow vs m ++ Γ)) h := by
  unfold MB
  rw [Sat.ex]
  constructor
  · rintro ⟨vs, hs⟩
    obtain ⟨hk, hs⟩ := Sat.pur.1 hs
    exact ⟨vs, hk, Sat.flat.1 hs⟩
  · rintro ⟨vs, hk, hs⟩
    exact ⟨vs, Sat.pur.2 ⟨hk, Sat.flat.2 hs⟩⟩

theorem Ent.appR {Γ Γ' F : List HP} (h : Ent Γ Γ') : Ent (Γ ++ F) (Γ' ++ F) := fun _ hs => Sat.app.2 (Sat.imp h (Sat.app.1 hs))
theorem Ent.appL {Γ F F' : List HP} (h : Ent F F') : Ent (Γ ++ F) (Γ ++ F') := fun _ hs => Sat.app.2 (Sat.cons h (Sat.app.1 hs))
theorem Ent.toEnd {A : HP} {Γ : List HP} : Ent (A :: Γ) (Γ ++ [A]) := by
  induction Γ with
  | nil => exact Ent.refl
  | cons B Γ ih => exact Ent.swap.trans (Ent.skip ih)
theorem Ent.sink {A : HP} {Γ F : List HP} : Ent (A :: (Γ ++ F)) (Γ ++ A :: F) := by
  induction Γ with
  | nil => exact Ent.refl
  | cons B Γ ih => exact Ent.swap.trans (Ent.skip ih)
theorem Ent.rise {A : HP} {Γ F : List HP} : Ent (Γ ++ A :: F) (A :: (Γ ++ F)) := by
  induction Γ with
  | nil => exact Ent.refl
  | cons B Γ ih => exact (Ent.skip ih).trans Ent.swap

theorem keys_get {α β : Type} {vs : IMap α} {m : IMap β} (h : vs.map (·.1) = m.map (·.1)) (k : Int) : (mget vs k).isSome = (mget m k).isSome := by
  have h1 := @mget_none _ vs k
  have h2 := @mget_none _ m k
  rw [h] at h1
  cases e1 : mget vs k <;> cases e2 : mget m k <;> simp_all
theorem Ow.look {vs : IMap Value} {m : IMap Bytes} (hk : vs.map (·.1) = m.map (·.1)) {k : Int} {b : Bytes} (hb : mget m k = some b) : ∃ v, mget vs k = some v ∧ ∀ h, Sat (Ow vs m) h → Rd v 1 (b.map vb) h := by
  induction m generalizing vs with
  | nil => simp [mget] at hb
  | cons q m ih =>
    obtain ⟨a, b'⟩ := q
    cases vs with
    | nil => simp at hk
    | cons p vs =>
      obtain ⟨a', v⟩ := p
      simp only [List.map_cons, List.cons.injEq] at hk
      obtain ⟨rfl, hk⟩ := hk
      unfold mget at hb ⊢
      by_cases h : k = a'
      · rw [if_pos h] at hb ⊢; cases hb
        exact ⟨v, rfl, fun h hs => by obtain ⟨h1, x, y⟩ := hs.one; exact y.rd.mono x⟩
      · rw [if_neg h] at hb ⊢
        obtain ⟨u, h1, h2⟩ := ih hk hb
        exact ⟨u, h1, fun h hs => h2 h hs.tail⟩
theorem Ow.put {vs : IMap Value} {m : IMap Bytes} (hk : vs.map (·.1) = m.map (·.1)) (k : Int) (v : Value) (b : Bytes) {F : List HP} :
    Ent (SlB v b :: (Ow vs m ++ F)) (Ow (mset vs k v) (mset m k b) ++ F) ∧ (mset vs k v).map (·.1) = (mset m k b).map (·.1) := by
  induction m generalizing vs with
  | nil =>
    have : vs = [] := by simpa using hk
    subst this
    exact ⟨Ent.refl, rfl⟩
  | cons q m ih =>
    obtain ⟨a, b'⟩ := q
    cases vs with
    | nil => simp at hk
    | cons p vs =>
      obtain ⟨a', v'⟩ := p
      simp only [List.map_cons, List.cons.injEq] at hk
      obtain ⟨rfl, hk⟩ := hk
      unfold mset
      by_cases h : k = a'
      · rw [if_pos h, if_pos h]
        exact ⟨Ent.skip (Ent.drop Ent.refl), by simp [hk]⟩
      · rw [if_neg h, if_neg h]
        obtain ⟨h1, h2⟩ := ih hk
        exact ⟨Ent.swap.trans (Ent.skip h1), by simp [h2]⟩
theorem Ow.del {vs : IMap Value} {m : IMap Bytes} (hk : vs.map (·.1) = m.map (·.1)) (k : Int) {F : List HP} :
    Ent (Ow vs m ++ F) (Ow (mdel vs k) (mdel m k) ++ F) ∧ (mdel vs k).map (·.1) = (mdel m k).map (·.1) := by
  induction m generalizing vs with
  | nil =>
    have : vs = [] := by simpa using hk
    subst this
    exact ⟨Ent.refl, rfl⟩
  | cons q m ih =>
    obtain ⟨a, b'⟩ := q
    cases vs with
    | nil => simp at hk
    | cons p vs =>
      obtain ⟨a', v'⟩ := p
      simp only [List.map_cons, List.cons.injEq] at hk
      obtain ⟨rfl, hk⟩ := hk
      unfold mdel
      by_cases h : k = a'
      · rw [if_pos h, if_pos h]
        exact ⟨Ent.drop Ent.refl, hk⟩
      · rw [if_neg h, if_neg h]
        obtain ⟨h1, h2⟩ := ih hk
        exact ⟨Ent.skip h1, by simp [h2]⟩

/-- read facts of a frame whose parts are a list's, and more -/
instance RdIn.app {v : Value} {k : Nat} {vs : List Value} {Γ Γ' : List HP} [r : RdIn Γ' v k vs] : RdIn (Γ ++ Γ') v k vs :=
  ⟨fun h hs => by
    have := Sat.app.1 hs
    exact r.rd h this.tail⟩
end Go.Sl
end

section
/- From a call's contract to the statement; what comes in, read. No program. -/
namespace Go.Sl
open Go Go.RowKit Go.ChangeShapes Go.WideShapes

/-- all that was in a world is as it was -/
def Old (w : World) : HP := fun h => ∀ b, b < w.heap.size → h b = hpOf w b

theorem Old.self (w : World) : Old w (hpOf w) := fun _ _ => rfl
theorem sat_old (w : World) : Sat [Old w] (hpOf w) :=
  ⟨hpOf w, fun _ => none, Hle.refl _, (fun _ _ e => by cases e), (fun _ => .inr rfl), Old.self w, trivial⟩
theorem Sat.below {W w : World} (he : Evo W w) (hs : Sat [Old W] (hpOf w)) : Below W.heap.size W w := by
  obtain ⟨h, hl, ho⟩ := hs.one
  refine ⟨he.os, he.tape, he.output, he.size, fun k hk => ?_⟩
  have h1 := ho k hk
  obtain ⟨o, h2⟩ : ∃ o, hpOf W k = some o := ⟨_, Array.getElem?_eq_getElem hk⟩
  have h3 := hl k o (by rw [h1, h2])
  unfold hpOf at h2 h3
  rw [h2, h3]
theorem Old.rd {W : World} {v : Value} {k : Nat} {vs : List Value} {F : List HP} (r : Rd v k vs (hpOf W)) : RdIn (Old W :: F) v k vs := ⟨fun h hs => by
  obtain ⟨h1, hl, ho⟩ := hs.one
  refine Rd.mono hl ?_
  rcases r with r | r | ⟨b, off, len, cap, cs, T, fr, a, c, d, e, f⟩
  · exact .inl r
  · exact .inr (.inl r)
  · exact .inr (.inr ⟨b, off, len, cap, cs, T, fr, a, c, d, e, (ho b (hp_lt f)).trans f⟩)⟩

section lift
variable {H : Type} {enc : TypeId × Value → H} {P : Program}

theorem trodAll_stays (hl : laidOutB P = true) {W W' : World} (hb : Below W.heap.size W W') : ∀ {ts : List TypeId} {vs : List Value} {ds : List (DataW H)} {ps : List MemPlace},
    (∀ t ∈ ts, P.readableRec t = true ∧ t < P.types.size) → (∀ p ∈ ps, p.block < W.heap.size) →
    DataW.TrodAll enc P W 0 (fun _ => true) true ts vs ds ps → DataW.TrodAll enc P W' 0 (fun b => decide (b < W.heap.size)) true ts vs ds ps
  | [], [], [], _, _, _, h => h
  | t :: ts, v :: vs, d :: ds, ps, hr, hlt, h => by
    obtain ⟨p, q, h1, h2, rfl⟩ := h
    refine ⟨p, q, Below.trod hl (hr t (.head _)).1 (hr t (.head _)).2 h1 hb (fun x hx => hlt x (List.mem_append.2 (.inl hx))), ?_, rfl⟩
    exact trodAll_stays hl hb (fun t ht => hr t (.tail _ ht)) (fun x hx => hlt x (List.mem_append.2 (.inr hx))) h2
  | [], [], _ :: _, _, _, _, h => h.elim
  | [], _ :: _, _, _, _, _, h => by cases h
  | _ :: _, [], _, _, _, _, h => by cases h
  | _ :: _, _ :: _, [], _, _, _, h => by cases h

/-- the statement's end: true is returned, nothing that was there has turned -/
theorem law_post {s : ChangeSpec} {f : Func} {T : TypeId} (hl : laidOutB P = true) {W W' : World} {args : Array Value} {ds gs : List (DataW H)} {before : List MemPlace} (hv : s.vars = [])
    (hW : DataW.Whole enc P f.params.toList s.vars false W args.toList ds gs before) (hrt : f.resultTypes = #[T]) (hT : P.underlying T = some .bool)
    (hr : ∀ t ∈ f.params.toList, P.readableRec t = true ∧ t < P.types.size) (hfn : s.fn H (ds ++ gs) = { results := [.lit (.bool true)], args := ds })
    (hb : Below W.heap.size W W') : s.post enc P f false true false false W args (.bool true) W' := by
  have hW' := hW
  have hlt : ∀ p ∈ before, p.block < W.heap.size := fun p hp => hW.lt p hp
  obtain ⟨p, q, hA, hV, rfl, hfz, hnd⟩ := hW
  rw [hv] at hV
  have hq : gs = [] ∧ q = [] := by cases gs <;> simp [DataW.TrodVars] at hV ⊢; exact hV
  obtain ⟨rfl, rfl⟩ := hq
  refine ⟨ds, [], p ++ [], [], p, [], hW', ?_, ?_, ?_, World.keptBut_mono (fun x hx => ⟨hx, .inr (.inl (by simpa using hx))⟩) (hb.frame (· ∈ p ++ [])), fun h => by cases h⟩
  · rw [hfn, hrt]
    refine ⟨[], [], ⟨1, ?_⟩, rfl, rfl⟩
    simp [DataW.trod, hT, Value.cells]
  · rw [hfn]
    exact trodAll_stays hl hb hr (fun x hx => hlt x (by simpa using hx)) hA
  · rw [hfn, hv]
    exact (rfl : ([] : List MemPlace) = [])

theorem trodAll_split1 {t : TypeId} {ts : List TypeId} {W : World} {vs : List Value} {ds : List (DataW H)} {ps : List MemPlace} (h : DataW.TrodAll enc P W 0 (fun _ => true) true (t :: ts) vs ds ps) :
    ∃ v vs' d ds' q fuel x, vs = v :: vs' ∧ ds = d :: ds' ∧ DataW.trod enc P W 0 (fun _ => true) true fuel t v.cells.toList = some x ∧ DataW.TrodAll enc P W 0 (fun _ => true) true ts vs' ds' q := by
  cases vs with
  | nil => cases ds <;> exact h.elim
  | cons v vs =>
    cases ds with
    | nil => exact h.elim
    | cons d ds =>
      obtain ⟨p, q, ⟨fuel, h1⟩, h2, _⟩ := h
      exact ⟨v, vs, d, ds, q, fuel, _, rfl, rfl, h1, h2⟩
theorem trodAll_split0 {W : World} {vs : List Value} {ds : List (DataW H)} {ps : List MemPlace} (h : DataW.TrodAll enc P W 0 (fun _ => true) true [] vs ds ps) : vs = [] ∧ ds = [] := by
  cases vs <;> cases ds <;> first | exact ⟨rfl, rfl⟩ | exact h.elim

/-- what a type's values read as -/
def Rdr (P : Program) (t : TypeId) (α : Type) (R : α → List Value → Hp → Prop) : Prop :=
  ∀ {H : Type} (enc : TypeId × Value → H) (W : World) (fuel : Nat) (cs : List Value) (x : DataW H × List MemPlace),
    DataW.trod enc P W 0 (fun _ => true) true fuel t cs = some x → ∃ y : α, R y cs (hpOf W)

theorem rdr_int {t : TypeId} {k : IntKind} [u : Und P t (.int k)] : Rdr P t Int (fun n cs _ => cs = [.int k n] ∧ k.min ≤ n ∧ n ≤ k.max) := by
  intro H enc W fuel cs x h
  obtain ⟨n, h1, _, h2⟩ := DataW.trod_int u.fact h
  exact ⟨n, h1, by simp [Lit.wf] at h2; exact h2⟩
theorem rdr_bool {t : TypeId} [u : Und P t .bool] : Rdr P t Bool (fun b cs _ => cs = [.bool b]) := by
  intro H enc W fuel cs x h
  obtain ⟨b, h1, _⟩ := DataW.trod_bool u.fact h
  exact ⟨b, h1⟩
theorem rdr_string {t : TypeId} [u : Und P t .string] : Rdr P t ByteArray (fun s cs _ => cs = [.string s] ∧ s.size ≤ 9223372036854775807) := by
  intro H enc W fuel cs x h
  obtain ⟨s, h1, _, h2⟩ := DataW.trod_string u.fact h
  exact ⟨s, h1, h2⟩

theorem mapM_some {α β : Type} {f : α → Option β} : ∀ {l : List α} {r : List β}, l.mapM f = some r → r.length = l.length ∧ ∀ i (hi : i < l.length), f l[i] = r[i]?
  | [], r, h => by simp at h; subst h; simp
  | a :: l, r, h => by
    rw [List.mapM_cons] at h
    cases ha : f a with
    | none => rw [ha] at h; simp at h
    | some b =>
      cases hl : l.mapM f with
      | none => rw [ha, hl] at h; simp at h
      | some r' =>
        rw [ha, hl] at h; simp at h; subst h
        obtain ⟨h1, h2⟩ := mapM_some hl
        refine ⟨by simp [h1], fun i hi => ?_⟩
        cases i with
        | zero => simpa using ha
        | succ i => simpa using h2 i (by simpa using hi)

/-- the cells from an address on -/
theorem cells_some {W : World} {a : Addr} {n : Nat} {cs : List Value} (h : W.cells? 0 a n = some cs) : cs.length = n ∧ ∀ i, i < n → W.cell? (a.add i) = cs[i]? := by
  unfold World.cells? at h
  rw [if_pos (Nat.zero_le _)] at h
  obtain ⟨h1, h2⟩ := mapM_some h
  refine ⟨by simpa using h1, fun i hi => ?_⟩
  have := h2 i (by simpa using hi)
  simpa using this

theorem cell_block {W : World} {a : Addr} {v : Value} (h : W.cell? a = some v) : a.spot = none ∧ ∃ (cs : List Value) (T : TypeId) (fr : Nat × Nat), hpOf W a.block = some (.cells cs.toArray T fr) ∧ cs[a.off]? = some v := by
  unfold World.cell? at h
  split at h
  · rename_i c T fr hb
    split at h
    · cases h
    · rename_i hs
      refine ⟨by simpa using hs, c.toList, T, fr, by simpa [hpOf] using hb, by simpa using h⟩
  · cases h

theorem rdr_slice {t e : TypeId} {k : Nat} {α : Type} {R : α → List Value → Hp → Prop} [u : Und P t (.slice e)] (hk : P.cellsOf e = k) (hk0 : 0 < k) (hR : Rdr P e α R) :
    Rdr P t (List α) (fun xs cs h => ∃ v, cs = [v] ∧ ∃ vs, Rd v k vs h ∧ slLen v = xs.length ∧ xs.length ≤ 9223372036854775807 ∧ ∀ i (hi : i < xs.length), R xs[i] ((vs.drop (i * k)).take k) h) := by
  intro H enc W fuel cs x h
  rcases DataW.trod_slice u.fact h with ⟨rfl, _⟩ | ⟨a, len, cap, elems, rest, n, _, rfl, _, _, hlc, hcap, hel, hget, _, _⟩
  · exact ⟨[], _, rfl, [], .inl ⟨rfl, rfl⟩, rfl, by simp, fun i hi => by simp at hi⟩
  · rw [hk] at hget
    by_cases hl0 : len = 0
    · subst hl0
      exact ⟨[], _, rfl, [], .inr (.inl ⟨a, cap, rfl, rfl⟩), rfl, by simp, fun i hi => by simp at hi⟩
    · have helem : ∀ i, i < len → ∃ ci y, W.cells? 0 (a.add (i * k)) k = some ci ∧ R y ci (hpOf W) := fun i hi => by
        have hi2 : elems[i]? = some elems[i] := by simp [hel, hi]
        have h1 := hget i hi
        rw [hi2] at h1
        cases hc : W.cells? 0 (a.add (i * k)) k with
        | none => rw [hc] at h1; simp at h1
        | some ci =>
          rw [hc] at h1
          obtain ⟨y, hy⟩ := hR enc W n ci _ h1
          exact ⟨ci, y, rfl, hy⟩
      -- the block
      obtain ⟨c0, y0, hc0, _⟩ := helem 0 (by omega)
      obtain ⟨hl0', hg0⟩ := cells_some hc0
      have h00 := hg0 0 hk0
      rw [Nat.zero_mul] at h00
      have h00' : W.cell? a = some c0[0] := by
        have : (a.add 0).add 0 = a := rfl
        rw [this] at h00
        rw [h00]; simp [hl0', hk0]
      obtain ⟨hspot, row, T, fr, hrow, _⟩ := cell_block h00'
      have ha : a = ⟨a.block, a.off, none⟩ := by cases a; simp_all
      have hcell : ∀ m, m < len * k → row[a.off + m]? ≠ none := fun m hm => by
        have hi : m / k < len := Nat.div_lt_of_lt_mul (by rw [Nat.mul_comm]; exact hm)
        obtain ⟨ci, y, hci, _⟩ := helem (m / k) hi
        obtain ⟨hl1, hg1⟩ := cells_some hci
        have h1 := hg1 (m % k) (Nat.mod_lt _ hk0)
        have h2 : (a.add (m / k * k)).add (m % k) = ⟨a.block, a.off + m, none⟩ := by
          rw [ha, add_pos, add_pos]; simp only [Nat.add_assoc]; rw [Nat.mul_comm, Nat.div_add_mod]
        rw [h2, cell_of_hp hrow] at h1
        rw [h1]; simp [hl1, Nat.mod_lt _ hk0]
      have hlen : a.off + len * k ≤ row.length := by
        have hpos : 0 < len * k := Nat.mul_pos (by omega) hk0
        have := hcell (len * k - 1) (by omega)
        have h2 : a.off + (len * k - 1) < row.length := by
          rcases Nat.lt_or_ge (a.off + (len * k - 1)) row.length with h | h
          · exact h
          · exact absurd (List.getElem?_eq_none h) this
        omega
      let vs := (row.drop a.off).take (len * k)
      have hvl : vs.length = len * k := by simp [vs]; omega
      refine ⟨List.ofFn fun i : Fin len => (helem i.1 i.2).choose_spec.choose, _, rfl, vs, .inr (.inr ⟨a.block, a.off, len, cap, row, T, fr, by rw [← ha], hlc, hvl, rfl, hrow⟩), by simp [slLen], by simp [maxLen] at hcap ⊢; omega, fun i hi => ?_⟩
      have hi' : i < len := by simpa using hi
      have hspec := (helem i hi').choose_spec.choose_spec
      have hx : (List.ofFn fun i : Fin len => (helem i.1 i.2).choose_spec.choose)[i] = (helem i hi').choose_spec.choose := by simp
      rw [hx]
      have hc : (vs.drop (i * k)).take k = (helem i hi').choose := by
        obtain ⟨hl1, hg1⟩ := cells_some hspec.1
        apply List.ext_getElem?
        intro j
        by_cases hj : j < k
        · have h1 := hg1 j hj
          have h2 : (a.add (i * k)).add j = ⟨a.block, a.off + (i * k + j), none⟩ := by rw [ha, add_pos, add_pos]; simp [Nat.add_assoc]
          rw [h2, cell_of_hp hrow] at h1
          have h3 : i * k + j < len * k := by
            have : i * k + k ≤ len * k := by rw [← Nat.succ_mul]; exact Nat.mul_le_mul_right _ hi'
            omega
          rw [List.getElem?_take, if_pos hj, List.getElem?_drop, List.getElem?_take, if_pos h3, List.getElem?_drop, h1]
        · rw [List.getElem?_take, if_neg hj, List.getElem?_eq_none (by omega)]
      rw [hc]
      exact hspec.2

/-- a struct: each field as its type reads -/
theorem rdr_struct {t : TypeId} {fs : Array Field} (hu : P.underlying t = some (.struct fs)) {H : Type} {enc : TypeId × Value → H} {W : World} {fuel : Nat} {cs : List Value} {x : DataW H × List MemPlace}
    (h : DataW.trod enc P W 0 (fun _ => true) true fuel t cs = some x) : cs.length = P.cellsOf t ∧ ∃ n, ∀ (i : Nat) (f : Field), fs[i]? = some f → ∃ y, DataW.trod enc P W 0 (fun _ => true) true n f.type ((cs.drop f.offset).take (P.cellsOf f.type)) = some y := by
  obtain ⟨xs, n, _, _, h1, h2, h3⟩ := DataW.trod_struct hu h
  refine ⟨h1, n, fun i f hf => ?_⟩
  have hi : i < xs.length := by rw [h2]; exact (Array.getElem?_eq_some_iff.1 hf).1
  exact ⟨xs[i], by rw [h3 i f hf]; simp [hi]⟩
/-- a byte -/
theorem rdr_u8 {t : TypeId} [u : Und P t (.int .u8)] : Rdr P t UInt8 (fun b cs _ => cs = [vb b] ∧ True) := by
  intro H enc W fuel cs x h
  obtain ⟨n, h1, h2, h3⟩ := rdr_int (t := t) (P := P) enc W fuel cs x h
  have h2 : 0 ≤ n := h2
  have h3 : n ≤ 255 := h3
  refine ⟨UInt8.ofNat n.toNat, ?_, trivial⟩
  rw [h1]
  simp only [vb]
  congr 2
  rw [UInt8.toNat_ofNat_of_lt' (by simp [UInt8.size]; omega)]
  omega
/-- a slice of elements of one cell, each a function's -/
theorem rdr_slice1 {t e : TypeId} {α : Type} {f : α → Value} {ψ : α → Prop} [u : Und P t (.slice e)] (hk : P.cellsOf e = 1) (hR : Rdr P e α (fun x cs _ => cs = [f x] ∧ ψ x)) :
    Rdr P t (List α) (fun xs cs h => ∃ v, cs = [v] ∧ Rd v 1 (xs.map f) h ∧ xs.length ≤ 9223372036854775807 ∧ ∀ x ∈ xs, ψ x) := by
  intro H enc W fuel cs x h
  obtain ⟨xs, v, h1, vs, h2, h3, h4, h5⟩ := rdr_slice (t := t) (P := P) hk (by decide) (@hR) enc W fuel cs x h
  have hl : vs.length = xs.length := by have := h2.len; rw [h3] at this; omega
  have hv : vs = xs.map f := by
    apply List.ext_getElem?
    intro i
    by_cases hi : i < xs.length
    · have := (h5 i hi).1
      rw [Nat.mul_one] at this
      have h6 : ((vs.drop i).take 1)[0]? = some (f xs[i]) := by rw [this]; rfl
      rw [List.getElem?_take, if_pos (by decide), List.getElem?_drop] at h6
      rw [Nat.add_zero] at h6
      rw [h6]; simp [hi]
    · rw [List.getElem?_eq_none (by omega), List.getElem?_eq_none (by simp; omega)]
  refine ⟨xs, v, h1, hv ▸ h2, h4, fun y hy => ?_⟩
  obtain ⟨i, hi, rfl⟩ := List.getElem_of_mem hy
  exact (h5 i hi).2
theorem flat_of {α : Type} {f : α → List Value} {k : Nat} : ∀ (xs : List α) (vs : List Value), vs.length = xs.length * k → (∀ i (hi : i < xs.length), (vs.drop (i * k)).take k = f xs[i]) → vs = xs.flatMap f
  | [], vs, hl, _ => by simpa using hl
  | x :: r, vs, hl, h => by
    have h0 := h 0 (by simp)
    rw [Nat.zero_mul, List.drop_zero, List.getElem_cons_zero] at h0
    have hr := flat_of (k := k) r (vs.drop k) (by simp [hl, Nat.succ_mul]) (fun i hi => by
      have := h (i + 1) (by simpa using hi)
      rw [List.getElem_cons_succ] at this
      rw [List.drop_drop, Nat.add_comm k, ← Nat.succ_mul]; exact this)
    rw [List.flatMap_cons, ← h0, ← hr, List.take_append_drop]
/-- a slice of structs, each a function's cells -/
theorem rdr_slicef {t e : TypeId} {k : Nat} {α : Type} {f : α → List Value} {ψ : α → Hp → Prop} [u : Und P t (.slice e)] (hk : P.cellsOf e = k) (hk0 : 0 < k) (hR : Rdr P e α (fun x cs h => cs = f x ∧ ψ x h)) :
    Rdr P t (List α) (fun xs cs h => ∃ v, cs = [v] ∧ Rd v k (xs.flatMap f) h ∧ xs.length ≤ 9223372036854775807 ∧ ∀ x ∈ xs, ψ x h) := by
  intro H enc W fuel cs x h
  obtain ⟨xs, v, h1, vs, h2, h3, h4, h5⟩ := rdr_slice (t := t) (P := P) hk hk0 (@hR) enc W fuel cs x h
  have hl : vs.length = xs.length * k := by have := h2.len; rw [h3] at this; exact this.symm
  have hv : vs = xs.flatMap f := flat_of xs vs hl fun i hi => (h5 i hi).1
  refine ⟨xs, v, h1, hv ▸ h2, h4, fun y hy => ?_⟩
  obtain ⟨i, hi, rfl⟩ := List.getElem_of_mem hy
  exact (h5 i hi).2
/-- bytes -/
theorem rdr_bytes {t e : TypeId} [u : Und P t (.slice e)] [u' : Und P e (.int .u8)] (hk : P.cellsOf e = 1) :
    Rdr P t Bytes (fun b cs h => ∃ v, cs = [v] ∧ Rd v 1 (b.map vb) h ∧ b.length ≤ 9223372036854775807) := by
  intro H enc W fuel cs x h
  obtain ⟨b, v, h1, h2, h3, _⟩ := rdr_slice1 (t := t) (P := P) hk (@rdr_u8 P e _) enc W fuel cs x h
  exact ⟨b, v, h1, h2, h3⟩

/-! an argument as it stands in the call -/
section arg
variable {W : World} {r : Reach} {b0 : Nat} {t : TypeId} {v : Value} {fuel : Nat} {x : DataW H × List MemPlace}
theorem arg_int {k : IntKind} [u : Und P t (.int k)] (hok : Value.okWide P W r b0 t v) (h : DataW.trod enc P W 0 (fun _ => true) true fuel t v.cells.toList = some x) : ∃ n : Int, v = .int k n ∧ k.min ≤ n ∧ n ≤ k.max := by
  obtain ⟨n, rfl⟩ := okWide_int u.fact hok
  obtain ⟨m, h1, h2⟩ := rdr_int (t := t) (P := P) enc W fuel _ x h
  simp [Value.cells] at h1
  exact ⟨n, rfl, h1 ▸ h2⟩
theorem arg_u8 [u : Und P t (.int .u8)] (hok : Value.okWide P W r b0 t v) (h : DataW.trod enc P W 0 (fun _ => true) true fuel t v.cells.toList = some x) : ∃ n : UInt8, v = vb n := by
  obtain ⟨n, rfl⟩ := okWide_int u.fact hok
  obtain ⟨m, h1, _⟩ := rdr_u8 (t := t) (P := P) enc W fuel _ x h
  simp [Value.cells] at h1
  exact ⟨m, by rw [h1]⟩
theorem arg_bool [u : Und P t .bool] (hok : Value.okWide P W r b0 t v) : ∃ b, v = .bool b := okWide_bool u.fact hok
theorem arg_string [u : Und P t .string] (hok : Value.okWide P W r b0 t v) (h : DataW.trod enc P W 0 (fun _ => true) true fuel t v.cells.toList = some x) : ∃ s : ByteArray, v = .string s ∧ s.size ≤ 9223372036854775807 := by
  obtain ⟨s, rfl⟩ := okWide_string u.fact hok
  obtain ⟨m, h1, h2⟩ := rdr_string (t := t) (P := P) enc W fuel _ x h
  simp [Value.cells] at h1
  exact ⟨s, rfl, h1 ▸ h2⟩
theorem arg_slice {e : TypeId} {α : Type} {R : α → List Value → Hp → Prop} [u : Und P t (.slice e)] (hR : Rdr P t α R) (hok : Value.okWide P W r b0 t v) (h : DataW.trod enc P W 0 (fun _ => true) true fuel t v.cells.toList = some x) :
    ∃ y : α, R y [v] (hpOf W) := by
  obtain ⟨a, l, c, rfl⟩ := okWide_slice u.fact hok
  exact hR enc W fuel _ x h
theorem arg_struct {fs : Array Field} {α : Type} {R : α → List Value → Hp → Prop} (u : P.underlying t = some (.struct fs)) (hR : Rdr P t α R) (hok : Value.okWide P W r b0 t v) (h : DataW.trod enc P W 0 (fun _ => true) true fuel t v.cells.toList = some x) :
    ∃ (y : α) (cs : List Value), v = .agg cs.toArray ∧ R y cs (hpOf W) := by
  obtain ⟨a, rfl, _⟩ := okWide_struct u hok
  obtain ⟨y, hy⟩ := hR enc W fuel _ x h
  exact ⟨y, a.toList, rfl, hy⟩
end arg
end lift
end Go.Sl
end
