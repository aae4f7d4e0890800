/- several texts, one behind the other -/
import Derived.Test.YtohienhoifgmaaaGreatP02

section
/- Maps keyed by int: what one holds, as a list of pairs; one law an operation. No program. -/
namespace Go.Sl
open Go

abbrev IMap (α : Type) := List (Int × α)
def mget {α : Type} : IMap α → Int → Option α
  | [], _ => none
  | (a, v) :: r, k => if k = a then some v else mget r k
def mset {α : Type} : IMap α → Int → α → IMap α
  | [], k, v => [(k, v)]
  | (a, u) :: r, k, v => if k = a then (a, v) :: r else (a, u) :: mset r k v
def mdel {α : Type} : IMap α → Int → IMap α
  | [], _ => []
  | (a, u) :: r, k => if k = a then r else (a, u) :: mdel r k
def mfind {α : Type} : IMap α → Int → Nat → Option (Nat × α)
  | [], _, _ => none
  | (a, v) :: r, k, i => if k = a then some (i, v) else mfind r k (i + 1)

section plain
variable {α β : Type}
theorem mget_mset (m : IMap α) (k j : Int) (v : α) : mget (mset m k v) j = if j = k then some v else mget m j := by
  induction m with
  | nil => simp [mset, mget]
  | cons p r ih =>
    obtain ⟨a, u⟩ := p
    unfold mset
    by_cases h : k = a
    · subst h; simp only [if_true, mget]; split <;> rfl
    · simp only [h, if_false, mget, ih]
      by_cases h1 : j = a
      · subst h1; simp [Ne.symm h]
      · simp [h1]
theorem mfind_eq (m : IMap α) (k : Int) : ∀ i, (mfind m k i).map (·.2) = mget m k := by
  induction m with
  | nil => intro i; rfl
  | cons p r ih => intro i; obtain ⟨a, u⟩ := p; simp only [mfind, mget]; split <;> simp_all
theorem mget_none {m : IMap α} {k : Int} : mget m k = none ↔ k ∉ m.map (·.1) := by
  induction m with
  | nil => simp [mget]
  | cons p r ih =>
    obtain ⟨a, u⟩ := p
    simp only [mget, List.map_cons, List.mem_cons, not_or]
    split <;> simp_all
theorem mset_keys (m : IMap α) (k : Int) (v : α) : (mset m k v).map (·.1) = if (mget m k).isSome then m.map (·.1) else m.map (·.1) ++ [k] := by
  induction m with
  | nil => simp [mset, mget]
  | cons p r ih =>
    obtain ⟨a, u⟩ := p
    unfold mset mget
    by_cases h : k = a
    · simp [h]
    · simp only [h, if_false, List.map_cons, ih]; split <;> simp
theorem mset_nodup {m : IMap α} (h : (m.map (·.1)).Nodup) (k : Int) (v : α) : ((mset m k v).map (·.1)).Nodup := by
  rw [mset_keys]
  split
  · exact h
  · rename_i hk
    have : k ∉ m.map (·.1) := mget_none.1 (by simpa using hk)
    rw [List.nodup_append]
    refine ⟨h, by simp, fun a ha b hb => ?_⟩
    rw [List.mem_singleton] at hb
    rintro rfl
    rw [hb] at ha
    exact this ha
theorem mdel_sub (m : IMap α) (k : Int) : (mdel m k).Sublist m := by
  induction m with
  | nil => exact .slnil
  | cons p r ih =>
    obtain ⟨a, u⟩ := p
    unfold mdel; split
    · exact List.sublist_cons_self _ _
    · exact ih.cons_cons _
theorem mdel_nodup {m : IMap α} (h : (m.map (·.1)).Nodup) (k : Int) : ((mdel m k).map (·.1)).Nodup := h.sublist ((mdel_sub m k).map _)
theorem mget_mdel {m : IMap α} (h : (m.map (·.1)).Nodup) (k j : Int) : mget (mdel m k) j = if j = k then none else mget m j := by
  induction m with
  | nil => simp [mdel, mget]
  | cons p r ih =>
    obtain ⟨a, u⟩ := p
    simp only [List.map_cons, List.nodup_cons] at h
    unfold mdel
    by_cases h1 : k = a
    · subst h1
      simp only [if_true, mget]
      by_cases h2 : j = k
      · subst h2; simp; exact mget_none.2 h.1
      · simp [h2]
    · simp only [h1, if_false, mget, ih h.2]
      by_cases h2 : j = a
      · subst h2; simp [Ne.symm h1]
      · simp [h2]
theorem mset_len (m : IMap α) (k : Int) (v : α) : (mset m k v).length = if (mget m k).isSome then m.length else m.length + 1 := by
  have := congrArg List.length (mset_keys m k v)
  simp only [List.length_map] at this
  rw [this]; split <;> simp
theorem mdel_len (m : IMap α) (k : Int) : (mdel m k).length = if (mget m k).isSome then m.length - 1 else m.length := by
  induction m with
  | nil => simp [mdel, mget]
  | cons p r ih =>
    obtain ⟨a, u⟩ := p
    unfold mdel mget
    by_cases h : k = a
    · simp [h]
    · simp only [h, if_false, List.length_cons, ih]
      split
      · rename_i hs
        have : r ≠ [] := by rintro rfl; simp [mget] at hs
        have : 0 < r.length := by cases r; exact absurd rfl this; simp
        omega
      · rfl
theorem mget_mem {m : IMap α} {k : Int} {v : α} (h : mget m k = some v) : (k, v) ∈ m := by
  induction m with
  | nil => simp [mget] at h
  | cons p r ih =>
    obtain ⟨a, u⟩ := p
    unfold mget at h
    split at h
    · rename_i hk; cases h; subst hk; exact .head _
    · exact .tail _ (ih h)
theorem mget_of_mem {m : IMap α} (hn : (m.map (·.1)).Nodup) {k : Int} {v : α} (h : (k, v) ∈ m) : mget m k = some v := by
  induction m with
  | nil => cases h
  | cons p r ih =>
    obtain ⟨a, u⟩ := p
    simp only [List.map_cons, List.nodup_cons] at hn
    unfold mget
    rcases List.mem_cons.1 h with h | h
    · cases h; simp
    · have : k ≠ a := fun e => hn.1 (e ▸ List.mem_map.2 ⟨(k, v), h, rfl⟩)
      simp [this, ih hn.2 h]
end plain

def entOf (e : MapEntry) : Value × Value := (e.key, e.val)
def pairOf (p : Int × Value) : Value × Value := (vi p.1, p.2)

/-- a map's entries are these pairs -/
structure IsMap (es : Array MapEntry) (clock : Nat) (m : IMap Value) : Prop where
  ents : es.toList.map entOf = m.map pairOf
  keys : (m.map (·.1)).Nodup
  borns : (es.toList.map (·.born)).Pairwise (· < ·)
  clock : ∀ e ∈ es.toList, e.born < clock

/-- the block b is a map of these pairs -/
def MapI (b : Nat) (m : IMap Value) : HP := fun h => ∃ es clock, h b = some (.map es clock) ∧ IsMap es clock m

theorem IsMap.size {es : Array MapEntry} {clock : Nat} {m : IMap Value} (h : IsMap es clock m) : es.size = m.length := by
  have := congrArg List.length h.ents; simpa using this

theorem sameNow_int {kd : IntKind} {a b : Int} : Instr.sameNow (.int kd) (vi a) (vi b) = some (a == b) := by simp [Instr.sameNow]

theorem findNow_of {kd : IntKind} {k : Int} : ∀ (es : List MapEntry) (m : IMap Value) (i : Nat), es.map entOf = m.map pairOf →
    Instr.findNow (.int kd) (vi k) es i = some (mfind m k i)
  | [], [], _, _ => rfl
  | [], _ :: _, _, h => by simp at h
  | _ :: _, [], _, h => by simp at h
  | e :: es, (a, v) :: m, i, h => by
    simp only [List.map_cons, List.cons.injEq, entOf, pairOf, Prod.mk.injEq] at h
    obtain ⟨⟨h1, h2⟩, h3⟩ := h
    unfold Instr.findNow mfind
    rw [h1, sameNow_int]
    by_cases hk : k = a
    · subst hk; simp [h2]
    · have : (k == a) = false := by simp [hk]
      simp only [this, hk, if_false]
      exact findNow_of es m (i + 1) h3

theorem mfind_idx {m : IMap Value} {k : Int} {i j : Nat} {v : Value} (h : mfind m k i = some (j, v)) : i ≤ j ∧ m[j - i]? = some (k, v) := by
  induction m generalizing i with
  | nil => simp [mfind] at h
  | cons p r ih =>
    obtain ⟨a, u⟩ := p
    unfold mfind at h
    split at h
    · rename_i hk; cases h; subst hk; simp
    · obtain ⟨h1, h2⟩ := ih h
      refine ⟨by omega, ?_⟩
      rw [show j - i = (j - (i + 1)) + 1 from by omega]; simpa using h2
theorem mset_idx {m : IMap Value} {k : Int} {i j : Nat} {u v : Value} (h : mfind m k i = some (j, u)) : mset m k v = m.modify (j - i) (fun p => (p.1, v)) := by
  induction m generalizing i with
  | nil => simp [mfind] at h
  | cons p r ih =>
    obtain ⟨a, u'⟩ := p
    unfold mfind at h
    unfold mset
    split at h
    · rename_i hk; cases h; subst hk; simp
    · rename_i hk
      obtain ⟨h1, _⟩ := mfind_idx h
      rw [if_neg hk, ih h, show j - i = (j - (i + 1)) + 1 from by omega]; rfl
theorem mdel_idx {m : IMap Value} {k : Int} {i j : Nat} {u : Value} (h : mfind m k i = some (j, u)) : mdel m k = m.eraseIdx (j - i) := by
  induction m generalizing i with
  | nil => simp [mfind] at h
  | cons p r ih =>
    obtain ⟨a, u'⟩ := p
    unfold mfind at h
    unfold mdel
    split at h
    · rename_i hk; cases h; subst hk; simp
    · rename_i hk
      obtain ⟨h1, _⟩ := mfind_idx h
      rw [if_neg hk, ih h, show j - i = (j - (i + 1)) + 1 from by omega]; rfl
theorem mset_new {α : Type} {m : IMap α} {k : Int} {v : α} (h : mget m k = none) : mset m k v = m ++ [(k, v)] := by
  induction m with
  | nil => rfl
  | cons p r ih =>
    obtain ⟨a, u⟩ := p
    unfold mget at h; unfold mset
    split at h
    · cases h
    · rename_i hk; rw [if_neg hk, ih h]; rfl
theorem mdel_none {α : Type} {m : IMap α} {k : Int} (h : mget m k = none) : mdel m k = m := by
  induction m with
  | nil => rfl
  | cons p r ih =>
    obtain ⟨a, u⟩ := p
    unfold mget at h; unfold mdel
    split at h
    · cases h
    · rename_i hk; rw [if_neg hk, ih h]

class PickM (Γ : List HP) (b : Nat) (m : outParam (IMap Value)) (Γ' : outParam (List HP)) : Prop where
  pick : Ent Γ (MapI b m :: Γ')
instance (priority := high) PickM.here {b : Nat} {m : IMap Value} {Γ : List HP} : PickM (MapI b m :: Γ) b m Γ := ⟨Ent.refl⟩
instance (priority := low) PickM.there {b : Nat} {m : IMap Value} {B : HP} {Γ Γ' : List HP} [h : PickM Γ b m Γ'] : PickM (B :: Γ) b m (B :: Γ') := ⟨(Ent.skip h.pick).trans Ent.swap⟩

theorem Sat.mapI {Γ : List HP} {b : Nat} {m : IMap Value} {h : Hp} (hs : Sat (MapI b m :: Γ) h) : ∃ es clock, h b = some (.map es clock) ∧ IsMap es clock m := by
  obtain ⟨h1, a, es, c, e, f⟩ := hs.one; exact ⟨es, c, a _ _ e, f⟩
theorem sat_putMap {Γ : List HP} {w : World} {b : Nat} {m m' : IMap Value} {es es' : Array MapEntry} {clock clock' : Nat} (hs : Sat (MapI b m :: Γ) (hpOf w))
    (_he : hpOf w b = some (.map es clock)) (hm : IsMap es' clock' m') : Sat (MapI b m' :: Γ) (hpOf (World.putObj w b (.map es' clock'))) := by
  obtain ⟨h1, h2, a, c, d, ⟨es0, c0, e0, f0⟩, g⟩ := hs
  have hs' : Sat (Blk b (.map es0 c0) :: Γ) (hpOf w) := ⟨h1, h2, a, c, d, e0, g⟩
  exact (sat_putObj hs' (.map es' clock')).imp fun h e => ⟨es', clock', e, hm⟩
/-- a map, in a world -/
def HasM (b : Nat) (m : IMap Value) : World → Prop := fun w => ∃ es clock, hpOf w b = some (.map es clock) ∧ IsMap es clock m

theorem run_getObj_map {P : Program} {w : World} {b : Nat} {es : Array MapEntry} {clock : Nat} (h : hpOf w b = some (.map es clock)) : (getObj b).run P w = .ok (.map es clock) w := by
  unfold hpOf at h
  simp [getObj, Sem.run, h]
theorem run_setObj {P : Program} {w : World} {b : Nat} {es : Array MapEntry} {clock : Nat} (h : hpOf w b = some (.map es clock)) (o : Obj) : (setObj b o).run P w = .ok () (World.putObj w b o) := by
  unfold hpOf at h
  simp [setObj, Sem.run, h, World.putObj]

/-- a map type keyed by int -/
class MapT (P : Program) (t : TypeId) (k e : outParam TypeId) : Prop where
  und : ∀ w, (underlying t).run P w = .ok (.map k e) w
  key : ∀ w, (underlying k).run P w = .ok (.int .i64) w

theorem run_checkKey {P : Program} {t k e : TypeId} [mt : MapT P t k e] (em : Bool) (d : Nat) (a : Int) (w : World) : (Instr.checkKey em (d + 1) k (vi a)).run P w = .ok () w := by
  simp [Instr.checkKey, mt.key]
theorem run_findKey {P : Program} {t k e : TypeId} [mt : MapT P t k e] {es : Array MapEntry} {clock : Nat} {m : IMap Value} (h : IsMap es clock m) (a : Int) (w : World) :
    (Instr.findKey k (vi a) es.toList).run P w = .ok (mfind m a 0) w := by
  simp [Instr.findKey, mt.key, findNow_of es.toList m 0 h.ents]

theorem run_keyThatStays {P : Program} (a : Int) (w : World) : (Instr.keyThatStays (vi a) (vi a)).run P w = .ok (vi a) w := by
  simp [Instr.keyThatStays, Instr.sameBits]

section ops
variable {P : Program} {ops : Array Oper} {Q : Exit → Act → World → Prop} {w0 : World} {n : Nat} {env : Env} {Γ : List HP} {rest : List Oper}
  {ty : TypeId} {pos : String} {after : Array Edge}

theorem isMap_empty : IsMap #[] 0 [] := ⟨rfl, by simp, by simp, by simp⟩

theorem wl_makeMap {d : Nat} {t : TypeId} (hd : Nat.blt d n = true) (k : ∀ b, WL P ops rest Q w0 n ((d, .map (some b)) :: env) (MapI b [] :: Γ)) :
    WL P ops (⟨some d, .makeMap t none, ty, pos, after, none⟩ :: rest) Q w0 n env Γ := by
  refine wl_gen (X := Nat) (φ := fun _ => True) (vf := fun b => .map (some b)) (Γf := fun b => MapI b [] :: Γ)
    (fun c w s => ⟨w.heap.size, w.alloc (.map #[] 0), by simp [execOp, Instr.makeMap], evo_alloc w _, trivial, ?_⟩) hd fun b _ => k b
  exact (sat_alloc _ s.sat).imp fun h e => ⟨#[], 0, e, isMap_empty⟩

theorem yl_mlen {x : Operand} {t e k' : TypeId} {b : Nat} {m : IMap Value} {Γ' : List HP} [mt : MapT P t k' e] (hx : evl env x = some (.map (some b))) [p : PickM Γ b m Γ'] :
    Yl P (.call ⟨.builtin .len, #[x], #[t]⟩) ty w0 n env Γ (vi m.length) (HasM b m) := by
  refine fun _ _ _ _ a w s => ⟨(p.pick _ s.sat).mapI, fun w' hm => ?_⟩
  obtain ⟨es, c, he, hm⟩ := hm
  simp [execOp, resolve, invoke, builtin, s.env.evl hx, Builtin.len_, mt.und, run_getObj_map he, goInt, hm.size]

theorem yl_lookup {x y : Operand} {t e k' : TypeId} {b : Nat} {m : IMap Value} {Γ' : List HP} {a : Int} {z : Value} [mt : MapT P t k' e] [zt : ZeroT P e z] (hx : evl env x = some (.map (some b))) (hy : evl env y = some (vi a)) [p : PickM Γ b m Γ'] :
    Yl P (.lookup t x y false) ty w0 n env Γ ((mget m a).getD z) (HasM b m) := by
  refine fun _ _ _ _ _ w s => ⟨(p.pick _ s.sat).mapI, fun w' hm => ?_⟩
  obtain ⟨es, c, he, hm⟩ := hm
  have hf := run_findKey (t := t) (P := P) hm a w'
  have hc := fun em => run_checkKey (t := t) (P := P) em 9999 a w'
  simp only [execOp, s.env.evl hx, s.env.evl hy, Instr.lookup]
  simp [mt.und, run_getObj_map he, hc, hf]
  have := mfind_eq m a 0
  cases hmf : mfind m a 0 with
  | none => rw [hmf] at this; simp at this; simp [zt.run, ← this]
  | some q => rw [hmf] at this; simp at this; simp [← this]

theorem yl_lookup2 {x y : Operand} {t e k' : TypeId} {b : Nat} {m : IMap Value} {Γ' : List HP} {a : Int} {z : Value} [mt : MapT P t k' e] [zt : ZeroT P e z] (hx : evl env x = some (.map (some b))) (hy : evl env y = some (vi a)) [p : PickM Γ b m Γ'] :
    Yl P (.lookup t x y true) ty w0 n env Γ (.tuple #[(mget m a).getD z, .bool (mget m a).isSome]) (HasM b m) := by
  refine fun _ _ _ _ _ w s => ⟨(p.pick _ s.sat).mapI, fun w' hm => ?_⟩
  obtain ⟨es, c, he, hm⟩ := hm
  have hf := run_findKey (t := t) (P := P) hm a w'
  have hc := fun em => run_checkKey (t := t) (P := P) em 9999 a w'
  simp only [execOp, s.env.evl hx, s.env.evl hy, Instr.lookup]
  simp [mt.und, run_getObj_map he, hc, hf]
  have := mfind_eq m a 0
  cases hmf : mfind m a 0 with
  | none => rw [hmf] at this; simp at this; simp [zt.run, ← this]
  | some q => rw [hmf] at this; simp at this; simp [← this]

theorem isMap_set {es : Array MapEntry} {clock : Nat} {m : IMap Value} (h : IsMap es clock m) (a : Int) (v : Value) :
    match mfind m a 0 with
    | some (i, _) => IsMap (es.modify i fun e => { e with key := vi a, val := v }) clock (mset m a v)
    | none => IsMap (es.push { key := vi a, val := v, born := clock }) (clock + 1) (mset m a v) := by
  split
  · rename_i i u hf
    obtain ⟨_, hi⟩ := mfind_idx hf
    simp only [Nat.sub_zero] at hi
    have hset := mset_idx (v := v) hf
    simp only [Nat.sub_zero] at hset
    refine ⟨?_, mset_nodup h.keys a v, ?_, ?_⟩
    · rw [hset, Array.toList_modify]
      apply List.ext_getElem?
      intro j
      have hj := congrArg (fun l => l[j]?) h.ents
      simp only [List.getElem?_map] at hj
      simp only [List.getElem?_map, List.getElem?_modify]
      by_cases hij : i = j
      · subst hij
        rw [hi] at hj ⊢
        cases he : es.toList[i]? with
        | none => rw [he] at hj; simp at hj
        | some e => simp [entOf, pairOf]
      · simp only [hij, if_false]
        simpa using hj
    · rw [Array.toList_modify]
      have : ((es.toList.modify i fun e => { e with key := vi a, val := v }).map (·.born)) = es.toList.map (·.born) := by
        apply List.ext_getElem?
        intro j
        simp only [List.getElem?_map, List.getElem?_modify]
        by_cases hij : i = j <;> simp [hij] <;> cases es.toList[j]? <;> rfl
      rw [this]; exact h.borns
    · intro e he
      rw [Array.toList_modify] at he
      obtain ⟨j, hj⟩ := List.getElem?_of_mem he
      rw [List.getElem?_modify] at hj
      cases hq : es.toList[j]? with
      | none => rw [hq] at hj; simp at hj
      | some e' =>
        have := h.clock e' (List.mem_of_getElem? hq)
        rw [hq] at hj; simp at hj
        rw [← hj]; split <;> exact this
  · rename_i hf
    have hg : mget m a = none := by rw [← mfind_eq m a 0, hf]; rfl
    refine ⟨?_, mset_nodup h.keys a v, ?_, ?_⟩
    · rw [mset_new hg]; simp [h.ents, entOf, pairOf]
    · simp only [Array.toList_push, List.map_append, List.map_cons, List.map_nil]
      rw [List.pairwise_append]
      refine ⟨h.borns, by simp, fun x hx y hy => ?_⟩
      simp at hx hy
      obtain ⟨e, he, rfl⟩ := hx
      subst hy
      exact h.clock e (by simpa using he)
    · intro e he
      simp at he
      rcases he with he | rfl
      · have := h.clock e (by simpa using he); omega
      · simp

theorem wl_mapUpdate {x y z : Operand} {t e k' : TypeId} {b : Nat} {m : IMap Value} {Γ' : List HP} {a : Int} {v : Value} [mt : MapT P t k' e] (hx : evl env x = some (.map (some b))) (hy : evl env y = some (vi a)) (hz : evl env z = some v) [p : PickM Γ b m Γ']
    (k : WL P ops rest Q w0 n env (MapI b (mset m a v) :: Γ')) :
    WL P ops (⟨none, .mapUpdate t x y z, ty, pos, after, none⟩ :: rest) Q w0 n env Γ := by
  refine wl_do (fun c w s => ?_) k
  obtain ⟨es, c, he, hm⟩ := (p.pick _ s.sat).mapI
  have hf := run_findKey (t := t) (P := P) hm a w
  have hc := run_checkKey (t := t) (P := P) false 9999 a w
  have hset := isMap_set hm a v
  cases hmf : mfind m a 0 with
  | none =>
    rw [hmf] at hset hf
    refine ⟨.skip, World.putObj w b (.map (es.push { key := vi a, val := v, born := c }) (c + 1)), ?_, .inl rfl, evo_putObj w _ _, sat_putMap (p.pick _ s.sat) he hset⟩
    simp only [execOp, s.env.evl hx, s.env.evl hy, s.env.evl hz, Instr.mapUpdate]
    simp [mt.und, run_getObj_map he, hc, hf, run_setObj he]
  | some q =>
    obtain ⟨i, u⟩ := q
    rw [hmf] at hset hf
    refine ⟨.skip, World.putObj w b (.map (es.modify i fun e => { e with key := vi a, val := v }) c), ?_, .inl rfl, evo_putObj w _ _, sat_putMap (p.pick _ s.sat) he hset⟩
    have hkey : ((es[i]?).map (·.key)).getD (vi a) = vi a := by
      obtain ⟨_, hi⟩ := mfind_idx hmf
      simp only [Nat.sub_zero] at hi
      have hj := congrArg (fun l => l[i]?) hm.ents
      simp only [List.getElem?_map, hi] at hj
      cases hq : es[i]? with
      | none => rfl
      | some e' =>
        have : es.toList[i]? = some e' := by simpa using hq
        rw [this] at hj
        simp [entOf, pairOf] at hj
        simp [hj.1]
    simp only [execOp, s.env.evl hx, s.env.evl hy, s.env.evl hz, Instr.mapUpdate]
    simp [mt.und, run_getObj_map he, hc, hf, hkey, run_keyThatStays, run_setObj he]

theorem eraseIdx_mapped {α β : Type} (f : α → β) : ∀ (l : List α) (i : Nat), (l.eraseIdx i).map f = (l.map f).eraseIdx i
  | [], _ => rfl
  | _ :: _, 0 => rfl
  | a :: l, i + 1 => by simp [eraseIdx_mapped f l i]
theorem isMap_del {es : Array MapEntry} {clock : Nat} {m : IMap Value} (h : IsMap es clock m) (a : Int) :
    match mfind m a 0 with
    | some (i, _) => IsMap (es.eraseIdxIfInBounds i) clock (mdel m a)
    | none => IsMap es clock (mdel m a) := by
  split
  · rename_i i u hf
    obtain ⟨_, hi⟩ := mfind_idx hf
    simp only [Nat.sub_zero] at hi
    have hdel := mdel_idx hf
    simp only [Nat.sub_zero] at hdel
    have hl : (es.eraseIdxIfInBounds i).toList = es.toList.eraseIdx i := by
      unfold Array.eraseIdxIfInBounds
      split
      · simp
      · rename_i hge; rw [List.eraseIdx_of_length_le (by simpa using hge)]
    refine ⟨?_, mdel_nodup h.keys a, ?_, ?_⟩
    · rw [hl, hdel, eraseIdx_mapped, eraseIdx_mapped, h.ents]
    · rw [hl, eraseIdx_mapped]; exact h.borns.sublist (List.eraseIdx_sublist _ _)
    · intro e he; rw [hl] at he; exact h.clock e (List.mem_of_mem_eraseIdx he)
  · rename_i hf
    have hg : mget m a = none := by rw [← mfind_eq m a 0, hf]; rfl
    rw [mdel_none hg]; exact h

theorem wl_delete {x y : Operand} {t t' e k' : TypeId} {b : Nat} {m : IMap Value} {Γ' : List HP} {a : Int} [mt : MapT P t k' e] (hx : evl env x = some (.map (some b))) (hy : evl env y = some (vi a)) [p : PickM Γ b m Γ']
    (k : WL P ops rest Q w0 n env (MapI b (mdel m a) :: Γ')) :
    WL P ops (⟨none, .call ⟨.builtin .delete, #[x, y], #[t, t']⟩, ty, pos, after, none⟩ :: rest) Q w0 n env Γ := by
  refine wl_do (fun c w s => ?_) k
  obtain ⟨es, c, he, hm⟩ := (p.pick _ s.sat).mapI
  have hf := run_findKey (t := t) (P := P) hm a w
  have hc := fun em => run_checkKey (t := t) (P := P) em 9999 a w
  have hset := isMap_del hm a
  cases hmf : mfind m a 0 with
  | none =>
    rw [hmf] at hset hf
    refine ⟨.value (.tuple #[]), World.putObj w b (.map es c), ?_, .inr ⟨_, rfl⟩, evo_putObj w _ _, sat_putMap (p.pick _ s.sat) he hset⟩
    simp [execOp, resolve, invoke, builtin, s.env.evl hx, s.env.evl hy, Builtin.delete_, mt.und, run_getObj_map he, hc, hf, run_setObj he]
  | some q =>
    obtain ⟨i, u⟩ := q
    rw [hmf] at hset hf
    refine ⟨.value (.tuple #[]), World.putObj w b (.map (es.eraseIdxIfInBounds i) c), ?_, .inr ⟨_, rfl⟩, evo_putObj w _ _, sat_putMap (p.pick _ s.sat) he hset⟩
    simp [execOp, resolve, invoke, builtin, s.env.evl hx, s.env.evl hy, Builtin.delete_, mt.und, run_getObj_map he, hc, hf, run_setObj he]

theorem wl_clear {x : Operand} {t e k' : TypeId} {b : Nat} {m : IMap Value} {Γ' : List HP} [mt : MapT P t k' e] (hx : evl env x = some (.map (some b))) [p : PickM Γ b m Γ']
    (k : WL P ops rest Q w0 n env (MapI b [] :: Γ')) :
    WL P ops (⟨none, .call ⟨.builtin .clear, #[x], #[t]⟩, ty, pos, after, none⟩ :: rest) Q w0 n env Γ := by
  refine wl_do (fun c w s => ?_) k
  obtain ⟨es, c, he, hm⟩ := (p.pick _ s.sat).mapI
  refine ⟨.value (.tuple #[]), World.putObj w b (.map #[] c), ?_, .inr ⟨_, rfl⟩, evo_putObj w _ _, sat_putMap (p.pick _ s.sat) he ⟨rfl, by simp, by simp, by simp⟩⟩
  simp [execOp, resolve, invoke, builtin, s.env.evl hx, Builtin.clear_, mt.und, run_getObj_map he, run_setObj he]

end ops
end Go.Sl
end

section
/- A statement whose order is open: what only reads floats; what it reads stays till another needs it. No program. -/
namespace Go.Sl
open Go

def dependsOn (ops : Array Oper) (j i : Nat) : Bool := match ops[j]? with
  | some o => o.after.any fun e => Region.binds .any e && e.on == i
  | none => false

/-- what must hold of a world, till one comes that stands behind the operation of that number -/
abbrev Obl := List (Nat × (World → Prop))
def OblOk (L : Obl) (w : World) : Prop := ∀ q ∈ L, q.2 w

def wpAnyL (P : Program) (ops : Array Oper) (Q : Exit → Act → World → Prop) : Nat → Obl → Array Bool → Act → World → Prop
  | 0, L, listed, a, w => OblOk L w ∧ Region.ready .any ops listed = [] ∧ Q .normal a w
  | fuel + 1, L, listed, a, w => OblOk L w ∧ (Region.ready .any ops listed = [] → Q .normal a w) ∧
      ∀ i ∈ Region.ready .any ops listed, wpOp P ops Q i (wpAnyL P ops Q fuel (L.filter fun q => !dependsOn ops i q.1) (listed.setIfInBounds i true)) a w

section draw
variable {P : Program} {ops : Array Oper} {Q : Exit → Act → World → Prop}

theorem wpAnyL_sound : ∀ (fuel : Nat) (L : Obl) (listed : Array Bool) (a : Act) (w : World), wpAnyL P ops Q fuel L listed a w → wpAny P .any ops Q fuel listed a w := by
  intro fuel
  induction fuel with
  | zero => intro L listed a w h; exact h.2
  | succ fuel ih => intro L listed a w h; exact ⟨h.2.1, fun i hi => wpOp_mono (fun a w => ih _ _ a w) (h.2.2 i hi)⟩

theorem wpAnyL_mono : ∀ (fuel : Nat) (L L' : Obl) (listed : Array Bool) (a : Act) (w : World), (∀ q ∈ L', q ∈ L ∨ q.2 = Tt) → wpAnyL P ops Q fuel L listed a w → wpAnyL P ops Q fuel L' listed a w := by
  intro fuel
  induction fuel with
  | zero =>
    intro L L' listed a w hs h
    refine ⟨fun q hq => ?_, h.2⟩
    rcases hs q hq with h1 | h1
    · exact h.1 q h1
    · rw [h1]; trivial
  | succ fuel ih =>
    intro L L' listed a w hs h
    refine ⟨fun q hq => ?_, h.2.1, fun i hi => wpOp_mono (fun a w => ih _ _ _ a w fun q hq => ?_) (h.2.2 i hi)⟩
    · rcases hs q hq with h1 | h1
      · exact h.1 q h1
      · rw [h1]; trivial
    · obtain ⟨h1, h2⟩ := List.mem_filter.1 hq
      rcases hs q h1 with h3 | h3
      · exact .inl (List.mem_filter.2 ⟨h3, h2⟩)
      · exact .inr h3

/-- the operation yields v in each world of which I holds; or it isn't wanted -/
def YI (P : Program) (ops : Array Oper) (o : Oper) (v : Value) (I : World → Prop) (a : Act) : Prop :=
  (Region.wanted o (yielded ops a.tmps) = true ∧ ∀ w, I w → (execOp a.eval o).run P w = .ok (.value v) w) ∨
  (Region.wanted o (yielded ops a.tmps) = false ∧ v = undef)

theorem YI.op {i : Nat} {o : Oper} {v : Value} {I : World → Prop} {a : Act} (hi : ops[i]? = some o) (hy : YI P ops o v I a) {K : Act → World → Prop} {w : World} (hw : I w)
    (h : K (a.put o.dst v) w) : wpOp P ops Q i K a w := by
  unfold wpOp
  simp only [hi]
  rcases hy with ⟨h1, h2⟩ | ⟨h1, rfl⟩
  · rw [if_pos h1]; left; unfold Oper.wp; rw [h2 w hw]; exact h
  · rw [if_neg (by simp [h1])]; exact h

theorem YI.stays {oi oj : Oper} {v : Value} {I : World → Prop} {a : Act} (hap : oi.apart ops oj = true) (hs : ∀ cs b, oi.op ≠ .select cs b) (hy : YI P ops oi v I a) (u : Value) :
    YI P ops oi v I (a.put oj.dst u) := by
  obtain ⟨_, _, h3⟩ := Oper.apart_spec hap
  unfold YI
  rw [execOp_put oi hs a oj.dst u h3, wanted_put oi a oj.dst u h3]
  exact hy

/-- a panic goes through whatever a slot holds -/
class PutQ (Q : Exit → Act → World → Prop) : Prop where
  put : ∀ c a d v w, Q (.panic c) (a.put d v) w → Q (.panic c) a w
instance {P : Program} {fn : Func} {R : Ending → World → Prop} : PutQ (bodyPost P fn R) := ⟨fun c a d v w h => ⟨by
  have := h.1; cases d <;> exact this, h.2⟩⟩
instance {K : Act → World → Prop} {Q : Exit → Act → World → Prop} [t : PutQ Q] : PutQ (Exit.then K Q) := ⟨t.put⟩
instance {id : Nat} {Q : Exit → Act → World → Prop} [t : PutQ Q] : PutQ (Exit.inBlock id Q) := ⟨t.put⟩
instance {X : Type} {w0 : World} {n : Nat} {env : X → Env} {Γ : X → List HP} {inv : X → Prop} {μ : X → Nat} {x : X} {Q : Exit → Act → World → Prop} [t : PutQ Q] :
    PutQ (LoopQ w0 n env Γ inv μ x Q) := ⟨t.put⟩

theorem swapOp [pq : PutQ Q] {j : Nat} {oi oj : Oper} {v : Value} {I : World → Prop} (hj : ops[j]? = some oj) (hap : oi.apart ops oj = true)
    (hsi : ∀ cs b, oi.op ≠ .select cs b) (hsj : ∀ cs b, oj.op ≠ .select cs b) {K : Act → World → Prop} {a : Act} {w : World}
    (hy : YI P ops oi v I a) (h : wpOp P ops Q j K (a.put oi.dst v) w) :
    wpOp P ops Q j (fun a' w' => YI P ops oi v I a' ∧ K (a'.put oi.dst v) w') a w := by
  obtain ⟨h1, h2, _⟩ := Oper.apart_spec hap
  have key : ∀ u, (a.put oj.dst u).put oi.dst v = (a.put oi.dst v).put oj.dst u := fun u => (Act.put_comm a v u h2).symm
  unfold wpOp at h ⊢
  simp only [hj] at h ⊢
  rw [wanted_put oj a oi.dst v h1] at h
  by_cases hw : Region.wanted oj (yielded ops a.tmps) = true
  · rw [if_pos hw] at h ⊢
    rcases h with h | ⟨h, hl⟩
    · left
      unfold Oper.wp at h ⊢
      rw [execOp_put oj hsj a oi.dst v h1] at h
      cases hr : (execOp a.eval oj).run P w with
      | halt x w' =>
        rw [hr] at h
        cases x <;> first | exact h.elim | exact pq.put _ _ _ _ _ h
      | ok nx w' =>
        rw [hr] at h
        cases nx <;> simp only [Oper.upon] at h ⊢
        case value u => exact ⟨hy.stays hap hsi u, by rw [key]; exact h⟩
        case skip => exact ⟨hy.stays hap hsi _, by rw [key]; exact h⟩
        case defer d =>
          have hy' : YI P ops oi v I { a with defers := d :: a.defers } := hy
          refine ⟨hy'.stays hap hsi _, ?_⟩
          rw [← Act.put_comm _ v undef h2, ← Act.put_defers]; exact h
        case enter f args =>
          refine Calls.mono h fun e w'' he => ?_
          cases e with
          | returned u => exact ⟨hy.stays hap hsi u, by rw [key]; exact he⟩
          | panicked c => exact pq.put _ _ _ _ _ he
          | outgrown => exact he
        case row row args => exact Rows.mono h fun u w'' he => ⟨hy.stays hap hsi u, by rw [key]; exact he⟩
    · right
      refine ⟨?_, hl⟩
      unfold Oper.asks at h ⊢
      rw [execOp_put oj hsj a oi.dst v h1] at h
      exact h
  · rw [if_neg hw] at h ⊢
    exact ⟨hy.stays hap hsi _, by rw [key]; exact h⟩

theorem ready_gone {i : Nat} {listed : Array Bool} (hr : i ∈ Region.ready .any ops listed) : Region.ready .any ops listed ≠ [] := by
  intro h; rw [h] at hr; cases hr

theorem wpAnyL_first [pq : PutQ Q] {i : Nat} {oi : Oper} {v : Value} {I : World → Prop} (hi : ops[i]? = some oi) (hsel : Region.noSelect ops = true) :
    ∀ (fuel : Nat) (L : Obl) (listed : Array Bool) (a : Act) (w : World),
      (∀ j oj, ops[j]? = some oj → j ≠ i → listed.getD j true = false → (∀ e ∈ oj.after, Region.binds .any e = true → e.on ≠ i) → oi.apart ops oj = true) →
      i ∈ Region.ready .any ops listed → YI P ops oi v I a → I w → OblOk L w →
      wpAnyL P ops Q fuel ((i, I) :: L) (listed.setIfInBounds i true) (a.put oi.dst v) w → wpAnyL P ops Q (fuel + 1) L listed a w := by
  intro fuel
  induction fuel with
  | zero =>
    intro L listed a w _ hr hy hw hL H
    refine ⟨hL, fun h => absurd h (ready_gone hr), fun j hj => ?_⟩
    by_cases hji : j = i
    · subst hji
      refine hy.op hi hw (wpAnyL_mono _ _ _ _ _ _ (fun q hq => .inl ?_) H)
      exact List.mem_cons_of_mem _ (List.mem_filter.1 hq).1
    · have := ready_mono hj hji
      rw [H.2.1] at this; cases this
  | succ fuel ih =>
    intro L listed a w hfree hr hy hw hL H
    refine ⟨hL, fun h => absurd h (ready_gone hr), fun j hj => ?_⟩
    by_cases hji : j = i
    · subst hji
      refine hy.op hi hw (wpAnyL_mono _ _ _ _ _ _ (fun q hq => .inl ?_) H)
      exact List.mem_cons_of_mem _ (List.mem_filter.1 hq).1
    · have h1 := H.2.2 j (ready_mono hj hji)
      obtain ⟨hjun, oj, hoj, hall⟩ := mem_ready.1 hj
      have hnot : ∀ e ∈ oj.after, Region.binds .any e = true → e.on ≠ i := fun e he hb heq => by
        have h2 := hall e he hb
        have h0 := (mem_ready.1 hr).1
        rw [heq] at h2
        rcases Nat.lt_or_ge i listed.size with h' | h'
        · simp [h'] at h0 h2; rw [h0] at h2; cases h2
        · simp [Array.getElem?_eq_none h'] at h2
      have hnd : dependsOn ops j i = false := by
        unfold dependsOn
        rw [hoj]
        apply Bool.eq_false_iff.2
        intro hany
        obtain ⟨e, he, hb⟩ := Array.any_eq_true'.1 hany
        simp only [Bool.and_eq_true, beq_iff_eq] at hb
        exact hnot e he hb.1 hb.2
      have h2 := swapOp hoj (hfree j oj hoj hji hjun hnot) (fun cs b => Region.noSelect_spec hsel i oi cs b hi) (fun cs b => Region.noSelect_spec hsel j oj cs b hoj) hy h1
      have hfree' : ∀ k ok, ops[k]? = some ok → k ≠ i → (listed.setIfInBounds j true).getD k true = false →
          (∀ e ∈ ok.after, Region.binds .any e = true → e.on ≠ i) → oi.apart ops ok = true := fun k ok hk hki hun hno => by
        refine hfree k ok hk hki ?_ hno
        by_cases hjk : j = k
        · subst hjk; exact hjun
        · rw [getD_set_ne true hjk] at hun; exact hun
      refine wpOp_mono (fun a' w' h3 => ?_) h2
      obtain ⟨hy', h3⟩ := h3
      rw [List.filter_cons, if_pos (by simp [hnd]), Array.setIfInBounds_comm _ _ (Ne.symm hji)] at h3
      have hok : OblOk ((i, I) :: L.filter fun q => !dependsOn ops j q.1) w' := by
        cases fuel with
        | zero => exact h3.1
        | succ fuel => exact h3.1
      exact ih _ (listed.setIfInBounds j true) a' w' hfree' (ready_mono hr (Ne.symm hji)) hy' (hok _ (.head _)) (fun q hq => hok q (.tail _ hq)) h3

end draw

/-! the same, of frames and heaps -/
def WD (P : Program) (ops : Array Oper) (Q : Exit → Act → World → Prop) (fuel : Nat) (L : Obl) (listed : Array Bool) (w0 : World) (n : Nat) (env : Env) (Γ : List HP) : Prop :=
  ∀ a w, St w0 n env Γ a w → OblOk L w → wpAnyL P ops Q fuel L listed a w

/-- what stays as long as these parts are there -/
class Keeps (Γ : List HP) (I : World → Prop) : Prop where
  keeps : ∀ w, Sat Γ (hpOf w) → I w
instance {Γ : List HP} : Keeps Γ Tt := ⟨fun _ _ => trivial⟩
instance {Γ Γ' : List HP} {b : Nat} {cs : List Value} [p : PickC Γ b cs Γ'] : Keeps Γ (HasC b cs) := ⟨fun _ s => (p.pick _ s).cells⟩
instance {Γ : List HP} {v : Value} {k : Nat} {vs : List Value} [r : RdIn Γ v k vs] : Keeps Γ (HasR v k vs) := ⟨fun _ s => r.rd _ s⟩
instance {Γ Γ' : List HP} {b : Nat} {m : IMap Value} [p : PickM Γ b m Γ'] : Keeps Γ (HasM b m) := ⟨fun _ s => (p.pick _ s).mapI⟩
class KeepsL (Γ : List HP) (L : Obl) : Prop where
  keeps : ∀ w, Sat Γ (hpOf w) → OblOk L w
instance {Γ : List HP} : KeepsL Γ [] := ⟨fun _ _ _ h => by cases h⟩
instance {Γ : List HP} {i : Nat} {I : World → Prop} {L : Obl} [h : Keeps Γ I] [t : KeepsL Γ L] : KeepsL Γ ((i, I) :: L) :=
  ⟨fun w s q hq => by
    rcases List.mem_cons.1 hq with rfl | hq
    · exact h.keeps w s
    · exact t.keeps w s q hq⟩

section laws
variable {P : Program} {Q : Exit → Act → World → Prop} {w0 : World} {n : Nat} {env : Env} {Γ : List HP} {ops : Array Oper} {fuel : Nat} {L : Obl} {listed : Array Bool}

theorem wc_draw {id : Nat} (hm : P.follows .mixedOrders = true) (h : WD P ops Q ops.size [] (Array.replicate ops.size false) w0 n env Γ) : WC P (.region id ops true) Q w0 n env Γ :=
  fun a w s => wp_region_any hm (wpAnyL_sound _ _ _ _ _ (h a w.drew ⟨s.env, s.defers, s.evo.trans (evo_drew w), s.sat⟩ (fun _ hq => by cases hq)))

/-- one that yields a value, and changes nothing, is taken first -/
theorem wd_y [pq : PutQ Q] (i : Nat) {d : Nat} {op : Op} {ty : TypeId} {pos : String} {after : Array Edge} {v : Value} {I : World → Prop} (hi : ops[i]? = some ⟨some d, op, ty, pos, after, none⟩)
    (hsel : Region.noSelect ops = true) (hf : Region.free .any ops listed i = true) (hr : (Region.ready .any ops listed).contains i = true)
    (y : Yl P op ty w0 n env Γ v I) (hd : Nat.blt d n = true) (k : WD P ops Q fuel ((i, I) :: L) (listed.setIfInBounds i true) w0 n ((d, v) :: env) Γ) :
    WD P ops Q (fuel + 1) L listed w0 n env Γ := fun a w s ho => by
  obtain ⟨iw, hrun⟩ := y (some d) pos after none a w s
  refine wpAnyL_first hi hsel fuel L listed a w (Region.free_spec hi hf) (by simpa using hr) (v := v) (I := I) (.inl ⟨by simp [Region.wanted], hrun⟩) iw ho ?_
  exact k _ _ ⟨s.env.put hd _, s.defers, s.evo, s.sat⟩ (fun q hq => by
    rcases List.mem_cons.1 hq with rfl | hq
    · exact iw
    · exact ho q hq)
/-- one that is guarded, and wanted -/
theorem wd_gy [pq : PutQ Q] (i : Nat) {d : Nat} {op : Op} {ty : TypeId} {pos : String} {after : Array Edge} {v : Value} {I : World → Prop} {g : Nat} {want : Bool} {og : Oper} {t : Tmp}
    (hi : ops[i]? = some ⟨some d, op, ty, pos, after, some (g, want)⟩)
    (hg : ops[g]? = some og) (ht : og.dst = some t) (hc : env.get t = some (.bool want))
    (hsel : Region.noSelect ops = true) (hf : Region.free .any ops listed i = true) (hr : (Region.ready .any ops listed).contains i = true)
    (y : Yl P op ty w0 n env Γ v I) (hd : Nat.blt d n = true) (k : WD P ops Q fuel ((i, I) :: L) (listed.setIfInBounds i true) w0 n ((d, v) :: env) Γ) :
    WD P ops Q (fuel + 1) L listed w0 n env Γ := fun a w s ho => by
  obtain ⟨iw, hrun⟩ := y (some d) pos after (some (g, want)) a w s
  refine wpAnyL_first hi hsel fuel L listed a w (Region.free_spec hi hf) (by simpa using hr) (v := v) (I := I) (.inl ⟨?_, hrun⟩) iw ho ?_
  · simp [Region.wanted, yielded, hg, ht, s.env.get _ _ hc]
  · exact k _ _ ⟨s.env.put hd _, s.defers, s.evo, s.sat⟩ (fun q hq => by
      rcases List.mem_cons.1 hq with rfl | hq
      · exact iw
      · exact ho q hq)
/-- one that is guarded, and not wanted -/
theorem wd_gn [pq : PutQ Q] (i : Nat) {d : Nat} {op : Op} {ty : TypeId} {pos : String} {after : Array Edge} {g : Nat} {want c : Bool} {og : Oper} {t : Tmp}
    (hi : ops[i]? = some ⟨some d, op, ty, pos, after, some (g, want)⟩)
    (hg : ops[g]? = some og) (ht : og.dst = some t) (hc : env.get t = some (.bool c)) (hne : (c == want) = false)
    (hsel : Region.noSelect ops = true) (hf : Region.free .any ops listed i = true) (hr : (Region.ready .any ops listed).contains i = true)
    (hd : Nat.blt d n = true) (k : WD P ops Q fuel L (listed.setIfInBounds i true) w0 n ((d, undef) :: env) Γ) :
    WD P ops Q (fuel + 1) L listed w0 n env Γ := fun a w s ho => by
  refine wpAnyL_first hi hsel fuel L listed a w (Region.free_spec hi hf) (by simpa using hr) (v := undef) (I := Tt) (.inr ⟨?_, rfl⟩) trivial ho ?_
  · have hcw : c ≠ want := by intro e; subst e; simp at hne
    simp [Region.wanted, yielded, hg, ht, s.env.get _ _ hc, hcw]
  · exact wpAnyL_mono _ _ _ _ _ _ (fun q hq => by
      rcases List.mem_cons.1 hq with rfl | hq
      · exact .inr rfl
      · exact .inl hq) (k _ _ ⟨s.env.put hd _, s.defers, s.evo, s.sat⟩ ho)

theorem wd_case (t : Nat) {c : Bool} (hc : env.get t = some (.bool c)) (h1 : c = true → WD P ops Q fuel L listed w0 n ((t, .bool true) :: env) Γ) (h2 : c = false → WD P ops Q fuel L listed w0 n ((t, .bool false) :: env) Γ) :
    WD P ops Q fuel L listed w0 n env Γ := fun a w s ho => by
  cases hb : c with
  | true => subst hb; exact h1 rfl a w ⟨s.env.known hc, s.defers, s.evo, s.sat⟩ ho
  | false => subst hb; exact h2 rfl a w ⟨s.env.known hc, s.defers, s.evo, s.sat⟩ ho

/-- the one that is ready, and no other, is done; then the obligations L' -/
def DrawQ (P : Program) (ops : Array Oper) (fuel : Nat) (L : Obl) (listed : Array Bool) (Q : Exit → Act → World → Prop) : Exit → Act → World → Prop :=
  Exit.then (fun a w => wpAnyL P ops Q fuel L listed a w) Q
instance {P : Program} {ops : Array Oper} {fuel : Nat} {L : Obl} {listed : Array Bool} {Q : Exit → Act → World → Prop} {R : Ending → World → Prop} [t : Thru Q R] : Thru (DrawQ P ops fuel L listed Q) R := ⟨t.panic⟩

theorem wpOp_of_list {i : Nat} {o : Oper} {K : Act → World → Prop} {a : Act} {w : World} (hi : ops[i]? = some o)
    (h : wpList P ops (Exit.then K Q) [o] a w) : wpOp P ops Q i K a w := by
  unfold wpOp
  simp only [hi]
  unfold wpList at h
  by_cases hw : Region.wanted o (yielded ops a.tmps) = true
  · rw [if_pos hw] at h ⊢
    rcases h with h | ⟨h, hl⟩
    · left
      unfold Oper.wp at h ⊢
      cases hr : (execOp a.eval o).run P w with
      | halt x w' => rw [hr] at h; cases x <;> first | exact h.elim | exact h
      | ok nx w' =>
        rw [hr] at h
        cases nx <;> simp only [Oper.upon] at h ⊢
        case value u => exact h
        case skip => exact h
        case defer d => exact h
        case enter f args =>
          refine Calls.mono h fun e w'' he => ?_
          cases e with
          | returned u => exact he
          | panicked c => exact he
          | outgrown => exact he
        case row row args => exact Rows.mono h fun u w'' he => he
    · right; exact ⟨h, hl⟩
  · rw [if_neg hw] at h ⊢; exact h

/-- the one that is ready is done, and what was owed stays owed -/
theorem wd_do (i : Nat) {o : Oper} (hi : ops[i]? = some o) (hr : Region.ready .any ops listed = [i])
    (h : WL P ops [o] (DrawQ P ops fuel L (listed.setIfInBounds i true) Q) w0 n env Γ) : WD P ops Q (fuel + 1) L listed w0 n env Γ := fun a w s ho => by
  refine ⟨ho, fun h0 => (by rw [hr] at h0; cases h0), fun j hj => ?_⟩
  rw [hr] at hj
  have : j = i := by simpa using hj
  subst this
  refine wpOp_mono (fun a' w' h' => wpAnyL_mono _ _ _ _ _ _ (fun q hq => .inl (List.mem_filter.1 hq).1) h') (wpOp_of_list hi (h a w s))
/-- the one that is ready is done, and nothing is owed any more -/
theorem wd_last (i : Nat) {o : Oper} (hi : ops[i]? = some o) (hr : Region.ready .any ops listed = [i]) (hL : (L.filter fun q => !dependsOn ops i q.1) = [])
    (h : WL P ops [o] (DrawQ P ops fuel [] (listed.setIfInBounds i true) Q) w0 n env Γ) : WD P ops Q (fuel + 1) L listed w0 n env Γ := fun a w s ho => by
  refine ⟨ho, fun h0 => (by rw [hr] at h0; cases h0), fun j hj => ?_⟩
  rw [hr] at hj
  have : j = i := by simpa using hj
  subst this
  rw [hL]
  exact wpOp_of_list hi (h a w s)

theorem wq_draw [kp : KeepsL Γ L] (h : WD P ops Q fuel L listed w0 n env Γ) : WQ (DrawQ P ops fuel L listed Q) .normal w0 n env Γ :=
  fun a w s => h a w s (kp.keeps w s.sat)
theorem wd_end (hr : Region.ready .any ops listed = []) (h : WQ Q .normal w0 n env Γ) : WD P ops Q 0 L listed w0 n env Γ :=
  fun a w s ho => ⟨ho, hr, h a w s⟩
end laws
end Go.Sl
end
