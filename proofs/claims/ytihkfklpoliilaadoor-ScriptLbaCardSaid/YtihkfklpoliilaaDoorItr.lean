/- Ranging over a map (keys of kind int) that stands while the loop runs: its entries in whichever order. No program. -/
import Derived.Test.YtihkfklpoliilaaDoorEng8
import Derived.Maps.RangeRun
namespace Go.Sl
open Go
open Go.ChangeMaps (setBlock)

/-- a map, entry by entry -/
def MapS (b : Nat) (es : Array MapEntry) (ck : Nat) (m : IMap Value) : HP := fun h => h b = some (.map es ck) ∧ IsMap es ck m
def stampAt (es : Array MapEntry) (j : Nat) : Nat := ((es[j]?).map (·.born)).getD 0
/-- an iterator over it that has been at these entries -/
def ItAt (r b : Nat) (es : Array MapEntry) (ck : Nat) (js : List Nat) : HP := fun h => h r = some (.mapIter (some b) ck (js.map (stampAt es)).toArray ck) ∧ ∀ i ∈ js, i < es.size

theorem MapI.ex {b : Nat} {m : IMap Value} {Γ : List HP} {h : Hp} : Sat (MapI b m :: Γ) h ↔ ∃ x : Array MapEntry × Nat, Sat (MapS b x.1 x.2 m :: Γ) h := by
  constructor
  · rintro ⟨h1, h2, a, c, d, ⟨es, ck, e, f⟩, g⟩
    exact ⟨(es, ck), h1, h2, a, c, d, ⟨e, f⟩, g⟩
  · rintro ⟨⟨es, ck⟩, hs⟩
    exact hs.imp fun h e => ⟨es, ck, e⟩

class PickE (Γ : List HP) (b : Nat) (es : outParam (Array MapEntry)) (ck : outParam Nat) (m : outParam (IMap Value)) (Γ' : outParam (List HP)) : Prop where
  pick : Ent Γ (MapS b es ck m :: Γ')
instance (priority := high) PickE.here {b : Nat} {es : Array MapEntry} {ck : Nat} {m : IMap Value} {Γ : List HP} : PickE (MapS b es ck m :: Γ) b es ck m Γ := ⟨Ent.refl⟩
instance (priority := low) PickE.there {b : Nat} {es : Array MapEntry} {ck : Nat} {m : IMap Value} {B : HP} {Γ Γ' : List HP} [h : PickE Γ b es ck m Γ'] : PickE (B :: Γ) b es ck m (B :: Γ') := ⟨(Ent.skip h.pick).trans Ent.swap⟩
instance PickM.hereS {b : Nat} {es : Array MapEntry} {ck : Nat} {m : IMap Value} {Γ : List HP} : PickM (MapS b es ck m :: Γ) b m Γ := ⟨fun _ hs => hs.imp fun _ e => ⟨es, ck, e⟩⟩
class PickI (Γ : List HP) (r : Nat) (b : outParam Nat) (es : outParam (Array MapEntry)) (ck : outParam Nat) (js : outParam (List Nat)) (Γ' : outParam (List HP)) : Prop where
  pick : Ent Γ (ItAt r b es ck js :: Γ')
instance (priority := high) PickI.here {r b : Nat} {es : Array MapEntry} {ck : Nat} {js : List Nat} {Γ : List HP} : PickI (ItAt r b es ck js :: Γ) r b es ck js Γ := ⟨Ent.refl⟩
instance (priority := low) PickI.there {r b : Nat} {es : Array MapEntry} {ck : Nat} {js : List Nat} {B : HP} {Γ Γ' : List HP} [h : PickI Γ r b es ck js Γ'] : PickI (B :: Γ) r b es ck js (B :: Γ') := ⟨(Ent.skip h.pick).trans Ent.swap⟩

theorem MapS.at {b : Nat} {es : Array MapEntry} {ck : Nat} {m : IMap Value} {Γ : List HP} {h : Hp} (hs : Sat (MapS b es ck m :: Γ) h) : h b = some (.map es ck) ∧ IsMap es ck m := by
  obtain ⟨h1, a, e, f⟩ := hs.one; exact ⟨a _ _ e, f⟩
theorem ItAt.at {r b : Nat} {es : Array MapEntry} {ck : Nat} {js : List Nat} {Γ : List HP} {h : Hp} (hs : Sat (ItAt r b es ck js :: Γ) h) : h r = some (.mapIter (some b) ck (js.map (stampAt es)).toArray ck) ∧ ∀ i ∈ js, i < es.size := by
  obtain ⟨h1, a, e, f⟩ := hs.one; exact ⟨a _ _ e, f⟩

theorem IsMap.at {es : Array MapEntry} {ck : Nat} {m : IMap Value} (h : IsMap es ck m) {j : Nat} {e : MapEntry} (he : es.toList[j]? = some e) : ∃ q, m[j]? = some q ∧ e.key = vi q.1 ∧ e.val = q.2 := by
  have h1 : (es.toList.map entOf)[j]? = some (entOf e) := by simp only [List.getElem?_map, he, Option.map_some]
  rw [h.ents, List.getElem?_map] at h1
  cases hq : m[j]? with
  | none => rw [hq] at h1; cases h1
  | some q =>
    rw [hq] at h1
    have h2 : pairOf q = entOf e := Option.some.inj h1
    exact ⟨q, rfl, (congrArg Prod.fst h2).symm, (congrArg Prod.snd h2).symm⟩
theorem IsMap.at' {es : Array MapEntry} {ck : Nat} {m : IMap Value} (h : IsMap es ck m) {j : Nat} {q : Int × Value} (hq : m[j]? = some q) : ∃ e, es.toList[j]? = some e ∧ e.key = vi q.1 ∧ e.val = q.2 := by
  have hl : es.toList.length = m.length := by simpa using congrArg List.length h.ents
  have hj : j < m.length := (List.getElem?_eq_some_iff.1 hq).1
  obtain ⟨e, he⟩ : ∃ e, es.toList[j]? = some e := ⟨_, List.getElem?_eq_getElem (by omega)⟩
  obtain ⟨q', h1, h2⟩ := h.at he
  rw [hq] at h1; cases h1
  exact ⟨e, he, h2⟩
theorem stampAt_of {es : Array MapEntry} {j : Nat} {e : MapEntry} (he : es.toList[j]? = some e) : stampAt es j = e.born := by
  unfold stampAt
  rw [← Array.getElem?_toList, he]; rfl
theorem IsMap.nodupB {es : Array MapEntry} {ck : Nat} {m : IMap Value} (h : IsMap es ck m) : (es.toList.map (·.born)).Nodup := h.borns.imp fun h => Nat.ne_of_lt h
theorem IsMap.one {es : Array MapEntry} {ck : Nat} {m : IMap Value} (h : IsMap es ck m) {i j : Nat} (hi : i < m.length) (hj : j < m.length) (he : stampAt es i = stampAt es j) : i = j := by
  have hl : es.toList.length = m.length := by simpa using congrArg List.length h.ents
  have hn := h.nodupB
  rw [stampAt_of (List.getElem?_eq_getElem (by omega : i < es.toList.length)), stampAt_of (List.getElem?_eq_getElem (by omega : j < es.toList.length))] at he
  have h1 : (es.toList.map (·.born))[i]'(by simp only [List.length_map]; omega) = (es.toList.map (·.born))[j]'(by simp only [List.length_map]; omega) := by simpa using he
  exact (List.getElem_inj hn).1 h1

section ops
variable {P : Program} {ops : Array Oper} {Q : Exit → Act → World → Prop} {w0 : World} {n : Nat} {env : Env} {Γ : List HP} {rest : List Oper}
  {ty : TypeId} {pos : String} {after : Array Edge}

theorem wl_range {d : Nat} {t : TypeId} {x : Operand} {k' e : TypeId} {b : Nat} {es : Array MapEntry} {ck : Nat} {m : IMap Value} {Γ' : List HP} [mt : MapT P t k' e] (hx : evl env x = some (.map (some b))) [p : PickE Γ b es ck m Γ'] (hd : Nat.blt d n = true)
    (k : ∀ r, WL P ops rest Q w0 n ((d, vp r) :: env) (ItAt r b es ck [] :: Γ)) :
    WL P ops (⟨some d, .range t x, ty, pos, after, none⟩ :: rest) Q w0 n env Γ := by
  refine wl_gen (X := Nat) (φ := fun _ => True) (vf := fun r => vp r) (Γf := fun r => ItAt r b es ck [] :: Γ)
    (fun c w s => ⟨w.heap.size, w.alloc (.mapIter (some b) ck #[] ck), ?_, evo_alloc w _, trivial, ?_⟩) hd fun b _ => k b
  · have := (MapS.at (p.pick _ s.sat)).1
    simp [execOp, s.env.evl hx, Instr.range, mt.und, run_getObj_map this]
  · exact (sat_alloc _ s.sat).imp fun h e => ⟨e, by simp⟩

theorem wl_next {d : Nat} {x : Operand} {r b : Nat} {es : Array MapEntry} {ck : Nat} {m : IMap Value} {js : List Nat} {Γ1 Γ2 : List HP} (hx : evl env x = some (vp r)) (hd : Nat.blt d n = true)
    [p : PickI Γ r b es ck js Γ1] [q : PickE Γ1 b es ck m Γ2]
    (k1 : (∀ j, j < m.length → j ∈ js) → WL P ops rest Q w0 n ((d, .tuple #[.bool false]) :: env) Γ)
    (k2 : ∀ j (e : Int × Value), m[j]? = some e → j ∉ js → WL P ops rest Q w0 n ((d, .tuple #[.bool true, vi e.1, e.2]) :: env) (ItAt r b es ck (js ++ [j]) :: Γ1)) :
    WL P ops (⟨some d, .next x false, ty, pos, after, none⟩ :: rest) Q w0 n env Γ := fun a w s => by
  obtain ⟨hr, hjs⟩ := ItAt.at (p.pick _ s.sat)
  obtain ⟨hb, hm⟩ := MapS.at (q.pick _ (p.pick _ s.sat).tail)
  have hl : es.toList.length = m.length := by simpa using congrArg List.length hm.ents
  refine wpList_plain rfl fun K hK => ?_
  unfold Oper.wp
  rcases run_next_at (P := P) w ty r b ck ck (js.map (stampAt es)).toArray es ck (by simpa [hpOf] using hr) (by simpa [hpOf] using hb) hm.clock (Nat.le_refl _) with ⟨h0, hrun⟩ | ⟨e, he, w1, hw1, hrun⟩
  · simp only [execOp, s.env.evl hx, vp, hrun, Sem.run_bind, Result.andThen]
    refine hK _ _ (k1 (fun j hj => ?_) _ _ ⟨s.env.put hd _, s.defers, s.evo, s.sat⟩)
    have hz : leftOf es (js.map (stampAt es)).toArray = #[] := Array.eq_empty_of_size_eq_zero h0
    unfold leftOf at hz
    rw [Array.filter_eq_empty_iff] at hz
    have hj' : j < es.toList.length := by omega
    have h1 := hz es.toList[j] (by simp)
    simp only [Bool.not_eq_true, Bool.not_eq_false', Array.contains_iff_mem] at h1
    have h2 : es.toList[j].born ∈ js.map (stampAt es) := by simpa using h1
    obtain ⟨i, hi, hij⟩ := List.mem_map.1 h2
    have hsz : es.size = m.length := by simpa using hl
    have hi' := hjs i hi
    rw [← stampAt_of (List.getElem?_eq_getElem hj')] at hij
    rwa [← hm.one (by omega) hj hij]
  · simp only [execOp, s.env.evl hx, vp, hrun, Sem.run_bind, Result.andThen]
    obtain ⟨he1, he2⟩ := mem_left he
    obtain ⟨j, hj, rfl⟩ := List.getElem_of_mem he1
    have hje := List.getElem?_eq_getElem hj
    obtain ⟨pq, hpq, hk1, hk2⟩ := hm.at hje
    have hsz : es.size = m.length := by simpa using hl
    rw [hk1, hk2]
    refine hK _ _ (k2 j pq hpq (fun hmem => ?_) _ _ ⟨s.env.put hd _, s.defers, s.evo.trans ?_, ?_⟩)
    · have : es.toList[j].born ∈ js.map (stampAt es) := List.mem_map.2 ⟨j, hmem, stampAt_of hje⟩
      have h3 : (js.map (stampAt es)).toArray.contains es.toList[j].born = true := by simpa using this
      rw [h3] at he2; cases he2
    · have h1 : Evo w w1 := by rcases hw1 with rfl | rfl <;> first | exact evo_drew _ | exact Evo.refl _
      exact h1.trans (evo_putObj _ _ _)
    · have hs1 : Sat Γ (hpOf w1) := by rcases hw1 with rfl | rfl <;> exact s.sat
      have hs2 : Sat (Blk r (.mapIter (some b) ck (js.map (stampAt es)).toArray ck) :: Γ1) (hpOf w1) := (p.pick _ hs1).imp fun _ e => e.1
      refine (sat_putObj hs2 (.mapIter (some b) ck ((js.map (stampAt es)).toArray.push es.toList[j].born) ck)).imp fun h e => ⟨?_, ?_⟩
      · rw [List.map_append, List.map_cons, List.map_nil, stampAt_of hje, ← List.push_toArray]; exact e
      · intro i hi
        rcases List.mem_append.1 hi with hi | hi
        · exact hjs i hi
        · have : i = j := by simpa using hi
          subst this; simpa using hj

theorem yl_entry {x : Operand} {r b : Nat} {es : Array MapEntry} {ck : Nat} {m : IMap Value} {js : List Nat} {j : Nat} {e : Int × Value} {Γ1 Γ2 : List HP} (hx : evl env x = some (vp r))
    [p : PickI Γ r b es ck (js ++ [j]) Γ1] [q : PickE Γ1 b es ck m Γ2] (he : m[j]? = some e) :
    Yl P (.entry x) ty w0 n env Γ (.tuple #[vi e.1, e.2]) (fun w => hpOf w r = some (.mapIter (some b) ck ((js ++ [j]).map (stampAt es)).toArray ck) ∧ hpOf w b = some (.map es ck) ∧ IsMap es ck m) := by
  refine fun _ _ _ _ a w s => ⟨⟨(ItAt.at (p.pick _ s.sat)).1, MapS.at (q.pick _ (p.pick _ s.sat).tail)⟩, fun w' hw => ?_⟩
  obtain ⟨h1, h2, hm⟩ := hw
  obtain ⟨en, hen, hk, hv⟩ := hm.at' he
  rw [List.map_append, List.map_cons, List.map_nil, stampAt_of hen, ← List.push_toArray] at h1
  have := run_entry_at (P := P) w' r b ck (js.map (stampAt es)).toArray es ck en (by simpa [hpOf] using h1) (by simpa [hpOf] using h2) (List.mem_of_getElem? hen) hm.nodupB
  rw [hk, hv] at this
  simp [execOp, s.env.evl hx, vp, this]
end ops
end Go.Sl
