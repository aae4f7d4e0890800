/- several texts, one behind the other -/
import Derived.Test.YtohienhoifgmaaaGreatP05
import Derived.Maps.RangeRun

section
/- Ranging over a map (keys of kind int) that stands while the loop runs: its entries in whichever order. No program. -/
namespace Go.Sl
open Go
open Go.ChangeMaps (setBlock)

/-- a map, entry by entry -/
def MapS (b : Nat) (es : Array MapEntry) (ck : Nat) (m : IMap Value) : HP := fun h => h b = some (.map es ck) ∧ IsMap es ck m
def stampAt (es : Array MapEntry) (j : Nat) : Nat := ((es[j]?).map (·.born)).getD 0
/-- an iterator over it that has been at these entries -/
def ItAt (r b : Nat) (es : Array MapEntry) (ck : Nat) (js : List Nat) : HP := fun h => h r = some (.mapIter (some b) ck (js.map (stampAt es)).toArray ck) ∧ ∀ i ∈ js, i < es.size

theorem MapI.ex {b : Nat} {m : IMap Value} {Γ : List HP} {h : Hp} : Sat (MapI b m :: Γ) h ↔ ∃ x : Array MapEntry × Nat, Sat (MapS b x.1 x.2 m :: Γ) h := by
  constructor
  · rintro ⟨h1, h2, a, c, d, ⟨es, ck, e, f⟩, g⟩
    exact ⟨(es, ck), h1, h2, a, c, d, ⟨e, f⟩, g⟩
  · rintro ⟨⟨es, ck⟩, hs⟩
    exact hs.imp fun h e => ⟨es, ck, e⟩

class PickE (Γ : List HP) (b : Nat) (es : outParam (Array MapEntry)) (ck : outParam Nat) (m : outParam (IMap Value)) (Γ' : outParam (List HP)) : Prop where
  pick : Ent Γ (MapS b es ck m :: Γ')
instance (priority := high) PickE.here {b : Nat} {es : Array MapEntry} {ck : Nat} {m : IMap Value} {Γ : List HP} : PickE (MapS b es ck m :: Γ) b es ck m Γ := ⟨Ent.refl⟩
instance (priority := low) PickE.there {b : Nat} {es : Array MapEntry} {ck : Nat} {m : IMap Value} {B : HP} {Γ Γ' : List HP} [h : PickE Γ b es ck m Γ'] : PickE (B :: Γ) b es ck m (B :: Γ') := ⟨(Ent.skip h.pick).trans Ent.swap⟩
instance PickM.hereS {b : Nat} {es : Array MapEntry} {ck : Nat} {m : IMap Value} {Γ : List HP} : PickM (MapS b es ck m :: Γ) b m Γ := ⟨fun _ hs => hs.imp fun _ e => ⟨es, ck, e⟩⟩
class PickI (Γ : List HP) (r : Nat) (b : outParam Nat) (es : outParam (Array MapEntry)) (ck : outParam Nat) (js : outParam (List Nat)) (Γ' : outParam (List HP)) : Prop where
  pick : Ent Γ (ItAt r b es ck js :: Γ')
instance (priority := high) PickI.here {r b : Nat} {es : Array MapEntry} {ck : Nat} {js : List Nat} {Γ : List HP} : PickI (ItAt r b es ck js :: Γ) r b es ck js Γ := ⟨Ent.refl⟩
instance (priority := low) PickI.there {r b : Nat} {es : Array MapEntry} {ck : Nat} {js : List Nat} {B : HP} {Γ Γ' : List HP} [h : PickI Γ r b es ck js Γ'] : PickI (B :: Γ) r b es ck js (B :: Γ') := ⟨(Ent.skip h.pick).trans Ent.swap⟩

theorem MapS.at {b : Nat} {es : Array MapEntry} {ck : Nat} {m : IMap Value} {Γ : List HP} {h : Hp} (hs : Sat (MapS b es ck m :: Γ) h) : h b = some (.map es ck) ∧ IsMap es ck m := by
  obtain ⟨h1, a, e, f⟩ := hs.one; exact ⟨a _ _ e, f⟩
theorem ItAt.at {r b : Nat} {es : Array MapEntry} {ck : Nat} {js : List Nat} {Γ : List HP} {h : Hp} (hs : Sat (ItAt r b es ck js :: Γ) h) : h r = some (.mapIter (some b) ck (js.map (stampAt es)).toArray ck) ∧ ∀ i ∈ js, i < es.size := by
  obtain ⟨h1, a, e, f⟩ := hs.one; exact ⟨a _ _ e, f⟩

theorem IsMap.at {es : Array MapEntry} {ck : Nat} {m : IMap Value} (h : IsMap es ck m) {j : Nat} {e : MapEntry} (he : es.toList[j]? = some e) : ∃ q, m[j]? = some q ∧ e.key = vi q.1 ∧ e.val = q.2 := by
  have h1 : (es.toList.map entOf)[j]? = some (entOf e) := by simp only [List.getElem?_map, he, Option.map_some]
  rw [h.ents, List.getElem?_map] at h1
  cases hq : m[j]? with
  | none => rw [hq] at h1; cases h1
  | some q =>
    rw [hq] at h1
    have h2 : pairOf q = entOf e := Option.some.inj h1
    exact ⟨q, rfl, (congrArg Prod.fst h2).symm, (congrArg Prod.snd h2).symm⟩
theorem IsMap.at' {es : Array MapEntry} {ck : Nat} {m : IMap Value} (h : IsMap es ck m) {j : Nat} {q : Int × Value} (hq : m[j]? = some q) : ∃ e, es.toList[j]? = some e ∧ e.key = vi q.1 ∧ e.val = q.2 := by
  have hl : es.toList.length = m.length := by simpa using congrArg List.length h.ents
  have hj : j < m.length := (List.getElem?_eq_some_iff.1 hq).1
  obtain ⟨e, he⟩ : ∃ e, es.toList[j]? = some e := ⟨_, List.getElem?_eq_getElem (by omega)⟩
  obtain ⟨q', h1, h2⟩ := h.at he
  rw [hq] at h1; cases h1
  exact ⟨e, he, h2⟩
theorem stampAt_of {es : Array MapEntry} {j : Nat} {e : MapEntry} (he : es.toList[j]? = some e) : stampAt es j = e.born := by
  unfold stampAt
  rw [← Array.getElem?_toList, he]; rfl
theorem IsMap.nodupB {es : Array MapEntry} {ck : Nat} {m : IMap Value} (h : IsMap es ck m) : (es.toList.map (·.born)).Nodup := h.borns.imp fun h => Nat.ne_of_lt h
theorem IsMap.one {es : Array MapEntry} {ck : Nat} {m : IMap Value} (h : IsMap es ck m) {i j : Nat} (hi : i < m.length) (hj : j < m.length) (he : stampAt es i = stampAt es j) : i = j := by
  have hl : es.toList.length = m.length := by simpa using congrArg List.length h.ents
  have hn := h.nodupB
  rw [stampAt_of (List.getElem?_eq_getElem (by omega : i < es.toList.length)), stampAt_of (List.getElem?_eq_getElem (by omega : j < es.toList.length))] at he
  have h1 : (es.toList.map (·.born))[i]'(by simp only [List.length_map]; omega) = (es.toList.map (·.born))[j]'(by simp only [List.length_map]; omega) := by simpa using he
  exact (List.getElem_inj hn).1 h1

section ops
variable {P : Program} {ops : Array Oper} {Q : Exit → Act → World → Prop} {w0 : World} {n : Nat} {env : Env} {Γ : List HP} {rest : List Oper}
  {ty : TypeId} {pos : String} {after : Array Edge}

theorem wl_range {d : Nat} {t : TypeId} {x : Operand} {k' e : TypeId} {b : Nat} {es : Array MapEntry} {ck : Nat} {m : IMap Value} {Γ' : List HP} [mt : MapT P t k' e] (hx : evl env x = some (.map (some b))) [p : PickE Γ b es ck m Γ'] (hd : Nat.blt d n = true)
    (k : ∀ r, WL P ops rest Q w0 n ((d, vp r) :: env) (ItAt r b es ck [] :: Γ)) :
    WL P ops (⟨some d, .range t x, ty, pos, after, none⟩ :: rest) Q w0 n env Γ := by
  refine wl_gen (X := Nat) (φ := fun _ => True) (vf := fun r => vp r) (Γf := fun r => ItAt r b es ck [] :: Γ)
    (fun c w s => ⟨w.heap.size, w.alloc (.mapIter (some b) ck #[] ck), ?_, evo_alloc w _, trivial, ?_⟩) hd fun b _ => k b
  · have := (MapS.at (p.pick _ s.sat)).1
    simp [execOp, s.env.evl hx, Instr.range, mt.und, run_getObj_map this]
  · exact (sat_alloc _ s.sat).imp fun h e => ⟨e, by simp⟩

theorem wl_next {d : Nat} {x : Operand} {r b : Nat} {es : Array MapEntry} {ck : Nat} {m : IMap Value} {js : List Nat} {Γ1 Γ2 : List HP} (hx : evl env x = some (vp r)) (hd : Nat.blt d n = true)
    [p : PickI Γ r b es ck js Γ1] [q : PickE Γ1 b es ck m Γ2]
    (k1 : (∀ j, j < m.length → j ∈ js) → WL P ops rest Q w0 n ((d, .tuple #[.bool false]) :: env) Γ)
    (k2 : ∀ j (e : Int × Value), m[j]? = some e → j ∉ js → WL P ops rest Q w0 n ((d, .tuple #[.bool true, vi e.1, e.2]) :: env) (ItAt r b es ck (js ++ [j]) :: Γ1)) :
    WL P ops (⟨some d, .next x false, ty, pos, after, none⟩ :: rest) Q w0 n env Γ := fun a w s => by
  obtain ⟨hr, hjs⟩ := ItAt.at (p.pick _ s.sat)
  obtain ⟨hb, hm⟩ := MapS.at (q.pick _ (p.pick _ s.sat).tail)
  have hl : es.toList.length = m.length := by simpa using congrArg List.length hm.ents
  refine wpList_plain rfl fun K hK => ?_
  unfold Oper.wp
  rcases run_next_at (P := P) w ty r b ck ck (js.map (stampAt es)).toArray es ck (by simpa [hpOf] using hr) (by simpa [hpOf] using hb) hm.clock (Nat.le_refl _) with ⟨h0, hrun⟩ | ⟨e, he, w1, hw1, hrun⟩
  · simp only [execOp, s.env.evl hx, vp, hrun, Sem.run_bind, Result.andThen]
    refine hK _ _ (k1 (fun j hj => ?_) _ _ ⟨s.env.put hd _, s.defers, s.evo, s.sat⟩)
    have hz : leftOf es (js.map (stampAt es)).toArray = #[] := Array.eq_empty_of_size_eq_zero h0
    unfold leftOf at hz
    rw [Array.filter_eq_empty_iff] at hz
    have hj' : j < es.toList.length := by omega
    have h1 := hz es.toList[j] (by simp)
    simp only [Bool.not_eq_true, Bool.not_eq_false', Array.contains_iff_mem] at h1
    have h2 : es.toList[j].born ∈ js.map (stampAt es) := by simpa using h1
    obtain ⟨i, hi, hij⟩ := List.mem_map.1 h2
    have hsz : es.size = m.length := by simpa using hl
    have hi' := hjs i hi
    rw [← stampAt_of (List.getElem?_eq_getElem hj')] at hij
    rwa [← hm.one (by omega) hj hij]
  · simp only [execOp, s.env.evl hx, vp, hrun, Sem.run_bind, Result.andThen]
    obtain ⟨he1, he2⟩ := mem_left he
    obtain ⟨j, hj, rfl⟩ := List.getElem_of_mem he1
    have hje := List.getElem?_eq_getElem hj
    obtain ⟨pq, hpq, hk1, hk2⟩ := hm.at hje
    have hsz : es.size = m.length := by simpa using hl
    rw [hk1, hk2]
    refine hK _ _ (k2 j pq hpq (fun hmem => ?_) _ _ ⟨s.env.put hd _, s.defers, s.evo.trans ?_, ?_⟩)
    · have : es.toList[j].born ∈ js.map (stampAt es) := List.mem_map.2 ⟨j, hmem, stampAt_of hje⟩
      have h3 : (js.map (stampAt es)).toArray.contains es.toList[j].born = true := by simpa using this
      rw [h3] at he2; cases he2
    · have h1 : Evo w w1 := by rcases hw1 with rfl | rfl <;> first | exact evo_drew _ | exact Evo.refl _
      exact h1.trans (evo_putObj _ _ _)
    · have hs1 : Sat Γ (hpOf w1) := by rcases hw1 with rfl | rfl <;> exact s.sat
      have hs2 : Sat (Blk r (.mapIter (some b) ck (js.map (stampAt es)).toArray ck) :: Γ1) (hpOf w1) := (p.pick _ hs1).imp fun _ e => e.1
      refine (sat_putObj hs2 (.mapIter (some b) ck ((js.map (stampAt es)).toArray.push es.toList[j].born) ck)).imp fun h e => ⟨?_, ?_⟩
      · rw [List.map_append, List.map_cons, List.map_nil, stampAt_of hje, ← List.push_toArray]; exact e
      · intro i hi
        rcases List.mem_append.1 hi with hi | hi
        · exact hjs i hi
        · have : i = j := by simpa using hi
          subst this; simpa using hj

theorem yl_entry {x : Operand} {r b : Nat} {es : Array MapEntry} {ck : Nat} {m : IMap Value} {js : List Nat} {j : Nat} {e : Int × Value} {Γ1 Γ2 : List HP} (hx : evl env x = some (vp r))
    [p : PickI Γ r b es ck (js ++ [j]) Γ1] [q : PickE Γ1 b es ck m Γ2] (he : m[j]? = some e) :
    Yl P (.entry x) ty w0 n env Γ (.tuple #[vi e.1, e.2]) (fun w => hpOf w r = some (.mapIter (some b) ck ((js ++ [j]).map (stampAt es)).toArray ck) ∧ hpOf w b = some (.map es ck) ∧ IsMap es ck m) := by
  refine fun _ _ _ _ a w s => ⟨⟨(ItAt.at (p.pick _ s.sat)).1, MapS.at (q.pick _ (p.pick _ s.sat).tail)⟩, fun w' hw => ?_⟩
  obtain ⟨h1, h2, hm⟩ := hw
  obtain ⟨en, hen, hk, hv⟩ := hm.at' he
  rw [List.map_append, List.map_cons, List.map_nil, stampAt_of hen, ← List.push_toArray] at h1
  have := run_entry_at (P := P) w' r b ck (js.map (stampAt es)).toArray es ck en (by simpa [hpOf] using h1) (by simpa [hpOf] using h2) (List.mem_of_getElem? hen) hm.nodupB
  rw [hk, hv] at this
  simp [execOp, s.env.evl hx, vp, this]
end ops
end Go.Sl
end

section
/- More operations that yield: interfaces, bits, functions against nil. No program. -/
namespace Go.Sl
open Go
section ops
variable {P : Program} {w0 : World} {n : Nat} {env : Env} {Γ : List HP} {ty : TypeId}

class MkI (P : Program) (t : TypeId) : Prop where
  run : ∀ v w, (Instr.makeInterface t v).run P w = .ok (.iface t v) w
theorem yl_iface {t : TypeId} {x : Operand} {v : Value} [u : MkI P t] (hx : evl env x = some v) : Yl P (.makeInterface t x) ty w0 n env Γ (.iface t v) Tt :=
  fun _ _ _ _ _ _ s => ⟨trivial, fun w' _ => by simp [execOp, s.env.evl hx, u.run]⟩
theorem yl_shr {t yt : TypeId} {x y : Operand} {k yk : IntKind} {a b : Int} (hx : evl env x = some (.int k a)) (hy : evl env y = some (.int yk b)) (hb : 0 ≤ b) :
    Yl P (.binOp .shr t x y yt) ty w0 n env Γ (.int k (a.fdiv (2 ^ (min b.toNat k.bits)))) Tt := by
  refine fun _ _ _ _ _ _ s => ⟨trivial, fun w' _ => ?_⟩
  have : ¬ b < 0 := by omega
  simp [execOp, s.env.evl hx, s.env.evl hy, eqGuard, binOp, Op.shift, this]
theorem yl_shl {t yt : TypeId} {x y : Operand} {k yk : IntKind} {a b : Int} (hx : evl env x = some (.int k a)) (hy : evl env y = some (.int yk b)) (hb : 0 ≤ b) :
    Yl P (.binOp .shl t x y yt) ty w0 n env Γ (.int k (k.wrap (a * 2 ^ (min b.toNat k.bits)))) Tt := by
  refine fun _ _ _ _ _ _ s => ⟨trivial, fun w' _ => ?_⟩
  have : ¬ b < 0 := by omega
  simp [execOp, s.env.evl hx, s.env.evl hy, eqGuard, binOp, Op.shift, this]
theorem yl_and {t yt : TypeId} {x y : Operand} {k : IntKind} {a b : Int} (hx : evl env x = some (.int k a)) (hy : evl env y = some (.int k b)) :
    Yl P (.binOp .and t x y yt) ty w0 n env Γ (.int k (k.wrap (BitVec.ofInt k.bits a &&& BitVec.ofInt k.bits b).toNat)) Tt := by
  refine fun _ _ _ _ _ _ s => ⟨trivial, fun w' _ => ?_⟩
  simp [execOp, s.env.evl hx, s.env.evl hy, eqGuard, binOp, Op.intBits]
theorem yl_xorb {t yt : TypeId} {x y : Operand} {a b : UInt8} (hx : evl env x = some (vb a)) (hy : evl env y = some (vb b)) :
    Yl P (.binOp .xor t x y yt) ty w0 n env Γ (vb (a ^^^ b)) Tt := by
  refine fun _ _ _ _ _ _ s => ⟨trivial, fun w' _ => ?_⟩
  have h : ∀ a b : UInt8, IntKind.u8.wrap (((BitVec.ofInt 8 (a.toNat : Int)) ^^^ (BitVec.ofInt 8 (b.toNat : Int)) : BitVec 8).toNat : Nat) = ((a ^^^ b).toNat : Int) := by
    intro a b
    have h1 : BitVec.ofInt 8 (a.toNat : Int) = a.toBitVec := by
      apply BitVec.eq_of_toNat_eq; simp
    have h2 : BitVec.ofInt 8 (b.toNat : Int) = b.toBitVec := by
      apply BitVec.eq_of_toNat_eq; simp
    rw [h1, h2]
    have h3 := (a ^^^ b).toNat_lt
    have h4 : (a.toBitVec ^^^ b.toBitVec).toNat = (a ^^^ b).toNat := by rw [← UInt8.toBitVec_xor]; rfl
    rw [h4]
    exact wrap_u8 (by omega) (by omega)
  have h' : (Op.intBits .xor .u8 (a.toNat : Int) (b.toNat : Int)).run P w' = .ok (vb (a ^^^ b)) w' := by
    show Sem.run P (pure (Value.int .u8 (IntKind.u8.wrap (((BitVec.ofInt 8 (a.toNat : Int)) ^^^ (BitVec.ofInt 8 (b.toNat : Int)) : BitVec 8).toNat : Nat)))) w' = _
    rw [h]; rfl
  simp only [execOp, s.env.evl hx, s.env.evl hy, eqGuard, binOp]
  simp [h']
theorem run_equalIn_fnil (d : Nat) {t : TypeId} {ps rs : Array TypeId} {vv : Bool} {f : Fn} {a b : Array Value} [u : Und P t (.func ps rs vv)] (w : World) : (Op.equalIn (d + 1) t (.func f a b) .nilFunc).run P w = .ok false w := by
  simp [Op.equalIn, u.run]
theorem yl_nefnil {t yt : TypeId} {ps rs : Array TypeId} {vv : Bool} {x y : Operand} {f : Fn} {a b : Array Value} [u : Und P t (.func ps rs vv)] (hx : evl env x = some (.func f a b)) (hy : evl env y = some .nilFunc) :
    Yl P (.binOp .neq t x y yt) ty w0 n env Γ (.bool true) Tt := by
  refine fun _ _ _ _ _ w s => ⟨trivial, fun w' _ => ?_⟩
  have h1 := run_equalIn_fnil (P := P) (t := t) (f := f) (a := a) (b := b) 9999 w'
  simp [execOp, s.env.evl hx, s.env.evl hy, eqGuard, binOp, Op.equal, Op.maxDepth, h1]
theorem MkI.und {t : TypeId} [u : MkI P t] (w : World) : ∃ d, (underlying t).run P w = .ok d w ∧ ∀ ms, d ≠ .interface ms := by
  have h := u.run undef w
  unfold Instr.makeInterface at h
  rw [Sem.run_bind] at h
  cases hr : (underlying t).run P w with
  | ok d w' =>
    rw [hr] at h
    simp only [Result.andThen_ok] at h
    refine ⟨d, ?_, fun ms e => ?_⟩
    · have : w' = w := by
        split at h
        · cases h
        · simp at h; exact h
      rw [this]
    · subst e; cases h
  | halt a w' => rw [hr] at h; cases h
theorem yl_assertYes {xt t : TypeId} {x : Operand} {v : Value} [u : MkI P t] (hx : evl env x = some (.iface t v)) :
    Yl P (.typeAssert x xt t true) ty w0 n env Γ (.tuple #[v, .bool true]) Tt := by
  refine fun _ _ _ _ _ _ s => ⟨trivial, fun w' _ => ?_⟩
  obtain ⟨d, hd, hn⟩ := u.und w'
  simp only [execOp, s.env.evl hx, Instr.typeAssert, Sem.run_bind, hd, Result.andThen_ok]
  cases d <;> first | exact absurd rfl (hn _) | simp
theorem yl_assertNo {xt t t' : TypeId} {x : Operand} {v z : Value} [u : MkI P t] [zt : ZeroT P t z] (hx : evl env x = some (.iface t' v)) (hne : Nat.beq t' t = false) :
    Yl P (.typeAssert x xt t true) ty w0 n env Γ (.tuple #[z, .bool false]) Tt := by
  refine fun _ _ _ _ _ _ s => ⟨trivial, fun w' _ => ?_⟩
  obtain ⟨d, hd, hn⟩ := u.und w'
  have hne' : t' ≠ t := Nat.ne_of_beq_eq_false hne
  simp only [execOp, s.env.evl hx, Instr.typeAssert, Sem.run_bind, hd, Result.andThen_ok]
  cases d <;> first | exact absurd rfl (hn _) | simp [hne', zt.run]

theorem run_equalIn_ifacenil (d : Nat) {t T : TypeId} {ms : Array (String × TypeId)} {v : Value} [u : Und P t (.interface ms)] (w : World) : (Op.equalIn (d + 1) t (.iface T v) .nilIface).run P w = .ok false w := by
  simp [Op.equalIn, u.run]
theorem run_equalIn_nilnil (d : Nat) {t : TypeId} {ms : Array (String × TypeId)} [u : Und P t (.interface ms)] (w : World) : (Op.equalIn (d + 1) t .nilIface .nilIface).run P w = .ok true w := by
  simp [Op.equalIn, u.run]
theorem yl_neiface {t yt T : TypeId} {ms : Array (String × TypeId)} {x y : Operand} {v : Value} [u : Und P t (.interface ms)] (hx : evl env x = some (.iface T v)) (hy : evl env y = some .nilIface) :
    Yl P (.binOp .neq t x y yt) ty w0 n env Γ (.bool true) Tt := by
  refine fun _ _ _ _ _ w s => ⟨trivial, fun w' _ => ?_⟩
  have h1 := run_equalIn_ifacenil (P := P) (t := t) (T := T) (v := v) 9999 w'
  simp [execOp, s.env.evl hx, s.env.evl hy, eqGuard, binOp, Op.equal, Op.maxDepth, h1]
theorem yl_nenone {t yt : TypeId} {ms : Array (String × TypeId)} {x : Operand} [u : Und P t (.interface ms)] (hx : evl env x = some .nilIface) :
    Yl P (.binOp .neq t x (.const .nilIface) yt) ty w0 n env Γ (.bool false) Tt := by
  refine fun _ _ _ _ a w s => ⟨trivial, fun w' _ => ?_⟩
  have hx' := s.env.evl hx
  have hy' : a.eval (.const .nilIface) = .nilIface := rfl
  have h1 := run_equalIn_nilnil (P := P) (t := t) 9999 w'
  simp [execOp, hx', hy', eqGuard, binOp, Op.equal, Op.maxDepth, h1]

/-- values are laid at a place of a row -/
def lay : List Value → Nat → List Value → List Value
  | cs, 0, vs => vs ++ cs.drop vs.length
  | [], _ + 1, _ => []
  | c :: cs, o + 1, vs => c :: lay cs o vs
theorem lay_eq : ∀ (cs : List Value) (o : Nat) (vs : List Value), o + vs.length ≤ cs.length → lay cs o vs = cs.take o ++ vs ++ cs.drop (o + vs.length)
  | cs, 0, vs, _ => by simp [lay]
  | [], _ + 1, _, h => by simp at h
  | c :: cs, o + 1, vs, h => by
    unfold lay
    rw [lay_eq cs o vs (by simp at h; omega)]
    simp [Nat.add_right_comm]
theorem storeCells_shift (b o : Nat) : ∀ (vs : List Value) (i : Nat), storeCells ⟨b, o, none⟩ vs i = storeCells ⟨b, 0, none⟩ vs (o + i)
  | [], _ => rfl
  | v :: vs, i => by
    simp only [storeCells, add_pos, Nat.zero_add]
    rw [storeCells_shift b o vs (i + 1)]
    rfl
theorem wl_storesAt {ops : Array Oper} {Q : Exit → Act → World → Prop} {pos : String} {after : Array Edge} {rest : List Oper} {t : TypeId} {m : Nat} {x y : Operand} {b o : Nat} {cs vs : List Value} {Γ' : List HP} [g : AggT P t true m] (hx : evl env x = some (.pointer (some ⟨b, o, none⟩))) (hy : evl env y = some (.agg vs.toArray)) [p : PickC Γ b cs Γ']
    [one : OneIn Γ vs] (hm : vs.length = m) (hc : o + m ≤ cs.length)
    (k : WL P ops rest Q w0 n env (Cells b (lay cs o vs) :: Γ')) :
    WL P ops (⟨none, .store t x y, ty, pos, after, none⟩ :: rest) Q w0 n env Γ := by
  refine wl_do (fun c w s => ?_) k
  obtain ⟨T, hT⟩ := (p.pick _ s.sat).cells
  obtain ⟨w', r1, r2, r3, r4⟩ := run_storeCells0 (P := P) vs o w b cs T hT (by omega) (one.one _ s.sat)
  refine ⟨.skip, w', ?_, .inl rfl, r2, ?_⟩
  · simp [execOp, s.env.evl hx, s.env.evl hy, Instr.storeAt, Instr.sureAddr, storeVar, g.size, Value.cells, hm, storeCells_shift b o, r1]
  · rw [← lay_eq _ _ _ (by omega)] at r3
    have h1 := p.pick _ s.sat
    obtain ⟨h1', h2', a, c, d, ⟨T', e⟩, f⟩ := h1
    exact (sat_update (Γ := Γ') (w := w) (w' := w') (b := b) ⟨h1', h2', a, c, d, e, f⟩ r3 r4).imp fun _ e => ⟨T, e⟩

/-- the cells of a part: those of a struct, or the one value -/
def partCells : Value → List Value
  | .agg cs => cs.toList
  | v => [v]
def fillA (places : List (Nat × Nat)) : List Value → List (Nat × Value) → Option (List Value)
  | cs, [] => some cs
  | cs, (i, v) :: r => match places[i]? with
    | some (off, size) => if (partCells v).length = size ∧ off + size ≤ cs.length then fillA places (lay cs off (partCells v)) r else none
    | none => none
theorem lay_len : ∀ (cs : List Value) (o : Nat) (vs : List Value), o + vs.length ≤ cs.length → (lay cs o vs).length = cs.length := by
  intro cs o vs h
  rw [lay_eq cs o vs h]; simp; omega
theorem fold_lay : ∀ (l : List Value) (A : Array Value) (off k : Nat), off + k + l.length ≤ A.size →
    (l.zipIdx k).foldl (fun cs (p : Value × Nat) => cs.setIfInBounds (off + p.2) p.1) A = (lay A.toList (off + k) l).toArray
  | [], A, off, k, h => by
    rw [lay_eq _ _ _ (by simpa using h)]
    simp
  | c :: l, A, off, k, h => by
    simp only [List.length_cons] at h
    simp only [List.zipIdx_cons, List.foldl_cons]
    rw [fold_lay l _ off (k + 1) (by simp; omega)]
    rw [lay_eq _ _ _ (by simp; omega), lay_eq _ _ _ (by simp; omega)]
    congr 1
    simp only [Array.toList_setIfInBounds]
    have e1 : (A.toList.set (off + k) c).take (off + (k + 1)) = A.toList.take (off + k) ++ [c] := by
      rw [show off + (k + 1) = (off + k) + 1 from by omega, List.take_set, List.take_succ_eq_append_getElem (by simp; omega), List.set_append_right _ _ (by simp; omega)]
      simp [show min (off + k) A.size = off + k from by omega]
    have e2 : (A.toList.set (off + k) c).drop (off + (k + 1) + l.length) = A.toList.drop (off + k + (c :: l).length) := by
      rw [List.drop_set_of_lt (by omega)]; congr 1; simp; omega
    rw [e1, e2]; simp
/-- parts that are structs, or of one cell -/
class PartIn (Γ : List HP) (ps : List (Nat × Value)) : Prop where
  cells : ∀ h, Sat Γ h → ∀ p ∈ ps, p.2.cells.toList = partCells p.2
instance {Γ : List HP} : PartIn Γ [] := ⟨fun _ _ _ h => by cases h⟩
instance (priority := high) {Γ : List HP} {i : Nat} {cs : Array Value} {ps : List (Nat × Value)} [q : PartIn Γ ps] : PartIn Γ ((i, .agg cs) :: ps) := ⟨fun x hs p hp => by
  rcases List.mem_cons.1 hp with rfl | hp
  · rfl
  · exact q.cells x hs p hp⟩
instance {Γ : List HP} {i : Nat} {v : Value} {ps : List (Nat × Value)} [o : OneIn Γ [v]] [q : PartIn Γ ps] : PartIn Γ ((i, v) :: ps) := ⟨fun x hs p hp => by
  rcases List.mem_cons.1 hp with rfl | hp
  · have := o.one x hs v (.head _)
    cases v <;> simp [Value.cells, Value.oneCell', partCells] at this ⊢
  · exact q.cells x hs p hp⟩
theorem fillA_eq (places : List (Nat × Nat)) : ∀ (ps : List (Nat × Value)) (cs : List Value) (out : List Value), (∀ p ∈ ps, p.2.cells.toList = partCells p.2) → fillA places cs ps = some out →
    Instr.fill (fun i => places[i]?) cs.toArray ps = some out.toArray
  | [], cs, out, _, h => by simp [fillA] at h; simp [Instr.fill, h]
  | (i, v) :: r, cs, out, h1, h => by
    have hv : v.cells = (partCells v).toArray := by apply Array.toList_inj.1; rw [h1 _ (.head _)]
    unfold fillA at h
    split at h
    · rename_i off size hp
      split at h
      · rename_i hlt
        unfold Instr.fill
        have hz : v.cells.zipIdx.foldl (fun (cs : Array Value) (p : Value × Nat) => cs.setIfInBounds (off + p.2) p.1) cs.toArray = (lay cs off (partCells v)).toArray := by
          have h2 := fold_lay (partCells v) cs.toArray off 0 (by simp; omega)
          rw [Nat.add_zero] at h2
          rw [hv, ← Array.foldl_toList]
          simpa using h2
        have := fillA_eq places r (lay cs off (partCells v)) out (fun p hp => h1 p (.tail _ hp)) h
        have hs : v.cells.size = size := by rw [hv]; simpa using hlt.1
        simp only [hp, hs]
        have h3 : ¬ (off + size > cs.toArray.size) := by simp; omega
        simp only [ne_eq, not_true_eq_false, decide_false, Bool.false_or, h3, Bool.false_eq_true, if_false]
        rw [← this]
        congr 1
      · cases h
    · cases h
theorem yl_buildA {t : TypeId} {parts : Array (Nat × Operand)} {ps : List (Nat × Value)} {places : List (Nat × Nat)} {zero cs : List Value} [g : BuildT P t places zero] (hx : evp env parts.toList = some ps) [o : PartIn Γ ps]
    (hz : fillA places zero ps = some cs) : Yl P (.build t parts) ty w0 n env Γ (.agg cs.toArray) Tt := by
  refine fun _ _ _ _ a w s => ⟨trivial, fun w' _ => ?_⟩
  have h1 := evp_arr (s.env.evp hx)
  have h2 := g.run w' ps _ (fillA_eq places ps zero cs (o.cells _ s.sat) hz)
  simp only [execOp, h1]
  simp [h2]

/-- a struct's part that is a struct; one that is of one cell -/
class FldA (P : Program) (t : TypeId) (f : Nat) (off size : outParam Nat) : Prop where
  run : ∀ cs w, (Instr.field t (.agg cs) f).run P w = .ok (.agg (cs.extract off (off + size))) w
class Fld1 (P : Program) (t : TypeId) (f : Nat) (off : outParam Nat) : Prop where
  run : ∀ (cs : Array Value) v w, cs[off]? = some v → (Instr.field t (.agg cs) f).run P w = .ok v w
theorem yl_fieldA {t : TypeId} {x : Operand} {f off size : Nat} {cs ds : List Value} [g : FldA P t f off size] (hx : evl env x = some (.agg cs.toArray)) (hd : (cs.drop off).take size = ds) : Yl P (.field t x f) ty w0 n env Γ (.agg ds.toArray) Tt :=
  fun _ _ _ _ _ _ s => ⟨trivial, fun w' _ => by
    have : cs.toArray.extract off (off + size) = ds.toArray := by
      apply Array.toList_inj.1
      rw [← hd]; simp [List.take_drop]
    simp [execOp, s.env.evl hx, g.run, ← hd]⟩
theorem yl_field1 {t : TypeId} {x : Operand} {f off : Nat} {cs : List Value} {v : Value} [g : Fld1 P t f off] (hx : evl env x = some (.agg cs.toArray)) (hd : cs[off]? = some v) : Yl P (.field t x f) ty w0 n env Γ v Tt :=
  fun _ _ _ _ _ _ s => ⟨trivial, fun w' _ => by
    have := g.run cs.toArray v w' (by simpa using hd)
    simp [execOp, s.env.evl hx, this]⟩

/-! which operation it is -/
theorem yi_move {x : Operand} {v : Value} {I : World → Prop} (h : Yl P (.move x) ty w0 n env Γ v I) : Yl P (.move x) ty w0 n env Γ v I := h
theorem yi_assign {x : Operand} {v : Value} {I : World → Prop} (h : Yl P (.assign x) ty w0 n env Γ v I) : Yl P (.assign x) ty w0 n env Γ v I := h
theorem yi_nilCheck {x : Operand} {v : Value} {I : World → Prop} (h : Yl P (.nilCheck x) ty w0 n env Γ v I) : Yl P (.nilCheck x) ty w0 n env Γ v I := h
theorem yi_pick {c a b : Operand} {v : Value} {I : World → Prop} (h : Yl P (.pick c a b) ty w0 n env Γ v I) : Yl P (.pick c a b) ty w0 n env Γ v I := h
theorem yi_extract {x : Operand} {i : Nat} {v : Value} {I : World → Prop} (h : Yl P (.extract x i) ty w0 n env Γ v I) : Yl P (.extract x i) ty w0 n env Γ v I := h
theorem yi_unOp {o : UnOp} {t : TypeId} {x : Operand} {v : Value} {I : World → Prop} (h : Yl P (.unOp o t x) ty w0 n env Γ v I) : Yl P (.unOp o t x) ty w0 n env Γ v I := h
theorem yi_makeFunc {f : Fn} {a b : Array Operand} {v : Value} {I : World → Prop} (h : Yl P (.makeFunc f a b) ty w0 n env Γ v I) : Yl P (.makeFunc f a b) ty w0 n env Γ v I := h
theorem yi_fieldAddr {t : TypeId} {x : Operand} {f : Nat} {v : Value} {I : World → Prop} (h : Yl P (.fieldAddr t x f) ty w0 n env Γ v I) : Yl P (.fieldAddr t x f) ty w0 n env Γ v I := h
theorem yi_load {t : TypeId} {x : Operand} {v : Value} {I : World → Prop} (h : Yl P (.load t x) ty w0 n env Γ v I) : Yl P (.load t x) ty w0 n env Γ v I := h
theorem yi_binOp {o : BinOp} {t yt : TypeId} {x y : Operand} {v : Value} {I : World → Prop} (h : Yl P (.binOp o t x y yt) ty w0 n env Γ v I) : Yl P (.binOp o t x y yt) ty w0 n env Γ v I := h
theorem yi_convert {s t : TypeId} {x : Operand} {v : Value} {I : World → Prop} (h : Yl P (.convert s t x) ty w0 n env Γ v I) : Yl P (.convert s t x) ty w0 n env Γ v I := h
theorem yi_indexAddr {t : TypeId} {x i : Operand} {v : Value} {I : World → Prop} (h : Yl P (.indexAddr t x i) ty w0 n env Γ v I) : Yl P (.indexAddr t x i) ty w0 n env Γ v I := h
theorem yi_lookup {t : TypeId} {x i : Operand} {ok : Bool} {v : Value} {I : World → Prop} (h : Yl P (.lookup t x i ok) ty w0 n env Γ v I) : Yl P (.lookup t x i ok) ty w0 n env Γ v I := h
theorem yi_builtin {b : Builtin} {xs : Array Operand} {ts : Array TypeId} {v : Value} {I : World → Prop} (h : Yl P (.call ⟨.builtin b, xs, ts⟩) ty w0 n env Γ v I) : Yl P (.call ⟨.builtin b, xs, ts⟩) ty w0 n env Γ v I := h
theorem yi_build {t : TypeId} {ps : Array (Nat × Operand)} {v : Value} {I : World → Prop} (h : Yl P (.build t ps) ty w0 n env Γ v I) : Yl P (.build t ps) ty w0 n env Γ v I := h
theorem yi_makeInterface {t : TypeId} {x : Operand} {v : Value} {I : World → Prop} (h : Yl P (.makeInterface t x) ty w0 n env Γ v I) : Yl P (.makeInterface t x) ty w0 n env Γ v I := h
theorem yi_entry {x : Operand} {v : Value} {I : World → Prop} (h : Yl P (.entry x) ty w0 n env Γ v I) : Yl P (.entry x) ty w0 n env Γ v I := h
theorem yi_index {t : TypeId} {x i : Operand} {v : Value} {I : World → Prop} (h : Yl P (.index t x i) ty w0 n env Γ v I) : Yl P (.index t x i) ty w0 n env Γ v I := h
theorem yi_field {t : TypeId} {x : Operand} {f : Nat} {v : Value} {I : World → Prop} (h : Yl P (.field t x f) ty w0 n env Γ v I) : Yl P (.field t x f) ty w0 n env Γ v I := h
theorem yi_slice {t : TypeId} {x : Operand} {lo hi mx : Option Operand} {v : Value} {I : World → Prop} (h : Yl P (.slice t x lo hi mx) ty w0 n env Γ v I) : Yl P (.slice t x lo hi mx) ty w0 n env Γ v I := h
theorem yi_typeAssert {x : Operand} {a b : TypeId} {ok : Bool} {v : Value} {I : World → Prop} (h : Yl P (.typeAssert x a b ok) ty w0 n env Γ v I) : Yl P (.typeAssert x a b ok) ty w0 n env Γ v I := h
theorem wl_isop {ops : Array Oper} {Q : Exit → Act → World → Prop} {d : Nat} {op : Op} {pos : String} {after : Array Edge} {rest : List Oper} (h : WL P ops (⟨some d, op, ty, pos, after, none⟩ :: rest) Q w0 n env Γ) : WL P ops (⟨some d, op, ty, pos, after, none⟩ :: rest) Q w0 n env Γ := h
theorem wl_boxa {ops : Array Oper} {Q : Exit → Act → World → Prop} {pos : String} {after : Array Edge} {rest : List Oper} {d : Nat} {t : TypeId} {x : Operand} {cs : List Value} (hx : evl env x = some (.agg cs.toArray))
    (hd : Nat.blt d n = true) (k : ∀ b, WL P ops rest Q w0 n ((d, vp b) :: env) (Cells b cs :: Γ)) :
    WL P ops (⟨some d, .box t x, ty, pos, after, none⟩ :: rest) Q w0 n env Γ := wl_box hx (by simp [Value.cells]) hd k
theorem wl_box1 {ops : Array Oper} {Q : Exit → Act → World → Prop} {pos : String} {after : Array Edge} {rest : List Oper} {d : Nat} {t : TypeId} {x : Operand} {v : Value} (hx : evl env x = some v) (hv : v.cells.toList = [v])
    (hd : Nat.blt d n = true) (k : ∀ b, WL P ops rest Q w0 n ((d, vp b) :: env) (Cells b [v] :: Γ)) :
    WL P ops (⟨some d, .box t x, ty, pos, after, none⟩ :: rest) Q w0 n env Γ := wl_box hx hv hd k
theorem wl_alloca {ops : Array Oper} {Q : Exit → Act → World → Prop} {pos : String} {after : Array Edge} {rest : List Oper} {d : Nat} {t : TypeId} {cs : List Value} [g : ZeroT P t (.agg cs.toArray)]
    (hd : Nat.blt d n = true) (k : ∀ b, WL P ops rest Q w0 n ((d, vp b) :: env) (Cells b cs :: Γ)) :
    WL P ops (⟨some d, .alloc t, ty, pos, after, none⟩ :: rest) Q w0 n env Γ := wl_alloc (by simp [Value.cells]) hd k
theorem wl_alloc1 {ops : Array Oper} {Q : Exit → Act → World → Prop} {pos : String} {after : Array Edge} {rest : List Oper} {d : Nat} {t : TypeId} {z : Value} [g : ZeroT P t z] (hz : z.cells.toList = [z])
    (hd : Nat.blt d n = true) (k : ∀ b, WL P ops rest Q w0 n ((d, vp b) :: env) (Cells b [z] :: Γ)) :
    WL P ops (⟨some d, .alloc t, ty, pos, after, none⟩ :: rest) Q w0 n env Γ := wl_alloc hz hd k
theorem WC.run {c : Code} {Q : Exit → Act → World → Prop} (h : WC P c Q w0 n env Γ) {a : Act} {w : World} (s : St w0 n env Γ a w) : c.wp P Q a w := h a w s
theorem WQ.of {e : Exit} {Q : Exit → Act → World → Prop} (h : ∀ a w, St w0 n env Γ a w → Q e a w) : WQ Q e w0 n env Γ := h
end ops
end Go.Sl
end
