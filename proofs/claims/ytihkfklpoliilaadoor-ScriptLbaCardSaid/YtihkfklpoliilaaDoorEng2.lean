/- The judgements of this session's walks: a frame's slots as a list, a heap in parts; one law an operation. No program. -/
import Derived.Test.YtihkfklpoliilaaDoorEng1
namespace Go.Sl
open Go

/-! facts of a program's tables, found by number -/
class Und (P : Program) (t : TypeId) (d : outParam TypeDesc) : Prop where
  run : ∀ w, (underlying t).run P w = .ok d w
  fact : P.underlying t = some d
class AggT (P : Program) (t : TypeId) (b : outParam Bool) (n : outParam Nat) : Prop where
  agg : ∀ w, (isAgg t).run P w = .ok b w
  size : ∀ w, (sizeOf t).run P w = .ok n w
class ZeroT (P : Program) (t : TypeId) (z : outParam Value) : Prop where
  run : ∀ w, (zeroValue t).run P w = .ok z w
class BytesT (P : Program) (t : TypeId) (n : outParam Nat) : Prop where
  run : ∀ w, ∃ i, (typeInfo t).run P w = .ok i w ∧ i.bytes = n
class FOff (P : Program) (t : TypeId) (f : Nat) (off : outParam Nat) : Prop where
  run : ∀ w a, (Instr.fieldAt t (.pointer (some a)) f).run P w = .ok (.pointer (some (a.add off))) w
class CallT (P : Program) (f : FuncId) : Prop where
  run : ∀ args w, (callFunc f args).run P w = .ok (.enter f args) w

abbrev Env := List (Nat × Value)
def Env.get : Env → Nat → Option Value
  | [], _ => none
  | (k, v) :: r, t => bif Nat.beq k t then some v else Env.get r t

def evl (env : Env) : Operand → Option Value
  | .tmp t => env.get t
  | .const v => some v
  | .global g => some (.pointer (some ⟨g, 0, none⟩))
  | .func f => some (.func (.func f) #[] #[])
def evls (env : Env) : List Operand → Option (List Value)
  | [] => some []
  | x :: r => match evl env x with
    | some v => match evls env r with
      | some vs => some (v :: vs)
      | none => none
    | none => none

structure EnvOk (n : Nat) (a : Act) (env : Env) : Prop where
  size : a.tmps.size = n
  get : ∀ t v, env.get t = some v → a.tmps[t]? = some v

theorem EnvOk.evl {n : Nat} {a : Act} {env : Env} (h : EnvOk n a env) {x : Operand} {v : Value} (e : evl env x = some v) : a.eval x = v := by
  cases x with
  | tmp t => have := h.get t v e; simp [Act.eval, this]
  | const c => simp [Sl.evl] at e; exact e
  | global g => simp [Sl.evl] at e; exact e
  | func f => simp [Sl.evl] at e; exact e

theorem EnvOk.evls {n : Nat} {a : Act} {env : Env} (h : EnvOk n a env) : ∀ {l : List Operand} {vs : List Value}, evls env l = some vs → l.map a.eval = vs
  | [], vs, e => by simp [Sl.evls] at e; simpa using e
  | x :: r, vs, e => by
    unfold Sl.evls at e
    split at e
    · rename_i v hv
      split at e
      · rename_i ws hw; cases e; simp [h.evl hv, h.evls hw]
      · cases e
    · cases e

theorem EnvOk.put {n : Nat} {a : Act} {env : Env} (h : EnvOk n a env) {d : Nat} (hd : Nat.blt d n = true) (v : Value) : EnvOk n (a.put (some d) v) ((d, v) :: env) := by
  have hd' : d < n := by have := Nat.le_of_ble_eq_true hd; omega
  refine ⟨by simp [Act.put, h.size], fun t u e => ?_⟩
  unfold Env.get at e
  by_cases hdt : d = t
  · subst hdt; simp at e; subst e; simp [Act.put, h.size, hd']
  · have : Nat.beq d t = false := Bool.eq_false_iff.2 fun h => hdt (Nat.eq_of_beq_eq_true h)
    rw [this] at e; simp only [cond_false] at e
    have := h.get t u e
    simp [Act.put, hdt, this]

theorem EnvOk.sub {n : Nat} {a : Act} {env env' : Env} (h : EnvOk n a env) (hs : ∀ t v, env'.get t = some v → env.get t = some v) : EnvOk n a env' :=
  ⟨h.size, fun t v e => h.get t v (hs t v e)⟩

/-- each slot that the second list names has in the first what it names -/
def EnvSub (env : Env) : Env → Prop
  | [] => True
  | (k, v) :: r => env.get k = some v ∧ EnvSub env r
theorem EnvSub.get {env : Env} : ∀ {env' : Env}, EnvSub env env' → ∀ t v, env'.get t = some v → env.get t = some v
  | [], _, _, _, e => by simp [Env.get] at e
  | (k, u) :: r, h, t, v, e => by
    unfold Env.get at e
    cases hk : Nat.beq k t with
    | true => rw [hk] at e; simp at e; subst e; have : k = t := Nat.eq_of_beq_eq_true hk
              subst this; exact h.1
    | false => rw [hk] at e; exact EnvSub.get h.2 t v e

structure St (w0 : World) (n : Nat) (env : Env) (Γ : List HP) (a : Act) (w : World) : Prop where
  env : EnvOk n a env
  defers : a.defers = []
  evo : Evo w0 w
  sat : Sat Γ (hpOf w)

def WC (P : Program) (c : Code) (Q : Exit → Act → World → Prop) (w0 : World) (n : Nat) (env : Env) (Γ : List HP) : Prop :=
  ∀ a w, St w0 n env Γ a w → c.wp P Q a w
def WL (P : Program) (ops : Array Oper) (l : List Oper) (Q : Exit → Act → World → Prop) (w0 : World) (n : Nat) (env : Env) (Γ : List HP) : Prop :=
  ∀ a w, St w0 n env Γ a w → wpList P ops Q l a w
def WQ (Q : Exit → Act → World → Prop) (e : Exit) (w0 : World) (n : Nat) (env : Env) (Γ : List HP) : Prop :=
  ∀ a w, St w0 n env Γ a w → Q e a w
/-- a test: both ways -/
def WIf (t : Bool) (A B : Prop) : Prop := (t = true → A) ∧ (t = false → B)
theorem WIf.yes {A B : Prop} (h : A) : WIf true A B := ⟨fun _ => h, fun e => by cases e⟩
theorem WIf.no {A B : Prop} (h : B) : WIf false A B := ⟨(fun e => by cases e), fun _ => h⟩
theorem WIf.both {t : Bool} {A B : Prop} (h : t = true → A) (h' : t = false → B) : WIf t A B := ⟨h, h'⟩

section code
variable {P : Program} {Q : Exit → Act → World → Prop} {w0 : World} {n : Nat} {env : Env} {Γ : List HP}

theorem WC.ent {c : Code} {Γ' : List HP} (h : Ent Γ Γ') (k : WC P c Q w0 n env Γ') : WC P c Q w0 n env Γ :=
  fun a w s => k a w ⟨s.env, s.defers, s.evo, h _ s.sat⟩
theorem WL.ent {ops : Array Oper} {l : List Oper} {Γ' : List HP} (h : Ent Γ Γ') (k : WL P ops l Q w0 n env Γ') : WL P ops l Q w0 n env Γ :=
  fun a w s => k a w ⟨s.env, s.defers, s.evo, h _ s.sat⟩
theorem WQ.ent {e : Exit} {Γ' : List HP} (h : Ent Γ Γ') (k : WQ Q e w0 n env Γ') : WQ Q e w0 n env Γ :=
  fun a w s => k a w ⟨s.env, s.defers, s.evo, h _ s.sat⟩
theorem WC.slots {c : Code} {env' : Env} (h : EnvSub env env') (k : WC P c Q w0 n env' Γ) : WC P c Q w0 n env Γ :=
  fun a w s => k a w ⟨s.env.sub h.get, s.defers, s.evo, s.sat⟩
theorem WL.slots {ops : Array Oper} {l : List Oper} {env' : Env} (h : EnvSub env env') (k : WL P ops l Q w0 n env' Γ) : WL P ops l Q w0 n env Γ :=
  fun a w s => k a w ⟨s.env.sub h.get, s.defers, s.evo, s.sat⟩
/-- what the heap tells, of a world -/
theorem WC.tell {c : Code} {p : Prop} (h : ∀ x, Sat Γ x → p) (k : p → WC P c Q w0 n env Γ) : WC P c Q w0 n env Γ :=
  fun a w s => k (h _ s.sat) a w s
theorem WL.tell {ops : Array Oper} {l : List Oper} {p : Prop} (h : ∀ x, Sat Γ x → p) (k : p → WL P ops l Q w0 n env Γ) : WL P ops l Q w0 n env Γ :=
  fun a w s => k (h _ s.sat) a w s
/-- a part that is some one -/
theorem WC.ex {c : Code} {X : Sort _} {φ : X → Prop} {Γ' : X → List HP} (h : ∀ y, Sat Γ y → ∃ x, φ x ∧ Sat (Γ' x) y)
    (k : ∀ x, φ x → WC P c Q w0 n env (Γ' x)) : WC P c Q w0 n env Γ :=
  fun a w s => let ⟨x, hx, hs⟩ := h _ s.sat; k x hx a w ⟨s.env, s.defers, s.evo, hs⟩
theorem WL.ex {ops : Array Oper} {l : List Oper} {X : Sort _} {φ : X → Prop} {Γ' : X → List HP} (h : ∀ y, Sat Γ y → ∃ x, φ x ∧ Sat (Γ' x) y)
    (k : ∀ x, φ x → WL P ops l Q w0 n env (Γ' x)) : WL P ops l Q w0 n env Γ :=
  fun a w s => let ⟨x, hx, hs⟩ := h _ s.sat; k x hx a w ⟨s.env, s.defers, s.evo, hs⟩
theorem WQ.ex {e : Exit} {X : Sort _} {φ : X → Prop} {Γ' : X → List HP} (h : ∀ y, Sat Γ y → ∃ x, φ x ∧ Sat (Γ' x) y)
    (k : ∀ x, φ x → WQ Q e w0 n env (Γ' x)) : WQ Q e w0 n env Γ :=
  fun a w s => let ⟨x, hx, hs⟩ := h _ s.sat; k x hx a w ⟨s.env, s.defers, s.evo, hs⟩

theorem wc_seq {x y : Code} (h : WC P x (Exit.then (y.wp P Q) Q) w0 n env Γ) : WC P (.seq x y) Q w0 n env Γ := fun a w s => wp_seq (h a w s)
theorem wc_block {id : Nat} {c : Code} (h : WC P c (Exit.inBlock id Q) w0 n env Γ) : WC P (.block id c) Q w0 n env Γ := fun a w s => wp_block (h a w s)
theorem wc_skip (h : WQ Q .normal w0 n env Γ) : WC P .skip Q w0 n env Γ := fun a w s => wp_skip (h a w s)
theorem wc_ret (h : WQ Q .ret w0 n env Γ) : WC P .ret Q w0 n env Γ := fun a w s => wp_ret (h a w s)
theorem wc_exit {id : Nat} (h : WQ Q (.exit id) w0 n env Γ) : WC P (.exit id) Q w0 n env Γ := fun a w s => wp_exit (h a w s)
theorem wc_cond {c : Operand} {x y : Code} {t : Bool} (hc : evl env c = some (.bool t)) (h : WIf t (WC P x Q w0 n env Γ) (WC P y Q w0 n env Γ)) :
    WC P (.cond c x y) Q w0 n env Γ :=
  fun a w s => wp_cond_split (s.env.evl hc) (fun e => h.1 e a w s) (fun e => h.2 e a w s)
theorem wc_region {id : Nat} {l : List Oper} (h : WL P l.toArray l Q w0 n env Γ) : WC P (.region id l.toArray false) Q w0 n env Γ :=
  fun a w s => wp_region_lit (h a w s)
theorem wl_nil {ops : Array Oper} (h : WQ Q .normal w0 n env Γ) : WL P ops [] Q w0 n env Γ := fun a w s => wpList_nil (h a w s)

theorem wq_next {y : Code} {Q' : Exit → Act → World → Prop} (h : WC P y Q w0 n env Γ) : WQ (Exit.then (y.wp P Q) Q') .normal w0 n env Γ := h
theorem wq_then_exit {K : Act → World → Prop} {i : Nat} (h : WQ Q (.exit i) w0 n env Γ) : WQ (Exit.then K Q) (.exit i) w0 n env Γ := h
theorem wq_then_ret {K : Act → World → Prop} (h : WQ Q .ret w0 n env Γ) : WQ (Exit.then K Q) .ret w0 n env Γ := h
theorem wq_block_normal {id : Nat} (h : WQ Q .normal w0 n env Γ) : WQ (Exit.inBlock id Q) .normal w0 n env Γ := h
theorem wq_block_ret {id : Nat} (h : WQ Q .ret w0 n env Γ) : WQ (Exit.inBlock id Q) .ret w0 n env Γ := h
theorem wq_block_exit {id : Nat} (h : WQ Q .normal w0 n env Γ) : WQ (Exit.inBlock id Q) (.exit id) w0 n env Γ :=
  fun a w s => by simp only [Exit.inBlock, if_true]; exact h a w s
theorem wq_block_other {id i : Nat} (hi : Nat.beq i id = false) (h : WQ Q (.exit i) w0 n env Γ) : WQ (Exit.inBlock id Q) (.exit i) w0 n env Γ :=
  fun a w s => by
    have : i ≠ id := Nat.ne_of_beq_eq_false hi
    simp only [Exit.inBlock, this, if_false]; exact h a w s

/-- what a round's end must bring about -/
def LoopQ {X : Type} (w0 : World) (n : Nat) (env : X → Env) (Γ : X → List HP) (inv : X → Prop) (μ : X → Nat) (x : X) (Q : Exit → Act → World → Prop) : Exit → Act → World → Prop :=
  Exit.then (fun a w => ∃ y, inv y ∧ μ y < μ x ∧ St w0 n (env y) (Γ y) a w) Q

theorem wc_loop {c : Code} {X : Type} (env' : X → Env) (Γ' : X → List HP) (inv : X → Prop) (μ : X → Nat) (x : X) (h0 : inv x)
    (he : EnvSub env (env' x)) (hg : Ent Γ (Γ' x))
    (h : ∀ x, inv x → WC P c (LoopQ w0 n env' Γ' inv μ x Q) w0 n (env' x) (Γ' x)) : WC P (.loop c) Q w0 n env Γ := by
  intro a w s b k cs
  have key : ∀ m x a w, μ x = m → inv x → St w0 n (env' x) (Γ' x) a w →
      ∃ e a' w', Q e a' w' ∧ Arrives P (lone (b.at a (.code c :: .inLoop c :: k)) cs w) b k cs e a' w' := by
    intro m
    induction m using Nat.strongRecOn with
    | _ m ih =>
      intro x a w hm hi hs
      obtain ⟨e, a₁, w₁, hq, harr⟩ := h x hi a w hs b (.inLoop c :: k) cs
      cases e with
      | normal =>
        obtain ⟨y, hy, hlt, hst⟩ := hq
        obtain ⟨e₂, a₂, w₂, hq₂, harr₂⟩ := ih (μ y) (hm ▸ hlt) y a₁ w₁ rfl hy hst
        exact ⟨e₂, a₂, w₂, hq₂, .of_steps (Steps.trans harr (.one step_inLoop)) harr₂⟩
      | exit id => exact ⟨_, a₁, w₁, hq, .pass (x := .inLoop c) rfl (fun _ _ => .inl (by simp)) harr⟩
      | goto l => exact ⟨_, a₁, w₁, hq, .pass (x := .inLoop c) rfl (fun _ _ => .inl (by simp)) harr⟩
      | ret => exact ⟨_, a₁, w₁, hq, .pass (x := .inLoop c) rfl (fun _ _ => .inl (by simp)) harr⟩
      | panic ch => exact ⟨_, a₁, w₁, hq, .pass (x := .inLoop c) rfl (fun _ _ => .inl (by simp)) harr⟩
      | outgrown => exact ⟨_, a₁, w₁, hq, .pass (x := .inLoop c) rfl (fun _ _ => .inl (by simp)) harr⟩
  obtain ⟨e, a', w', hq, harr⟩ := key _ x a w rfl h0 ⟨s.env.sub he.get, s.defers, s.evo, hg _ s.sat⟩
  exact ⟨e, a', w', hq, .of_steps (.one step_loop) harr⟩

theorem wq_round {X : Type} {env' : X → Env} {Γ' : X → List HP} {inv : X → Prop} {μ : X → Nat} {x : X} (y : X) (hi : inv y) (hm : μ y < μ x)
    (he : EnvSub env (env' y)) (hg : Ent Γ (Γ' y)) : WQ (LoopQ w0 n env' Γ' inv μ x Q) .normal w0 n env Γ :=
  fun _ _ s => ⟨y, hi, hm, s.env.sub he.get, s.defers, s.evo, hg _ s.sat⟩
theorem wq_loop_exit {X : Type} {env' : X → Env} {Γ' : X → List HP} {inv : X → Prop} {μ : X → Nat} {x : X} {i : Nat} (h : WQ Q (.exit i) w0 n env Γ) :
    WQ (LoopQ w0 n env' Γ' inv μ x Q) (.exit i) w0 n env Γ := h
theorem wq_loop_ret {X : Type} {env' : X → Env} {Γ' : X → List HP} {inv : X → Prop} {μ : X → Nat} {x : X} (h : WQ Q .ret w0 n env Γ) :
    WQ (LoopQ w0 n env' Γ' inv μ x Q) .ret w0 n env Γ := h

/-- ways meet: what holds of them all -/
theorem wq_meet {Q' : Exit → Act → World → Prop} {X : Type} (env' : X → Env) (Γ' : X → List HP) (φ : X → Prop)
    (x : X) (hφ : φ x) (he : EnvSub env (env' x)) (hg : Ent Γ (Γ' x)) :
    WQ (Exit.then (fun a w => ∃ x, φ x ∧ St w0 n (env' x) (Γ' x) a w) Q') .normal w0 n env Γ :=
  fun _ _ s => ⟨x, hφ, s.env.sub he.get, s.defers, s.evo, hg _ s.sat⟩
theorem wc_meet {x y : Code} {X : Type} (env' : X → Env) (Γ' : X → List HP) (φ : X → Prop)
    (h : WC P x (Exit.then (fun a w => ∃ x, φ x ∧ St w0 n (env' x) (Γ' x) a w) Q) w0 n env Γ) (k : ∀ x, φ x → WC P y Q w0 n (env' x) (Γ' x)) :
    WC P (.seq x y) Q w0 n env Γ :=
  fun a w s => wp_seq (Code.wp_mono (fun e a w q => by
    cases e with
    | normal => obtain ⟨x, hx, hs⟩ := q; exact k x hx a w hs
    | exit i => exact q
    | goto l => exact q
    | ret => exact q
    | panic c => exact q
    | outgrown => exact q) (h a w s))

end code

/-! the panics that go through -/
class Thru (Q : Exit → Act → World → Prop) (R : outParam (Ending → World → Prop)) : Prop where
  panic : ∀ c a w, a.defers = [] → R (.panicked c) w → Q (.panic c) a w
instance {P : Program} {fn : Func} {R : Ending → World → Prop} : Thru (bodyPost P fn R) R := ⟨fun _ _ _ hd h => ⟨hd, h⟩⟩
instance {K : Act → World → Prop} {Q : Exit → Act → World → Prop} {R : Ending → World → Prop} [t : Thru Q R] : Thru (Exit.then K Q) R := ⟨t.panic⟩
instance {id : Nat} {Q : Exit → Act → World → Prop} {R : Ending → World → Prop} [t : Thru Q R] : Thru (Exit.inBlock id Q) R := ⟨t.panic⟩
instance {X : Type} {w0 : World} {n : Nat} {env : X → Env} {Γ : X → List HP} {inv : X → Prop} {μ : X → Nat} {x : X} {Q : Exit → Act → World → Prop} {R : Ending → World → Prop} [t : Thru Q R] :
    Thru (LoopQ w0 n env Γ inv μ x Q) R := ⟨t.panic⟩

/-! what a call brings about -/
/-- The call returns: some x of which φ holds, with the value v x, the heap post x; or it panics with the chain: some y. The frame F stays. -/
def Spec (P : Program) (f : FuncId) (args : List Value) (rd : Hp → Prop) (pre : List HP → List HP) {X Y : Type} (φ : X → Prop) (v : X → Value) (post : X → List HP → List HP)
    (φc : Y → Prop) (chain : List PanicEntry) (postc : Y → List HP → List HP) : Prop :=
  ∀ F w, (∀ h, Sat F h → rd h) → Sat (pre F) (hpOf w) → Calls P f args.toArray w fun e w' =>
    Evo w w' ∧ ((∃ x, φ x ∧ e = .returned (v x) ∧ Sat (post x F) (hpOf w')) ∨ (∃ y, φc y ∧ e = .panicked chain ∧ Sat (postc y F) (hpOf w')))

/-- a call that always returns -/
def Spec0 (P : Program) (f : FuncId) (args : List Value) (rd : Hp → Prop) (pre : List HP → List HP) {X : Type} (φ : X → Prop) (v : X → Value) (post : X → List HP → List HP) : Prop :=
  Spec P f args rd pre φ v post (fun _ : Unit => False) [] (fun _ F => F)

def SpecR (w0 : World) (F : List HP) {X Y : Type} (φ : X → Prop) (v : X → Value) (post : X → List HP → List HP)
    (φc : Y → Prop) (chain : List PanicEntry) (postc : Y → List HP → List HP) : Ending → World → Prop := fun e w' =>
  Evo w0 w' ∧ ((∃ x, φ x ∧ e = .returned (v x) ∧ Sat (post x F) (hpOf w')) ∨ (∃ y, φc y ∧ e = .panicked chain ∧ Sat (postc y F) (hpOf w')))

def argEnv : Nat → List Value → Env
  | _, [] => []
  | i, v :: r => (i, v) :: argEnv (i + 1) r
theorem argEnv_get : ∀ (l : List Value) (i t : Nat) (v : Value), (argEnv i l).get t = some v → i ≤ t ∧ l[t - i]? = some v
  | [], _, _, _, e => by simp [argEnv, Env.get] at e
  | u :: r, i, t, v, e => by
    unfold argEnv Env.get at e
    cases hk : Nat.beq i t with
    | true =>
      have : i = t := Nat.eq_of_beq_eq_true hk
      rw [hk] at e; simp at e; subst e; subst this; simp
    | false =>
      have hne : i ≠ t := Nat.ne_of_beq_eq_false hk
      rw [hk] at e
      obtain ⟨h1, h2⟩ := argEnv_get r (i + 1) t v e
      refine ⟨by omega, ?_⟩
      rw [show t - i = (t - (i + 1)) + 1 from by omega]; simpa using h2

theorem spec_of {P : Program} {f : FuncId} {fn : Func} {c : Code} {args : List Value} {rd : Hp → Prop} {pre : List HP → List HP} {X Y : Type} {φ : X → Prop} {v : X → Value} {post : X → List HP → List HP}
    {φc : Y → Prop} {chain : List PanicEntry} {postc : Y → List HP → List HP} {n : Nat} (hf : P.funcs[f]? = some fn) (hb : fn.body = some c) (hn : fn.ntmps = n) (ha : Nat.ble args.length n = true)
    (h : ∀ F w0, (∀ h, Sat F h → rd h) → WC P c (bodyPost P fn (SpecR w0 F φ v post φc chain postc)) w0 n (argEnv 0 args) (pre F)) :
    Spec P f args rd pre φ v post φc chain postc := by
  intro F w hr hs
  subst hn
  refine calls_of_wp hf hb (h F w hr _ _ ⟨⟨?_, ?_⟩, rfl, Evo.refl w, hs⟩)
  · have : args.length ≤ fn.ntmps := by simpa using ha
    simp; omega
  · intro t u e
    obtain ⟨_, e⟩ := argEnv_get args 0 t u e
    rw [Nat.sub_zero] at e
    have : t < args.length := (List.getElem?_eq_some_iff.1 e).1
    rw [Array.getElem?_append_left (by simpa using this)]; simpa using e

section ret
variable {P : Program} {fn : Func} {w0 : World} {n : Nat} {env : Env} {Γ F : List HP} {X Y : Type} {φ : X → Prop} {v : X → Value} {post : X → List HP → List HP}
    {φc : Y → Prop} {chain : List PanicEntry} {postc : Y → List HP → List HP}

theorem EnvOk.getD {n : Nat} {a : Act} {env : Env} (h : EnvOk n a env) {t : Nat} {u : Value} (e : env.get t = some u) : a.tmps.getD t undef = u := by
  have := h.get t u e; simp [this]

theorem wq_ret1 {t : Tmp} {u : Value} (hr : fn.results = #[.tmp t]) (hu : env.get t = some u) (x : X) (hv : u = v x) (hφ : φ x) (hg : Ent Γ (post x F)) :
    WQ (bodyPost P fn (SpecR w0 F φ v post φc chain postc)) .ret w0 n env Γ := fun a w s =>
  ⟨s.defers, u, by rw [results_tmp hr, s.env.getD hu], s.evo, .inl ⟨x, hφ, by rw [hv], hg _ s.sat⟩⟩
theorem wq_end0 (hr : fn.results = #[]) (x : X) (hv : .tuple #[] = v x) (hφ : φ x) (hg : Ent Γ (post x F)) :
    WQ (bodyPost P fn (SpecR w0 F φ v post φc chain postc)) .normal w0 n env Γ := fun a w s =>
  ⟨s.defers, .tuple #[], by rw [results_none hr], s.evo, .inl ⟨x, hφ, by rw [hv], hg _ s.sat⟩⟩
theorem wq_ret0 (hr : fn.results = #[]) (x : X) (hv : .tuple #[] = v x) (hφ : φ x) (hg : Ent Γ (post x F)) :
    WQ (bodyPost P fn (SpecR w0 F φ v post φc chain postc)) .ret w0 n env Γ := fun a w s =>
  ⟨s.defers, .tuple #[], by rw [results_none hr], s.evo, .inl ⟨x, hφ, by rw [hv], hg _ s.sat⟩⟩
theorem wq_ret2 {t t' : Tmp} {u u' : Value} (hr : fn.results = #[.tmp t, .tmp t']) (hu : env.get t = some u) (hu' : env.get t' = some u') (x : X) (hv : .tuple #[u, u'] = v x) (hφ : φ x) (hg : Ent Γ (post x F)) :
    WQ (bodyPost P fn (SpecR w0 F φ v post φc chain postc)) .ret w0 n env Γ := fun a w s =>
  ⟨s.defers, .tuple #[u, u'], by rw [results_tmp2 hr, s.env.getD hu, s.env.getD hu'], s.evo, .inl ⟨x, hφ, by rw [hv], hg _ s.sat⟩⟩
theorem results_tmp3 {fn : Func} {t u s : Tmp} (h : fn.results = #[.tmp t, .tmp u, .tmp s]) (tmps : Array Value) (P : Program) (w : World) :
    (results fn tmps).run P w = .ok (.tuple #[tmps.getD t undef, tmps.getD u undef, tmps.getD s undef]) w := by
  simp [results, h]
theorem wq_ret3 {t t' t'' : Tmp} {u u' u'' : Value} (hr : fn.results = #[.tmp t, .tmp t', .tmp t'']) (hu : env.get t = some u) (hu' : env.get t' = some u') (hu'' : env.get t'' = some u'') (x : X) (hv : .tuple #[u, u', u''] = v x) (hφ : φ x) (hg : Ent Γ (post x F)) :
    WQ (bodyPost P fn (SpecR w0 F φ v post φc chain postc)) .ret w0 n env Γ := fun a w s =>
  ⟨s.defers, .tuple #[u, u', u''], by rw [results_tmp3 hr, s.env.getD hu, s.env.getD hu', s.env.getD hu''], s.evo, .inl ⟨x, hφ, by rw [hv], hg _ s.sat⟩⟩
end ret
end Go.Sl
