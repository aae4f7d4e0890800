/- several texts, one behind the other -/
import Derived.Test.YtohienhoifgmaaaGreatP01

section
/- One law an operation: moves, tests, sums, fields, loads and stores, calls. No program. -/
namespace Go.Sl
open Go

abbrev vi (n : Int) : Value := .int .i64 n
abbrev vb (u : UInt8) : Value := .int .u8 (u.toNat : Int)
abbrev vp (b : Nat) : Value := .pointer (some ⟨b, 0, none⟩)

def cmpOf (op : BinOp) (a b : Int) : Option Bool :=
  match op with
  | .eql => some (decide (a = b))
  | .neq => some (decide (a ≠ b))
  | .lss => some (decide (a < b))
  | .leq => some (decide (a ≤ b))
  | .gtr => some (decide (a > b))
  | .geq => some (decide (a ≥ b))
  | _ => none

def nthV : List Value → Nat → Option Value
  | [], _ => none
  | v :: _, 0 => some v
  | _ :: r, i + 1 => nthV r i
theorem nthV_eq : ∀ (l : List Value) (i : Nat), nthV l i = l[i]?
  | [], _ => rfl
  | _ :: _, 0 => rfl
  | _ :: r, i + 1 => by simp [nthV, nthV_eq r i]
def pev (env : Env) : Op → Option Value
  | .move x => evl env x
  | .assign x => evl env x
  | .pick c a b => match evl env c with
    | some (.bool true) => evl env a
    | some (.bool false) => evl env b
    | _ => none
  | .nilCheck x => match evl env x with
    | some (.pointer (some a)) => some (.pointer (some a))
    | some (.func (.func f) a b) => some (.func (.func f) a b)
    | some (.iface t v) => some (.iface t v)
    | _ => none
  | .extract t i => match evl env t with
    | some (.tuple vs) => nthV vs.toList i
    | _ => none
  | .unOp .not _ x => match evl env x with
    | some (.bool b) => some (.bool !b)
    | _ => none
  | .makeFunc fn first captured => match evls env first.toList with
    | some a => match evls env captured.toList with
      | some b => some (.func fn a.toArray b.toArray)
      | none => none
    | none => none
  | _ => none

section ops
variable {P : Program} {ops : Array Oper} {Q : Exit → Act → World → Prop} {w0 : World} {n : Nat} {env : Env} {Γ : List HP} {rest : List Oper}
  {ty : TypeId} {pos : String} {after : Array Edge}

theorem wl_gen {d : Nat} {op : Op} {X : Type} {vf : X → Value} {φ : X → Prop} {Γf : X → List HP}
    (h : ∀ a w, St w0 n env Γ a w → ∃ x w', (execOp a.eval ⟨some d, op, ty, pos, after, none⟩).run P w = .ok (.value (vf x)) w' ∧ Evo w w' ∧ φ x ∧ Sat (Γf x) (hpOf w'))
    (hd : Nat.blt d n = true) (k : ∀ x, φ x → WL P ops rest Q w0 n ((d, vf x) :: env) (Γf x)) :
    WL P ops (⟨some d, op, ty, pos, after, none⟩ :: rest) Q w0 n env Γ := fun a w s => by
  obtain ⟨x, w', hr, he, hx, hs⟩ := h a w s
  refine wpList_plain rfl fun K hK => ?_
  unfold Oper.wp
  rw [hr]
  exact hK _ _ (k x hx _ _ ⟨s.env.put hd _, s.defers, s.evo.trans he, hs⟩)

theorem wl_val {d : Nat} {op : Op} {v : Value} {Γ' : List HP}
    (h : ∀ a w, St w0 n env Γ a w → ∃ w', (execOp a.eval ⟨some d, op, ty, pos, after, none⟩).run P w = .ok (.value v) w' ∧ Evo w w' ∧ Sat Γ' (hpOf w'))
    (hd : Nat.blt d n = true) (k : WL P ops rest Q w0 n ((d, v) :: env) Γ') :
    WL P ops (⟨some d, op, ty, pos, after, none⟩ :: rest) Q w0 n env Γ :=
  wl_gen (X := Unit) (φ := fun _ => True) (fun a w s => let ⟨w', a, b, c⟩ := h a w s; ⟨(), w', a, b, trivial, c⟩) hd fun _ _ => k

/-- an operation that writes, and yields nothing -/
theorem wl_do {op : Op} {Γ' : List HP}
    (h : ∀ a w, St w0 n env Γ a w → ∃ r w', (execOp a.eval ⟨none, op, ty, pos, after, none⟩).run P w = .ok r w' ∧ (r = .skip ∨ ∃ v, r = .value v) ∧ Evo w w' ∧ Sat Γ' (hpOf w'))
    (k : WL P ops rest Q w0 n env Γ') : WL P ops (⟨none, op, ty, pos, after, none⟩ :: rest) Q w0 n env Γ := fun a w s => by
  obtain ⟨r, w', hr, hv, he, hs⟩ := h a w s
  refine wpList_plain rfl fun K hK => ?_
  unfold Oper.wp
  rw [hr]
  rcases hv with rfl | ⟨v, rfl⟩
  · exact hK _ _ (k _ _ ⟨s.env, s.defers, s.evo.trans he, hs⟩)
  · exact hK _ _ (k _ _ ⟨s.env, s.defers, s.evo.trans he, hs⟩)


/-- an operation that yields this value, in each world of which I holds, and changes nothing -/
def Yl (P : Program) (op : Op) (ty : TypeId) (w0 : World) (n : Nat) (env : Env) (Γ : List HP) (v : Value) (I : World → Prop) : Prop :=
  ∀ (dst : Option Tmp) (pos : String) (after : Array Edge) (guard : Option (Nat × Bool)) (a : Act) (w : World), St w0 n env Γ a w →
    I w ∧ ∀ w', I w' → (execOp a.eval ⟨dst, op, ty, pos, after, guard⟩).run P w' = .ok (.value v) w'
def Tt : World → Prop := fun _ => True

theorem wl_y {d : Nat} {op : Op} {v : Value} {I : World → Prop} (y : Yl P op ty w0 n env Γ v I) (hd : Nat.blt d n = true) (k : WL P ops rest Q w0 n ((d, v) :: env) Γ) :
    WL P ops (⟨some d, op, ty, pos, after, none⟩ :: rest) Q w0 n env Γ :=
  wl_val (fun a w s => let ⟨i, r⟩ := y (some d) pos after none a w s; ⟨w, r w i, Evo.refl w, s.sat⟩) hd k

theorem pev_sound {dst : Option Tmp} {op : Op} {v : Value} {a : Act} {guard : Option (Nat × Bool)} (h : pev env op = some v) (he : EnvOk n a env) (w : World) :
    (execOp a.eval ⟨dst, op, ty, pos, after, guard⟩).run P w = .ok (.value v) w := by
  unfold pev at h
  split at h
  · simp [execOp, he.evl h]
  · simp [execOp, he.evl h]
  · split at h
    · rename_i c; simp [execOp, he.evl c, he.evl h, asBool]
    · rename_i c; simp [execOp, he.evl c, he.evl h, asBool]
    · cases h
  · split at h
    · rename_i c; cases h; simp [execOp, he.evl c]
    · rename_i c; cases h; simp [execOp, he.evl c]
    · rename_i c; cases h; simp [execOp, he.evl c]
    · cases h
  · split at h
    · rename_i vs c
      rw [nthV_eq] at h
      simp only [Array.getElem?_toList] at h
      simp [execOp, he.evl c, Instr.extract, h]
    · cases h
  · split at h
    · rename_i c; cases h; simp [execOp, he.evl c, Op.unary]
    · cases h
  · rename_i fn first captured
    split at h
    · rename_i c1
      split at h
      · rename_i c2; cases h
        have e1 := he.evls c1
        have e2 := he.evls c2
        have f0 : ∀ xs : Array Operand, xs.map a.eval = (List.map a.eval xs.toList).toArray := fun xs => by
          apply Array.toList_inj.1; rw [Array.toList_map]
        have f1 := f0 first
        have f2 := f0 captured
        rw [e1] at f1; rw [e2] at f2
        simp only [execOp, Instr.makeFunc, f1, f2]
        simp
      · cases h
    · cases h
  · cases h

theorem yl_pure {op : Op} {v : Value} (h : pev env op = some v) : Yl P op ty w0 n env Γ v Tt :=
  fun _ _ _ _ _ _ s => ⟨trivial, fun w' _ => pev_sound h s.env w'⟩

theorem yl_cmp {op : BinOp} {t yt : TypeId} {x y : Operand} {kd : IntKind} {a b : Int} {r : Bool} (hx : evl env x = some (.int kd a)) (hy : evl env y = some (.int kd b)) (hr : cmpOf op a b = some r) :
    Yl P (.binOp op t x y yt) ty w0 n env Γ (.bool r) Tt := by
  refine fun _ _ _ _ _ _ s => ⟨trivial, fun w' _ => ?_⟩
  simp only [execOp, s.env.evl hx, s.env.evl hy]
  cases op <;> simp only [cmpOf, Option.some.injEq, reduceCtorEq] at hr <;> subst hr <;> simp [eqGuard, binOp, Op.intCmp] <;> first | rfl | skip

theorem run_equalIn_bool (d : Nat) {t : TypeId} {a b : Bool} [u : Und P t .bool] (w : World) : (Op.equalIn (d + 1) t (.bool a) (.bool b)).run P w = .ok (a == b) w := by
  simp [Op.equalIn, u.run]
theorem yl_beq {t yt : TypeId} {x y : Operand} {a b : Bool} [u : Und P t .bool] (hx : evl env x = some (.bool a)) (hy : evl env y = some (.bool b)) :
    Yl P (.binOp .eql t x y yt) ty w0 n env Γ (.bool (a == b)) Tt :=
  fun _ _ _ _ _ _ s => ⟨trivial, fun w' _ => by simp [execOp, s.env.evl hx, s.env.evl hy, eqGuard, binOp, Op.equal, Op.maxDepth, run_equalIn_bool 9999]⟩
theorem yl_bne {t yt : TypeId} {x y : Operand} {a b : Bool} [u : Und P t .bool] (hx : evl env x = some (.bool a)) (hy : evl env y = some (.bool b)) :
    Yl P (.binOp .neq t x y yt) ty w0 n env Γ (.bool (a != b)) Tt :=
  fun _ _ _ _ _ _ s => ⟨trivial, fun w' _ => by simp [execOp, s.env.evl hx, s.env.evl hy, eqGuard, binOp, Op.equal, Op.maxDepth, run_equalIn_bool 9999]; cases a <;> cases b <;> rfl⟩

theorem yl_add {t yt : TypeId} {x y : Operand} {kd : IntKind} {a b : Int} (hx : evl env x = some (.int kd a)) (hy : evl env y = some (.int kd b)) :
    Yl P (.binOp .add t x y yt) ty w0 n env Γ (.int kd (kd.wrap (a + b))) Tt :=
  fun _ _ _ _ _ _ s => ⟨trivial, fun w' _ => by simp [execOp, s.env.evl hx, s.env.evl hy, eqGuard, binOp, Op.intArith]⟩
theorem yl_sub {t yt : TypeId} {x y : Operand} {kd : IntKind} {a b : Int} (hx : evl env x = some (.int kd a)) (hy : evl env y = some (.int kd b)) :
    Yl P (.binOp .sub t x y yt) ty w0 n env Γ (.int kd (kd.wrap (a - b))) Tt :=
  fun _ _ _ _ _ _ s => ⟨trivial, fun w' _ => by simp [execOp, s.env.evl hx, s.env.evl hy, eqGuard, binOp, Op.intArith]⟩
theorem yl_mul {t yt : TypeId} {x y : Operand} {kd : IntKind} {a b : Int} (hx : evl env x = some (.int kd a)) (hy : evl env y = some (.int kd b)) :
    Yl P (.binOp .mul t x y yt) ty w0 n env Γ (.int kd (kd.wrap (a * b))) Tt :=
  fun _ _ _ _ _ _ s => ⟨trivial, fun w' _ => by simp [execOp, s.env.evl hx, s.env.evl hy, eqGuard, binOp, Op.intArith]⟩

theorem wrap_i64 {a : Int} (h1 : -9223372036854775808 ≤ a) (h2 : a ≤ 9223372036854775807) : IntKind.i64.wrap a = a := by
  simp only [IntKind.wrap, IntKind.bits, IntKind.signed]; simp; omega
theorem wrap_u8 {a : Int} (h1 : 0 ≤ a) (h2 : a ≤ 255) : IntKind.u8.wrap a = a := by
  simp only [IntKind.wrap, IntKind.bits, IntKind.signed]; simp; omega
theorem wrap_u64 {a : Int} (h1 : 0 ≤ a) (h2 : a ≤ 18446744073709551615) : IntKind.u64.wrap a = a := by
  simp only [IntKind.wrap, IntKind.bits, IntKind.signed]; simp; omega
theorem wrap_u32 {a : Int} (h1 : 0 ≤ a) (h2 : a ≤ 4294967295) : IntKind.u32.wrap a = a := by
  simp only [IntKind.wrap, IntKind.bits, IntKind.signed]; simp; omega

theorem yl_addi {t yt : TypeId} {x y : Operand} {a b : Int} (hx : evl env x = some (.int .i64 a)) (hy : evl env y = some (.int .i64 b))
    (h1 : -9223372036854775808 ≤ a + b) (h2 : a + b ≤ 9223372036854775807) : Yl P (.binOp .add t x y yt) ty w0 n env Γ (.int .i64 (a + b)) Tt := by
  have := yl_add (P := P) (w0 := w0) (n := n) (Γ := Γ) (ty := ty) (t := t) (yt := yt) hx hy; rwa [wrap_i64 h1 h2] at this
theorem yl_subi {t yt : TypeId} {x y : Operand} {a b : Int} (hx : evl env x = some (.int .i64 a)) (hy : evl env y = some (.int .i64 b))
    (h1 : -9223372036854775808 ≤ a - b) (h2 : a - b ≤ 9223372036854775807) : Yl P (.binOp .sub t x y yt) ty w0 n env Γ (.int .i64 (a - b)) Tt := by
  have := yl_sub (P := P) (w0 := w0) (n := n) (Γ := Γ) (ty := ty) (t := t) (yt := yt) hx hy; rwa [wrap_i64 h1 h2] at this
theorem yl_muli {t yt : TypeId} {x y : Operand} {a b : Int} (hx : evl env x = some (.int .i64 a)) (hy : evl env y = some (.int .i64 b))
    (h1 : -9223372036854775808 ≤ a * b) (h2 : a * b ≤ 9223372036854775807) : Yl P (.binOp .mul t x y yt) ty w0 n env Γ (.int .i64 (a * b)) Tt := by
  have := yl_mul (P := P) (w0 := w0) (n := n) (Γ := Γ) (ty := ty) (t := t) (yt := yt) hx hy; rwa [wrap_i64 h1 h2] at this

/-- '%' of what is not below nought -/
theorem yl_rem {t yt : TypeId} {x y : Operand} {kd : IntKind} {a b : Int} (hx : evl env x = some (.int kd a)) (hy : evl env y = some (.int kd b)) (h1 : 0 ≤ a) (h2 : 0 < b) :
    Yl P (.binOp .rem t x y yt) ty w0 n env Γ (.int kd (a % b)) Tt := by
  refine fun _ _ _ _ _ _ s => ⟨trivial, fun w' _ => ?_⟩
  have hb : b ≠ 0 := by omega
  simp [execOp, s.env.evl hx, s.env.evl hy, eqGuard, binOp, Op.intDiv, hb, Int.tmod_eq_emod_of_nonneg h1]
theorem yl_quoi {t yt : TypeId} {x y : Operand} {a b : Int} (hx : evl env x = some (.int .i64 a)) (hy : evl env y = some (.int .i64 b)) (h1 : 0 ≤ a) (h2 : 0 < b) (h3 : a ≤ 9223372036854775807) :
    Yl P (.binOp .quo t x y yt) ty w0 n env Γ (.int .i64 (a / b)) Tt := by
  refine fun _ _ _ _ _ _ s => ⟨trivial, fun w' _ => ?_⟩
  have hb : b ≠ 0 := by omega
  have q1 : 0 ≤ a / b := Int.ediv_nonneg h1 (by omega)
  have q2 : a / b ≤ a := Int.ediv_le_self _ h1
  simp [execOp, s.env.evl hx, s.env.evl hy, eqGuard, binOp, Op.intDiv, hb, Int.tdiv_eq_ediv_of_nonneg h1]
  exact wrap_i64 (by omega) (by omega)

theorem yl_conv {t t' : TypeId} {x : Operand} {kd kd' : IntKind} {a : Int} {dsc : TypeDesc} [u : Und P t dsc] [u' : Und P t' (.int kd')] (hx : evl env x = some (.int kd a)) :
    Yl P (.convert t t' x) ty w0 n env Γ (.int kd' (kd'.wrap a)) Tt :=
  fun _ _ _ _ _ _ s => ⟨trivial, fun w' _ => by simp [execOp, s.env.evl hx, convert, u.run, u'.run, Conv.intToInt]⟩
theorem yl_convi {t t' : TypeId} {x : Operand} {kd : IntKind} {a : Int} {dsc : TypeDesc} [u : Und P t dsc] [u' : Und P t' (.int .i64)] (hx : evl env x = some (.int kd a))
    (h1 : -9223372036854775808 ≤ a) (h2 : a ≤ 9223372036854775807) : Yl P (.convert t t' x) ty w0 n env Γ (.int .i64 a) Tt := by
  have := yl_conv (P := P) (w0 := w0) (n := n) (Γ := Γ) (ty := ty) (t := t) (t' := t') hx; rwa [wrap_i64 h1 h2] at this

theorem yl_max {x y : Operand} {ts : Array TypeId} {kd : IntKind} {a b : Int} (hx : evl env x = some (.int kd a)) (hy : evl env y = some (.int kd b)) :
    Yl P (.call ⟨.builtin .max, #[x, y], ts⟩) ty w0 n env Γ (.int kd (max a b)) Tt := by
  refine fun _ _ _ _ _ _ s => ⟨trivial, fun w' _ => ?_⟩
  simp [execOp, resolve, invoke, builtin, s.env.evl hx, s.env.evl hy, Builtin.max_, Builtin.max2]
  omega
theorem yl_min {x y : Operand} {ts : Array TypeId} {kd : IntKind} {a b : Int} (hx : evl env x = some (.int kd a)) (hy : evl env y = some (.int kd b)) :
    Yl P (.call ⟨.builtin .min, #[x, y], ts⟩) ty w0 n env Γ (.int kd (min a b)) Tt := by
  refine fun _ _ _ _ _ _ s => ⟨trivial, fun w' _ => ?_⟩
  simp [execOp, resolve, invoke, builtin, s.env.evl hx, s.env.evl hy, Builtin.min_, Builtin.min2]
  omega

/-! guards -/
theorem EnvOk.known {n : Nat} {a : Act} {env : Env} (h : EnvOk n a env) {t : Nat} {v : Value} (ht : env.get t = some v) : EnvOk n a ((t, v) :: env) := by
  refine ⟨h.size, fun t' u e => ?_⟩
  unfold Env.get at e
  cases hk : Nat.beq t t' with
  | true => rw [hk] at e; simp at e; subst e; have := Nat.eq_of_beq_eq_true hk; subst this; exact h.get _ _ ht
  | false => rw [hk] at e; exact h.get _ _ e

/-- a test in a slot: both ways -/
theorem wl_case {l : List Oper} (t : Nat) {c : Bool} (hc : env.get t = some (.bool c)) (h1 : c = true → WL P ops l Q w0 n ((t, .bool true) :: env) Γ) (h2 : c = false → WL P ops l Q w0 n ((t, .bool false) :: env) Γ) :
    WL P ops l Q w0 n env Γ := fun a w s => by
  cases hb : c with
  | true => subst hb; exact h1 rfl a w ⟨s.env.known hc, s.defers, s.evo, s.sat⟩
  | false => subst hb; exact h2 rfl a w ⟨s.env.known hc, s.defers, s.evo, s.sat⟩

/-- the guard's slot is not decided: both ways -/
theorem wl_gcase {o : Option Tmp} {op : Op} {g : Nat} {want : Bool} {og : Oper} {t : Tmp} {c : Bool} (_hg : ops[g]? = some og) (_ht : og.dst = some t) (hc : env.get t = some (.bool c))
    (h1 : c = true → WL P ops (⟨o, op, ty, pos, after, some (g, want)⟩ :: rest) Q w0 n ((t, .bool true) :: env) Γ)
    (h2 : c = false → WL P ops (⟨o, op, ty, pos, after, some (g, want)⟩ :: rest) Q w0 n ((t, .bool false) :: env) Γ) :
    WL P ops (⟨o, op, ty, pos, after, some (g, want)⟩ :: rest) Q w0 n env Γ := by
  exact wl_case t hc h1 h2
theorem wl_guard_yes {o : Option Tmp} {op : Op} {g : Nat} {want : Bool} {og : Oper} {t : Tmp} (hg : ops[g]? = some og) (ht : og.dst = some t) (hc : env.get t = some (.bool want))
    (k : WL P ops (⟨o, op, ty, pos, after, none⟩ :: rest) Q w0 n env Γ) :
    WL P ops (⟨o, op, ty, pos, after, some (g, want)⟩ :: rest) Q w0 n env Γ := fun a w s => by
  have hy : yielded ops a.tmps g = some want := by simp [yielded, hg, ht, s.env.get _ _ hc]
  have := k a w s
  unfold wpList at this ⊢
  rw [if_pos (by simp [Region.wanted])] at this
  rw [if_pos (by simp [Region.wanted, hy])]
  exact this
theorem wl_guard_no {d : Nat} {op : Op} {g : Nat} {want c : Bool} {og : Oper} {t : Tmp} (hg : ops[g]? = some og) (ht : og.dst = some t) (hc : env.get t = some (.bool c)) (hne : (c == want) = false)
    (hd : Nat.blt d n = true) (k : WL P ops rest Q w0 n ((d, undef) :: env) Γ) :
    WL P ops (⟨some d, op, ty, pos, after, some (g, want)⟩ :: rest) Q w0 n env Γ := fun a w s => by
  have hy : yielded ops a.tmps g = some c := by simp [yielded, hg, ht, s.env.get _ _ hc]
  have hcw : c ≠ want := by intro e; subst e; simp at hne
  unfold wpList
  rw [if_neg (by simp [Region.wanted, hy, hcw])]
  exact k _ _ ⟨s.env.put hd _, s.defers, s.evo, s.sat⟩

/-! fields, loads, stores -/
theorem yl_field {t : TypeId} {f off : Nat} {x : Operand} {a : Addr} [o : FOff P t f off] (hx : evl env x = some (.pointer (some a))) :
    Yl P (.fieldAddr t x f) ty w0 n env Γ (.pointer (some (a.add off))) Tt :=
  fun _ _ _ _ _ _ s => ⟨trivial, fun w' _ => by simp [execOp, s.env.evl hx, o.run]⟩

theorem add_zero (a : Addr) : a.add 0 = a := rfl
theorem add_pos (b o m : Nat) : (Addr.mk b o none).add m = ⟨b, o + m, none⟩ := by unfold Addr.add; split <;> simp_all

/-- the block b is this row of cells, in a world -/
def HasC (b : Nat) (cs : List Value) : World → Prop := fun w => ∃ T, hpOf w b = some (.cells cs.toArray T (0, 0))

theorem yl_field0 {t : TypeId} {f off b o : Nat} {x : Operand} [fo : FOff P t f off] (hx : evl env x = some (.pointer (some ⟨b, o, none⟩))) :
    Yl P (.fieldAddr t x f) ty w0 n env Γ (.pointer (some ⟨b, o + off, none⟩)) Tt := by
  have := yl_field (P := P) (w0 := w0) (n := n) (Γ := Γ) (ty := ty) (t := t) (f := f) hx; rwa [add_pos] at this

theorem yl_load {t : TypeId} {m : Nat} {x : Operand} {b o : Nat} {cs : List Value} {v : Value} {Γ' : List HP} [g : AggT P t false m] (hx : evl env x = some (.pointer (some ⟨b, o, none⟩))) [p : PickC Γ b cs Γ'] (hv : cs[o]? = some v) :
    Yl P (.load t x) ty w0 n env Γ v (HasC b cs) := by
  refine fun _ _ _ _ a w s => ⟨(p.pick _ s.sat).cells, fun w' hT => ?_⟩
  obtain ⟨T, hT⟩ := hT
  have hc : w'.cell? ⟨b, o, none⟩ = some v := by rw [cell_of_hp hT, hv]
  simp [execOp, s.env.evl hx, Instr.loadAt, Instr.sureAddr, loadVar, g.agg, hc]

theorem run_loadCells (w : World) (b o : Nat) (cs : List Value) (hc : ∀ i, i < cs.length → w.cell? ⟨b, o + i, none⟩ = cs[i]?) :
    (loadCells ⟨b, o, none⟩ cs.length).run P w = .ok cs.toArray w := by
  have key : ∀ (m i : Nat) (acc : Array Value), i + m = cs.length → acc = (cs.take i).toArray →
      (loadCellsFrom ⟨b, o, none⟩ i m acc).run P w = .ok cs.toArray w := by
    intro m
    induction m with
    | zero => intro i acc hi ha; simp [loadCellsFrom, ha]; exact List.take_of_length_le (by omega)
    | succ m ih =>
      intro i acc hi ha
      have hlt : i < cs.length := by omega
      have h1 : w.cell? ((Addr.mk b o none).add i) = some cs[i] := by rw [add_pos, hc i hlt]; simp [hlt]
      simp only [loadCellsFrom, Sem.run_bind, run_load, h1, Result.andThen_ok]
      exact ih (i + 1) _ (by omega) (by rw [ha, List.take_succ_eq_append_getElem hlt]; simp)
  exact key cs.length 0 #[] (by omega) (by simp)

theorem yl_loads {t : TypeId} {m : Nat} {x : Operand} {b o : Nat} {cs : List Value} {vs : List Value} {Γ' : List HP} [g : AggT P t true m] (hx : evl env x = some (.pointer (some ⟨b, o, none⟩))) [p : PickC Γ b cs Γ'] (hv : (cs.drop o).take m = vs) (hm : vs.length = m) :
    Yl P (.load t x) ty w0 n env Γ (.agg vs.toArray) (HasC b cs) := by
  refine fun _ _ _ _ a w s => ⟨(p.pick _ s.sat).cells, fun w' hT => ?_⟩
  obtain ⟨T, hT⟩ := hT
  have hc : (loadCells ⟨b, o, none⟩ m).run P w' = .ok vs.toArray w' := by
    rw [← hm]
    refine run_loadCells w' b o vs fun i hi => ?_
    rw [cell_of_hp hT, ← hv, List.getElem?_take, if_pos (by omega), List.getElem?_drop]
  simp [execOp, s.env.evl hx, Instr.loadAt, Instr.sureAddr, loadVar, g.agg, g.size, hc]

end ops
end Go.Sl
end

section
/- One law an operation, further: calls, what is made, slices. No program. -/
namespace Go.Sl
open Go

/-! slices -/
/-- what a slice's value holds, read: its elements' cells, k an element -/
def Rd (v : Value) (k : Nat) (vs : List Value) : Hp → Prop := fun h =>
  (v = .slice none 0 0 ∧ vs = []) ∨ (∃ (a : Addr) (cap : Nat), v = .slice (some a) 0 cap ∧ vs = []) ∨
  ∃ (b off len cap : Nat) (cs : List Value) (T : TypeId) (fr : Nat × Nat), v = .slice (some ⟨b, off, none⟩) len cap ∧ len ≤ cap ∧ vs.length = len * k ∧ (cs.drop off).take (len * k) = vs ∧ h b = some (.cells cs.toArray T fr)
/-- a slice that is one's own: the block is its -/
def Sl (v : Value) (k : Nat) (vs : List Value) : HP := fun h =>
  (v = .slice none 0 0 ∧ vs = []) ∨
  ∃ (b off len cap : Nat) (cs : List Value), v = .slice (some ⟨b, off, none⟩) len cap ∧ len ≤ cap ∧ off + cap * k ≤ cs.length ∧ vs.length = len * k ∧ (cs.drop off).take (len * k) = vs ∧ Cells b cs h

theorem Rd.mono {v : Value} {k : Nat} {vs : List Value} {h h' : Hp} (hl : Hle h h') (r : Rd v k vs h) : Rd v k vs h' := by
  rcases r with r | r | ⟨b, off, len, cap, cs, T, fr, a, c, d, e, f⟩
  · exact .inl r
  · exact .inr (.inl r)
  · exact .inr (.inr ⟨b, off, len, cap, cs, T, fr, a, c, d, e, hl _ _ f⟩)
theorem Sl.rd {v : Value} {k : Nat} {vs : List Value} {h : Hp} (r : Sl v k vs h) : Rd v k vs h := by
  rcases r with r | ⟨b, off, len, cap, cs, a, c, _, d, e, T, f⟩
  · exact .inl r
  · exact .inr (.inr ⟨b, off, len, cap, cs, T, (0, 0), a, c, d, e, f⟩)

class RdIn (Γ : List HP) (v : Value) (k : outParam Nat) (vs : outParam (List Value)) : Prop where
  rd : ∀ h, Sat Γ h → Rd v k vs h
instance (priority := high) RdIn.here {v : Value} {k : Nat} {vs : List Value} {Γ : List HP} : RdIn (Sl v k vs :: Γ) v k vs :=
  ⟨fun h hs => by obtain ⟨h1, a, b⟩ := hs.one; exact b.rd.mono a⟩
instance (priority := low) RdIn.there {v : Value} {k : Nat} {vs : List Value} {A : HP} {Γ : List HP} [r : RdIn Γ v k vs] : RdIn (A :: Γ) v k vs :=
  ⟨fun h hs => r.rd h hs.tail⟩
/-- values of one cell each -/
class OneC (vs : List Value) : Prop where
  one : ∀ u ∈ vs, u.oneCell' = true
instance : OneC [] := ⟨fun _ h => by cases h⟩
instance {v : Value} {vs : List Value} [h : OneC vs] [h' : OneC [v]] : OneC (v :: vs) := ⟨fun u hu => by
  rcases List.mem_cons.1 hu with rfl | hu
  · exact h'.one _ (.head _)
  · exact h.one u hu⟩
instance OneC.ofInt {k : IntKind} {n : Int} : OneC [.int k n] := ⟨fun u hu => by simp at hu; subst hu; rfl⟩
instance OneC.ofBool {b : Bool} : OneC [.bool b] := ⟨fun u hu => by simp at hu; subst hu; rfl⟩
instance OneC.ofPtr {a : Option Addr} : OneC [.pointer a] := ⟨fun u hu => by simp at hu; subst hu; rfl⟩
instance OneC.ofIface {t : TypeId} {v : Value} : OneC [.iface t v] := ⟨fun u hu => by simp at hu; subst hu; rfl⟩
instance OneC.ofMap {r : Option Nat} : OneC [.map r] := ⟨fun u hu => by simp at hu; subst hu; rfl⟩
instance OneC.ofSlice {a : Option Addr} {n c : Nat} : OneC [.slice a n c] := ⟨fun u hu => by simp at hu; subst hu; rfl⟩
instance {vs us : List Value} [h : OneC vs] [h' : OneC us] : OneC (vs ++ us) := ⟨fun u hu => by
  rcases List.mem_append.1 hu with hu | hu
  · exact h.one u hu
  · exact h'.one u hu⟩
instance {bs : List UInt8} : OneC (bs.map vb) := ⟨fun u hu => by obtain ⟨b, _, rfl⟩ := List.mem_map.1 hu; rfl⟩
instance {ns : List Int} : OneC (ns.map vi) := ⟨fun u hu => by obtain ⟨b, _, rfl⟩ := List.mem_map.1 hu; rfl⟩
theorem Sl.isSlice {v : Value} {k : Nat} {vs : List Value} {h : Hp} (s : Sl v k vs h) : v.oneCell' = true := by
  rcases s with ⟨rfl, _⟩ | ⟨b, off, len, cap, cs, rfl, _⟩ <;> rfl
theorem Rd.isSlice {v : Value} {k : Nat} {vs : List Value} {h : Hp} (s : Rd v k vs h) : v.oneCell' = true := by
  rcases s with ⟨rfl, _⟩ | ⟨a, cap, rfl, rfl⟩ | ⟨b, off, len, cap, cs, T, fr, rfl, _⟩ <;> rfl


/-- values of one cell each, as what is in memory tells -/
class OneIn (Γ : List HP) (vs : List Value) : Prop where
  one : ∀ h, Sat Γ h → ∀ u ∈ vs, u.oneCell' = true
instance (priority := low) {Γ : List HP} {vs : List Value} [o : OneC vs] : OneIn Γ vs := ⟨fun _ _ => o.one⟩
instance {Γ : List HP} : OneIn Γ [] := ⟨fun _ _ _ h => by cases h⟩
theorem OneIn.mk' {Γ : List HP} {v : Value} {vs : List Value} (h : v.oneCell' = true) [o : OneIn Γ vs] : OneIn Γ (v :: vs) := ⟨fun x hs u hu => by
  rcases List.mem_cons.1 hu with rfl | hu
  · exact h
  · exact o.one x hs u hu⟩
instance {Γ : List HP} {k : IntKind} {n : Int} {vs : List Value} [o : OneIn Γ vs] : OneIn Γ (.int k n :: vs) := OneIn.mk' rfl
instance {Γ : List HP} {b : Bool} {vs : List Value} [o : OneIn Γ vs] : OneIn Γ (.bool b :: vs) := OneIn.mk' rfl
instance {Γ : List HP} {a : Option Addr} {vs : List Value} [o : OneIn Γ vs] : OneIn Γ (.pointer a :: vs) := OneIn.mk' rfl
instance {Γ : List HP} {a : Option Addr} {n c : Nat} {vs : List Value} [o : OneIn Γ vs] : OneIn Γ (.slice a n c :: vs) := OneIn.mk' rfl
instance {Γ : List HP} {r : Option Nat} {vs : List Value} [o : OneIn Γ vs] : OneIn Γ (.map r :: vs) := OneIn.mk' rfl
instance {Γ : List HP} {t : TypeId} {v : Value} {vs : List Value} [o : OneIn Γ vs] : OneIn Γ (.iface t v :: vs) := OneIn.mk' rfl
instance {Γ : List HP} {vs : List Value} [o : OneIn Γ vs] : OneIn Γ (.nilIface :: vs) := OneIn.mk' rfl
instance {Γ : List HP} {s : ByteArray} {vs : List Value} [o : OneIn Γ vs] : OneIn Γ (.string s :: vs) := OneIn.mk' rfl
instance {Γ : List HP} {f : Fn} {a b : Array Value} {vs : List Value} [o : OneIn Γ vs] : OneIn Γ (.func f a b :: vs) := OneIn.mk' rfl
instance (priority := low) {Γ : List HP} {v : Value} {k : Nat} {us vs : List Value} [r : RdIn Γ v k us] [o : OneIn Γ vs] : OneIn Γ (v :: vs) := ⟨fun x hs u hu => by
  rcases List.mem_cons.1 hu with rfl | hu
  · exact (r.rd x hs).isSlice
  · exact o.one x hs u hu⟩
class OneInP (Γ : List HP) (ps : List (Nat × Value)) : Prop where
  one : ∀ h, Sat Γ h → ∀ p ∈ ps, p.2.oneCell' = true
instance {Γ : List HP} : OneInP Γ [] := ⟨fun _ _ _ h => by cases h⟩
instance {Γ : List HP} {i : Nat} {v : Value} {ps : List (Nat × Value)} [o : OneIn Γ [v]] [q : OneInP Γ ps] : OneInP Γ ((i, v) :: ps) := ⟨fun x hs u hu => by
  rcases List.mem_cons.1 hu with rfl | hu
  · exact o.one x hs _ (.head _)
  · exact q.one x hs u hu⟩

class PickS (Γ : List HP) (v : Value) (k : outParam Nat) (vs : outParam (List Value)) (Γ' : outParam (List HP)) : Prop where
  pick : Ent Γ (Sl v k vs :: Γ')
instance (priority := high) PickS.here {v : Value} {k : Nat} {vs : List Value} {Γ : List HP} : PickS (Sl v k vs :: Γ) v k vs Γ := ⟨Ent.refl⟩
instance (priority := low) PickS.there {v : Value} {k : Nat} {vs : List Value} {B : HP} {Γ Γ' : List HP} [h : PickS Γ v k vs Γ'] : PickS (B :: Γ) v k vs (B :: Γ') := ⟨(Ent.skip h.pick).trans Ent.swap⟩

def slAddr (v : Value) (m : Nat) : Addr := match v with
  | .slice (some a) _ _ => ⟨a.block, a.off + m, none⟩
  | _ => ⟨0, m, none⟩
def slLen (v : Value) : Nat := match v with
  | .slice _ n _ => n
  | _ => 0
theorem slAddr_add (v : Value) (m o : Nat) : (slAddr v m).add o = slAddr v (m + o) := by
  unfold slAddr; split <;> rw [add_pos]
  rw [Nat.add_assoc]
theorem Rd.len {v : Value} {k : Nat} {vs : List Value} {h : Hp} (r : Rd v k vs h) : slLen v * k = vs.length := by
  rcases r with ⟨rfl, rfl⟩ | ⟨a, cap, rfl, rfl⟩ | ⟨b, off, len, cap, cs, T, fr, rfl, c, d, e, f⟩
  · simp [slLen]
  · simp [slLen]
  · simp [slLen, d]
theorem Rd.nil_iff {v : Value} {k : Nat} {vs : List Value} {h : Hp} (_r : Rd v k vs h) : v = .slice none 0 0 ∨ ∃ a n c, v = .slice (some a) n c := by
  rcases _r with ⟨rfl, rfl⟩ | ⟨a, cap, rfl, rfl⟩ | ⟨b, off, len, cap, cs, T, fr, rfl, _⟩
  · exact .inl rfl
  · exact .inr ⟨_, _, _, rfl⟩
  · exact .inr ⟨_, _, _, rfl⟩
theorem Rd.cell {v : Value} {k : Nat} {vs : List Value} {w : World} (r : Rd v k vs (hpOf w)) {m : Nat} (hm : m < vs.length) : w.cell? (slAddr v m) = some vs[m] := by
  rcases r with ⟨rfl, rfl⟩ | ⟨a, cap, rfl, rfl⟩ | ⟨b, off, len, cap, cs, T, fr, rfl, c, d, e, f⟩
  · simp at hm
  · simp at hm
  · simp only [slAddr]
    rw [cell_of_hp f]
    have h1 : vs[m]? = some vs[m] := by simp [hm]
    rw [← h1, ← e, List.getElem?_take, if_pos (by omega), List.getElem?_drop]

theorem Sat.rd {Γ : List HP} {v : Value} {k : Nat} {vs : List Value} {h : Hp} [r : RdIn Γ v k vs] (hs : Sat Γ h) : Rd v k vs h := r.rd h hs

section ops
variable {P : Program} {ops : Array Oper} {Q : Exit → Act → World → Prop} {w0 : World} {n : Nat} {env : Env} {Γ : List HP} {rest : List Oper}
  {ty : TypeId} {pos : String} {after : Array Edge}

/-- what a slice holds, in a world -/
def HasR (v : Value) (k : Nat) (vs : List Value) : World → Prop := fun w => Rd v k vs (hpOf w)

theorem yl_len {x : Operand} {t : TypeId} {e : TypeId} {v : Value} {vs : List Value} [u : Und P t (.slice e)] (hx : evl env x = some v) [r : RdIn Γ v 1 vs] :
    Yl P (.call ⟨.builtin .len, #[x], #[t]⟩) ty w0 n env Γ (vi vs.length) Tt := by
  refine fun _ _ _ _ a w s => ⟨trivial, fun w' _ => ?_⟩
  have hl := (r.rd _ s.sat).len
  rcases (r.rd _ s.sat).nil_iff with rfl | ⟨a, m, c', rfl⟩
  · simp [slLen] at hl
    simp [execOp, resolve, invoke, builtin, s.env.evl hx, Builtin.len_, u.run, goInt, ← hl]
  · simp [slLen] at hl
    simp [execOp, resolve, invoke, builtin, s.env.evl hx, Builtin.len_, u.run, goInt, ← hl]
theorem yl_lenm {α : Type} {f : α → Value} {xs : List α} {x : Operand} {t : TypeId} {e : TypeId} {v : Value} [u : Und P t (.slice e)] (hx : evl env x = some v) [r : RdIn Γ v 1 (xs.map f)] :
    Yl P (.call ⟨.builtin .len, #[x], #[t]⟩) ty w0 n env Γ (vi xs.length) Tt := by
  have := yl_len (P := P) (w0 := w0) (n := n) (Γ := Γ) (ty := ty) (t := t) hx; rwa [List.length_map] at this
theorem yl_lenk {x : Operand} {t : TypeId} {e : TypeId} {v : Value} {k' : Nat} {vs : List Value} [u : Und P t (.slice e)] (hx : evl env x = some v) [r : RdIn Γ v k' vs] :
    Yl P (.call ⟨.builtin .len, #[x], #[t]⟩) ty w0 n env Γ (vi (slLen v)) Tt := by
  refine fun _ _ _ _ a w s => ⟨trivial, fun w' _ => ?_⟩
  rcases (r.rd _ s.sat).nil_iff with rfl | ⟨a, m, c', rfl⟩ <;>
    simp [execOp, resolve, invoke, builtin, s.env.evl hx, Builtin.len_, u.run, goInt, slLen]

theorem yl_index {t e : TypeId} {ag : Bool} {k' : Nat} {x y : Operand} {v : Value} {vs : List Value} {kd : IntKind} {i : Int} [u : Und P t (.slice e)] [g : AggT P e ag k'] (hx : evl env x = some v) (hy : evl env y = some (.int kd i)) [r : RdIn Γ v k' vs]
    (h0 : 0 ≤ i) (hi : i.toNat * k' < vs.length) : Yl P (.indexAddr t x y) ty w0 n env Γ (.pointer (some (slAddr v (i.toNat * k')))) Tt := by
  refine fun _ _ _ _ a w s => ⟨trivial, fun w' _ => ?_⟩
  rcases r.rd _ s.sat with ⟨rfl, rfl⟩ | ⟨a, cap, rfl, rfl⟩ | ⟨b, off, len, cap, cs, T, fr, rfl, hc, hl, _, _⟩
  · simp at hi
  · simp at hi
  · have hlt : i.toNat < len := by
      rw [hl] at hi; exact Nat.lt_of_mul_lt_mul_right hi
    have h2 : i < (len : Int) := by omega
    simp [execOp, s.env.evl hx, s.env.evl hy, Instr.indexAt, asIntOf, u.run, g.size, h0, h2, slAddr, add_pos]
/-- at elements of one cell -/
theorem yl_index1 {t e : TypeId} {ag : Bool} {x y : Operand} {v : Value} {vs : List Value} {kd : IntKind} {i : Int} [u : Und P t (.slice e)] [g : AggT P e ag 1] (hx : evl env x = some v) (hy : evl env y = some (.int kd i)) [r : RdIn Γ v 1 vs]
    (h0 : 0 ≤ i) (hi : i < vs.length) : Yl P (.indexAddr t x y) ty w0 n env Γ (.pointer (some (slAddr v i.toNat))) Tt := by
  have := yl_index (P := P) (w0 := w0) (n := n) (Γ := Γ) (ty := ty) (t := t) hx hy h0 (by omega); rwa [Nat.mul_one] at this

theorem yl_index1m {α : Type} {f : α → Value} {xs : List α} {t e : TypeId} {ag : Bool} {x y : Operand} {v : Value} {kd : IntKind} {i : Int} [u : Und P t (.slice e)] [g : AggT P e ag 1] (hx : evl env x = some v) (hy : evl env y = some (.int kd i)) [r : RdIn Γ v 1 (xs.map f)]
    (h0 : 0 ≤ i) (hi : i < xs.length) : Yl P (.indexAddr t x y) ty w0 n env Γ (.pointer (some (slAddr v i.toNat))) Tt :=
  yl_index1 hx hy h0 (by simpa using hi)

/-- at a number that is a natural one's -/
theorem yl_index1n {α : Type} {f : α → Value} {xs : List α} {t e : TypeId} {ag : Bool} {x y : Operand} {v : Value} {kd : IntKind} {i : Nat} [u : Und P t (.slice e)] [g : AggT P e ag 1] (hx : evl env x = some v) (hy : evl env y = some (.int kd (i : Int))) [r : RdIn Γ v 1 (xs.map f)]
    (hi : i < xs.length) : Yl P (.indexAddr t x y) ty w0 n env Γ (.pointer (some (slAddr v i))) Tt := by
  have := yl_index1m (P := P) (w0 := w0) (n := n) (Γ := Γ) (ty := ty) (t := t) hx hy (by omega) (by omega); rwa [Int.toNat_natCast] at this

theorem yl_fieldx {t : TypeId} {f off : Nat} {x : Operand} {v : Value} {m : Nat} [o : FOff P t f off] (hx : evl env x = some (.pointer (some (slAddr v m)))) :
    Yl P (.fieldAddr t x f) ty w0 n env Γ (.pointer (some (slAddr v (m + off)))) Tt := by
  have := yl_field (P := P) (w0 := w0) (n := n) (Γ := Γ) (ty := ty) (t := t) (f := f) hx; rwa [slAddr_add] at this

theorem yl_loadx {t : TypeId} {m' : Nat} {x : Operand} {v : Value} {m k' : Nat} {vs : List Value} {u : Value} [g : AggT P t false m'] (hx : evl env x = some (.pointer (some (slAddr v m)))) [r : RdIn Γ v k' vs] (hu : vs[m]? = some u) :
    Yl P (.load t x) ty w0 n env Γ u (HasR v k' vs) := by
  refine fun _ _ _ _ a w s => ⟨r.rd _ s.sat, fun w' hr => ?_⟩
  have hm : m < vs.length := (List.getElem?_eq_some_iff.1 hu).1
  have hc := Rd.cell hr hm
  have : vs[m] = u := (List.getElem?_eq_some_iff.1 hu).2
  rw [this] at hc
  simp [execOp, s.env.evl hx, Instr.loadAt, Instr.sureAddr, loadVar, g.agg, hc]

theorem yl_loadm {α : Type} {f : α → Value} {xs : List α} {t : TypeId} {m' : Nat} {x : Operand} {v : Value} {m k' : Nat} [g : AggT P t false m'] (hx : evl env x = some (.pointer (some (slAddr v m)))) [r : RdIn Γ v k' (xs.map f)] (hm : m < xs.length) :
    Yl P (.load t x) ty w0 n env Γ (f xs[m]) (HasR v k' (xs.map f)) :=
  yl_loadx hx (by simp [hm])

theorem yl_loadsx {t : TypeId} {m' : Nat} {x : Operand} {v : Value} {m k' : Nat} {vs us : List Value} [g : AggT P t true m'] (hx : evl env x = some (.pointer (some (slAddr v m)))) [r : RdIn Γ v k' vs] (hu : (vs.drop m).take m' = us) (hl : us.length = m') :
    Yl P (.load t x) ty w0 n env Γ (.agg us.toArray) (HasR v k' vs) := by
  refine fun _ _ _ _ a w s => ⟨r.rd _ s.sat, fun w' hr => ?_⟩
  have hc : (loadCells (slAddr v m) m').run P w' = .ok us.toArray w' := by
    have key : ∀ i, i < us.length → w'.cell? ⟨(slAddr v m).block, (slAddr v m).off + i, none⟩ = us[i]? := fun i hi => by
      have h1 : us[i]? = vs[m + i]? := by rw [← hu, List.getElem?_take, if_pos (by omega), List.getElem?_drop]
      have h2 : m + i < vs.length := by
        have : us[i]? = some us[i] := by simp [hi]
        rw [this] at h1
        exact (List.getElem?_eq_some_iff.1 h1.symm).1
      have h3 := Rd.cell hr h2
      rw [h1]
      have h4 : slAddr v (m + i) = ⟨(slAddr v m).block, (slAddr v m).off + i, none⟩ := by
        unfold slAddr; split <;> simp [Nat.add_assoc]
      rw [← h4, h3]; simp [h2]
    have h5 : slAddr v m = ⟨(slAddr v m).block, (slAddr v m).off, none⟩ := by unfold slAddr; split <;> rfl
    rw [h5, ← hl]
    exact run_loadCells w' _ _ us key
  simp [execOp, s.env.evl hx, Instr.loadAt, Instr.sureAddr, loadVar, g.agg, g.size, hc]

/-- each element is of so many cells -/
class FLen {α : Type} (f : α → List Value) (k : outParam Nat) : Prop where
  len : ∀ x, (f x).length = k
theorem flat_len {α : Type} {f : α → List Value} {k : Nat} [h : FLen f k] (xs : List α) : (xs.flatMap f).length = xs.length * k := by
  induction xs with
  | nil => simp
  | cons x xs ih => simp [ih, h.len, Nat.succ_mul, Nat.add_comm]
theorem flat_get {α : Type} {f : α → List Value} {k : Nat} [h : FLen f k] (xs : List α) (i : Nat) (hi : i < xs.length) : ((xs.flatMap f).drop (i * k)).take k = f xs[i] := by
  induction xs generalizing i with
  | nil => simp at hi
  | cons x xs ih =>
    cases i with
    | zero => simp [h.len]
    | succ i =>
      have : (i + 1) * k = (f x).length + i * k := by rw [h.len, Nat.succ_mul, Nat.add_comm]
      rw [List.flatMap_cons, this, ← List.drop_drop, List.drop_left]
      exact ih i (by simpa using hi)
theorem yl_lenf {α : Type} {f : α → List Value} {xs : List α} {x : Operand} {t : TypeId} {e : TypeId} {v : Value} {k' : Nat} [u : Und P t (.slice e)] [fl : FLen f k'] (hx : evl env x = some v) [r : RdIn Γ v k' (xs.flatMap f)] (hk : 0 < k') :
    Yl P (.call ⟨.builtin .len, #[x], #[t]⟩) ty w0 n env Γ (vi xs.length) Tt := by
  refine fun _ _ _ _ a w s => ⟨trivial, fun w' _ => ?_⟩
  have hl := (r.rd _ s.sat).len
  rw [flat_len] at hl
  have hl := Nat.eq_of_mul_eq_mul_right hk hl
  rcases (r.rd _ s.sat).nil_iff with rfl | ⟨a, m, c', rfl⟩ <;>
    (simp [slLen] at hl; simp [execOp, resolve, invoke, builtin, s.env.evl hx, Builtin.len_, u.run, goInt, ← hl])
theorem yl_indexf {α : Type} {f : α → List Value} {xs : List α} {t e : TypeId} {ag : Bool} {k' : Nat} {x y : Operand} {v : Value} {kd : IntKind} {i : Nat} [u : Und P t (.slice e)] [fl : FLen f k'] [g : AggT P e ag k'] (hx : evl env x = some v) (hy : evl env y = some (.int kd (i : Int))) [r : RdIn Γ v k' (xs.flatMap f)]
    (hk : 0 < k') (hi : i < xs.length) : Yl P (.indexAddr t x y) ty w0 n env Γ (.pointer (some (slAddr v (i * k')))) Tt := by
  have := yl_index (P := P) (w0 := w0) (n := n) (Γ := Γ) (ty := ty) (t := t) hx hy (r := r) (by omega) (by rw [flat_len, Int.toNat_natCast]; exact Nat.mul_lt_mul_of_pos_right hi hk)
  rwa [Int.toNat_natCast] at this
theorem yl_loadsf {α : Type} {f : α → List Value} {xs : List α} {t : TypeId} {x : Operand} {v : Value} {i k' : Nat} [g : AggT P t true k'] [fl : FLen f k'] (hx : evl env x = some (.pointer (some (slAddr v (i * k'))))) [r : RdIn Γ v k' (xs.flatMap f)] (hi : i < xs.length) :
    Yl P (.load t x) ty w0 n env Γ (.agg (f xs[i]).toArray) (HasR v k' (xs.flatMap f)) :=
  yl_loadsx hx (flat_get xs i hi) (fl.len _)

theorem sl_set {v : Value} {k m : Nat} {vs : List Value} {Γ : List HP} {w : World} (hm : m < vs.length) (u : Value) (hs : Sat (Sl v k vs :: Γ) (hpOf w)) :
    Sat (Sl v k (vs.set m u) :: Γ) (hpOf (w.setCell (slAddr v m) u)) ∧ w.cell? (slAddr v m) = some vs[m] ∧ w.frozen? (slAddr v m) = false := by
  obtain ⟨h1, h2, a, b, c, hA, e⟩ := hs
  rcases hA with ⟨rfl, rfl⟩ | ⟨bk, off, len, cap, cs, rfl, q1, q2, q3, q4, q5⟩
  · simp at hm
  · have hs' : Sat (Cells bk cs :: Γ) (hpOf w) := ⟨h1, h2, a, b, c, q5, e⟩
    obtain ⟨T, hT⟩ := hs'.cells
    have hup := sat_setCell hs' (off + m) u
    refine ⟨hup.imp fun hh hc => .inr ⟨bk, off, len, cap, cs.set (off + m) u, rfl, q1, by simpa using q2, by simpa using q3, ?_, hc⟩, ?_, ?_⟩
    · rw [← q4]
      apply List.ext_getElem?
      intro i
      simp only [List.getElem?_take, List.getElem?_drop, List.getElem?_set, List.length_take, List.length_drop]
      by_cases hi : i < len * k
      · simp only [if_pos hi]
        by_cases hmi : m = i
        · subst hmi
          have h9 : m < min (len * k) (cs.length - off) := by have := q4 ▸ hm; simpa using this
          simp only [if_true]
          rw [if_pos (by omega), if_pos h9]
        · have : off + m ≠ off + i := by omega
          simp [hmi]
      · simp only [if_neg hi]
        have : m < len * k := by rw [← q3]; exact hm
        have : m ≠ i := by omega
        simp [this]
    · exact (Sl.rd (h := h1) (.inr ⟨bk, off, len, cap, cs, rfl, q1, q2, q3, q4, q5⟩) |>.mono a).cell hm
    · simp only [slAddr]; exact frozen_of_hp hT _

theorem wl_storex {t : TypeId} {m' : Nat} {x y : Operand} {v u : Value} {m k' : Nat} {vs : List Value} {Γ' : List HP} [g : AggT P t false m'] (hx : evl env x = some (.pointer (some (slAddr v m)))) (hy : evl env y = some u) [p : PickS Γ v k' vs Γ']
    [one : OneIn Γ [u]] (hm' : m' = 1) (hm : m < vs.length)
    (k : WL P ops rest Q w0 n env (Sl v k' (vs.set m u) :: Γ')) :
    WL P ops (⟨none, .store t x y, ty, pos, after, none⟩ :: rest) Q w0 n env Γ := by
  refine wl_do (fun c w s => ⟨.skip, w.setCell (slAddr v m) u, ?_, .inl rfl, evo_setCell w _ u, (sl_set hm u (p.pick _ s.sat)).1⟩) k
  obtain ⟨_, hc, hf⟩ := sl_set hm u (p.pick _ s.sat)
  have h1 : u.oneCell' = true := one.one _ s.sat u (.head _)
  have hcells : u.cells = #[u] := by cases u <;> simp [Value.cells, Value.oneCell'] at h1 ⊢
  subst hm'
  simp [execOp, s.env.evl hx, s.env.evl hy, Instr.storeAt, Instr.sureAddr, storeVar, g.size, hcells, storeCells, Addr.add, run_store _ _ _ _ _ h1, hc, hf]

theorem wl_store {t : TypeId} {m : Nat} {x y : Operand} {b o : Nat} {cs : List Value} {v : Value} {Γ' : List HP} [g : AggT P t false m] (hx : evl env x = some (.pointer (some ⟨b, o, none⟩))) (hy : evl env y = some v) [p : PickC Γ b cs Γ']
    [one : OneIn Γ [v]] (hm : m = 1) (ho : o < cs.length)
    (k : WL P ops rest Q w0 n env (Cells b (cs.set o v) :: Γ')) :
    WL P ops (⟨none, .store t x y, ty, pos, after, none⟩ :: rest) Q w0 n env Γ := by
  refine wl_do (fun c w s => ⟨.skip, w.setCell ⟨b, o, none⟩ v, ?_, .inl rfl, evo_setCell w _ v, sat_setCell (p.pick _ s.sat) o v⟩) k
  obtain ⟨T, hT⟩ := (p.pick _ s.sat).cells
  have hc : w.cell? ⟨b, o, none⟩ = some cs[o] := by rw [cell_of_hp hT]; simp [ho]
  have hf := frozen_of_hp hT o
  have h1 : v.oneCell' = true := one.one _ s.sat v (.head _)
  have hcells : v.cells = #[v] := by cases v <;> simp [Value.cells, Value.oneCell'] at h1 ⊢
  subst hm
  simp [execOp, s.env.evl hx, s.env.evl hy, Instr.storeAt, Instr.sureAddr, storeVar, g.size, hcells, storeCells, Addr.add, run_store _ _ _ _ _ h1, hc, hf]


theorem run_storeCells0 {P : Program} : ∀ (vs : List Value) (i : Nat) (w : World) (b : Nat) (cs : List Value) (T : TypeId), hpOf w b = some (.cells cs.toArray T (0, 0)) → i + vs.length ≤ cs.length → (∀ u ∈ vs, u.oneCell' = true) →
    ∃ w', (storeCells ⟨b, 0, none⟩ vs i).run P w = .ok () w' ∧ Evo w w' ∧ hpOf w' b = some (.cells (cs.take i ++ vs ++ cs.drop (i + vs.length)).toArray T (0, 0)) ∧ ∀ c, c ≠ b → hpOf w' c = hpOf w c
  | [], i, w, b, cs, T, hb, _, _ => ⟨w, rfl, Evo.refl w, by simpa using hb, fun _ _ => rfl⟩
  | v :: vs, i, w, b, cs, T, hb, hl, h1 => by
    simp only [List.length_cons] at hl
    have hc : w.cell? ((Addr.mk b 0 none).add i) = some cs[i] := by rw [add_pos, Nat.zero_add, cell_of_hp hb]; simp
    have hf : w.frozen? ((Addr.mk b 0 none).add i) = false := by rw [add_pos, Nat.zero_add]; exact frozen_of_hp hb i
    have hb' : hpOf (w.setCell ((Addr.mk b 0 none).add i) v) b = some (.cells (cs.set i v).toArray T (0, 0)) := by rw [add_pos, Nat.zero_add]; exact hp_setCell_eq hb i v
    obtain ⟨w', r1, r2, r3, r4⟩ := run_storeCells0 (P := P) vs (i + 1) _ b (cs.set i v) T hb' (by simp; omega) (fun u hu => h1 u (.tail _ hu))
    refine ⟨w', ?_, (evo_setCell _ _ _).trans r2, ?_, fun c hc' => (r4 c hc').trans (by rw [add_pos, Nat.zero_add]; exact hp_setCell_ne w b i v c hc')⟩
    · simp only [storeCells, Sem.run_bind, run_store P w _ v .plain (h1 v (.head _)), hc, hf]
      simpa using r1
    · rw [r3]
      congr 3
      have e1 : (cs.set i v).take (i + 1) = cs.take i ++ [v] := by
        rw [List.take_set, List.take_succ_eq_append_getElem (by omega), List.set_append_right _ _ (by simp; omega)]; simp [show min i cs.length = i from by omega]
      have e2 : (cs.set i v).drop (i + 1 + vs.length) = cs.drop (i + (vs.length + 1)) := by
        rw [List.drop_set_of_lt (by omega)]; congr 1; omega
      rw [e1, e2]; simp

/-- a struct, into a variable of its own -/
theorem wl_stores {t : TypeId} {m : Nat} {x y : Operand} {b : Nat} {cs vs : List Value} {Γ' : List HP} [g : AggT P t true m] (hx : evl env x = some (vp b)) (hy : evl env y = some (.agg vs.toArray)) [p : PickC Γ b cs Γ']
    [one : OneIn Γ vs] (hm : vs.length = m) (hc : cs.length = m)
    (k : WL P ops rest Q w0 n env (Cells b vs :: Γ')) :
    WL P ops (⟨none, .store t x y, ty, pos, after, none⟩ :: rest) Q w0 n env Γ := by
  refine wl_do (fun c w s => ?_) k
  obtain ⟨T, hT⟩ := (p.pick _ s.sat).cells
  obtain ⟨w', r1, r2, r3, r4⟩ := run_storeCells0 (P := P) vs 0 w b cs T hT (by omega) (one.one _ s.sat)
  refine ⟨.skip, w', ?_, .inl rfl, r2, ?_⟩
  · simp [execOp, s.env.evl hx, s.env.evl hy, Instr.storeAt, Instr.sureAddr, storeVar, g.size, Value.cells, hm, r1]
  · have hcs : (cs.take 0 ++ vs ++ cs.drop (0 + vs.length)) = vs := by simp; omega
    rw [hcs] at r3
    have h1 := p.pick _ s.sat
    obtain ⟨h1', h2', a, c, d, ⟨T', e⟩, f⟩ := h1
    exact (sat_update (Γ := Γ') (w := w) (w' := w') (b := b) ⟨h1', h2', a, c, d, e, f⟩ r3 r4).imp fun _ e => ⟨T, e⟩

/-! what is made -/
theorem wl_alloc {d : Nat} {t : TypeId} {z : Value} {cs : List Value} [g : ZeroT P t z] (hz : z.cells.toList = cs)
    (hd : Nat.blt d n = true) (k : ∀ b, WL P ops rest Q w0 n ((d, vp b) :: env) (Cells b cs :: Γ)) :
    WL P ops (⟨some d, .alloc t, ty, pos, after, none⟩ :: rest) Q w0 n env Γ := by
  refine wl_gen (X := Nat) (φ := fun _ => True) (vf := fun b => vp b) (Γf := fun b => Cells b cs :: Γ) (fun c w s => ⟨w.heap.size, w.alloc (.cells cs.toArray t), ?_, evo_alloc w _, trivial, sat_alloc_cells cs t s.sat⟩) hd fun b _ => k b
  have : z.cells = cs.toArray := by rw [← hz]
  simp [execOp, Instr.alloc, g.run, newVar, newRow, this]

theorem wl_box {d : Nat} {t : TypeId} {x : Operand} {v : Value} {cs : List Value} (hx : evl env x = some v) (hz : v.cells.toList = cs)
    (hd : Nat.blt d n = true) (k : ∀ b, WL P ops rest Q w0 n ((d, vp b) :: env) (Cells b cs :: Γ)) :
    WL P ops (⟨some d, .box t x, ty, pos, after, none⟩ :: rest) Q w0 n env Γ := by
  refine wl_gen (X := Nat) (φ := fun _ => True) (vf := fun b => vp b) (Γf := fun b => Cells b cs :: Γ) (fun c w s => ⟨w.heap.size, w.alloc (.cells cs.toArray t), ?_, evo_alloc w _, trivial, sat_alloc_cells cs t s.sat⟩) hd fun b _ => k b
  have : v.cells = cs.toArray := by rw [← hz]
  simp [execOp, s.env.evl hx, Instr.box, newVar, newRow, this]

def evp (env : Env) : List (Nat × Operand) → Option (List (Nat × Value))
  | [] => some []
  | (i, x) :: r => match evl env x with
    | some v => match evp env r with
      | some vs => some ((i, v) :: vs)
      | none => none
    | none => none
theorem EnvOk.evp {n : Nat} {a : Act} {env : Env} (h : EnvOk n a env) : ∀ {l : List (Nat × Operand)} {vs : List (Nat × Value)}, evp env l = some vs → l.map (fun p => (p.1, a.eval p.2)) = vs
  | [], vs, e => by simp [Sl.evp] at e; simpa using e
  | (i, x) :: r, vs, e => by
    unfold Sl.evp at e
    split at e
    · rename_i v hv
      split at e
      · rename_i ws hw; cases e; simp [h.evl hv, h.evp hw]
      · cases e
    · cases e

class BuildT (P : Program) (t : TypeId) (places : outParam (List (Nat × Nat))) (zero : outParam (List Value)) : Prop where
  run : ∀ w parts cells, Instr.fill (fun i => places[i]?) zero.toArray parts = some cells → (Instr.build t parts.toArray).run P w = .ok (.agg cells) w

theorem buildT_of {P : Program} {t : TypeId} {fs : Array Field} {places : List (Nat × Nat)} {zero : List Value} (hz : ∀ w, (zeroValue t).run P w = .ok (.agg zero.toArray) w)
    (hu : ∀ w, (underlying t).run P w = .ok (.struct fs) w) (hp : ∀ w, (fs.mapM fun f => do pure (f.offset, ← sizeOf f.type) : Sem (Array (Nat × Nat))).run P w = .ok places.toArray w) : BuildT P t places zero :=
  ⟨fun w parts cells h => by
    have hp' : ∀ w, (Array.mapM (fun f : Field => Prod.mk f.offset <$> sizeOf f.type) fs : Sem (Array (Nat × Nat))).run P w = .ok places.toArray w := fun w => by
      rw [← hp w]; congr 1
    simp [Instr.build, hz, hu, hp', Value.cells]
    rw [h]; rfl⟩

theorem evp_arr {a : Act} {parts : Array (Nat × Operand)} {ps : List (Nat × Value)} (h : parts.toList.map (fun p => (p.1, a.eval p.2)) = ps) :
    (parts.map fun x => match x with | (i, x) => (i, a.eval x)) = ps.toArray := by
  apply Array.toList_inj.1; rw [← h, Array.toList_map]

theorem yl_build {t : TypeId} {parts : Array (Nat × Operand)} {ps : List (Nat × Value)} {places : List (Nat × Nat)} {zero cs : List Value} [g : BuildT P t places zero] (hx : evp env parts.toList = some ps)
    (hz : Instr.fill (fun i => places[i]?) zero.toArray ps = some cs.toArray) : Yl P (.build t parts) ty w0 n env Γ (.agg cs.toArray) Tt := by
  refine fun _ _ _ _ a w s => ⟨trivial, fun w' _ => ?_⟩
  have h1 := evp_arr (s.env.evp hx)
  have h2 := g.run w' ps _ hz
  simp only [execOp, h1]
  simp [h2]

class NewMapT (P : Program) (t : TypeId) : Prop where
  run : ∀ w, (Instr.makeMap t none).run P w = .ok (.map (some w.heap.size)) (w.alloc (.map #[] 0))
instance {P : Program} {t : TypeId} : NewMapT P t := ⟨fun w => by simp [Instr.makeMap]⟩

theorem range_map_zero (z : Array Value) (hz : 0 < z.size) (m : Nat) : ((Array.range (m * z.size)).map (fun i => z[i % z.size]!)).toList = (List.replicate m z.toList).flatten := by
  apply List.ext_getElem?
  intro i
  rw [Array.toList_map, List.getElem?_map, Array.toList_range]
  have hfl : ∀ (m i : Nat), (List.replicate m z.toList).flatten[i]? = if i < m * z.size then z.toList[i % z.size]? else none := by
    intro m
    induction m with
    | zero => intro i; simp
    | succ m ih =>
      intro i
      rw [List.replicate_succ, List.flatten_cons]
      by_cases hi : i < z.size
      · rw [List.getElem?_append_left (by simpa using hi), if_pos (by rw [Nat.succ_mul]; omega), Nat.mod_eq_of_lt hi]
      · rw [List.getElem?_append_right (by simp; omega), ih]
        simp only [Array.length_toList]
        have e1 : (i - z.size) % z.size = i % z.size := by
          rw [← Nat.mod_eq_sub_mod (by omega)]
        have e2 : (i - z.size < m * z.size) ↔ (i < (m + 1) * z.size) := by rw [Nat.succ_mul]; omega
        rw [e1]
        by_cases hc : i < (m + 1) * z.size
        · rw [if_pos hc, if_pos (e2.2 hc)]
        · rw [if_neg hc, if_neg (fun h => hc (e2.1 h))]
  rw [hfl]
  by_cases hi : i < m * z.size
  · rw [if_pos hi, List.getElem?_range hi]
    have : i % z.size < z.size := Nat.mod_lt _ hz
    simp [this]
  · rw [if_neg hi, List.getElem?_eq_none (by simpa using hi)]; rfl

/-- 'make' of a slice -/
theorem wl_make {d : Nat} {t e : TypeId} {ag : Bool} {k' by' : Nat} {z : Value} {x : Operand} {m : Int} [u : Und P t (.slice e)] [g : AggT P e ag k'] [bt : BytesT P e by'] [zt : ZeroT P e z] (hx : evl env x = some (.int .i64 m))
    (h0 : 0 ≤ m) (h1 : (by' : Int) * m ≤ 281474976710656) (h2 : m ≤ 9223372036854775807) (hk : 0 < k') (hzs : z.cells.size = k')
    (hd : Nat.blt d n = true) (k : ∀ v, slLen v = m.toNat → (∃ a n c, v = .slice (some a) n c) → WL P ops rest Q w0 n ((d, v) :: env) (Sl v k' (List.replicate m.toNat z.cells.toList).flatten :: Γ)) :
    WL P ops (⟨some d, .makeSlice t x x, ty, pos, after, none⟩ :: rest) Q w0 n env Γ := by
  refine wl_gen (X := Nat) (φ := fun _ => True) (vf := fun b => .slice (some ⟨b, 0, none⟩) m.toNat m.toNat) (Γf := fun b => Sl (.slice (some ⟨b, 0, none⟩) m.toNat m.toNat) k' (List.replicate m.toNat z.cells.toList).flatten :: Γ)
    (fun c w s => ⟨w.heap.size, w.alloc (.cells (List.replicate m.toNat z.cells.toList).flatten.toArray e), ?_, evo_alloc w _, trivial, ?_⟩) hd fun b _ => k _ (by simp [slLen]) ⟨_, _, _, rfl⟩
  · obtain ⟨i, hi, hib⟩ := bt.run w
    have hw := wrap_i64 (a := m) (by omega) h2
    have hsz : ∀ (N : Nat), N = m.toNat * k' → ((Array.range N).map (fun i => z.cells[i % z.cells.size]!)) = (List.replicate m.toNat z.cells.toList).flatten.toArray := by
      intro N hN; subst hN
      apply Array.toList_inj.1
      rw [← hzs]
      exact range_map_zero z.cells (by omega) _
    have hn1 : ¬ (m < 0) := by omega
    have hn2 : ¬ (281474976710656 < (by' : Int) * m) := by omega
    simp only [execOp, s.env.evl hx, Instr.makeSlice]
    simp [u.run, asInt, asIntOf, hi, hw, hib, hn1, hn2, g.size]
    by_cases hm0 : m.toNat = 0
    · have : m = 0 := by omega
      subst this
      simp only [Int.toNat_zero, Nat.zero_mul, if_true]
      simp [newRow]
      exact congrArg (fun a => w.alloc (Obj.cells a e)) (Array.eq_empty_of_size_eq_zero (by simp))
    · have hne : ¬ (m ≤ 0 ∨ k' = 0) := by omega
      by_cases hm : m ≤ 0
      · omega
      · have h8 : ¬ m.toNat * k' = 0 := by
          intro h; rcases Nat.mul_eq_zero.1 h with h | h <;> omega
        simp [h8, zt.run, newRow]
        rw [hsz _ rfl]
  · refine (sat_alloc_cells _ e s.sat).imp fun hh hc => .inr ⟨_, 0, m.toNat, m.toNat, _, rfl, Nat.le_refl _, ?_, ?_, ?_, hc⟩
    · simp [List.length_flatten, hzs]
    · simp [List.length_flatten, hzs]
    · simp; rw [List.take_of_length_le (by simp [List.length_flatten, hzs])]

theorem flatten_one (z : Value) (m : Nat) : (List.replicate m [z]).flatten = List.replicate m z := by
  induction m with
  | zero => rfl
  | succ m ih => simp [List.replicate_succ, ih]
/-- 'make' of a slice of elements of one cell -/
theorem wl_make1 {d : Nat} {t e : TypeId} {ag : Bool} {by' : Nat} {z : Value} {x : Operand} {m : Int} [u : Und P t (.slice e)] [g : AggT P e ag 1] [bt : BytesT P e by'] [zt : ZeroT P e z] (hx : evl env x = some (.int .i64 m))
    (h0 : 0 ≤ m) (h1 : (by' : Int) * m ≤ 281474976710656) (h2 : m ≤ 9223372036854775807) (hz : z.cells = #[z])
    (hd : Nat.blt d n = true) (k : ∀ v, slLen v = m.toNat → (∃ a n c, v = .slice (some a) n c) → WL P ops rest Q w0 n ((d, v) :: env) (Sl v 1 (List.replicate m.toNat z) :: Γ)) :
    WL P ops (⟨some d, .makeSlice t x x, ty, pos, after, none⟩ :: rest) Q w0 n env Γ :=
  wl_make hx h0 h1 h2 (by decide) (by rw [hz]; rfl) hd (fun v a b => by rw [hz, flatten_one]; exact k v a b)
/-- 'make' of bytes -/
theorem wl_makeb {d : Nat} {t e : TypeId} {ag : Bool} {by' : Nat} {x : Operand} {m : Int} [u : Und P t (.slice e)] [g : AggT P e ag 1] [bt : BytesT P e by'] [zt : ZeroT P e (.int .u8 0)] (hx : evl env x = some (.int .i64 m))
    (h0 : 0 ≤ m) (h1 : (by' : Int) * m ≤ 281474976710656) (h2 : m ≤ 9223372036854775807)
    (hd : Nat.blt d n = true) (k : ∀ v, slLen v = m.toNat → (∃ a n c, v = .slice (some a) n c) → WL P ops rest Q w0 n ((d, v) :: env) (Sl v 1 ((List.replicate m.toNat (0 : UInt8)).map vb) :: Γ)) :
    WL P ops (⟨some d, .makeSlice t x x, ty, pos, after, none⟩ :: rest) Q w0 n env Γ :=
  wl_make1 hx h0 h1 h2 rfl hd (fun v a b => by have := k v a b; rw [List.map_replicate] at this; exact this)

/-- parts of one cell each are laid at their fields' places -/
def fill1 (places : List (Nat × Nat)) : List Value → List (Nat × Value) → Option (List Value)
  | cs, [] => some cs
  | cs, (i, v) :: r => match places[i]? with
    | some (off, 1) => if off < cs.length then fill1 places (cs.set off v) r else none
    | _ => none
theorem fill1_eq (places : List (Nat × Nat)) : ∀ (ps : List (Nat × Value)) (cs : List Value) (out : List Value), (∀ p ∈ ps, p.2.oneCell' = true) → fill1 places cs ps = some out →
    Instr.fill (fun i => places[i]?) cs.toArray ps = some out.toArray
  | [], cs, out, _, h => by simp [fill1] at h; simp [Instr.fill, h]
  | (i, v) :: r, cs, out, h1, h => by
    have hv : v.cells = #[v] := by have := h1 _ (.head _); cases v <;> simp [Value.cells, Value.oneCell'] at this ⊢
    unfold fill1 at h
    split at h
    · rename_i off hp
      split at h
      · rename_i hlt
        unfold Instr.fill
        simp only [hp, hv]
        have := fill1_eq places r (cs.set off v) out (fun p hp => h1 p (.tail _ hp)) h
        simp [show ¬ (cs.length < off + 1) from by omega]
        exact this
      · cases h
    · cases h
theorem yl_build1 {t : TypeId} {parts : Array (Nat × Operand)} {ps : List (Nat × Value)} {places : List (Nat × Nat)} {zero cs : List Value} [g : BuildT P t places zero] (hx : evp env parts.toList = some ps) [o : OneInP Γ ps]
    (hz : fill1 places zero ps = some cs) : Yl P (.build t parts) ty w0 n env Γ (.agg cs.toArray) Tt := by
  refine fun _ _ _ _ a w s => ⟨trivial, fun w' _ => ?_⟩
  have h1 := evp_arr (s.env.evp hx)
  have h2 := g.run w' ps _ (fill1_eq places ps zero cs (o.one _ s.sat) hz)
  simp only [execOp, h1]
  simp [h2]

/-! calls -/
theorem wl_call {d : Nat} {cal : Operand} {f : FuncId} {first captured : Array Value} {args : Array Operand} {ts : Array TypeId} {vs us : List Value}
    {rd : Hp → Prop} {pre : List HP → List HP} {X Y : Type} {φ : X → Prop} {v : X → Value} {post : X → List HP → List HP} {φc : Y → Prop} {chain : List PanicEntry} {postc : Y → List HP → List HP}
    {R : Ending → World → Prop} {F : List HP} [ct : CallT P f] [th : Thru Q R]
    (hs : Spec P f us rd pre φ v post φc chain postc)
    (hc : evl env cal = some (.func (.func f) first captured)) (ha : evls env args.toList = some vs) (hu : first.toList ++ vs ++ captured.toList = us)
    (hd : Nat.blt d n = true) (hg : Ent Γ (pre F)) (hr : ∀ h, Sat F h → rd h)
    (kc : ∀ y, φc y → ∀ w, Evo w0 w → Sat (postc y F) (hpOf w) → R (.panicked chain) w)
    (k : ∀ x, φ x → WL P ops rest Q w0 n ((d, v x) :: env) (post x F)) :
    WL P ops (⟨some d, .call ⟨.value cal, args, ts⟩, ty, pos, after, none⟩ :: rest) Q w0 n env Γ := fun a w s => by
  refine wpList_plain rfl fun K hK => ?_
  have h1 := s.env.evl hc
  have h2 := s.env.evls ha
  have h3 : args.map a.eval = vs.toArray := by apply Array.toList_inj.1; rw [Array.toList_map, h2]
  have h4 : first ++ vs.toArray ++ captured = us.toArray := by apply Array.toList_inj.1; simp [← hu]
  unfold Oper.wp
  have hrun : (execOp a.eval ⟨some d, .call ⟨.value cal, args, ts⟩, ty, pos, after, none⟩).run P w = .ok (.enter f us.toArray) w := by
    simp [execOp, resolve, h1, h3, Deferred.ofValue, invoke, ct.run, h4]
  rw [hrun, Oper.upon_enter]
  refine (hs F w hr (hg _ s.sat)).mono fun e w' he => ?_
  obtain ⟨hev, he | he⟩ := he
  · obtain ⟨x, hx, rfl, hsat⟩ := he
    exact hK _ _ (k x hx _ _ ⟨s.env.put hd _, s.defers, s.evo.trans hev, hsat⟩)
  · obtain ⟨y, hy, rfl, hsat⟩ := he
    exact th.panic _ _ _ s.defers (kc y hy w' (s.evo.trans hev) hsat)

theorem wl_call_ {cal : Operand} {f : FuncId} {first captured : Array Value} {args : Array Operand} {ts : Array TypeId} {vs us : List Value}
    {rd : Hp → Prop} {pre : List HP → List HP} {X Y : Type} {φ : X → Prop} {v : X → Value} {post : X → List HP → List HP} {φc : Y → Prop} {chain : List PanicEntry} {postc : Y → List HP → List HP}
    {R : Ending → World → Prop} {F : List HP} [ct : CallT P f] [th : Thru Q R]
    (hs : Spec P f us rd pre φ v post φc chain postc)
    (hc : evl env cal = some (.func (.func f) first captured)) (ha : evls env args.toList = some vs) (hu : first.toList ++ vs ++ captured.toList = us)
    (hg : Ent Γ (pre F)) (hr : ∀ h, Sat F h → rd h)
    (kc : ∀ y, φc y → ∀ w, Evo w0 w → Sat (postc y F) (hpOf w) → R (.panicked chain) w)
    (k : ∀ x, φ x → WL P ops rest Q w0 n env (post x F)) :
    WL P ops (⟨none, .call ⟨.value cal, args, ts⟩, ty, pos, after, none⟩ :: rest) Q w0 n env Γ := fun a w s => by
  refine wpList_plain rfl fun K hK => ?_
  have h1 := s.env.evl hc
  have h2 := s.env.evls ha
  have h3 : args.map a.eval = vs.toArray := by apply Array.toList_inj.1; rw [Array.toList_map, h2]
  have h4 : first ++ vs.toArray ++ captured = us.toArray := by apply Array.toList_inj.1; simp [← hu]
  unfold Oper.wp
  have hrun : (execOp a.eval ⟨none, .call ⟨.value cal, args, ts⟩, ty, pos, after, none⟩).run P w = .ok (.enter f us.toArray) w := by
    simp [execOp, resolve, h1, h3, Deferred.ofValue, invoke, ct.run, h4]
  rw [hrun, Oper.upon_enter]
  refine (hs F w hr (hg _ s.sat)).mono fun e w' he => ?_
  obtain ⟨hev, he | he⟩ := he
  · obtain ⟨x, hx, rfl, hsat⟩ := he
    exact hK _ _ (k x hx _ _ ⟨s.env, s.defers, s.evo.trans hev, hsat⟩)
  · obtain ⟨y, hy, rfl, hsat⟩ := he
    exact th.panic _ _ _ s.defers (kc y hy w' (s.evo.trans hev) hsat)

theorem Ent.take {A : HP} {Γ Γ1 Γ' : List HP} (p : Ent Γ (A :: Γ1)) (h : Ent Γ1 Γ') : Ent Γ (A :: Γ') := p.trans (Ent.skip h)
theorem Ent.there {A B : HP} {Γ Γ' : List HP} (h : Ent Γ (A :: Γ')) : Ent (B :: Γ) (A :: B :: Γ') := (Ent.skip h).trans Ent.swap
theorem tE {A B : HP} {Γ Γ' : List HP} (h : Ent Γ (A :: Γ')) : Ent (B :: Γ) (A :: B :: Γ') := Ent.there h

end ops
end Go.Sl
end
