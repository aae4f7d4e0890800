/- One law an operation: moves, tests, sums, fields, loads and stores, calls. No program. -/
import Derived.Test.YtihkfklpoliilaaDoorEng2
namespace Go.Sl
open Go

abbrev vi (n : Int) : Value := .int .i64 n
abbrev vb (u : UInt8) : Value := .int .u8 (u.toNat : Int)
abbrev vp (b : Nat) : Value := .pointer (some ⟨b, 0, none⟩)

def cmpOf (op : BinOp) (a b : Int) : Option Bool :=
  match op with
  | .eql => some (decide (a = b))
  | .neq => some (decide (a ≠ b))
  | .lss => some (decide (a < b))
  | .leq => some (decide (a ≤ b))
  | .gtr => some (decide (a > b))
  | .geq => some (decide (a ≥ b))
  | _ => none

def nthV : List Value → Nat → Option Value
  | [], _ => none
  | v :: _, 0 => some v
  | _ :: r, i + 1 => nthV r i
theorem nthV_eq : ∀ (l : List Value) (i : Nat), nthV l i = l[i]?
  | [], _ => rfl
  | _ :: _, 0 => rfl
  | _ :: r, i + 1 => by simp [nthV, nthV_eq r i]
def pev (env : Env) : Op → Option Value
  | .move x => evl env x
  | .assign x => evl env x
  | .pick c a b => match evl env c with
    | some (.bool true) => evl env a
    | some (.bool false) => evl env b
    | _ => none
  | .nilCheck x => match evl env x with
    | some (.pointer (some a)) => some (.pointer (some a))
    | some (.func (.func f) a b) => some (.func (.func f) a b)
    | some (.iface t v) => some (.iface t v)
    | _ => none
  | .extract t i => match evl env t with
    | some (.tuple vs) => nthV vs.toList i
    | _ => none
  | .unOp .not _ x => match evl env x with
    | some (.bool b) => some (.bool !b)
    | _ => none
  | .makeFunc fn first captured => match evls env first.toList with
    | some a => match evls env captured.toList with
      | some b => some (.func fn a.toArray b.toArray)
      | none => none
    | none => none
  | _ => none

section ops
variable {P : Program} {ops : Array Oper} {Q : Exit → Act → World → Prop} {w0 : World} {n : Nat} {env : Env} {Γ : List HP} {rest : List Oper}
  {ty : TypeId} {pos : String} {after : Array Edge}

theorem wl_gen {d : Nat} {op : Op} {X : Type} {vf : X → Value} {φ : X → Prop} {Γf : X → List HP}
    (h : ∀ a w, St w0 n env Γ a w → ∃ x w', (execOp a.eval ⟨some d, op, ty, pos, after, none⟩).run P w = .ok (.value (vf x)) w' ∧ Evo w w' ∧ φ x ∧ Sat (Γf x) (hpOf w'))
    (hd : Nat.blt d n = true) (k : ∀ x, φ x → WL P ops rest Q w0 n ((d, vf x) :: env) (Γf x)) :
    WL P ops (⟨some d, op, ty, pos, after, none⟩ :: rest) Q w0 n env Γ := fun a w s => by
  obtain ⟨x, w', hr, he, hx, hs⟩ := h a w s
  refine wpList_plain rfl fun K hK => ?_
  unfold Oper.wp
  rw [hr]
  exact hK _ _ (k x hx _ _ ⟨s.env.put hd _, s.defers, s.evo.trans he, hs⟩)

theorem wl_val {d : Nat} {op : Op} {v : Value} {Γ' : List HP}
    (h : ∀ a w, St w0 n env Γ a w → ∃ w', (execOp a.eval ⟨some d, op, ty, pos, after, none⟩).run P w = .ok (.value v) w' ∧ Evo w w' ∧ Sat Γ' (hpOf w'))
    (hd : Nat.blt d n = true) (k : WL P ops rest Q w0 n ((d, v) :: env) Γ') :
    WL P ops (⟨some d, op, ty, pos, after, none⟩ :: rest) Q w0 n env Γ :=
  wl_gen (X := Unit) (φ := fun _ => True) (fun a w s => let ⟨w', a, b, c⟩ := h a w s; ⟨(), w', a, b, trivial, c⟩) hd fun _ _ => k

/-- an operation that writes, and yields nothing -/
theorem wl_do {op : Op} {Γ' : List HP}
    (h : ∀ a w, St w0 n env Γ a w → ∃ r w', (execOp a.eval ⟨none, op, ty, pos, after, none⟩).run P w = .ok r w' ∧ (r = .skip ∨ ∃ v, r = .value v) ∧ Evo w w' ∧ Sat Γ' (hpOf w'))
    (k : WL P ops rest Q w0 n env Γ') : WL P ops (⟨none, op, ty, pos, after, none⟩ :: rest) Q w0 n env Γ := fun a w s => by
  obtain ⟨r, w', hr, hv, he, hs⟩ := h a w s
  refine wpList_plain rfl fun K hK => ?_
  unfold Oper.wp
  rw [hr]
  rcases hv with rfl | ⟨v, rfl⟩
  · exact hK _ _ (k _ _ ⟨s.env, s.defers, s.evo.trans he, hs⟩)
  · exact hK _ _ (k _ _ ⟨s.env, s.defers, s.evo.trans he, hs⟩)


/-- an operation that yields this value, in each world of which I holds, and changes nothing -/
def Yl (P : Program) (op : Op) (ty : TypeId) (w0 : World) (n : Nat) (env : Env) (Γ : List HP) (v : Value) (I : World → Prop) : Prop :=
  ∀ (dst : Option Tmp) (pos : String) (after : Array Edge) (guard : Option (Nat × Bool)) (a : Act) (w : World), St w0 n env Γ a w →
    I w ∧ ∀ w', I w' → (execOp a.eval ⟨dst, op, ty, pos, after, guard⟩).run P w' = .ok (.value v) w'
def Tt : World → Prop := fun _ => True

theorem wl_y {d : Nat} {op : Op} {v : Value} {I : World → Prop} (y : Yl P op ty w0 n env Γ v I) (hd : Nat.blt d n = true) (k : WL P ops rest Q w0 n ((d, v) :: env) Γ) :
    WL P ops (⟨some d, op, ty, pos, after, none⟩ :: rest) Q w0 n env Γ :=
  wl_val (fun a w s => let ⟨i, r⟩ := y (some d) pos after none a w s; ⟨w, r w i, Evo.refl w, s.sat⟩) hd k

theorem pev_sound {dst : Option Tmp} {op : Op} {v : Value} {a : Act} {guard : Option (Nat × Bool)} (h : pev env op = some v) (he : EnvOk n a env) (w : World) :
    (execOp a.eval ⟨dst, op, ty, pos, after, guard⟩).run P w = .ok (.value v) w := by
  unfold pev at h
  split at h
  · simp [execOp, he.evl h]
  · simp [execOp, he.evl h]
  · split at h
    · rename_i c; simp [execOp, he.evl c, he.evl h, asBool]
    · rename_i c; simp [execOp, he.evl c, he.evl h, asBool]
    · cases h
  · split at h
    · rename_i c; cases h; simp [execOp, he.evl c]
    · rename_i c; cases h; simp [execOp, he.evl c]
    · rename_i c; cases h; simp [execOp, he.evl c]
    · cases h
  · split at h
    · rename_i vs c
      rw [nthV_eq] at h
      simp only [Array.getElem?_toList] at h
      simp [execOp, he.evl c, Instr.extract, h]
    · cases h
  · split at h
    · rename_i c; cases h; simp [execOp, he.evl c, Op.unary]
    · cases h
  · rename_i fn first captured
    split at h
    · rename_i c1
      split at h
      · rename_i c2; cases h
        have e1 := he.evls c1
        have e2 := he.evls c2
        have f0 : ∀ xs : Array Operand, xs.map a.eval = (List.map a.eval xs.toList).toArray := fun xs => by
          apply Array.toList_inj.1; rw [Array.toList_map]
        have f1 := f0 first
        have f2 := f0 captured
        rw [e1] at f1; rw [e2] at f2
        simp only [execOp, Instr.makeFunc, f1, f2]
        simp
      · cases h
    · cases h
  · cases h

theorem yl_pure {op : Op} {v : Value} (h : pev env op = some v) : Yl P op ty w0 n env Γ v Tt :=
  fun _ _ _ _ _ _ s => ⟨trivial, fun w' _ => pev_sound h s.env w'⟩

theorem yl_cmp {op : BinOp} {t yt : TypeId} {x y : Operand} {kd : IntKind} {a b : Int} {r : Bool} (hx : evl env x = some (.int kd a)) (hy : evl env y = some (.int kd b)) (hr : cmpOf op a b = some r) :
    Yl P (.binOp op t x y yt) ty w0 n env Γ (.bool r) Tt := by
  refine fun _ _ _ _ _ _ s => ⟨trivial, fun w' _ => ?_⟩
  simp only [execOp, s.env.evl hx, s.env.evl hy]
  cases op <;> simp only [cmpOf, Option.some.injEq, reduceCtorEq] at hr <;> subst hr <;> simp [eqGuard, binOp, Op.intCmp] <;> first | rfl | skip

theorem run_equalIn_bool (d : Nat) {t : TypeId} {a b : Bool} [u : Und P t .bool] (w : World) : (Op.equalIn (d + 1) t (.bool a) (.bool b)).run P w = .ok (a == b) w := by
  simp [Op.equalIn, u.run]
theorem yl_beq {t yt : TypeId} {x y : Operand} {a b : Bool} [u : Und P t .bool] (hx : evl env x = some (.bool a)) (hy : evl env y = some (.bool b)) :
    Yl P (.binOp .eql t x y yt) ty w0 n env Γ (.bool (a == b)) Tt :=
  fun _ _ _ _ _ _ s => ⟨trivial, fun w' _ => by simp [execOp, s.env.evl hx, s.env.evl hy, eqGuard, binOp, Op.equal, Op.maxDepth, run_equalIn_bool 9999]⟩
theorem yl_bne {t yt : TypeId} {x y : Operand} {a b : Bool} [u : Und P t .bool] (hx : evl env x = some (.bool a)) (hy : evl env y = some (.bool b)) :
    Yl P (.binOp .neq t x y yt) ty w0 n env Γ (.bool (a != b)) Tt :=
  fun _ _ _ _ _ _ s => ⟨trivial, fun w' _ => by simp [execOp, s.env.evl hx, s.env.evl hy, eqGuard, binOp, Op.equal, Op.maxDepth, run_equalIn_bool 9999]; cases a <;> cases b <;> rfl⟩

theorem yl_add {t yt : TypeId} {x y : Operand} {kd : IntKind} {a b : Int} (hx : evl env x = some (.int kd a)) (hy : evl env y = some (.int kd b)) :
    Yl P (.binOp .add t x y yt) ty w0 n env Γ (.int kd (kd.wrap (a + b))) Tt :=
  fun _ _ _ _ _ _ s => ⟨trivial, fun w' _ => by simp [execOp, s.env.evl hx, s.env.evl hy, eqGuard, binOp, Op.intArith]⟩
theorem yl_sub {t yt : TypeId} {x y : Operand} {kd : IntKind} {a b : Int} (hx : evl env x = some (.int kd a)) (hy : evl env y = some (.int kd b)) :
    Yl P (.binOp .sub t x y yt) ty w0 n env Γ (.int kd (kd.wrap (a - b))) Tt :=
  fun _ _ _ _ _ _ s => ⟨trivial, fun w' _ => by simp [execOp, s.env.evl hx, s.env.evl hy, eqGuard, binOp, Op.intArith]⟩
theorem yl_mul {t yt : TypeId} {x y : Operand} {kd : IntKind} {a b : Int} (hx : evl env x = some (.int kd a)) (hy : evl env y = some (.int kd b)) :
    Yl P (.binOp .mul t x y yt) ty w0 n env Γ (.int kd (kd.wrap (a * b))) Tt :=
  fun _ _ _ _ _ _ s => ⟨trivial, fun w' _ => by simp [execOp, s.env.evl hx, s.env.evl hy, eqGuard, binOp, Op.intArith]⟩

theorem wrap_i64 {a : Int} (h1 : -9223372036854775808 ≤ a) (h2 : a ≤ 9223372036854775807) : IntKind.i64.wrap a = a := by
  simp only [IntKind.wrap, IntKind.bits, IntKind.signed]; simp; omega
theorem wrap_u8 {a : Int} (h1 : 0 ≤ a) (h2 : a ≤ 255) : IntKind.u8.wrap a = a := by
  simp only [IntKind.wrap, IntKind.bits, IntKind.signed]; simp; omega
theorem wrap_u64 {a : Int} (h1 : 0 ≤ a) (h2 : a ≤ 18446744073709551615) : IntKind.u64.wrap a = a := by
  simp only [IntKind.wrap, IntKind.bits, IntKind.signed]; simp; omega
theorem wrap_u32 {a : Int} (h1 : 0 ≤ a) (h2 : a ≤ 4294967295) : IntKind.u32.wrap a = a := by
  simp only [IntKind.wrap, IntKind.bits, IntKind.signed]; simp; omega

theorem yl_addi {t yt : TypeId} {x y : Operand} {a b : Int} (hx : evl env x = some (.int .i64 a)) (hy : evl env y = some (.int .i64 b))
    (h1 : -9223372036854775808 ≤ a + b) (h2 : a + b ≤ 9223372036854775807) : Yl P (.binOp .add t x y yt) ty w0 n env Γ (.int .i64 (a + b)) Tt := by
  have := yl_add (P := P) (w0 := w0) (n := n) (Γ := Γ) (ty := ty) (t := t) (yt := yt) hx hy; rwa [wrap_i64 h1 h2] at this
theorem yl_subi {t yt : TypeId} {x y : Operand} {a b : Int} (hx : evl env x = some (.int .i64 a)) (hy : evl env y = some (.int .i64 b))
    (h1 : -9223372036854775808 ≤ a - b) (h2 : a - b ≤ 9223372036854775807) : Yl P (.binOp .sub t x y yt) ty w0 n env Γ (.int .i64 (a - b)) Tt := by
  have := yl_sub (P := P) (w0 := w0) (n := n) (Γ := Γ) (ty := ty) (t := t) (yt := yt) hx hy; rwa [wrap_i64 h1 h2] at this
theorem yl_muli {t yt : TypeId} {x y : Operand} {a b : Int} (hx : evl env x = some (.int .i64 a)) (hy : evl env y = some (.int .i64 b))
    (h1 : -9223372036854775808 ≤ a * b) (h2 : a * b ≤ 9223372036854775807) : Yl P (.binOp .mul t x y yt) ty w0 n env Γ (.int .i64 (a * b)) Tt := by
  have := yl_mul (P := P) (w0 := w0) (n := n) (Γ := Γ) (ty := ty) (t := t) (yt := yt) hx hy; rwa [wrap_i64 h1 h2] at this

/-- '%' of what is not below nought -/
theorem yl_rem {t yt : TypeId} {x y : Operand} {kd : IntKind} {a b : Int} (hx : evl env x = some (.int kd a)) (hy : evl env y = some (.int kd b)) (h1 : 0 ≤ a) (h2 : 0 < b) :
    Yl P (.binOp .rem t x y yt) ty w0 n env Γ (.int kd (a % b)) Tt := by
  refine fun _ _ _ _ _ _ s => ⟨trivial, fun w' _ => ?_⟩
  have hb : b ≠ 0 := by omega
  simp [execOp, s.env.evl hx, s.env.evl hy, eqGuard, binOp, Op.intDiv, hb, Int.tmod_eq_emod_of_nonneg h1]
theorem yl_quoi {t yt : TypeId} {x y : Operand} {a b : Int} (hx : evl env x = some (.int .i64 a)) (hy : evl env y = some (.int .i64 b)) (h1 : 0 ≤ a) (h2 : 0 < b) (h3 : a ≤ 9223372036854775807) :
    Yl P (.binOp .quo t x y yt) ty w0 n env Γ (.int .i64 (a / b)) Tt := by
  refine fun _ _ _ _ _ _ s => ⟨trivial, fun w' _ => ?_⟩
  have hb : b ≠ 0 := by omega
  have q1 : 0 ≤ a / b := Int.ediv_nonneg h1 (by omega)
  have q2 : a / b ≤ a := Int.ediv_le_self _ h1
  simp [execOp, s.env.evl hx, s.env.evl hy, eqGuard, binOp, Op.intDiv, hb, Int.tdiv_eq_ediv_of_nonneg h1]
  exact wrap_i64 (by omega) (by omega)

theorem yl_conv {t t' : TypeId} {x : Operand} {kd kd' : IntKind} {a : Int} {dsc : TypeDesc} [u : Und P t dsc] [u' : Und P t' (.int kd')] (hx : evl env x = some (.int kd a)) :
    Yl P (.convert t t' x) ty w0 n env Γ (.int kd' (kd'.wrap a)) Tt :=
  fun _ _ _ _ _ _ s => ⟨trivial, fun w' _ => by simp [execOp, s.env.evl hx, convert, u.run, u'.run, Conv.intToInt]⟩
theorem yl_convi {t t' : TypeId} {x : Operand} {kd : IntKind} {a : Int} {dsc : TypeDesc} [u : Und P t dsc] [u' : Und P t' (.int .i64)] (hx : evl env x = some (.int kd a))
    (h1 : -9223372036854775808 ≤ a) (h2 : a ≤ 9223372036854775807) : Yl P (.convert t t' x) ty w0 n env Γ (.int .i64 a) Tt := by
  have := yl_conv (P := P) (w0 := w0) (n := n) (Γ := Γ) (ty := ty) (t := t) (t' := t') hx; rwa [wrap_i64 h1 h2] at this

theorem yl_max {x y : Operand} {ts : Array TypeId} {kd : IntKind} {a b : Int} (hx : evl env x = some (.int kd a)) (hy : evl env y = some (.int kd b)) :
    Yl P (.call ⟨.builtin .max, #[x, y], ts⟩) ty w0 n env Γ (.int kd (max a b)) Tt := by
  refine fun _ _ _ _ _ _ s => ⟨trivial, fun w' _ => ?_⟩
  simp [execOp, resolve, invoke, builtin, s.env.evl hx, s.env.evl hy, Builtin.max_, Builtin.max2]
  omega
theorem yl_min {x y : Operand} {ts : Array TypeId} {kd : IntKind} {a b : Int} (hx : evl env x = some (.int kd a)) (hy : evl env y = some (.int kd b)) :
    Yl P (.call ⟨.builtin .min, #[x, y], ts⟩) ty w0 n env Γ (.int kd (min a b)) Tt := by
  refine fun _ _ _ _ _ _ s => ⟨trivial, fun w' _ => ?_⟩
  simp [execOp, resolve, invoke, builtin, s.env.evl hx, s.env.evl hy, Builtin.min_, Builtin.min2]
  omega

/-! guards -/
theorem EnvOk.known {n : Nat} {a : Act} {env : Env} (h : EnvOk n a env) {t : Nat} {v : Value} (ht : env.get t = some v) : EnvOk n a ((t, v) :: env) := by
  refine ⟨h.size, fun t' u e => ?_⟩
  unfold Env.get at e
  cases hk : Nat.beq t t' with
  | true => rw [hk] at e; simp at e; subst e; have := Nat.eq_of_beq_eq_true hk; subst this; exact h.get _ _ ht
  | false => rw [hk] at e; exact h.get _ _ e

/-- a test in a slot: both ways -/
theorem wl_case {l : List Oper} (t : Nat) {c : Bool} (hc : env.get t = some (.bool c)) (h1 : c = true → WL P ops l Q w0 n ((t, .bool true) :: env) Γ) (h2 : c = false → WL P ops l Q w0 n ((t, .bool false) :: env) Γ) :
    WL P ops l Q w0 n env Γ := fun a w s => by
  cases hb : c with
  | true => subst hb; exact h1 rfl a w ⟨s.env.known hc, s.defers, s.evo, s.sat⟩
  | false => subst hb; exact h2 rfl a w ⟨s.env.known hc, s.defers, s.evo, s.sat⟩

/-- the guard's slot is not decided: both ways -/
theorem wl_gcase {o : Option Tmp} {op : Op} {g : Nat} {want : Bool} {og : Oper} {t : Tmp} {c : Bool} (_hg : ops[g]? = some og) (_ht : og.dst = some t) (hc : env.get t = some (.bool c))
    (h1 : c = true → WL P ops (⟨o, op, ty, pos, after, some (g, want)⟩ :: rest) Q w0 n ((t, .bool true) :: env) Γ)
    (h2 : c = false → WL P ops (⟨o, op, ty, pos, after, some (g, want)⟩ :: rest) Q w0 n ((t, .bool false) :: env) Γ) :
    WL P ops (⟨o, op, ty, pos, after, some (g, want)⟩ :: rest) Q w0 n env Γ := by
  exact wl_case t hc h1 h2
theorem wl_guard_yes {o : Option Tmp} {op : Op} {g : Nat} {want : Bool} {og : Oper} {t : Tmp} (hg : ops[g]? = some og) (ht : og.dst = some t) (hc : env.get t = some (.bool want))
    (k : WL P ops (⟨o, op, ty, pos, after, none⟩ :: rest) Q w0 n env Γ) :
    WL P ops (⟨o, op, ty, pos, after, some (g, want)⟩ :: rest) Q w0 n env Γ := fun a w s => by
  have hy : yielded ops a.tmps g = some want := by simp [yielded, hg, ht, s.env.get _ _ hc]
  have := k a w s
  unfold wpList at this ⊢
  rw [if_pos (by simp [Region.wanted])] at this
  rw [if_pos (by simp [Region.wanted, hy])]
  exact this
theorem wl_guard_no {d : Nat} {op : Op} {g : Nat} {want c : Bool} {og : Oper} {t : Tmp} (hg : ops[g]? = some og) (ht : og.dst = some t) (hc : env.get t = some (.bool c)) (hne : (c == want) = false)
    (hd : Nat.blt d n = true) (k : WL P ops rest Q w0 n ((d, undef) :: env) Γ) :
    WL P ops (⟨some d, op, ty, pos, after, some (g, want)⟩ :: rest) Q w0 n env Γ := fun a w s => by
  have hy : yielded ops a.tmps g = some c := by simp [yielded, hg, ht, s.env.get _ _ hc]
  have hcw : c ≠ want := by intro e; subst e; simp at hne
  unfold wpList
  rw [if_neg (by simp [Region.wanted, hy, hcw])]
  exact k _ _ ⟨s.env.put hd _, s.defers, s.evo, s.sat⟩

/-! fields, loads, stores -/
theorem yl_field {t : TypeId} {f off : Nat} {x : Operand} {a : Addr} [o : FOff P t f off] (hx : evl env x = some (.pointer (some a))) :
    Yl P (.fieldAddr t x f) ty w0 n env Γ (.pointer (some (a.add off))) Tt :=
  fun _ _ _ _ _ _ s => ⟨trivial, fun w' _ => by simp [execOp, s.env.evl hx, o.run]⟩

theorem add_zero (a : Addr) : a.add 0 = a := rfl
theorem add_pos (b o m : Nat) : (Addr.mk b o none).add m = ⟨b, o + m, none⟩ := by unfold Addr.add; split <;> simp_all

/-- the block b is this row of cells, in a world -/
def HasC (b : Nat) (cs : List Value) : World → Prop := fun w => ∃ T, hpOf w b = some (.cells cs.toArray T (0, 0))

theorem yl_field0 {t : TypeId} {f off b o : Nat} {x : Operand} [fo : FOff P t f off] (hx : evl env x = some (.pointer (some ⟨b, o, none⟩))) :
    Yl P (.fieldAddr t x f) ty w0 n env Γ (.pointer (some ⟨b, o + off, none⟩)) Tt := by
  have := yl_field (P := P) (w0 := w0) (n := n) (Γ := Γ) (ty := ty) (t := t) (f := f) hx; rwa [add_pos] at this

theorem yl_load {t : TypeId} {m : Nat} {x : Operand} {b o : Nat} {cs : List Value} {v : Value} {Γ' : List HP} [g : AggT P t false m] (hx : evl env x = some (.pointer (some ⟨b, o, none⟩))) [p : PickC Γ b cs Γ'] (hv : cs[o]? = some v) :
    Yl P (.load t x) ty w0 n env Γ v (HasC b cs) := by
  refine fun _ _ _ _ a w s => ⟨(p.pick _ s.sat).cells, fun w' hT => ?_⟩
  obtain ⟨T, hT⟩ := hT
  have hc : w'.cell? ⟨b, o, none⟩ = some v := by rw [cell_of_hp hT, hv]
  simp [execOp, s.env.evl hx, Instr.loadAt, Instr.sureAddr, loadVar, g.agg, hc]

theorem run_loadCells (w : World) (b o : Nat) (cs : List Value) (hc : ∀ i, i < cs.length → w.cell? ⟨b, o + i, none⟩ = cs[i]?) :
    (loadCells ⟨b, o, none⟩ cs.length).run P w = .ok cs.toArray w := by
  have key : ∀ (m i : Nat) (acc : Array Value), i + m = cs.length → acc = (cs.take i).toArray →
      (loadCellsFrom ⟨b, o, none⟩ i m acc).run P w = .ok cs.toArray w := by
    intro m
    induction m with
    | zero => intro i acc hi ha; simp [loadCellsFrom, ha]; exact List.take_of_length_le (by omega)
    | succ m ih =>
      intro i acc hi ha
      have hlt : i < cs.length := by omega
      have h1 : w.cell? ((Addr.mk b o none).add i) = some cs[i] := by rw [add_pos, hc i hlt]; simp [hlt]
      simp only [loadCellsFrom, Sem.run_bind, run_load, h1, Result.andThen_ok]
      exact ih (i + 1) _ (by omega) (by rw [ha, List.take_succ_eq_append_getElem hlt]; simp)
  exact key cs.length 0 #[] (by omega) (by simp)

theorem yl_loads {t : TypeId} {m : Nat} {x : Operand} {b o : Nat} {cs : List Value} {vs : List Value} {Γ' : List HP} [g : AggT P t true m] (hx : evl env x = some (.pointer (some ⟨b, o, none⟩))) [p : PickC Γ b cs Γ'] (hv : (cs.drop o).take m = vs) (hm : vs.length = m) :
    Yl P (.load t x) ty w0 n env Γ (.agg vs.toArray) (HasC b cs) := by
  refine fun _ _ _ _ a w s => ⟨(p.pick _ s.sat).cells, fun w' hT => ?_⟩
  obtain ⟨T, hT⟩ := hT
  have hc : (loadCells ⟨b, o, none⟩ m).run P w' = .ok vs.toArray w' := by
    rw [← hm]
    refine run_loadCells w' b o vs fun i hi => ?_
    rw [cell_of_hp hT, ← hv, List.getElem?_take, if_pos (by omega), List.getElem?_drop]
  simp [execOp, s.env.evl hx, Instr.loadAt, Instr.sureAddr, loadVar, g.agg, g.size, hc]

end ops
end Go.Sl
