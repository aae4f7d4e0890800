/- Strings out of slices; parts of slices; what unsafe gives of a row of bytes; blocks whose type is known. No program. -/
import Derived.Test.YtihkfklpoliilaaDoorStr
namespace Go.Sl
open Go
/-- a rune's bytes -/
def encB (x : ByteArray) : Bytes := x.data.toList
def enc (r : Nat) : Bytes := encB (Utf8.encode (r : Int))
theorem ba_eta (x : ByteArray) : x = ⟨(encB x).toArray⟩ := by cases x; simp [encB]
theorem enc_eq (r : Nat) : Utf8.encode (r : Int) = ⟨(enc r).toArray⟩ := ba_eta _
theorem fold_bytes : ∀ (l acc : Bytes), (l.map fun b : UInt8 => (b.toNat : Int)).foldl (fun (r : ByteArray) n => r.push (UInt8.ofNat n.toNat)) ⟨acc.toArray⟩ = ⟨(acc ++ l).toArray⟩
  | [], acc => by simp
  | b :: l, acc => by
    have h : (ByteArray.mk acc.toArray).push (UInt8.ofNat ((b.toNat : Int)).toNat) = ⟨(acc ++ [b]).toArray⟩ := by
      apply ByteArray.ext; simp [ByteArray.push]
    simp only [List.map_cons, List.foldl_cons]
    rw [h, fold_bytes l (acc ++ [b])]; simp
theorem run_forIn_runes {P : Program} {w : World} (f : Value → ByteArray → Sem (ForInStep ByteArray))
    (hf : ∀ (n : Int) (r : ByteArray), (f (.int .i32 n) r).run P w = .ok (.yield (r ++ Utf8.encode n)) w) : ∀ (l : List Nat) (acc : Bytes),
    (forIn (l.map vr) (ByteArray.mk acc.toArray) f).run P w = .ok ⟨(acc ++ l.flatMap enc).toArray⟩ w
  | [], acc => by simp
  | r :: l, acc => by
    have h : (ByteArray.mk acc.toArray) ++ Utf8.encode (r : Int) = ⟨(acc ++ enc r).toArray⟩ := by
      rw [enc_eq]; apply ByteArray.ext; simp [ByteArray.data_append]
    have := run_forIn_runes f hf l (acc ++ enc r)
    simp only [List.map_cons, List.forIn_cons, Sem.run_bind, hf, Result.andThen_ok, h]
    rw [this]; simp
section ops
variable {P : Program} {ops : Array Oper} {Q : Exit → Act → World → Prop} {w0 : World} {n : Nat} {env : Env} {Γ : List HP} {rest : List Oper}
  {ty : TypeId} {pos : String} {after : Array Edge}
theorem yl_strB {x : Operand} {src dst e : TypeId} {v : Value} {b : Bytes} [us : Und P src (.slice e)] [ue : Und P e (.int .u8)] [ud : Und P dst .string] (hx : evl env x = some v) [r : RdIn Γ v 1 (b.map vb)] :
    Yl P (.convert src dst x) ty w0 n env Γ (vs b) (HasR v 1 (b.map vb)) := by
  refine fun _ _ _ _ a w s => ⟨r.rd _ s.sat, fun w' hr => ?_⟩
  have hr : Rd v 1 (b.map vb) (hpOf w') := hr
  have hf := run_firstCells (P := P) hr
  have hl := hr.len
  rcases hr.nil_iff with rfl | ⟨a, m, c, rfl⟩
  · have hb : b = [] := by simp [slLen] at hl; exact List.eq_nil_of_length_eq_zero hl.symm
    subst hb
    have hem : ByteArray.empty = ⟨#[]⟩ := rfl
    simp [execOp, s.env.evl hx, convert, us.run, ue.run, ud.run, Conv.bytesToString, hem]
  · simp [Builtin.firstCells, slLen] at hf
    have h2 := run_bytesToString (P := P) w' a m c (b.map fun b : UInt8 => (b.toNat : Int)) (by rw [hf]; simp [List.map_map, Function.comp_def])
    have h3 := fold_bytes b []
    simp only [execOp, s.env.evl hx, convert, us.run, ue.run, ud.run, Sem.run_bind, Result.andThen_ok]
    rw [h2]
    have hem : ByteArray.empty = ⟨([] : Bytes).toArray⟩ := rfl
    rw [hem, h3]; rfl
theorem yl_strR {x : Operand} {src dst e : TypeId} {v : Value} {l : List Nat} [us : Und P src (.slice e)] [ue : Und P e (.int .i32)] [ud : Und P dst .string] (hx : evl env x = some v) [r : RdIn Γ v 1 (l.map vr)] :
    Yl P (.convert src dst x) ty w0 n env Γ (vs (l.flatMap enc)) (HasR v 1 (l.map vr)) := by
  refine fun _ _ _ _ a w s => ⟨r.rd _ s.sat, fun w' hr => ?_⟩
  have hr : Rd v 1 (l.map vr) (hpOf w') := hr
  have hf := run_firstCells (P := P) hr
  have hl := hr.len
  rcases hr.nil_iff with rfl | ⟨a, m, c, rfl⟩
  · have hb : l = [] := by simp [slLen] at hl; exact List.eq_nil_of_length_eq_zero hl.symm
    subst hb
    have hem : ByteArray.empty = ⟨#[]⟩ := rfl
    simp [execOp, s.env.evl hx, convert, us.run, ue.run, ud.run, Conv.runesToString, hem]
  · simp [Builtin.firstCells, slLen] at hf
    have hem : ByteArray.empty = ⟨([] : Bytes).toArray⟩ := rfl
    have h2 : (Conv.runesToString (.slice (some a) m c)).run P w' = .ok (vs (l.flatMap enc)) w' := by
      unfold Conv.runesToString
      simp only [Sem.run_bind, hf, Result.andThen_ok, List.forIn_toArray, hem]
      rw [run_forIn_runes _ (by intro n r; simp [Sem.run_pure])]
      simp
    simp only [execOp, s.env.evl hx, convert, us.run, ue.run, ud.run, Sem.run_bind, Result.andThen_ok]
    rw [h2]; rfl
end ops

/-- a part of a slice -/
def cutSl (v : Value) (i j : Nat) : Value := match v with
  | .slice a _ cap => .slice (if cap = i then a else a.map (·.add i)) (j - i) (cap - i)
  | v => v
theorem Rd.cut {v : Value} {us : List Value} {h : Hp} (r : Rd v 1 us h) {i j : Nat} (h1 : i ≤ j) (h2 : j ≤ us.length) : Rd (cutSl v i j) 1 ((us.take j).drop i) h := by
  rcases r with ⟨rfl, rfl⟩ | ⟨a, cap, rfl, rfl⟩ | ⟨b, off, len, cap, cs, T, fr, rfl, c, d, e, f⟩
  · simp at h2; subst h2
    have : i = 0 := by omega
    subst this
    exact .inl ⟨rfl, rfl⟩
  · simp at h2; subst h2
    have : i = 0 := by omega
    subst this
    refine .inr (.inl ⟨a, cap, ?_, rfl⟩)
    simp [cutSl, add_zero]
  · rw [Nat.mul_one] at d
    by_cases hc : cap = i
    · have hij : j = i := by omega
      subst hij
      refine .inr (.inl ⟨⟨b, off, none⟩, cap - j, ?_, ?_⟩)
      · simp [cutSl, hc]
      · simp
    · refine .inr (.inr ⟨b, off + i, j - i, cap - i, cs, T, fr, ?_, by omega, ?_, ?_, f⟩)
      · simp [cutSl, hc, add_pos]
      · simp; omega
      · rw [Nat.mul_one] at e ⊢
        rw [← e, List.take_take, Nat.min_eq_left (by omega), List.drop_take, List.drop_drop]
theorem wrap_in (k : IntKind) {a : Int} (h1 : k.min ≤ a) (h2 : a ≤ k.max) : k.wrap a = a := by
  cases k <;> simp [IntKind.min, IntKind.max, IntKind.wrap, IntKind.bits, IntKind.signed] at * <;> omega
section nat
variable {P : Program} {w0 : World} {n : Nat} {env : Env} {Γ : List HP} {ty : TypeId}
theorem yl_convk {t t' : TypeId} {x : Operand} {kd k : IntKind} {a : Int} {dsc : TypeDesc} [u : Und P t dsc] [u' : Und P t' (.int k)] (hx : evl env x = some (.int kd a))
    (h1 : k.min ≤ a) (h2 : a ≤ k.max) : Yl P (.convert t t' x) ty w0 n env Γ (.int k a) Tt := by
  have := yl_conv (P := P) (w0 := w0) (n := n) (Γ := Γ) (ty := ty) (t := t) (t' := t') hx; rwa [wrap_in k h1 h2] at this
theorem wrap_byte (a : Nat) : IntKind.u8.wrap (a : Int) = ((a % 256 : Nat) : Int) := by
  simp [IntKind.wrap, IntKind.bits, IntKind.signed]
theorem yl_conv8 {t t' : TypeId} {x : Operand} {kd : IntKind} {a : Nat} {dsc : TypeDesc} [u : Und P t dsc] [u' : Und P t' (.int .u8)] (hx : evl env x = some (.int kd (a : Int))) :
    Yl P (.convert t t' x) ty w0 n env Γ (.int .u8 ((a % 256 : Nat) : Int)) Tt := by
  have := yl_conv (P := P) (w0 := w0) (n := n) (Γ := Γ) (ty := ty) (t := t) (t' := t') hx; rwa [wrap_byte] at this
theorem bv8 (a : Nat) : BitVec.ofInt 8 (a : Int) = BitVec.ofNat 8 a := by
  apply BitVec.eq_of_toNat_eq; simp
theorem yl_or8 {t yt : TypeId} {x y : Operand} {a b : Nat} (hx : evl env x = some (.int .u8 (a : Int))) (hy : evl env y = some (.int .u8 (b : Int))) (ha : a < 256) (hb : b < 256) :
    Yl P (.binOp .or t x y yt) ty w0 n env Γ (.int .u8 ((a ||| b : Nat) : Int)) Tt := by
  refine fun _ _ _ _ _ _ s => ⟨trivial, fun w' _ => ?_⟩
  have h : (BitVec.ofInt 8 (a : Int) ||| BitVec.ofInt 8 (b : Int) : BitVec 8).toNat = a ||| b := by
    rw [bv8, bv8]; simp [Nat.mod_eq_of_lt ha, Nat.mod_eq_of_lt hb]
  have hl : a ||| b < 2 ^ 8 := Nat.or_lt_two_pow (by omega) (by omega)
  have h' : (Op.intBits .or .u8 (a : Int) (b : Int)).run P w' = .ok (.int .u8 ((a ||| b : Nat) : Int)) w' := by
    show Sem.run P (pure (Value.int .u8 (IntKind.u8.wrap ((BitVec.ofInt 8 (a : Int) ||| BitVec.ofInt 8 (b : Int) : BitVec 8).toNat : Nat)))) w' = _
    rw [h, wrap_byte, Nat.mod_eq_of_lt (by omega)]; rfl
  simp only [execOp, s.env.evl hx, s.env.evl hy, eqGuard, binOp]
  simp [h']
theorem yl_and8 {t yt : TypeId} {x y : Operand} {a b : Nat} (hx : evl env x = some (.int .u8 (a : Int))) (hy : evl env y = some (.int .u8 (b : Int))) (ha : a < 256) (hb : b < 256) :
    Yl P (.binOp .and t x y yt) ty w0 n env Γ (.int .u8 ((a &&& b : Nat) : Int)) Tt := by
  refine fun _ _ _ _ _ _ s => ⟨trivial, fun w' _ => ?_⟩
  have h : (BitVec.ofInt 8 (a : Int) &&& BitVec.ofInt 8 (b : Int) : BitVec 8).toNat = a &&& b := by
    rw [bv8, bv8]; simp [Nat.mod_eq_of_lt ha, Nat.mod_eq_of_lt hb]
  have hl : a &&& b < 2 ^ 8 := Nat.and_lt_two_pow _ (by omega)
  have h' : (Op.intBits .and .u8 (a : Int) (b : Int)).run P w' = .ok (.int .u8 ((a &&& b : Nat) : Int)) w' := by
    show Sem.run P (pure (Value.int .u8 (IntKind.u8.wrap ((BitVec.ofInt 8 (a : Int) &&& BitVec.ofInt 8 (b : Int) : BitVec 8).toNat : Nat)))) w' = _
    rw [h, wrap_byte, Nat.mod_eq_of_lt (by omega)]; rfl
  simp only [execOp, s.env.evl hx, s.env.evl hy, eqGuard, binOp]
  simp [h']
theorem yl_shr32 {t yt : TypeId} {x y : Operand} {yk : IntKind} {a s' : Nat} (hx : evl env x = some (.int .i32 (a : Int))) (hy : evl env y = some (.int yk (s' : Int))) (hb : s' ≤ 32) :
    Yl P (.binOp .shr t x y yt) ty w0 n env Γ (.int .i32 ((a / 2 ^ s' : Nat) : Int)) Tt := by
  have h := yl_shr (P := P) (w0 := w0) (n := n) (env := env) (Γ := Γ) (ty := ty) (t := t) (yt := yt) hx hy (by omega)
  have h2 : min ((s' : Int)).toNat IntKind.i32.bits = s' := by simp [IntKind.bits]; omega
  rw [h2] at h
  have h3 : Int.fdiv (a : Int) (2 ^ s') = ((a / 2 ^ s' : Nat) : Int) := by
    rw [Int.fdiv_eq_ediv_of_nonneg _ (by exact Int.le_of_lt (Int.pow_pos (by decide)))]
    simp
  rwa [h3] at h
theorem wrap_64 (a : Nat) : IntKind.u64.wrap (a : Int) = ((a % 18446744073709551616 : Nat) : Int) := by
  simp [IntKind.wrap, IntKind.bits, IntKind.signed]
theorem yl_mul64 {t yt : TypeId} {x y : Operand} {a b : Nat} (hx : evl env x = some (.int .u64 (a : Int))) (hy : evl env y = some (.int .u64 (b : Int))) :
    Yl P (.binOp .mul t x y yt) ty w0 n env Γ (.int .u64 ((a * b % 18446744073709551616 : Nat) : Int)) Tt := by
  refine fun _ _ _ _ _ _ s => ⟨trivial, fun w' _ => ?_⟩
  have h := wrap_64 (a * b)
  rw [Int.natCast_mul] at h
  simp only [execOp, s.env.evl hx, s.env.evl hy, eqGuard, binOp]
  simp [Op.intArith, h]
theorem yl_add64 {t yt : TypeId} {x y : Operand} {a b : Nat} (hx : evl env x = some (.int .u64 (a : Int))) (hy : evl env y = some (.int .u64 (b : Int))) :
    Yl P (.binOp .add t x y yt) ty w0 n env Γ (.int .u64 (((a + b) % 18446744073709551616 : Nat) : Int)) Tt := by
  refine fun _ _ _ _ _ _ s => ⟨trivial, fun w' _ => ?_⟩
  have h := wrap_64 (a + b)
  rw [Int.natCast_add] at h
  simp only [execOp, s.env.evl hx, s.env.evl hy, eqGuard, binOp]
  simp [Op.intArith, h]
theorem yl_eqifn {t yt T : TypeId} {ms : Array (String × TypeId)} {x y : Operand} {v : Value} [u : Und P t (.interface ms)] (hx : evl env x = some (.iface T v)) (hy : evl env y = some .nilIface) :
    Yl P (.binOp .eql t x y yt) ty w0 n env Γ (.bool false) Tt := by
  refine fun _ _ _ _ _ w s => ⟨trivial, fun w' _ => ?_⟩
  have h1 := run_equalIn_ifacenil (P := P) (t := t) (T := T) (v := v) 9999 w'
  simp [execOp, s.env.evl hx, s.env.evl hy, eqGuard, binOp, Op.equal, Op.maxDepth, h1]
end nat
section ops2
variable {P : Program} {ops : Array Oper} {Q : Exit → Act → World → Prop} {w0 : World} {n : Nat} {env : Env} {Γ : List HP} {rest : List Oper}
  {ty : TypeId} {pos : String} {after : Array Edge}
theorem yl_cutR {t e : TypeId} {ag : Bool} {x y z : Operand} {v : Value} {us : List Value} {k1 k2 : IntKind} {i j : Nat} [u : Und P t (.slice e)] [g : AggT P e ag 1] (hx : evl env x = some v) [r : RdIn Γ v 1 us]
    (hy : evl env y = some (.int k1 (i : Int))) (hz : evl env z = some (.int k2 (j : Int))) (h1 : i ≤ j) (h2 : j ≤ us.length) :
    Yl P (.slice t x (some y) (some z) none) ty w0 n env Γ (cutSl v i j) Tt := by
  refine fun _ _ _ _ a w s => ⟨trivial, fun w' _ => ?_⟩
  have hr := r.rd _ s.sat
  have hl := hr.len
  have hcap : ∀ a n c, v = .slice a n c → n ≤ c := by
    intro a n c hv
    rcases hr with ⟨rfl, rfl⟩ | ⟨a, cap, rfl, rfl⟩ | ⟨b, off, len, cap, cs, T, fr, rfl, c, d, e, f⟩ <;> cases hv <;> omega
  rcases hr.nil_iff with rfl | ⟨a, m, c, rfl⟩
  · simp [slLen] at hl
    simp [execOp, s.env.evl hx, s.env.evl hy, s.env.evl hz, Instr.sliceAt, Instr.slice, Instr.sliceBounds, u.run, run_bound' k2 j 0 _ (by omega), run_bound' k1 i j _ h1, g.size, cutSl]
  · have := hcap _ _ _ rfl
    simp [slLen] at hl
    have e1 : (c - i : Nat) = c - i := rfl
    simp only [execOp, s.env.evl hx, s.env.evl hy, s.env.evl hz, Option.map, Instr.sliceAt, Sem.run_bind, u.run, Result.andThen_ok, Instr.slice, Instr.sliceBounds, Sem.run_pure]
    rw [run_bound' k2 j c _ (by omega)]
    simp only [Result.andThen_ok]
    rw [run_bound' k1 i j _ h1]
    simp [g.size, cutSl]
/-- what unsafe gives -/
def slAd : Value → Option Addr
  | .slice a _ _ => a
  | _ => none
theorem yl_sliceData {t yt e : TypeId} {x : Operand} {v : Value} {us : List Value} {Γ' : List HP} (hx : evl env x = some v) [p : PickT Γ v e us Γ'] :
    Yl P (.call ⟨.builtin .unsafeSliceData, #[x], #[t]⟩) yt w0 n env Γ (.pointer (slAd v)) Tt := by
  refine fun _ _ _ _ a w s => ⟨trivial, fun w' _ => ?_⟩
  obtain ⟨h1, hl, hA⟩ := (p.pick _ s.sat).one
  rcases hA with ⟨rfl, rfl⟩ | ⟨b, cap, cs, rfl, q1, q2, q3, q4, q5⟩
  · simp [execOp, resolve, invoke, builtin, s.env.evl hx, Lib.run_unsafeSliceData_nil, slAd]
  · simp [execOp, resolve, invoke, builtin, s.env.evl hx, Lib.run_unsafeSliceData_row _ _ _ _ _ _ q2, slAd]
class CellT (P : Program) (e : TypeId) : Prop where
  one : P.cellsOf e = 1
theorem wl_unsafeString {d : Nat} {pt it e : TypeId} {x y : Operand} {v : Value} {b : Bytes} {Γ' : List HP} [up : Und P pt (.pointer e)] [ce : CellT P e] (hx : evl env x = some (.pointer (slAd v))) (hy : evl env y = some (vi b.length)) [p : PickT Γ v e (b.map vb) Γ']
    (hb : b.length ≤ 9223372036854775807)
    (hd : Nat.blt d n = true) (kk : WL P ops rest Q w0 n ((d, vs b) :: env) Γ') :
    WL P ops (⟨some d, .call ⟨.builtin .unsafeString, #[x, y], #[pt, it]⟩, ty, pos, after, none⟩ :: rest) Q w0 n env Γ := by
  refine wl_val (fun c w s => ?_) hd kk
  obtain ⟨h1, h2, hl, hl2, hdis, hA, hT⟩ := p.pick _ s.sat
  have hS2 : Sat Γ' (hpOf w) := (p.pick _ s.sat).tail
  unfold slAd at hx
  rcases hA with ⟨rfl, hz⟩ | ⟨bk, cap, cs, rfl, q1, q2, q3, q4, q5⟩
  · have : b = [] := by simpa using hz
    subst this
    exact ⟨w, by
      have h0 := Lib.run_unsafeString_none (P := P) w pt it ty none
      simp only [execOp, resolve, invoke, builtin, s.env.evl hx, s.env.evl hy, List.map_toArray, List.map_cons, List.map_nil, List.length_nil, Int.natCast_zero, Sem.run_bind, Result.andThen_ok, Sem.run_pure]
      simp [h0]; rfl, Evo.refl w, hS2⟩
  · by_cases hb0 : b = []
    · subst hb0
      exact ⟨w, by
        have h0 := Lib.run_unsafeString_none (P := P) w pt it ty (some ⟨bk, 0, none⟩)
        simp only [execOp, resolve, invoke, builtin, s.env.evl hx, s.env.evl hy, List.map_toArray, List.map_cons, List.map_nil, List.length_nil, Int.natCast_zero, Sem.run_bind, Result.andThen_ok, Sem.run_pure]
        simp [h0]; rfl, Evo.refl w, hS2⟩
    · have hw : hpOf w bk = some (.cells cs.toArray e (0, 0)) := hl _ _ q5
      have hw' : w.heap[bk]? = some (.cells cs.toArray e (0, 0)) := hw
      rw [List.length_map] at q1 q4
      have hrun := Lib.run_unsafeString_row (P := P) w pt it ty e up.fact ce.one bk cs.length (by simp [World.shape?, hw']) b hb0 (by omega) hb (fun j x hj => by
        have h3 : cs[j]? = some (vb x) := by
          have : (cs.take b.length)[j]? = some (vb x) := by rw [q4]; simp [hj]
          rw [List.getElem?_take] at this
          split at this
          · exact this
          · cases this
        have h4 := cell_of_hp hw j
        by_cases hj0 : j = 0
        · subst hj0; simpa [Addr.add, h3] using h4.trans h3
        · simpa [Addr.add, hj0, h3] using h4.trans h3)
      refine ⟨w.freeze ⟨bk, 0, none⟩ b.length, by simp [execOp, resolve, invoke, builtin, s.env.evl hx, s.env.evl hy, hrun], ⟨by simp [World.freeze, hb0], by simp [World.freeze, hb0], by simp [World.freeze, hb0], by simp [World.freeze, hb0]⟩, ?_⟩
      have hne : ∀ c, c ≠ bk → hpOf (w.freeze ⟨bk, 0, none⟩ b.length) c = hpOf w c := by
        intro c hc
        simp [hpOf, World.freeze, hb0, Array.getElem?_modify, Ne.symm hc]
      refine Sat.mono (h := h2) (fun b' o ho => ?_) hT
      have hb' : b' ≠ bk := by
        rintro rfl
        rcases hdis b' with h | h
        · rw [q5] at h; cases h
        · rw [ho] at h; cases h
      rw [hne _ hb']; exact hl2 _ _ ho
end ops2

/-- blocks of known type -/
class PickK (Γ : List HP) (b : Nat) (cs : outParam (List Value)) (T : outParam TypeId) (Γ' : outParam (List HP)) : Prop where
  pick : Ent Γ (Blk b (.cells cs.toArray T (0, 0)) :: Γ')
instance (priority := high) PickK.here {b : Nat} {cs : List Value} {T : TypeId} {Γ : List HP} : PickK (Blk b (.cells cs.toArray T (0, 0)) :: Γ) b cs T Γ := ⟨Ent.refl⟩
instance (priority := low) PickK.there {b : Nat} {cs : List Value} {T : TypeId} {B : HP} {Γ Γ' : List HP} [h : PickK Γ b cs T Γ'] : PickK (B :: Γ) b cs T (B :: Γ') := ⟨(Ent.skip h.pick).trans Ent.swap⟩
instance (priority := high) PickC.hereK {b : Nat} {cs : List Value} {T : TypeId} {Γ : List HP} : PickC (Blk b (.cells cs.toArray T (0, 0)) :: Γ) b cs Γ := ⟨Ent.imp fun _ e => ⟨T, e⟩⟩
section ops3
variable {P : Program} {ops : Array Oper} {Q : Exit → Act → World → Prop} {w0 : World} {n : Nat} {env : Env} {Γ : List HP} {rest : List Oper}
  {ty : TypeId} {pos : String} {after : Array Edge}
theorem sat_setK {Γ : List HP} {w : World} {b : Nat} {cs : List Value} {T : TypeId} (hs : Sat (Blk b (.cells cs.toArray T (0, 0)) :: Γ) (hpOf w)) (i : Nat) (v : Value) :
    Sat (Blk b (.cells (cs.set i v).toArray T (0, 0)) :: Γ) (hpOf (w.setCell ⟨b, i, none⟩ v)) :=
  sat_update hs (hp_setCell_eq hs.blk i v) (fun c hc => hp_setCell_ne w b i v c hc)
theorem wl_storeK {t T : TypeId} {m : Nat} {x y : Operand} {b o : Nat} {cs : List Value} {v : Value} {Γ' : List HP} [g : AggT P t false m] (hx : evl env x = some (.pointer (some ⟨b, o, none⟩))) (hy : evl env y = some v) [p : PickK Γ b cs T Γ']
    [one : OneIn Γ [v]] (hm : m = 1) (ho : o < cs.length) (k : WL P ops rest Q w0 n env (Blk b (.cells (cs.set o v).toArray T (0, 0)) :: Γ')) :
    WL P ops (⟨none, .store t x y, ty, pos, after, none⟩ :: rest) Q w0 n env Γ := by
  refine wl_do (fun c w s => ⟨.skip, w.setCell ⟨b, o, none⟩ v, ?_, .inl rfl, evo_setCell w _ v, sat_setK (p.pick _ s.sat) o v⟩) k
  have hT := (p.pick _ s.sat).blk
  have hc : w.cell? ⟨b, o, none⟩ = some cs[o] := by rw [cell_of_hp hT]; simp [ho]
  have hf := frozen_of_hp hT o
  have h1 : v.oneCell' = true := one.one _ s.sat v (.head _)
  have hcells : v.cells = #[v] := by cases v <;> simp [Value.cells, Value.oneCell'] at h1 ⊢
  subst hm
  simp [execOp, s.env.evl hx, s.env.evl hy, Instr.storeAt, Instr.sureAddr, storeVar, g.size, hcells, storeCells, Addr.add, run_store _ _ _ _ _ h1, hc, hf]
/-- types whose blocks' type is kept in mind -/
class KeepT (P : Program) (t : TypeId) : Prop where
  keep : True
/-- a new block of known type -/
theorem wl_allocK {d : Nat} {t : TypeId} {cs : List Value} [_kt : KeepT P t] [g : ZeroT P t (.agg cs.toArray)] (hd : Nat.blt d n = true) (k : ∀ b, WL P ops rest Q w0 n ((d, vp b) :: env) (Blk b (.cells cs.toArray t (0, 0)) :: Γ)) :
    WL P ops (⟨some d, .alloc t, ty, pos, after, none⟩ :: rest) Q w0 n env Γ := by
  refine wl_gen (X := Nat) (φ := fun _ => True) (vf := fun b => vp b) (Γf := fun b => Blk b (.cells cs.toArray t (0, 0)) :: Γ) (fun c w s => ⟨w.heap.size, w.alloc (.cells cs.toArray t), ?_, evo_alloc w _, trivial, sat_alloc _ s.sat⟩) hd fun b _ => k b
  simp [execOp, Instr.alloc, g.run, newVar, newRow, Value.cells]
/-- has what lies in an interface the methods of another one? -/
class AssM (P : Program) (t as_ : TypeId) (ok : outParam Bool) : Prop where
  run : ∀ v xt w, (Instr.typeAssert (.iface t v) xt as_ true).run P w = .ok (.tuple #[if ok then .iface t v else .nilIface, .bool ok]) w
theorem yl_assertM {xt t t' : TypeId} {x : Operand} {v : Value} {ok : Bool} [u : AssM P t' t ok] (hx : evl env x = some (.iface t' v)) :
    Yl P (.typeAssert x xt t true) ty w0 n env Γ (.tuple #[if ok then .iface t' v else .nilIface, .bool ok]) Tt :=
  fun _ _ _ _ _ _ s => ⟨trivial, fun w' _ => by simp [execOp, s.env.evl hx, u.run]⟩
end ops3
end Go.Sl
