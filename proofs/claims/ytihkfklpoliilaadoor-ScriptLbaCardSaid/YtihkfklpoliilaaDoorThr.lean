/- An assertion that fails throws. -/
import Derived.Test.YtihkfklpoliilaaDoorTab
import Derived.Test.YtihkfklpoliilaaDoorEng10
import Derived.Test.YtihkfklpoliilaaDoorDfr
import Derived.Test.YtihkfklpoliilaaDoorIvk
import Derived.Recover
import Derived.Tactics
import Derived.Tactics2
import Derived.Laws.Pointers
namespace Go.Proofs.YtihkfklpoliilaaDoor
open Go Go.Sl
/-- what is thrown -/
def tae (r : Nat) : Value := .iface 15 (vp r)
/-- a value that has not the methods of an interface: without a second answer that is thrown -/
class AssN (P : Program) (t as_ : TypeId) : Prop where
  run : ∀ v xt (w : World), ∃ cs T, (Instr.typeAssert (.iface t v) xt as_ false).run P w = .halt (.panic (tae w.heap.size)) (w.alloc (.cells cs T))
theorem assN_of {t : TypeId} {inf : TypeInfo} (hi : ∀ w, (typeInfo t).run Tryd.prog w = .ok inf w) {want : Array (String × TypeId)} (hu : ∀ w, (underlying 85).run Tryd.prog w = .ok (.interface want) w) {m : String} (hm : Instr.missingMethod want inf.methods = some m) : AssN Tryd.prog t 85 := by
  constructor
  intro v xt w
  simp only [Instr.typeAssert, Sem.run_bind, hu, Result.andThen_ok, hi, hm]
  simp [runtimePanic, elemOf, newVar, newRow, goPanic, Value.cells, Tryd.runUnderlying15]
  exact ⟨rfl, _, _, rfl⟩
section
variable {P : Program} {Q : Exit → Act → World → Prop} {w0 : World} {n : Nat} {env : Env} {Γ : List HP} {ops : Array Oper} {ty : TypeId} {pos : String} {after : Array Edge} {rest : List Oper}
theorem wl_assertN {d : Tmp} {x : Operand} {xt t T : TypeId} {v : Value} {R : Ending → World → Prop} [th : Thru Q R] [u : AssN P T t] (hx : evl env x = some (.iface T v))
    (hR : ∀ r w', Evo w0 w' → Sat Γ (hpOf w') → R (.panicked [{ v := tae r, recovered := false }]) w') :
    WL P ops (⟨some d, .typeAssert x xt t false, ty, pos, after, none⟩ :: rest) Q w0 n env Γ := fun a w s => by
  refine wpList_plain rfl fun K hK => ?_
  obtain ⟨cs, T', hr⟩ := u.run v xt w
  have hrun : (execOp a.eval ⟨some d, .typeAssert x xt t false, ty, pos, after, none⟩).run P w = .halt (.panic (tae w.heap.size)) (w.alloc (.cells cs T')) := by
    simp [execOp, s.env.evl hx, hr]
  unfold Oper.wp
  rw [hrun, Oper.upon_panic]
  exact th.panic _ _ _ s.defers (hR _ _ (s.evo.trans (evo_alloc w _)) (sat_alloc _ s.sat).tail)
/-- a value has the methods of an interface: without a second answer -/
class AssY (P : Program) (t as_ : TypeId) : Prop where
  run : ∀ v xt w, (Instr.typeAssert (.iface t v) xt as_ false).run P w = .ok (.iface t v) w
theorem yl_assertY {xt t t' : TypeId} {x : Operand} {v : Value} [u : AssY P t' t] (hx : evl env x = some (.iface t' v)) :
    Yl P (.typeAssert x xt t false) ty w0 n env Γ (.iface t' v) Tt :=
  fun _ _ _ _ _ _ s => ⟨trivial, fun w' _ => by simp [execOp, s.env.evl hx, u.run]⟩
/-- a call that throws -/
theorem wl_throws {d : Nat} {cal : Operand} {f : FuncId} {args : Array Operand} {ts : Array TypeId} {us : List Value} {F : List HP}
    {R : Ending → World → Prop} [ct : CallT P f] [th : Thru Q R]
    (hs : ∀ w, Sat F (hpOf w) → Calls P f us.toArray w fun e w' => ∃ r, Evo w w' ∧ e = .panicked [{ v := tae r, recovered := false }] ∧ Sat F (hpOf w'))
    (hc : evl env cal = some (.func (.func f) #[] #[])) (ha : evls env args.toList = some us)
    (hg : Ent Γ F) (kc : ∀ r w, Evo w0 w → Sat F (hpOf w) → R (.panicked [{ v := tae r, recovered := false }]) w) :
    WL P ops (⟨some d, .call ⟨.value cal, args, ts⟩, ty, pos, after, none⟩ :: rest) Q w0 n env Γ := fun a w s => by
  refine wpList_plain rfl fun K hK => ?_
  have h1 := s.env.evl hc
  have h2 := s.env.evls ha
  have h3 : args.map a.eval = us.toArray := by apply Array.toList_inj.1; rw [Array.toList_map, h2]
  unfold Oper.wp
  have hrun : (execOp a.eval ⟨some d, .call ⟨.value cal, args, ts⟩, ty, pos, after, none⟩).run P w = .ok (.enter f us.toArray) w := by
    simp [execOp, resolve, h1, h3, Deferred.ofValue, invoke, ct.run]
  rw [hrun, Oper.upon_enter]
  refine (hs w (hg _ s.sat)).mono fun e w' he => ?_
  obtain ⟨r, hev, rfl, hsat⟩ := he
  exact th.panic _ _ _ s.defers (kc r w' (s.evo.trans hev) hsat)
theorem calls_any {f : FuncId} {fn : Func} {c : Code} {args : List Value} {R : Ending → World → Prop} {w : World} (hf : P.funcs[f]? = some fn) (hb : fn.body = some c) (hn : fn.ntmps = n) (ha : Nat.ble args.length n = true)
    (hs : Sat Γ (hpOf w)) (h : WC P c (bodyPost P fn R) w n (argEnv 0 args) Γ) : Calls P f args.toArray w R := by
  subst hn
  refine calls_of_wp hf hb (h _ _ ⟨⟨?_, ?_⟩, rfl, Evo.refl w, hs⟩)
  · have : args.length ≤ fn.ntmps := by simpa using ha
    simp; omega
  · intro t u e
    obtain ⟨_, e⟩ := argEnv_get args 0 t u e
    rw [Nat.sub_zero] at e
    have : t < args.length := (List.getElem?_eq_some_iff.1 e).1
    rw [Array.getElem?_append_left (by simpa using this)]; simpa using e
end
attribute [local irreducible] Yl WL WC WQ WD
/-- a call that throws so -/
def Throws (g : FuncId) (args : List Value) (pre : List HP → List HP) : Prop :=
  ∀ F w, Sat (pre F) (hpOf w) → Calls Tryd.prog g args.toArray w fun e w' => ∃ r, Evo w w' ∧ e = .panicked [{ v := tae r, recovered := false }] ∧ Sat (pre F) (hpOf w')

set_option maxHeartbeats 1000000 in
theorem catch_thrown (b r : Nat) (F : List HP) (w : World) (hs : Sat (Cells b [.bool false] :: F) (hpOf w)) :
    CallsD Tryd.prog 36 #[vp b] (.panicking ({ v := tae r, recovered := false } :: [])) w fun e u' w' =>
      e = .returned (.tuple #[]) ∧ u' = .panicking ({ v := tae r, recovered := true } :: []) ∧ Evo w w' ∧ Sat (Cells b [.bool true] :: F) (hpOf w') := by
  refine callsD_of_wpS Tryd.func36 rfl fun c₀ cs hu => ?_
  apply wpS_region
  obtain ⟨T, hT⟩ := hs.cells
  have hc : w.cell? ⟨b, 0, none⟩ = some (.bool false) := cell_of_hp hT 0
  have hf := frozen_of_hp hT 0
  have h1 := fun w => run_equalIn_ifacenil (P := Tryd.prog) (t := 20) (T := 15) (v := vp r) 9999 w
  simp [wpOpsS, go_sem, recoverD, hu, Tryd.ntmps36, tae, eqGuard, binOp, Op.equal, Op.maxDepth, h1, hc, hf]
  exact ⟨rfl, _, rfl, .tuple #[], results_none Tryd.results36 _ _ _, rfl, rfl, evo_setCell w _ _, sat_setCell hs 0 (.bool true)⟩
theorem thrown_result (b : Nat) (tmps : Array Value) (w : World) (c : Bool) (T : TypeId) (hT : hpOf w b = some (.cells [.bool c].toArray T (0, 0))) (ht : tmps[2]? = some (vp b)) :
    (results Tryd.f19 tmps).run Tryd.prog w = .ok (.bool c) w := by
  have hc : w.cell? ⟨b, 0, none⟩ = some (.bool c) := cell_of_hp hT 0
  simp [results, Tryd.results19, ht, loadVar, hc, Tryd.isAgg4, asAddr]
set_option maxHeartbeats 2000000 in
theorem thrown_spec {g : FuncId} {caps : List Value} {pre : List HP → List HP} [ct : CallT Tryd.prog g] (hs : Throws g caps pre)
    (hpre : ∀ A F, Ent (A :: pre F) (pre (A :: F))) (hpost : ∀ A F, Ent (pre (A :: F)) (A :: pre F)) :
    Spec0 Tryd.prog 19 [.func (.func g) #[] caps.toArray] (fun _ => True) pre (fun _ : Unit => True) (fun _ => .bool true) (fun _ F => pre F) := by
  intro F w hr hsat
  refine calls_of_wp_defers Tryd.func19 rfl ?_
  obtain ⟨fv, hfv⟩ : ∃ fv : Value, fv = .func (.func g) #[] caps.toArray := ⟨_, rfl⟩
  rw [← hfv]
  have s0 : St w 6 [(0, fv)] (pre F) { tmps := #[fv] ++ Array.replicate 5 undef, defers := [] } w := ⟨⟨rfl, fun t u e => by
    unfold Env.get at e
    cases h0 : Nat.beq 0 t with
    | true => rw [h0] at e; obtain rfl : 0 = t := Nat.eq_of_beq_eq_true h0; exact e
    | false => rw [h0] at e; simp [Env.get] at e⟩, rfl, Evo.refl w, hsat⟩
  refine wp_seq ?_
  refine Code.wp_mono (fun e a1 w1 h1 => ?_) (region_lift (D := []) (Q := fun e a w' => e = .normal ∧ ∃ b, St w 6 [(2, vp b), (0, fv)] (Cells b [.bool false] :: pre F) a w') rfl (wl_alloc1 (z := .bool false) rfl rfl (fun b => wl_nil (WQ.of fun a w' s => ⟨rfl, b, s⟩))) s0)
  cases e with
  | exit i => obtain ⟨_, _, h, _⟩ := h1; cases h
  | goto i => obtain ⟨_, _, h, _⟩ := h1; cases h
  | ret => obtain ⟨_, _, h, _⟩ := h1; cases h
  | panic i => obtain ⟨_, _, h, _⟩ := h1; cases h
  | outgrown => obtain ⟨h, _⟩ := h1; cases h
  | normal =>
  obtain ⟨ds, hd, _, b, s1⟩ := h1
  obtain rfl : ds = [] := s1.defers
  have s1' : St w 6 [(2, vp b), (0, fv)] (Cells b [.bool false] :: pre F) a1 w1 := by
    have : ({ a1 with defers := [] } : Act) = a1 := by cases a1; simp at hd; subst hd; rfl
    rw [this] at s1; exact s1
  -- the door is laid
  refine wp_seq (wp_region_lit (wpList_plain rfl fun K hK => ?_))
  have e2 : a1.eval (.tmp 2) = vp b := s1'.env.evl rfl
  unfold Oper.wp
  have r1 : ∀ (ty : TypeId) (pos : String) (af : Array Edge), (execOp a1.eval ⟨some 3, .makeFunc (.func 36) #[] #[.tmp 2], ty, pos, af, none⟩).run Tryd.prog w1 = .ok (.value (.func (.func 36) #[] #[vp b])) w1 := fun _ _ _ => by
    simp [execOp, e2, Instr.makeFunc]
  rw [r1, Oper.upon_value]
  refine hK _ _ (wpList_plain rfl fun K2 hK2 => ?_)
  obtain ⟨a2, ha2⟩ : ∃ a2 : Act, a2 = a1.put (some 3) (.func (.func 36) #[] #[vp b]) := ⟨_, rfl⟩
  have o2 : EnvOk 6 a2 [(3, .func (.func 36) #[] #[vp b]), (2, vp b), (0, fv)] := by rw [ha2]; exact s1'.env.put rfl _
  have d2 : a2.defers = [] := by rw [ha2, defers_put]; exact s1'.defers
  rw [← ha2]
  have e3 : a2.eval (.tmp 3) = .func (.func 36) #[] #[vp b] := o2.evl rfl
  unfold Oper.wp
  have r2 : ∀ (ty : TypeId) (pos : String) (af : Array Edge), (execOp a2.eval ⟨none, .defer ⟨.value (.tmp 3), #[], #[]⟩, ty, pos, af, none⟩).run Tryd.prog w1 = .ok (.defer { target := .fn (.func 36) #[vp b], args := #[] }) w1 := fun _ _ _ => by
    simp [execOp, resolve, e3, Deferred.ofValue]
  rw [r2, Oper.upon_defer]
  refine hK2 _ _ (wpList_nil ?_)
  obtain ⟨D, hD⟩ : ∃ D : Deferred, D = { target := .fn (.func 36) #[vp b], args := #[] } := ⟨_, rfl⟩
  rw [← hD, d2]
  obtain ⟨a3, ha3⟩ : ∃ a3 : Act, a3 = ({ a2 with defers := [D] } : Act).put none undef := ⟨_, rfl⟩
  have d3 : a3.defers = [D] := by rw [ha3]; rfl
  have s3 : St w 6 [(2, vp b), (0, fv)] (Cells b [.bool false] :: pre F) { a3 with defers := [] } w1 := by
    refine ⟨⟨?_, fun t u e => ?_⟩, rfl, s1'.evo, s1'.sat⟩
    · rw [ha3]; exact o2.size
    · rw [ha3]
      refine o2.get t u ?_
      unfold Env.get
      cases h3 : Nat.beq 3 t with
      | true =>
        obtain rfl : 3 = t := Nat.eq_of_beq_eq_true h3
        simp [Env.get, Nat.beq] at e
      | false => exact e
  rw [← ha3]
  subst hfv
  clear hK hK2
  show Code.wp Tryd.prog _ _ a3 w1
  -- it is done
  refine wp_seq (wp_region_lit (wpList_plain rfl fun K hK => ?_))
  have e6 : a3.eval (.tmp 0) = .func (.func g) #[] caps.toArray := s3.env.evl (x := .tmp 0) rfl
  unfold Oper.wp
  have r6 : ∀ (ty : TypeId) (pos : String) (af : Array Edge), (execOp a3.eval ⟨some 4, .move (.tmp 0), ty, pos, af, none⟩).run Tryd.prog w1 = .ok (.value (.func (.func g) #[] caps.toArray)) w1 := fun _ _ _ => by
    simp [execOp, e6]
  rw [r6, Oper.upon_value]
  refine hK _ _ (wpList_plain rfl fun K2 hK2 => ?_)
  obtain ⟨a5, ha5⟩ : ∃ a5 : Act, a5 = a3.put (some 4) (.func (.func g) #[] caps.toArray) := ⟨_, rfl⟩
  have o5 : EnvOk 6 { a5 with defers := [] } [(4, .func (.func g) #[] caps.toArray), (2, vp b), (0, .func (.func g) #[] caps.toArray)] := by
    rw [ha5]
    have := s3.env.put (d := 4) rfl (.func (.func g) #[] caps.toArray)
    rw [put_defers] at this
    exact this
  have d5 : a5.defers = [D] := by rw [ha5, defers_put]; exact d3
  rw [← ha5]
  have e7 : a5.eval (.tmp 4) = .func (.func g) #[] caps.toArray := o5.evl (x := .tmp 4) rfl
  unfold Oper.wp
  have r7 : ∀ (ty : TypeId) (pos : String) (af : Array Edge) (ts : Array TypeId), (execOp a5.eval ⟨some 5, .call ⟨.value (.tmp 4), #[], ts⟩, ty, pos, af, none⟩).run Tryd.prog w1 = .ok (.enter g caps.toArray) w1 := fun _ _ _ _ => by
    simp [execOp, resolve, e7, Deferred.ofValue, invoke, ct.run]
  rw [r7, Oper.upon_enter]
  refine (hs (Cells b [.bool false] :: F) w1 (hpre _ _ _ s3.sat)).mono fun e w5 he => ?_
  obtain ⟨r, hev, rfl, hsat5⟩ := he
  show Leaves Tryd.prog Tryd.f19 a5.tmps _ a5.defers (.panicking [{ v := tae r, recovered := false }]) w5
  rw [d5, hD]
  refine leaves_cons (f := 36) (args := #[vp b]) (by simp) (by simp [invoke, Tryd.call36]) ?_
  refine (catch_thrown b r (pre F) w5 (hpost _ _ _ hsat5)).mono ?_
  rintro e u' w8 ⟨rfl, rfl, hev8, hs8⟩
  obtain ⟨T, hT⟩ := hs8.cells
  refine ⟨.bool true, ?_, ((s3.evo.trans hev).trans hev8), .inl ⟨(), trivial, rfl, hs8.tail⟩⟩
  exact thrown_result b a5.tmps w8 true T hT (o5.get 2 _ rfl)
end Go.Proofs.YtihkfklpoliilaaDoor
