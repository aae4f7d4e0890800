/- power.Run: what it answers of what is done. -/
import Derived.Test.YtapgejjjgeiihaaRun
import Derived.Test.YtapgejjjgeiihaaDfr
namespace Go.Proofs.Ytapgejjjgeiihaa
open Go Go.Sl

theorem run_result (b : Nat) (tmps : Array Value) (w : World) (c : Bool) (T : TypeId) (hT : hpOf w b = some (.cells [.bool c].toArray T (0, 0))) (ht : tmps[2]? = some (vp b)) :
    (results Try.f56 tmps).run Try.prog w = .ok (.bool c) w := by
  have hc : w.cell? ⟨b, 0, none⟩ = some (.bool c) := cell_of_hp hT 0
  simp [results, Try.results56, ht, loadVar, hc, Try.isAgg4, asAddr]
set_option maxHeartbeats 2000000 in
theorem run_spec {g : FuncId} {caps : List Value} {rd : Hp → Prop} {pre : List HP → List HP} {X Y : Type} {φ : X → Prop} {v : X → Value} {post : X → List HP → List HP} {φc : Y → Prop} {postc : Y → List HP → List HP} [ct : CallT Try.prog g]
    (hs : Go.Sl.Spec Try.prog g caps rd pre φ v post φc (goneChain outage) postc)
    (hpre : ∀ A F, Ent (A :: pre F) (pre (A :: F))) (hpost : ∀ x A F, Ent (post x (A :: F)) (A :: post x F)) (hpostc : ∀ y A F, Ent (postc y (A :: F)) (A :: postc y F)) :
    Spec0 Try.prog 56 [.func (.func g) #[] caps.toArray] rd pre (fun x : X ⊕ Y => Sum.elim φ φc x) (fun x => .bool x.isRight) (fun x F => Sum.elim (fun x => post x F) (fun y => postc y F) x) := by
  intro F w hr hsat
  refine calls_of_wp_defers Try.func56 rfl ?_
  obtain ⟨fv, hfv⟩ : ∃ fv : Value, fv = .func (.func g) #[] caps.toArray := ⟨_, rfl⟩
  rw [← hfv]
  have s0 : St w 8 [(0, fv)] (pre F) { tmps := #[fv] ++ Array.replicate 7 undef, defers := [] } w := ⟨⟨rfl, fun t u e => by
    unfold Env.get at e
    cases h0 : Nat.beq 0 t with
    | true => rw [h0] at e; obtain rfl : 0 = t := Nat.eq_of_beq_eq_true h0; exact e
    | false => rw [h0] at e; simp [Env.get] at e⟩, rfl, Evo.refl w, hsat⟩
  refine wp_seq ?_
  refine Code.wp_mono (fun e a1 w1 h1 => ?_) (region_lift (D := []) (Q := fun e a w' => e = .normal ∧ ∃ b, St w 8 [(2, vp b), (0, fv)] (Cells b [.bool false] :: pre F) a w') rfl (wl_alloc1 (z := .bool false) rfl rfl (fun b => wl_nil (fun a w' s => ⟨rfl, b, s⟩))) s0)
  cases e with
  | exit i => obtain ⟨_, _, h, _⟩ := h1; cases h
  | goto i => obtain ⟨_, _, h, _⟩ := h1; cases h
  | ret => obtain ⟨_, _, h, _⟩ := h1; cases h
  | panic i => obtain ⟨_, _, h, _⟩ := h1; cases h
  | outgrown => obtain ⟨h, _⟩ := h1; cases h
  | normal =>
  obtain ⟨ds, hd, _, b, s1⟩ := h1
  obtain rfl : ds = [] := s1.defers
  have s1' : St w 8 [(2, vp b), (0, fv)] (Cells b [.bool false] :: pre F) a1 w1 := by
    have : ({ a1 with defers := [] } : Act) = a1 := by cases a1; simp at hd; subst hd; rfl
    rw [this] at s1; exact s1
  -- the door is laid
  refine wp_seq (wp_region_lit (wpList_plain rfl fun K hK => ?_))
  have e2 : a1.eval (.tmp 2) = vp b := s1'.env.evl rfl
  unfold Oper.wp
  have r1 : ∀ (ty : TypeId) (pos : String) (af : Array Edge), (execOp a1.eval ⟨some 3, .makeFunc (.func 87) #[] #[.tmp 2], ty, pos, af, none⟩).run Try.prog w1 = .ok (.value (.func (.func 87) #[] #[vp b])) w1 := fun _ _ _ => by
    simp [execOp, e2, Instr.makeFunc]
  rw [r1, Oper.upon_value]
  refine hK _ _ (wpList_plain rfl fun K2 hK2 => ?_)
  obtain ⟨a2, ha2⟩ : ∃ a2 : Act, a2 = a1.put (some 3) (.func (.func 87) #[] #[vp b]) := ⟨_, rfl⟩
  have o2 : EnvOk 8 a2 [(3, .func (.func 87) #[] #[vp b]), (2, vp b), (0, fv)] := by rw [ha2]; exact s1'.env.put rfl _
  have d2 : a2.defers = [] := by rw [ha2, defers_put]; exact s1'.defers
  rw [← ha2]
  have e3 : a2.eval (.tmp 3) = .func (.func 87) #[] #[vp b] := o2.evl rfl
  unfold Oper.wp
  have r2 : ∀ (ty : TypeId) (pos : String) (af : Array Edge), (execOp a2.eval ⟨none, .defer ⟨.value (.tmp 3), #[], #[]⟩, ty, pos, af, none⟩).run Try.prog w1 = .ok (.defer { target := .fn (.func 87) #[vp b], args := #[] }) w1 := fun _ _ _ => by
    simp [execOp, resolve, e3, Deferred.ofValue]
  rw [r2, Oper.upon_defer]
  refine hK2 _ _ (wpList_nil ?_)
  obtain ⟨D, hD⟩ : ∃ D : Deferred, D = { target := .fn (.func 87) #[vp b], args := #[] } := ⟨_, rfl⟩
  rw [← hD, d2]
  obtain ⟨a3, ha3⟩ : ∃ a3 : Act, a3 = ({ a2 with defers := [D] } : Act).put none undef := ⟨_, rfl⟩
  have d3 : a3.defers = [D] := by rw [ha3]; rfl
  have s3 : St w 8 [(2, vp b), (0, fv)] (Cells b [.bool false] :: pre F) { a3 with defers := [] } w1 := by
    refine ⟨⟨?_, fun t u e => ?_⟩, rfl, s1'.evo, s1'.sat⟩
    · rw [ha3]; exact o2.size
    · rw [ha3]
      refine o2.get t u ?_
      unfold Env.get
      cases h3 : Nat.beq 3 t with
      | true =>
        obtain rfl : 3 = t := Nat.eq_of_beq_eq_true h3
        simp [Env.get, Nat.beq] at e
      | false => exact e
  rw [← ha3]
  subst hfv
  clear hK hK2
  show Code.wp Try.prog _ _ a3 w1
  refine wp_seq (wp_seq ?_)
  -- is there anything to be done?
  refine Code.wp_mono (fun e a4 w4 h4 => ?_) (region_lift (D := [D]) (Q := fun e a w' => e = .normal ∧ St w 8 [(5, .bool true), (2, vp b), (0, .func (.func g) #[] caps.toArray)] (Cells b [.bool false] :: pre F) a w') d3 (by
    refine walk ?_
    exact WQ.of fun a w' s => ⟨rfl, ⟨s.env.sub (EnvSub.get (by exact ⟨rfl, rfl, rfl, trivial⟩)), s.defers, s.evo, s.sat⟩⟩) s3)
  cases e with
  | exit i => obtain ⟨_, _, h, _⟩ := h4; cases h
  | goto i => obtain ⟨_, _, h, _⟩ := h4; cases h
  | ret => obtain ⟨_, _, h, _⟩ := h4; cases h
  | panic i => obtain ⟨_, _, h, _⟩ := h4; cases h
  | outgrown => obtain ⟨h, _⟩ := h4; cases h
  | normal =>
  obtain ⟨ds4, hd4, _, s4⟩ := h4
  obtain rfl : ds4 = [] := s4.defers
  have d4 : a4.defers = [D] := by simpa using hd4
  have e5 : a4.eval (.tmp 5) = .bool true := s4.env.evl (x := .tmp 5) rfl
  show Code.wp Try.prog _ _ a4 w4
  refine wp_cond_split e5 (fun _ => ?_) (fun h => by cases h)
  -- it is done
  refine wp_region_lit (wpList_plain rfl fun K hK => ?_)
  have e6 : a4.eval (.tmp 0) = .func (.func g) #[] caps.toArray := s4.env.evl (x := .tmp 0) rfl
  unfold Oper.wp
  have r6 : ∀ (ty : TypeId) (pos : String) (af : Array Edge), (execOp a4.eval ⟨some 6, .move (.tmp 0), ty, pos, af, none⟩).run Try.prog w4 = .ok (.value (.func (.func g) #[] caps.toArray)) w4 := fun _ _ _ => by
    simp [execOp, e6]
  rw [r6, Oper.upon_value]
  refine hK _ _ (wpList_plain rfl fun K2 hK2 => ?_)
  obtain ⟨a5, ha5⟩ : ∃ a5 : Act, a5 = a4.put (some 6) (.func (.func g) #[] caps.toArray) := ⟨_, rfl⟩
  have o5 : EnvOk 8 { a5 with defers := [] } [(6, .func (.func g) #[] caps.toArray), (5, .bool true), (2, vp b), (0, .func (.func g) #[] caps.toArray)] := by
    rw [ha5]
    have := s4.env.put (d := 6) rfl (.func (.func g) #[] caps.toArray)
    rw [put_defers] at this
    exact this
  have d5 : a5.defers = [D] := by rw [ha5, defers_put]; exact d4
  rw [← ha5]
  have e7 : a5.eval (.tmp 6) = .func (.func g) #[] caps.toArray := o5.evl (x := .tmp 6) rfl
  unfold Oper.wp
  have r7 : ∀ (ty : TypeId) (pos : String) (af : Array Edge) (ts : Array TypeId), (execOp a5.eval ⟨some 7, .call ⟨.value (.tmp 6), #[], ts⟩, ty, pos, af, none⟩).run Try.prog w4 = .ok (.enter g caps.toArray) w4 := fun _ _ _ _ => by
    simp [execOp, resolve, e7, Deferred.ofValue, invoke, ct.run]
  rw [r7, Oper.upon_enter]
  refine (hs (Cells b [.bool false] :: F) w4 (fun h hh => hr h hh.tail) (hpre _ _ _ s4.sat)).mono fun e w5 he => ?_
  obtain ⟨hev, ⟨x, hx, rfl, hsat5⟩ | ⟨y, hy, rfl, hsat5⟩⟩ := he
  · refine hK2 _ _ (wpList_nil ?_)
    obtain ⟨a6, ha6⟩ : ∃ a6 : Act, a6 = a5.put (some 7) (v x) := ⟨_, rfl⟩
    have d6 : a6.defers = [D] := by rw [ha6, defers_put]; exact d5
    have s6 : St w 8 [(2, vp b)] (Cells b [.bool false] :: post x F) { a6 with defers := [] } w5 := by
      have o6 := o5.put (d := 7) rfl (v x)
      rw [put_defers, ← ha6] at o6
      exact ⟨o6.sub (EnvSub.get (by exact ⟨rfl, trivial⟩)), rfl, s4.evo.trans hev, hpost _ _ _ _ hsat5⟩
    rw [← ha6]
    show Code.wp Try.prog _ _ a6 w5
    refine wp_seq ?_
    refine Code.wp_mono (fun e a7 w7 h7 => ?_) (region_lift (D := [D]) (Q := fun e a w' => e = .normal ∧ St w 8 [(2, vp b)] (Cells b [.bool false] :: post x F) a w') d6 (by
      refine wl_store rfl rfl rfl (by simp) ?_
      refine wl_nil (fun a w' s => ⟨rfl, s⟩)) s6)
    cases e with
    | exit i => obtain ⟨_, _, h, _⟩ := h7; cases h
    | goto i => obtain ⟨_, _, h, _⟩ := h7; cases h
    | ret => obtain ⟨_, _, h, _⟩ := h7; cases h
    | panic i => obtain ⟨_, _, h, _⟩ := h7; cases h
    | outgrown => obtain ⟨h, _⟩ := h7; cases h
    | normal =>
    obtain ⟨ds7, hd7, _, s7⟩ := h7
    obtain rfl : ds7 = [] := s7.defers
    have d7 : a7.defers = [D] := by simpa using hd7
    refine wp_ret ?_
    show Leaves Try.prog Try.f56 a7.tmps _ a7.defers .returning w7
    rw [d7, hD]
    refine leaves_cons (f := 87) (args := #[vp b]) (by simp) (by simp [invoke, Try.call87]) ?_
    refine (catch_idle b false (post x F) w7 s7.sat).mono ?_
    rintro e u' w8 ⟨rfl, rfl, hev8, hs8⟩
    obtain ⟨T, hT⟩ := hs8.cells
    refine ⟨.bool false, ?_, (s7.evo.trans hev8), .inl ⟨.inl x, hx, rfl, hs8.tail⟩⟩
    exact run_result b a7.tmps w8 false T hT (s7.env.get 2 _ rfl)
  · show Leaves Try.prog Try.f56 a5.tmps _ a5.defers (.panicking (goneChain outage)) w5
    rw [d5, hD]
    refine leaves_cons (f := 87) (args := #[vp b]) (by simp) (by simp [invoke, Try.call87]) ?_
    refine (catch_gone b (postc y F) w5 (hpostc _ _ _ _ hsat5)).mono ?_
    rintro e u' w8 ⟨rfl, rfl, hev8, hs8⟩
    obtain ⟨T, hT⟩ := hs8.cells
    refine ⟨.bool true, ?_, ((s4.evo.trans hev).trans hev8), .inl ⟨.inr y, hy, rfl, hs8.tail⟩⟩
    exact run_result b a5.tmps w8 true T hT (o5.get 2 _ rfl)
end Go.Proofs.Ytapgejjjgeiihaa
