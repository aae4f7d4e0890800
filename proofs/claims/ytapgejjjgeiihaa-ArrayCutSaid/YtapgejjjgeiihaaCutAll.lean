/- several texts, one behind the other -/
import Derived.Test.YtapgejjjgeiihaaEng8
import Derived.Defers
import Derived.Test.YtapgejjjgeiihaaDsk
import Derived.Recover
import Derived.Tactics
import Derived.Tactics2
import Derived.Laws.Pointers
import Derived.Test.YtapgejjjgeiihaaTab
import Derived.Test.YtapgejjjgeiihaaOwn
import Derived.Test.YtapgejjjgeiihaaShf
import Derived.Test.YtapgejjjgeiihaaDsk4
import Derived.Test.YtapgejjjgeiihaaEng9
import Derived.Test.YtapgejjjgeiihaaLawParity
import Derived.Test.YtapgejjjgeiihaaCom

section
/- A function that has deferred a call: its regions are walked as any other's. No program. -/
namespace Go.Sl
open Go
section lift
variable {P : Program} {ops : Array Oper} {Q : Exit → Act → World → Prop}
/-- as Q says, of a frame that has deferred these calls before -/
def liftD (D : List Deferred) (Q : Exit → Act → World → Prop) : Exit → Act → World → Prop
  | .outgrown, a, w => Q .outgrown a w
  | e, a, w => ∃ ds, a.defers = ds ++ D ∧ Q e { a with defers := ds } w
theorem liftD_lets {D : List Deferred} (h : LetsOut Q) : LetsOut (liftD D Q) := by
  obtain ⟨a, w, h⟩ := h
  exact ⟨a, w, h⟩
theorem put_defers (a : Act) (ds : List Deferred) (d : Option Tmp) (v : Value) : ({ a with defers := ds } : Act).put d v = { a.put d v with defers := ds } := by
  cases d <;> rfl
theorem defers_put (a : Act) (d : Option Tmp) (v : Value) : (a.put d v).defers = a.defers := by
  cases d <;> rfl
theorem wpList_lift {D : List Deferred} : ∀ (l : List Oper) (ds : List Deferred) (a : Act) (w : World), a.defers = ds ++ D → wpList P ops Q l { a with defers := ds } w → wpList P ops (liftD D Q) l a w
  | [], ds, a, w, hd, h => ⟨ds, hd, h⟩
  | o :: l, ds, a, w, hd, h => by
    have ih := fun ds a w => wpList_lift (D := D) l ds a w
    unfold wpList at h ⊢
    by_cases hw : Region.wanted o (yielded ops a.tmps) = true
    · have hw' : Region.wanted o (yielded ops ({ a with defers := ds } : Act).tmps) = true := hw
      rw [if_pos hw'] at h
      rw [if_pos hw]
      rcases h with h | ⟨h, hl⟩
      · left
        unfold Oper.wp at h ⊢
        have he : ({ a with defers := ds } : Act).eval = a.eval := rfl
        rw [he] at h
        cases hr : (execOp a.eval o).run P w with
        | halt x w' =>
          rw [hr] at h
          cases x <;> first | exact h.elim | exact ⟨ds, hd, h⟩
        | ok nx w' =>
          rw [hr] at h
          cases nx <;> simp only [Oper.upon] at h ⊢
          case value u => rw [put_defers] at h; exact ih _ _ _ (by rw [defers_put]; exact hd) h
          case skip => rw [put_defers] at h; exact ih _ _ _ (by rw [defers_put]; exact hd) h
          case defer d =>
            refine ih (d :: ds) _ _ (by rw [defers_put]; simp [hd]) ?_
            have : ({ ({ a with defers := d :: a.defers } : Act).put o.dst undef with defers := d :: ds } : Act) = ({ a with defers := d :: ds } : Act).put o.dst undef := by
              cases o.dst <;> rfl
            rw [this]
            exact h
          case enter f args =>
            refine Calls.mono h fun e w'' he => ?_
            cases e with
            | returned u => dsimp only at he ⊢; rw [put_defers] at he; exact ih _ _ _ (by rw [defers_put]; exact hd) he
            | panicked c => exact ⟨ds, hd, he⟩
            | outgrown => exact liftD_lets he
          case row row args => exact Rows.mono h fun u w'' he => by rw [put_defers] at he; exact ih _ _ _ (by rw [defers_put]; exact hd) he
      · right; exact ⟨h, liftD_lets hl⟩
    · have hw' : ¬ Region.wanted o (yielded ops ({ a with defers := ds } : Act).tmps) = true := hw
      rw [if_neg hw'] at h
      rw [if_neg hw]
      rw [put_defers] at h
      exact ih _ _ _ (by rw [defers_put]; exact hd) h

/-- a region, in a frame that has deferred these calls -/
theorem region_lift {D : List Deferred} {id : Nat} {l : List Oper} {a : Act} {w : World} (hd : a.defers = D) {w0 : World} {n : Nat} {env : Env} {Γ : List HP}
    (h : WL P l.toArray l Q w0 n env Γ) (s : St w0 n env Γ { a with defers := [] } w) : (Code.region id l.toArray false).wp P (liftD D Q) a w :=
  wp_region_lit (wpList_lift l [] a w (by simpa using hd) (h _ _ s))
end lift
end Go.Sl
end

section
/- power.Run: what is done, and whether the power went meanwhile. -/
namespace Go.Proofs.Ytapgejjjgeiihaa
open Go Go.Sl
attribute [local irreducible] Yl WL WC WQ WD

set_option maxHeartbeats 1000000 in
theorem catch_gone (b : Nat) (F : List HP) (w : World) (hs : Sat (Cells b [.bool false] :: F) (hpOf w)) :
    CallsD Try.prog 87 #[vp b] (.panicking ({ v := .iface outage (.agg #[]), recovered := false } :: [])) w fun e u' w' =>
      e = .returned (.tuple #[]) ∧ u' = .panicking ({ v := .iface outage (.agg #[]), recovered := true } :: []) ∧ Evo w w' ∧ Sat (Cells b [.bool true] :: F) (hpOf w') := by
  refine callsD_of_wpS Try.func87 rfl fun c₀ cs hu => ?_
  apply wpS_seq
  apply wpS_region
  simp [wpOpsS, go_sem, recoverD, hu, Try.ntmps87, Exit.thenS]
  refine wpS_of_wp ?_
  have key : ∀ (c : Code), WC Try.prog c (fun e a w' => bodyPostS Try.prog Try.f87 c₀ cs (fun e u' w' => e = .returned (.tuple #[]) ∧ u' = .panicking ({ v := .iface outage (.agg #[]), recovered := true } :: []) ∧ Evo w w' ∧ Sat (Cells b [.bool true] :: F) (hpOf w')) e a ({ c₀ with mode := .panicking [{ v := .iface outage (.agg #[]), recovered := true }] } :: cs) w') w 15 [(0, vp b), (1, .iface outage (.agg #[]))] (Cells b [.bool false] :: F) →
      c.wp Try.prog (fun e a w' => bodyPostS Try.prog Try.f87 c₀ cs (fun e u' w' => e = .returned (.tuple #[]) ∧ u' = .panicking ({ v := .iface outage (.agg #[]), recovered := true } :: []) ∧ Evo w w' ∧ Sat (Cells b [.bool true] :: F) (hpOf w')) e a ({ c₀ with mode := .panicking [{ v := .iface outage (.agg #[]), recovered := true }] } :: cs) w')
        { tmps := #[vp b] ++ Array.setIfInBounds (Array.setIfInBounds (Array.replicate 14 undef) 3 (.iface outage (.agg #[]))) 0 (.iface outage (.agg #[])), defers := [] } w := fun c h =>
    h.run ⟨⟨rfl, fun t v e => by
      unfold Env.get at e
      cases h0 : Nat.beq 0 t with
      | true => rw [h0] at e; obtain rfl : 0 = t := Nat.eq_of_beq_eq_true h0; exact e
      | false =>
        rw [h0] at e
        simp only [cond_false] at e
        unfold Env.get at e
        cases h1 : Nat.beq 1 t with
        | true => rw [h1] at e; obtain rfl : 1 = t := Nat.eq_of_beq_eq_true h1; exact e
        | false => rw [h1] at e; simp [Env.get] at e⟩, rfl, Evo.refl w, hs⟩
  refine key _ ?_
  refine walk ?_
  intro z
  refine walk ?_
  refine WQ.of fun a w' s => ?_
  refine ⟨s.defers, _, rfl, .tuple #[], results_none Try.results87 _ _ _, rfl, rfl, s.evo, ?_⟩
  exact (perm : Ent _ _) _ s.sat

set_option maxHeartbeats 1000000 in
theorem catch_idle (b : Nat) (u0 : Bool) (F : List HP) (w : World) (hs : Sat (Cells b [.bool u0] :: F) (hpOf w)) :
    CallsD Try.prog 87 #[vp b] .returning w fun e u' w' => e = .returned (.tuple #[]) ∧ u' = .returning ∧ Evo w w' ∧ Sat (Cells b [.bool u0] :: F) (hpOf w') := by
  refine callsD_of_wpS Try.func87 rfl fun c₀ cs hu => ?_
  apply wpS_seq
  apply wpS_region
  simp [wpOpsS, go_sem, recoverD, hu, Try.ntmps87, Exit.thenS]
  refine wpS_of_wp ?_
  have hc0 : ({ c₀ with mode := .returning } : Frame) = c₀ := by rw [← hu]
  have key : ∀ (c : Code), WC Try.prog c (fun e a w' => bodyPostS Try.prog Try.f87 c₀ cs (fun e u' w' => e = .returned (.tuple #[]) ∧ u' = .returning ∧ Evo w w' ∧ Sat (Cells b [.bool u0] :: F) (hpOf w')) e a (c₀ :: cs) w') w 15 [(0, vp b), (1, .nilIface)] (Cells b [.bool u0] :: F) →
      c.wp Try.prog (fun e a w' => bodyPostS Try.prog Try.f87 c₀ cs (fun e u' w' => e = .returned (.tuple #[]) ∧ u' = .returning ∧ Evo w w' ∧ Sat (Cells b [.bool u0] :: F) (hpOf w')) e a (c₀ :: cs) w')
        { tmps := #[vp b] ++ Array.setIfInBounds (Array.setIfInBounds (Array.replicate 14 undef) 3 .nilIface) 0 .nilIface, defers := [] } w := fun c h =>
    h.run ⟨⟨rfl, fun t v e => by
      unfold Env.get at e
      cases h0 : Nat.beq 0 t with
      | true => rw [h0] at e; obtain rfl : 0 = t := Nat.eq_of_beq_eq_true h0; exact e
      | false =>
        rw [h0] at e
        simp only [cond_false] at e
        unfold Env.get at e
        cases h1 : Nat.beq 1 t with
        | true => rw [h1] at e; obtain rfl : 1 = t := Nat.eq_of_beq_eq_true h1; exact e
        | false => rw [h1] at e; simp [Env.get] at e⟩, rfl, Evo.refl w, hs⟩
  refine key _ ?_
  refine walk ?_
  refine WQ.of fun a w' s => ?_
  refine ⟨s.defers, .returning, by rw [hc0], .tuple #[], results_none Try.results87 _ _ _, rfl, rfl, s.evo, s.sat⟩
end Go.Proofs.Ytapgejjjgeiihaa
end

section
/- power.Run: what it answers of what is done. -/
namespace Go.Proofs.Ytapgejjjgeiihaa
open Go Go.Sl

theorem run_result (b : Nat) (tmps : Array Value) (w : World) (c : Bool) (T : TypeId) (hT : hpOf w b = some (.cells [.bool c].toArray T (0, 0))) (ht : tmps[2]? = some (vp b)) :
    (results Try.f56 tmps).run Try.prog w = .ok (.bool c) w := by
  have hc : w.cell? ⟨b, 0, none⟩ = some (.bool c) := cell_of_hp hT 0
  simp [results, Try.results56, ht, loadVar, hc, Try.isAgg4, asAddr]
set_option maxHeartbeats 2000000 in
theorem run_spec {g : FuncId} {caps : List Value} {rd : Hp → Prop} {pre : List HP → List HP} {X Y : Type} {φ : X → Prop} {v : X → Value} {post : X → List HP → List HP} {φc : Y → Prop} {postc : Y → List HP → List HP} [ct : CallT Try.prog g]
    (hs : Go.Sl.Spec Try.prog g caps rd pre φ v post φc (goneChain outage) postc)
    (hpre : ∀ A F, Ent (A :: pre F) (pre (A :: F))) (hpost : ∀ x A F, Ent (post x (A :: F)) (A :: post x F)) (hpostc : ∀ y A F, Ent (postc y (A :: F)) (A :: postc y F)) :
    Spec0 Try.prog 56 [.func (.func g) #[] caps.toArray] rd pre (fun x : X ⊕ Y => Sum.elim φ φc x) (fun x => .bool x.isRight) (fun x F => Sum.elim (fun x => post x F) (fun y => postc y F) x) := by
  intro F w hr hsat
  refine calls_of_wp_defers Try.func56 rfl ?_
  obtain ⟨fv, hfv⟩ : ∃ fv : Value, fv = .func (.func g) #[] caps.toArray := ⟨_, rfl⟩
  rw [← hfv]
  have s0 : St w 8 [(0, fv)] (pre F) { tmps := #[fv] ++ Array.replicate 7 undef, defers := [] } w := ⟨⟨rfl, fun t u e => by
    unfold Env.get at e
    cases h0 : Nat.beq 0 t with
    | true => rw [h0] at e; obtain rfl : 0 = t := Nat.eq_of_beq_eq_true h0; exact e
    | false => rw [h0] at e; simp [Env.get] at e⟩, rfl, Evo.refl w, hsat⟩
  refine wp_seq ?_
  refine Code.wp_mono (fun e a1 w1 h1 => ?_) (region_lift (D := []) (Q := fun e a w' => e = .normal ∧ ∃ b, St w 8 [(2, vp b), (0, fv)] (Cells b [.bool false] :: pre F) a w') rfl (wl_alloc1 (z := .bool false) rfl rfl (fun b => wl_nil (fun a w' s => ⟨rfl, b, s⟩))) s0)
  cases e with
  | exit i => obtain ⟨_, _, h, _⟩ := h1; cases h
  | goto i => obtain ⟨_, _, h, _⟩ := h1; cases h
  | ret => obtain ⟨_, _, h, _⟩ := h1; cases h
  | panic i => obtain ⟨_, _, h, _⟩ := h1; cases h
  | outgrown => obtain ⟨h, _⟩ := h1; cases h
  | normal =>
  obtain ⟨ds, hd, _, b, s1⟩ := h1
  obtain rfl : ds = [] := s1.defers
  have s1' : St w 8 [(2, vp b), (0, fv)] (Cells b [.bool false] :: pre F) a1 w1 := by
    have : ({ a1 with defers := [] } : Act) = a1 := by cases a1; simp at hd; subst hd; rfl
    rw [this] at s1; exact s1
  -- the door is laid
  refine wp_seq (wp_region_lit (wpList_plain rfl fun K hK => ?_))
  have e2 : a1.eval (.tmp 2) = vp b := s1'.env.evl rfl
  unfold Oper.wp
  have r1 : ∀ (ty : TypeId) (pos : String) (af : Array Edge), (execOp a1.eval ⟨some 3, .makeFunc (.func 87) #[] #[.tmp 2], ty, pos, af, none⟩).run Try.prog w1 = .ok (.value (.func (.func 87) #[] #[vp b])) w1 := fun _ _ _ => by
    simp [execOp, e2, Instr.makeFunc]
  rw [r1, Oper.upon_value]
  refine hK _ _ (wpList_plain rfl fun K2 hK2 => ?_)
  obtain ⟨a2, ha2⟩ : ∃ a2 : Act, a2 = a1.put (some 3) (.func (.func 87) #[] #[vp b]) := ⟨_, rfl⟩
  have o2 : EnvOk 8 a2 [(3, .func (.func 87) #[] #[vp b]), (2, vp b), (0, fv)] := by rw [ha2]; exact s1'.env.put rfl _
  have d2 : a2.defers = [] := by rw [ha2, defers_put]; exact s1'.defers
  rw [← ha2]
  have e3 : a2.eval (.tmp 3) = .func (.func 87) #[] #[vp b] := o2.evl rfl
  unfold Oper.wp
  have r2 : ∀ (ty : TypeId) (pos : String) (af : Array Edge), (execOp a2.eval ⟨none, .defer ⟨.value (.tmp 3), #[], #[]⟩, ty, pos, af, none⟩).run Try.prog w1 = .ok (.defer { target := .fn (.func 87) #[vp b], args := #[] }) w1 := fun _ _ _ => by
    simp [execOp, resolve, e3, Deferred.ofValue]
  rw [r2, Oper.upon_defer]
  refine hK2 _ _ (wpList_nil ?_)
  obtain ⟨D, hD⟩ : ∃ D : Deferred, D = { target := .fn (.func 87) #[vp b], args := #[] } := ⟨_, rfl⟩
  rw [← hD, d2]
  obtain ⟨a3, ha3⟩ : ∃ a3 : Act, a3 = ({ a2 with defers := [D] } : Act).put none undef := ⟨_, rfl⟩
  have d3 : a3.defers = [D] := by rw [ha3]; rfl
  have s3 : St w 8 [(2, vp b), (0, fv)] (Cells b [.bool false] :: pre F) { a3 with defers := [] } w1 := by
    refine ⟨⟨?_, fun t u e => ?_⟩, rfl, s1'.evo, s1'.sat⟩
    · rw [ha3]; exact o2.size
    · rw [ha3]
      refine o2.get t u ?_
      unfold Env.get
      cases h3 : Nat.beq 3 t with
      | true =>
        obtain rfl : 3 = t := Nat.eq_of_beq_eq_true h3
        simp [Env.get, Nat.beq] at e
      | false => exact e
  rw [← ha3]
  subst hfv
  clear hK hK2
  show Code.wp Try.prog _ _ a3 w1
  refine wp_seq (wp_seq ?_)
  -- is there anything to be done?
  refine Code.wp_mono (fun e a4 w4 h4 => ?_) (region_lift (D := [D]) (Q := fun e a w' => e = .normal ∧ St w 8 [(5, .bool true), (2, vp b), (0, .func (.func g) #[] caps.toArray)] (Cells b [.bool false] :: pre F) a w') d3 (by
    refine walk ?_
    exact WQ.of fun a w' s => ⟨rfl, ⟨s.env.sub (EnvSub.get (by exact ⟨rfl, rfl, rfl, trivial⟩)), s.defers, s.evo, s.sat⟩⟩) s3)
  cases e with
  | exit i => obtain ⟨_, _, h, _⟩ := h4; cases h
  | goto i => obtain ⟨_, _, h, _⟩ := h4; cases h
  | ret => obtain ⟨_, _, h, _⟩ := h4; cases h
  | panic i => obtain ⟨_, _, h, _⟩ := h4; cases h
  | outgrown => obtain ⟨h, _⟩ := h4; cases h
  | normal =>
  obtain ⟨ds4, hd4, _, s4⟩ := h4
  obtain rfl : ds4 = [] := s4.defers
  have d4 : a4.defers = [D] := by simpa using hd4
  have e5 : a4.eval (.tmp 5) = .bool true := s4.env.evl (x := .tmp 5) rfl
  show Code.wp Try.prog _ _ a4 w4
  refine wp_cond_split e5 (fun _ => ?_) (fun h => by cases h)
  -- it is done
  refine wp_region_lit (wpList_plain rfl fun K hK => ?_)
  have e6 : a4.eval (.tmp 0) = .func (.func g) #[] caps.toArray := s4.env.evl (x := .tmp 0) rfl
  unfold Oper.wp
  have r6 : ∀ (ty : TypeId) (pos : String) (af : Array Edge), (execOp a4.eval ⟨some 6, .move (.tmp 0), ty, pos, af, none⟩).run Try.prog w4 = .ok (.value (.func (.func g) #[] caps.toArray)) w4 := fun _ _ _ => by
    simp [execOp, e6]
  rw [r6, Oper.upon_value]
  refine hK _ _ (wpList_plain rfl fun K2 hK2 => ?_)
  obtain ⟨a5, ha5⟩ : ∃ a5 : Act, a5 = a4.put (some 6) (.func (.func g) #[] caps.toArray) := ⟨_, rfl⟩
  have o5 : EnvOk 8 { a5 with defers := [] } [(6, .func (.func g) #[] caps.toArray), (5, .bool true), (2, vp b), (0, .func (.func g) #[] caps.toArray)] := by
    rw [ha5]
    have := s4.env.put (d := 6) rfl (.func (.func g) #[] caps.toArray)
    rw [put_defers] at this
    exact this
  have d5 : a5.defers = [D] := by rw [ha5, defers_put]; exact d4
  rw [← ha5]
  have e7 : a5.eval (.tmp 6) = .func (.func g) #[] caps.toArray := o5.evl (x := .tmp 6) rfl
  unfold Oper.wp
  have r7 : ∀ (ty : TypeId) (pos : String) (af : Array Edge) (ts : Array TypeId), (execOp a5.eval ⟨some 7, .call ⟨.value (.tmp 6), #[], ts⟩, ty, pos, af, none⟩).run Try.prog w4 = .ok (.enter g caps.toArray) w4 := fun _ _ _ _ => by
    simp [execOp, resolve, e7, Deferred.ofValue, invoke, ct.run]
  rw [r7, Oper.upon_enter]
  refine (hs (Cells b [.bool false] :: F) w4 (fun h hh => hr h hh.tail) (hpre _ _ _ s4.sat)).mono fun e w5 he => ?_
  obtain ⟨hev, ⟨x, hx, rfl, hsat5⟩ | ⟨y, hy, rfl, hsat5⟩⟩ := he
  · refine hK2 _ _ (wpList_nil ?_)
    obtain ⟨a6, ha6⟩ : ∃ a6 : Act, a6 = a5.put (some 7) (v x) := ⟨_, rfl⟩
    have d6 : a6.defers = [D] := by rw [ha6, defers_put]; exact d5
    have s6 : St w 8 [(2, vp b)] (Cells b [.bool false] :: post x F) { a6 with defers := [] } w5 := by
      have o6 := o5.put (d := 7) rfl (v x)
      rw [put_defers, ← ha6] at o6
      exact ⟨o6.sub (EnvSub.get (by exact ⟨rfl, trivial⟩)), rfl, s4.evo.trans hev, hpost _ _ _ _ hsat5⟩
    rw [← ha6]
    show Code.wp Try.prog _ _ a6 w5
    refine wp_seq ?_
    refine Code.wp_mono (fun e a7 w7 h7 => ?_) (region_lift (D := [D]) (Q := fun e a w' => e = .normal ∧ St w 8 [(2, vp b)] (Cells b [.bool false] :: post x F) a w') d6 (by
      refine wl_store rfl rfl rfl (by simp) ?_
      refine wl_nil (fun a w' s => ⟨rfl, s⟩)) s6)
    cases e with
    | exit i => obtain ⟨_, _, h, _⟩ := h7; cases h
    | goto i => obtain ⟨_, _, h, _⟩ := h7; cases h
    | ret => obtain ⟨_, _, h, _⟩ := h7; cases h
    | panic i => obtain ⟨_, _, h, _⟩ := h7; cases h
    | outgrown => obtain ⟨h, _⟩ := h7; cases h
    | normal =>
    obtain ⟨ds7, hd7, _, s7⟩ := h7
    obtain rfl : ds7 = [] := s7.defers
    have d7 : a7.defers = [D] := by simpa using hd7
    refine wp_ret ?_
    show Leaves Try.prog Try.f56 a7.tmps _ a7.defers .returning w7
    rw [d7, hD]
    refine leaves_cons (f := 87) (args := #[vp b]) (by simp) (by simp [invoke, Try.call87]) ?_
    refine (catch_idle b false (post x F) w7 s7.sat).mono ?_
    rintro e u' w8 ⟨rfl, rfl, hev8, hs8⟩
    obtain ⟨T, hT⟩ := hs8.cells
    refine ⟨.bool false, ?_, (s7.evo.trans hev8), .inl ⟨.inl x, hx, rfl, hs8.tail⟩⟩
    exact run_result b a7.tmps w8 false T hT (s7.env.get 2 _ rfl)
  · show Leaves Try.prog Try.f56 a5.tmps _ a5.defers (.panicking (goneChain outage)) w5
    rw [d5, hD]
    refine leaves_cons (f := 87) (args := #[vp b]) (by simp) (by simp [invoke, Try.call87]) ?_
    refine (catch_gone b (postc y F) w5 (hpostc _ _ _ _ hsat5)).mono ?_
    rintro e u' w8 ⟨rfl, rfl, hev8, hs8⟩
    obtain ⟨T, hT⟩ := hs8.cells
    refine ⟨.bool true, ?_, ((s4.evo.trans hev).trans hev8), .inl ⟨.inr y, hy, rfl, hs8.tail⟩⟩
    exact run_result b a5.tmps w8 true T hT (o5.get 2 _ rfl)
end Go.Proofs.Ytapgejjjgeiihaa
end

section
/- The library's sorted keys of a map, by the shelf. -/
namespace Go.Proofs.Ytapgejjjgeiihaa
open Go Go.Sl Go.RowKit Go.Maps Go.Sort Go.Shelf
attribute [local irreducible] Yl WL WC WQ WD

theorem Try.sortsA (m : Nat) : AnyZI.SortsIn Try.prog Try.sortedA_ren Fence.wide m :=
  ⟨fun blk off cap ss W hH hblk hsz => callsIn_wide.2 (AnyM.slices_Sort_int Try.sortA blk off cap ss W hH hblk hsz),
   fun p cap W => callsIn_wide.2 (AnyM.slices_Sort_int_none Try.sortA p cap W)⟩

theorem keys_spec (c : Nat) :
    Spec0 Try.prog 86 [.map (some c)] (fun _ => True) (fun F => F) (fun _ : Nat => True) (fun b => .func (.func 99) #[] #[vp b]) (fun b F => Cells b [.map (some c)] :: F) := by
  (refine spec_of Try.func86 rfl Try.ntmps86 rfl (fun F w0 hrd => ?_))
  refine walk ?_
  intro b
  refine walk ?_
  exact wq_ret1 rfl rfl b rfl trivial Ent.refl

/-- how a value of such a map is read: not at all -/
def rdAny (H : Type) : Value → Option (DataW H × List MemPlace) := fun _ => some (.nil, [])

theorem ownsMap_of {w : World} {c : Nat} {m : IMap Value} {es : Array MapEntry} {ck : Nat} (h : w.heap[c]? = some (.map es ck)) (hm : IsMap es ck m) (hl : m.length ≤ 1073741824) (hk : ∀ e ∈ m, -9223372036854775808 ≤ e.1 ∧ e.1 ≤ 9223372036854775807)
    {k : TypeId} (hu : Try.prog.underlying k = some (.int .i64)) : w.ownsMap (H := Unit) Try.prog k (rdAny Unit) c m.length (.map ((es.toList.map (Go.WideElems.rg Try.prog k (rdAny Unit))).foldr DataW.insert [])) := by
  refine ⟨es, ck, h, ⟨?_, ⟨hm.clock, ?_, ?_⟩, ?_⟩, by rw [hm.size]; exact Nat.le_refl _, rfl⟩
  · rw [hm.size]; unfold maxLen; omega
  · exact hm.borns.imp fun h => Nat.ne_of_lt h
  · have h1 : es.toList.map (·.key) = m.map fun p => vi p.1 := by
      have := congrArg (List.map (·.1)) hm.ents
      simpa [List.map_map, Function.comp_def, entOf, pairOf] using this
    rw [h1, List.Nodup, List.pairwise_map]
    have h2 := hm.keys
    rw [List.Nodup, List.pairwise_map] at h2
    exact h2.imp fun hne e => hne (by simpa using e)
  · intro x hx
    have h1 : entOf x ∈ m.map pairOf := by rw [← hm.ents]; exact List.mem_map.2 ⟨x, hx, rfl⟩
    obtain ⟨e, he, hxe⟩ := List.mem_map.1 h1
    have hk1 : x.key = vi e.1 := by have := congrArg Prod.fst hxe; exact this.symm
    have hw : (Lit.int .i64 e.1).wf = true := by
      have := hk e he
      simp [Lit.wf, IntKind.min, IntKind.max, IntKind.bits, IntKind.signed]
      omega
    refine ⟨(.int .i64 e.1, .nil), ?_⟩
    unfold Go.WideElems.rd
    rw [hk1, keyOf_int_mk hu hw]
    rfl
/-- a value's number -/
def litOf : Value → Int
  | .int _ q => q
  | _ => 0
theorem intKeys_of {m : IMap Value} {es : Array MapEntry} {ck : Nat} (hm : IsMap es ck m) (hk : ∀ e ∈ m, -9223372036854775808 ≤ e.1 ∧ e.1 ≤ 9223372036854775807)
    {k : TypeId} (hu : Try.prog.underlying k = some (.int .i64)) : (intKeys (.map ((es.toList.map (Go.WideElems.rg Try.prog k (rdAny Unit))).foldr DataW.insert []))).Perm (m.map (·.1)) := by
  have h0 : (intKeys (.map ((es.toList.map (Go.WideElems.rg Try.prog k (rdAny Unit))).foldr DataW.insert []))) = (((es.toList.map (Go.WideElems.rg Try.prog k (rdAny Unit))).foldr DataW.insert []).map fun p => Go.intOf p.1) := rfl
  rw [h0]
  refine ((Go.WideShapes.sorted_perm _).map _).trans (List.Perm.of_eq ?_)
  rw [List.map_map]
  have h1 : es.toList.map (·.key) = m.map fun p => vi p.1 := by
    have := congrArg (List.map (·.1)) hm.ents
    simpa [List.map_map, Function.comp_def, entOf, pairOf] using this
  have h2 : ∀ x ∈ es.toList, ((fun p : Lit × DataW Unit => Go.intOf p.1) ∘ Go.WideElems.rg Try.prog k (rdAny Unit)) x = litOf x.key := by
    intro x hx
    have h1 : entOf x ∈ m.map pairOf := by rw [← hm.ents]; exact List.mem_map.2 ⟨x, hx, rfl⟩
    obtain ⟨e, he, hxe⟩ := List.mem_map.1 h1
    have hk1 : x.key = vi e.1 := by have := congrArg Prod.fst hxe; exact this.symm
    have hw : (Lit.int .i64 e.1).wf = true := by
      have := hk e he
      simp [Lit.wf, IntKind.min, IntKind.max, IntKind.bits, IntKind.signed]
      omega
    have hrd : Go.WideElems.rd Try.prog k (rdAny Unit) x = some (.int .i64 e.1, .nil) := by
      unfold Go.WideElems.rd
      rw [hk1, keyOf_int_mk hu hw]
      rfl
    simp only [Function.comp, Go.WideElems.rg_of hrd, hk1]
    rfl
  rw [List.map_congr_left h2]
  have h3 : es.toList.map (fun x => litOf x.key) = (es.toList.map (·.key)).map litOf := by rw [List.map_map]; rfl
  rw [h3, h1, List.map_map]
  rfl

/-- what a call laid anew, beside what there was -/
theorem sat_row {Γ : List HP} {w w' : World} {e : TypeId} {v : Value} {xs : List Value} (hs : Sat Γ (hpOf w)) (hb : Below w.heap.size w w') (hr : w'.ownsRow w.heap.size e 1 v xs.length xs) : Sat (Sl v 1 xs :: Γ) (hpOf w') := by
  have hle : Hle (hpOf w) (hpOf w') := fun b o h => by
    have := hp_lt h
    unfold hpOf at h ⊢
    rw [hb.block b this]; exact h
  rcases hr.2 with ⟨rfl, hn⟩ | ⟨g, cap, cur, rfl, hg, hgb, h1, h2, h3, h4⟩
  · have : xs = [] := List.eq_nil_of_length_eq_zero hn
    subst this
    exact sl_nil 1 _ (hs.mono hle)
  · refine ⟨fun b => if b = g then some (.cells cur e (0, 0)) else none, hpOf w, ?_, hle, ?_, ?_, hs⟩
    · intro b o h
      dsimp only at h
      split at h
      · rename_i hbg; subst hbg; cases h; exact hgb
      · cases h
    · intro b
      by_cases hbg : b = g
      · right
        subst hbg
        unfold hpOf
        exact Array.getElem?_eq_none hg
      · left; simp [hbg]
    · refine .inr ⟨g, 0, xs.length, cap, cur.toList, rfl, h1, ?_, by omega, ?_, e, ?_⟩
      · simp; omega
      · simpa using h4
      · simp

set_option maxHeartbeats 2000000 in
theorem sorted_spec (b c : Nat) (m : IMap Value) (hl : m.length ≤ 1073741824) (hk : ∀ e ∈ m, -9223372036854775808 ≤ e.1 ∧ e.1 ≤ 9223372036854775807) :
    Spec0 Try.prog 85 [.func (.func 99) #[] #[vp b]] (fun _ => True) (fun F => Cells b [.map (some c)] :: MapI c m :: F) (fun _ : Value => True) (fun r => r)
      (fun r F => Sl r 1 (((m.map (·.1)).mergeSort fun x y => decide (x ≤ y)).map vi) :: Cells b [.map (some c)] :: MapI c m :: F) := by
  intro F w _ hs
  obtain ⟨T, hcb⟩ := Sat.cells hs
  obtain ⟨es, ck, hmb, him⟩ := Sat.mapI hs.tail
  have hu : Try.prog.underlying (Try.keysA_ren.t 26) = some (.int .i64) := by kernel_rfl
  have hown := ownsMap_of (w := w) (c := c) hmb him hl hk hu
  have hcell : w.cell? ⟨b, 0, none⟩ = some (.map (some c)) := cell_of_hp hcb 0
  have hblt : b < w.heap.size := hp_lt hcb
  have hseq : SeqGives Fence.wide 2 Try.prog 99 #[.pointer (some ⟨b, 0, none⟩)] encZ (fun ss => ss.Perm (intKeys _)) (Maps.size _) w :=
    AnyZI.keys_gives (ρ := Try.keysA_ren) { Try.keysA with } Fence.wide _ trivial rfl (by omega) b c m.length _ w hblt hcell hown
  have hperm := intKeys_of him hk hu
  have hsz : Maps.size (DataW.map ((es.toList.map (Go.WideElems.rg Try.prog (Try.keysA_ren.t 26) (rdAny Unit))).foldr DataW.insert [])) = m.length := by
    have := hperm.length_eq
    simpa [intKeys, Maps.size] using this
  have cS := AnyZI.sorted_in Try.sortedA Fence.wide 5 trivial trivial trivial trivial rfl (by omega) (Try.sortsA _) (enters_of Try.func98 (by kernel_rfl) rfl) 99 #[.pointer (some ⟨b, 0, none⟩)] trivial (enters_of Try.func99 (by kernel_rfl) rfl) _ _ (by rw [hsz]; unfold maxLen; omega) (by rw [hsz]; omega) _ hseq
  refine ((callsIn_wide (n := 5)).1 cS).mono ?_
  rintro e w' ⟨v, ss, rfl, hS, hrow, hnil, hb⟩
  refine ⟨⟨hb.os, hb.tape, hb.output, hb.size⟩, .inl ⟨v, trivial, rfl, ?_⟩⟩
  have hps : ss.Perm (m.map (·.1)) := hS.trans hperm
  have e1 : ((m.map (·.1)).mergeSort fun x y => decide (x ≤ y)) = ss.mergeSort fun x y => decide (x ≤ y) := (mergeSort_of_perm_i hps).symm
  rw [e1]
  have hlen : ((ss.mergeSort fun x y => decide (x ≤ y)).map vi).length = ss.length := by simp
  refine sat_row (e := Try.sortedA_ren.t 26) hs hb ?_
  rw [hlen]
  exact hrow
end Go.Proofs.Ytapgejjjgeiihaa
end

section
/- Disks: Cycle. -/
namespace Go.Proofs.Ytapgejjjgeiihaa
open Go Go.Sl
attribute [local irreducible] Yl WL WC WQ WD

theorem bit_eq (keep : Nat) (hk : keep < 18446744073709551616) (b : Nat) (hb : b < 64) :
    IntKind.u64.wrap ((BitVec.ofInt 64 ((keep : Int).fdiv (2 ^ (min ((b : Int).toNat) 64))) &&& BitVec.ofInt 64 1 : BitVec 64).toNat : Nat) = (((keep >>> b) % 2 : Nat) : Int) := by
  have h1 : (keep : Int).fdiv (2 ^ (min ((b : Int).toNat) 64)) = ((keep >>> b : Nat) : Int) := by
    rw [Int.fdiv_eq_ediv_of_nonneg _ (by exact Int.le_of_lt (Int.pow_pos (by decide)))]
    rw [show min ((b : Int).toNat) 64 = b from by simp; omega, Nat.shiftRight_eq_div_pow]
    simp
  have h2 : (BitVec.ofInt 64 ((keep >>> b : Nat) : Int) &&& BitVec.ofInt 64 1 : BitVec 64).toNat = (keep >>> b) % 2 := by
    rw [BitVec.toNat_and]
    have h3 : (BitVec.ofInt 64 ((keep >>> b : Nat) : Int)).toNat = keep >>> b := by
      rw [BitVec.ofInt_natCast, BitVec.toNat_ofNat]
      refine Nat.mod_eq_of_lt (Nat.lt_of_le_of_lt ?_ hk)
      rw [Nat.shiftRight_eq_div_pow]; exact Nat.div_le_self _ _
    have h4 : (BitVec.ofInt 64 1).toNat = 1 := by decide
    rw [h3, h4, Nat.and_one_is_mod]
  rw [h1, h2]
  have h5 : (keep >>> b) % 2 < 2 := Nat.mod_lt _ (by decide)
  exact wrap_u64 (by omega) (by omega)

theorem bit_eq' (keep : Nat) (hk : keep < 18446744073709551616) (k : Nat) :
    IntKind.u64.wrap ((BitVec.ofInt 64 ((keep : Int).fdiv (2 ^ (min (((k : Int) % 64).toNat) 64))) &&& BitVec.ofInt 64 1 : BitVec 64).toNat : Nat) = (((keep >>> (k % 64)) % 2 : Nat) : Int) := by
  rw [← bit_eq keep hk (k % 64) (by omega), show ((k : Int) % 64) = ((k % 64 : Nat) : Int) from by omega]

theorem waiting_perm (s : Dsk) : s.waiting.Perm (s.cache.map (·.1)) := List.mergeSort_perm _ _
theorem _root_.Go.Sl.Dsk.Ok.few {d : Dsk} (h : d.Ok) : d.cache.length ≤ d.on.length := by
  have h1 : ((d.cache.map (·.1)).map Int.toNat).Nodup := by
    rw [List.Nodup, List.pairwise_map]
    refine List.Pairwise.imp_of_mem ?_ h.keys
    intro a b ha hb hab e
    obtain ⟨x, hx, rfl⟩ := List.mem_map.1 ha
    obtain ⟨y, hy, rfl⟩ := List.mem_map.1 hb
    have := (h.cache x hx).1
    have := (h.cache y hy).1
    exact hab (by omega)
  have := nodup_bound h1 (n := d.on.length) (fun j hj => by
    obtain ⟨k, hk, rfl⟩ := List.mem_map.1 hj
    obtain ⟨x, hx, rfl⟩ := List.mem_map.1 hk
    have := (h.cache x hx).1
    omega)
  simpa using this
theorem _root_.Go.Sl.Dsk.Ok.wait {d : Dsk} (h : d.Ok) : d.waiting.length ≤ 1073741824 := by
  have h1 := (waiting_perm d).length_eq
  have := h.few
  have := h.many
  simp at h1
  omega

theorem waiting_spec (d pp : Nat) (s : Dsk) :
    Spec0 Try.prog 54 [vp d] (fun _ => True) (fun F => DiskAt d pp s :: F) (fun _ : Value => True) (fun r => r) (fun r F => Sl r 1 (s.waiting.map vi) :: DiskAt d pp s :: F) := by
  (refine spec_of Try.func54 rfl Try.ntmps54 rfl (fun F w0 hrd => ?_))
  (first | refine WC.ex (fun y => DiskAt.opened) (fun x hf => ?_) | refine WL.ex (fun y => DiskAt.opened) (fun x hf => ?_) | refine WQ.ex (fun y => DiskAt.opened) (fun x hf => ?_))
  have hkeys : x.cs.vals.map (·.1) = s.cache.map (·.1) := by rw [← hf.cache, Both.vals_keys, Both.data_keys]
  have hlen : x.cs.vals.length = s.cache.length := by simpa using congrArg List.length hkeys
  have hfew := hf.ok.few
  have hmany := hf.ok.many
  refine walk ?_
  refine call (keys_spec x.c) ?_
  intro b _
  refine walk ?_
  refine call (sorted_spec b x.c x.cs.vals (by omega) (fun e he => by
    have h1 : e.1 ∈ s.cache.map (·.1) := by rw [← hkeys]; exact List.mem_map.2 ⟨e, he, rfl⟩
    obtain ⟨q, hq, hqe⟩ := List.mem_map.1 h1
    have := (hf.ok.cache q hq).1
    omega)) ?_
  intro r _
  rw [hkeys]
  refine walk ?_
  refine wq_ret1 rfl rfl r rfl trivial ?_
  rw [show s.waiting = (s.cache.map (·.1)).mergeSort (fun x y => decide (x ≤ y)) from rfl]
  exact Ent.trans (Γ' := Sl r 1 (((s.cache.map (·.1)).mergeSort (fun x y => decide (x ≤ y))).map vi) :: DParts d pp x s F) perm (Ent.skip (DiskAt.shut x hf))


set_option maxHeartbeats 1000000 in
theorem cycle_spec (d pp : Nat) (s : Dsk) (keep : Nat) (hkeep : keep < 18446744073709551616) :
    Spec0 Try.prog 53 [vp d, .int .u64 keep] (fun _ => True) (fun F => DiskAt d pp s :: F) (fun _ : Unit => True) (fun _ => .tuple #[]) (fun _ F => DiskAt d pp (s.cycle keep) :: F) := by
  (refine spec_of Try.func53 rfl Try.ntmps53 rfl (fun F w0 hrd => ?_))
  refine walk ?_
  refine call (waiting_spec d pp s) ?_
  intro wv _
  refine WL.ent Ent.swap ?_
  (first | refine WC.ex (fun y => DiskAt.opened) (fun x hf => ?_) | refine WL.ex (fun y => DiskAt.opened) (fun x hf => ?_) | refine WQ.ex (fun y => DiskAt.opened) (fun x hf => ?_))
  have hl : x.ons.length = s.on.length := by have := congrArg List.length hf.on; simpa using this
  have hnd : (x.cs.map (·.1)).Nodup := by rw [← Both.data_keys, hf.cache]; exact hf.ok.keys
  have hmemw : ∀ k, k ∈ s.waiting ↔ (mget x.cs k).isSome := fun k => by
    rw [(waiting_perm s).mem_iff, ← hf.cache, Both.data_keys]
    cases hg : mget x.cs k with
    | none => simpa using mget_none.1 hg
    | some r => simpa using ⟨r.1, r.2, mget_mem hg⟩
  have hwl := hf.ok.wait
  have hndw : s.waiting.Nodup := (waiting_perm s).nodup_iff.2 hf.ok.keys
  refine walk ?_
  refine wc_loop (X := Nat × List Row) (fun y => [(0, vp d), (1, .int .u64 keep), (7, wv), (8, vi s.waiting.length), (9, vi y.1)])
    (fun y => Sl wv 1 (s.waiting.map vi) :: DCells d pp x s :: Sl x.onv 1 (y.2.map (·.1)) :: Sl x.wv 1 (s.writes.map vi) :: MapI x.c x.cs.vals :: Pool x.rows :: F)
    (fun y => y.1 ≤ s.waiting.length ∧ LaidOf x.cs ((s.waiting.take y.1).filter fun i => keepBit keep (s.waiting.idxOf i)) x.ons y.2 ∧ ∀ r ∈ y.2, r ∈ x.rows) (fun y => s.waiting.length - y.1) (0, x.ons) ⟨by simp, ⟨rfl, fun i => by simp⟩, hf.mem⟩ envs perm (fun y hy => ?_)
  obtain ⟨k, ons⟩ := y
  dsimp only at hy ⊢
  obtain ⟨hk, hlaid, hmem⟩ := hy
  refine walk ?_
  refine wif_dec (fun hlt => ?_) (fun hlt => ?_)
  · have hlt : k < s.waiting.length := by omega
    have hr0 : 0 ≤ (k : Int) % 64 := by omega
    have hin : s.waiting[k] ∈ s.waiting := List.getElem_mem hlt
    obtain ⟨r, hr⟩ := Option.isSome_iff_exists.1 ((hmemw _).1 hin)
    have hidx : s.waiting.idxOf s.waiting[k] = k := List.Nodup.idxOf_getElem hndw k hlt
    have hkin := (hf.ok.cache (s.waiting[k], r.2) (by rw [← hf.cache]; exact List.mem_map.2 ⟨_, mget_mem hr, rfl⟩)).1
    have htake : s.waiting.take (k + 1) = s.waiting.take k ++ [s.waiting[k]] := List.take_succ_eq_append_getElem hlt
    have hol := hlaid.1
    refine walk ?_
    generalize s.waiting[k] = w at *
    dsimp only at hkin
    have hbit := bit_eq' keep hkeep k
    refine wif_dec (fun hc => ?_) (fun hc => ?_)
    · have hkb : keepBit keep (s.waiting.idxOf w) = true := by
        have h1 := hbit.symm.trans hc
        rw [hidx]; unfold keepBit; simpa using (by omega : (keep >>> (k % 64)) % 2 = 1)
      haveI : RdIn (Pool x.rows :: F) r.1 1 (r.2.map vb) := Pool.rdIn (hf.mem2 _ (mget_mem hr))
      have hget : (mget x.cs.vals w).getD (.slice none 0 0) = r.1 := by rw [Both.vals_get, hr]; rfl
      (refine draw ?_; refine dy 0 ?_; refine dy 1 ?_; refine dy 2 ?_; refine dy 3 ?_; refine dy 4 ?_; refine dy 5 ?_; refine dy 6 ?_; refine dy 7 ?_; refine dy 8 ?_; refine dy 9 ?_; refine dy 10 ?_; refine dy 11 ?_; refine dlast 12 ?_)
      rw [hget]
      (refine walk ?_)
      refine wq_round (k + 1, ons.set w.toNat r) ⟨by dsimp only; omega, ?_, ?_⟩ (by dsimp only; omega) envs ?_
      · dsimp only
        rw [htake, List.filter_append, List.filter_cons_of_pos (by simpa using hkb), List.filter_nil]
        exact hlaid.next hr hkin.1
      · intro q hq
        rcases List.mem_or_eq_of_mem_set hq with hq | rfl
        · exact hmem q hq
        · exact hf.mem2 _ (mget_mem hr)
      · dsimp only
        rw [List.map_set]
        exact perm
    · have hkb : keepBit keep (s.waiting.idxOf w) = false := by
        have h1 : ¬ (((keep >>> (k % 64)) % 2 : Nat) : Int) = 1 := fun h => hc (hbit.trans h)
        rw [hidx]; unfold keepBit; simpa using (by omega : ¬ (keep >>> (k % 64)) % 2 = 1)
      refine walk ?_
      refine wq_round (k + 1, ons) ⟨by dsimp only; omega, ?_, hmem⟩ (by dsimp only; omega) envs perm
      dsimp only
      rw [htake, List.filter_append, List.filter_cons_of_neg (by simpa using hkb), List.filter_nil, List.append_nil]
      exact hlaid
  · refine walk ?_
    have hk' : k = s.waiting.length := by omega
    subst hk'
    rw [List.take_length] at hlaid
    have hon := hlaid.settled hf (fun i => keepBit keep (s.waiting.idxOf i)) (fun k r h => by rw [List.mem_filter, hmemw, h]; simp) (fun k hk => (hmemw k).1 (List.mem_filter.1 hk).1)
    refine wq_end0 rfl () rfl trivial ?_
    refine Ent.trans (Γ' := DCells d pp x s :: Sl x.onv 1 (ons.map (·.1)) :: Sl x.wv 1 (s.writes.map vi) :: MapI x.c [] :: Pool x.rows :: F) perm ?_
    exact (DiskAt.shut (s := s.cycle keep) { x with ons := ons, cs := [] } ⟨hf.ok.settle _, hon, rfl, hmem, (fun e he => by cases he)⟩)
end Go.Proofs.Ytapgejjjgeiihaa
end

section
/- The parts that are asked for, of many. No program. -/
namespace Go.Sl
open Go
/-- the parts that are asked for, in whichever order; the others are dropped -/
theorem permL {Γ Γ' : List HP} (h : Ent Γ Γ' := by (first | (with_reducible exact Ent.refl) | exact Ent.take (by (first | (with_reducible exact Ent.refl) | (with_reducible exact Ent.there Ent.refl) | (with_reducible exact Ent.there (Ent.there Ent.refl)) | (with_reducible exact Ent.there (Ent.there (Ent.there Ent.refl))) | (with_reducible exact Ent.there (Ent.there (Ent.there (Ent.there Ent.refl)))) | (with_reducible exact Ent.there (Ent.there (Ent.there (Ent.there (Ent.there Ent.refl))))) | (with_reducible exact Ent.there (Ent.there (Ent.there (Ent.there (Ent.there (Ent.there Ent.refl)))))) | (with_reducible exact Ent.there (Ent.there (Ent.there (Ent.there (Ent.there (Ent.there (Ent.there Ent.refl))))))) | (with_reducible exact Ent.there (Ent.there (Ent.there (Ent.there (Ent.there (Ent.there (Ent.there (Ent.there Ent.refl)))))))) | (with_reducible exact Ent.there (Ent.there (Ent.there (Ent.there (Ent.there (Ent.there (Ent.there (Ent.there (Ent.there Ent.refl))))))))) | (with_reducible exact Ent.there (Ent.there (Ent.there (Ent.there (Ent.there (Ent.there (Ent.there (Ent.there (Ent.there (Ent.there Ent.refl)))))))))) | (with_reducible exact Ent.there (Ent.there (Ent.there (Ent.there (Ent.there (Ent.there (Ent.there (Ent.there (Ent.there (Ent.there (Ent.there Ent.refl))))))))))) | (with_reducible exact Ent.there (Ent.there (Ent.there (Ent.there (Ent.there (Ent.there (Ent.there (Ent.there (Ent.there (Ent.there (Ent.there (Ent.there Ent.refl)))))))))))) | (with_reducible exact Ent.there (Ent.there (Ent.there (Ent.there (Ent.there (Ent.there (Ent.there (Ent.there (Ent.there (Ent.there (Ent.there (Ent.there (Ent.there Ent.refl))))))))))))) | (with_reducible exact Ent.there (Ent.there (Ent.there (Ent.there (Ent.there (Ent.there (Ent.there (Ent.there (Ent.there (Ent.there (Ent.there (Ent.there (Ent.there (Ent.there Ent.refl)))))))))))))) | (with_reducible exact Ent.there (Ent.there (Ent.there (Ent.there (Ent.there (Ent.there (Ent.there (Ent.there (Ent.there (Ent.there (Ent.there (Ent.there (Ent.there (Ent.there (Ent.there Ent.refl))))))))))))))) | (with_reducible exact Ent.there (Ent.there (Ent.there (Ent.there (Ent.there (Ent.there (Ent.there (Ent.there (Ent.there (Ent.there (Ent.there (Ent.there (Ent.there (Ent.there (Ent.there (Ent.there Ent.refl)))))))))))))))) | (with_reducible exact Ent.there (Ent.there (Ent.there (Ent.there (Ent.there (Ent.there (Ent.there (Ent.there (Ent.there (Ent.there (Ent.there (Ent.there (Ent.there (Ent.there (Ent.there (Ent.there (Ent.there Ent.refl))))))))))))))))) | (with_reducible exact Ent.there (Ent.there (Ent.there (Ent.there (Ent.there (Ent.there (Ent.there (Ent.there (Ent.there (Ent.there (Ent.there (Ent.there (Ent.there (Ent.there (Ent.there (Ent.there (Ent.there (Ent.there Ent.refl)))))))))))))))))) | (with_reducible exact Ent.there (Ent.there (Ent.there (Ent.there (Ent.there (Ent.there (Ent.there (Ent.there (Ent.there (Ent.there (Ent.there (Ent.there (Ent.there (Ent.there (Ent.there (Ent.there (Ent.there (Ent.there (Ent.there Ent.refl))))))))))))))))))) | (with_reducible exact Ent.there (Ent.there (Ent.there (Ent.there (Ent.there (Ent.there (Ent.there (Ent.there (Ent.there (Ent.there (Ent.there (Ent.there (Ent.there (Ent.there (Ent.there (Ent.there (Ent.there (Ent.there (Ent.there (Ent.there Ent.refl)))))))))))))))))))) | (with_reducible exact Ent.there (Ent.there (Ent.there (Ent.there (Ent.there (Ent.there (Ent.there (Ent.there (Ent.there (Ent.there (Ent.there (Ent.there (Ent.there (Ent.there (Ent.there (Ent.there (Ent.there (Ent.there (Ent.there (Ent.there (Ent.there Ent.refl))))))))))))))))))))))) (by (first | (with_reducible exact Ent.refl) | exact Ent.take (by (first | (with_reducible exact Ent.refl) | (with_reducible exact Ent.there Ent.refl) | (with_reducible exact Ent.there (Ent.there Ent.refl)) | (with_reducible exact Ent.there (Ent.there (Ent.there Ent.refl))) | (with_reducible exact Ent.there (Ent.there (Ent.there (Ent.there Ent.refl)))) | (with_reducible exact Ent.there (Ent.there (Ent.there (Ent.there (Ent.there Ent.refl))))) | (with_reducible exact Ent.there (Ent.there (Ent.there (Ent.there (Ent.there (Ent.there Ent.refl)))))) | (with_reducible exact Ent.there (Ent.there (Ent.there (Ent.there (Ent.there (Ent.there (Ent.there Ent.refl))))))) | (with_reducible exact Ent.there (Ent.there (Ent.there (Ent.there (Ent.there (Ent.there (Ent.there (Ent.there Ent.refl)))))))) | (with_reducible exact Ent.there (Ent.there (Ent.there (Ent.there (Ent.there (Ent.there (Ent.there (Ent.there (Ent.there Ent.refl))))))))) | (with_reducible exact Ent.there (Ent.there (Ent.there (Ent.there (Ent.there (Ent.there (Ent.there (Ent.there (Ent.there (Ent.there Ent.refl)))))))))) | (with_reducible exact Ent.there (Ent.there (Ent.there (Ent.there (Ent.there (Ent.there (Ent.there (Ent.there (Ent.there (Ent.there (Ent.there Ent.refl))))))))))) | (with_reducible exact Ent.there (Ent.there (Ent.there (Ent.there (Ent.there (Ent.there (Ent.there (Ent.there (Ent.there (Ent.there (Ent.there (Ent.there Ent.refl)))))))))))) | (with_reducible exact Ent.there (Ent.there (Ent.there (Ent.there (Ent.there (Ent.there (Ent.there (Ent.there (Ent.there (Ent.there (Ent.there (Ent.there (Ent.there Ent.refl))))))))))))) | (with_reducible exact Ent.there (Ent.there (Ent.there (Ent.there (Ent.there (Ent.there (Ent.there (Ent.there (Ent.there (Ent.there (Ent.there (Ent.there (Ent.there (Ent.there Ent.refl)))))))))))))) | (with_reducible exact Ent.there (Ent.there (Ent.there (Ent.there (Ent.there (Ent.there (Ent.there (Ent.there (Ent.there (Ent.there (Ent.there (Ent.there (Ent.there (Ent.there (Ent.there Ent.refl))))))))))))))) | (with_reducible exact Ent.there (Ent.there (Ent.there (Ent.there (Ent.there (Ent.there (Ent.there (Ent.there (Ent.there (Ent.there (Ent.there (Ent.there (Ent.there (Ent.there (Ent.there (Ent.there Ent.refl)))))))))))))))) | (with_reducible exact Ent.there (Ent.there (Ent.there (Ent.there (Ent.there (Ent.there (Ent.there (Ent.there (Ent.there (Ent.there (Ent.there (Ent.there (Ent.there (Ent.there (Ent.there (Ent.there (Ent.there Ent.refl))))))))))))))))) | (with_reducible exact Ent.there (Ent.there (Ent.there (Ent.there (Ent.there (Ent.there (Ent.there (Ent.there (Ent.there (Ent.there (Ent.there (Ent.there (Ent.there (Ent.there (Ent.there (Ent.there (Ent.there (Ent.there Ent.refl)))))))))))))))))) | (with_reducible exact Ent.there (Ent.there (Ent.there (Ent.there (Ent.there (Ent.there (Ent.there (Ent.there (Ent.there (Ent.there (Ent.there (Ent.there (Ent.there (Ent.there (Ent.there (Ent.there (Ent.there (Ent.there (Ent.there Ent.refl))))))))))))))))))) | (with_reducible exact Ent.there (Ent.there (Ent.there (Ent.there (Ent.there (Ent.there (Ent.there (Ent.there (Ent.there (Ent.there (Ent.there (Ent.there (Ent.there (Ent.there (Ent.there (Ent.there (Ent.there (Ent.there (Ent.there (Ent.there Ent.refl)))))))))))))))))))) | (with_reducible exact Ent.there (Ent.there (Ent.there (Ent.there (Ent.there (Ent.there (Ent.there (Ent.there (Ent.there (Ent.there (Ent.there (Ent.there (Ent.there (Ent.there (Ent.there (Ent.there (Ent.there (Ent.there (Ent.there (Ent.there (Ent.there Ent.refl))))))))))))))))))))))) (by (first | (with_reducible exact Ent.refl) | exact Ent.take (by (first | (with_reducible exact Ent.refl) | (with_reducible exact Ent.there Ent.refl) | (with_reducible exact Ent.there (Ent.there Ent.refl)) | (with_reducible exact Ent.there (Ent.there (Ent.there Ent.refl))) | (with_reducible exact Ent.there (Ent.there (Ent.there (Ent.there Ent.refl)))) | (with_reducible exact Ent.there (Ent.there (Ent.there (Ent.there (Ent.there Ent.refl))))) | (with_reducible exact Ent.there (Ent.there (Ent.there (Ent.there (Ent.there (Ent.there Ent.refl)))))) | (with_reducible exact Ent.there (Ent.there (Ent.there (Ent.there (Ent.there (Ent.there (Ent.there Ent.refl))))))) | (with_reducible exact Ent.there (Ent.there (Ent.there (Ent.there (Ent.there (Ent.there (Ent.there (Ent.there Ent.refl)))))))) | (with_reducible exact Ent.there (Ent.there (Ent.there (Ent.there (Ent.there (Ent.there (Ent.there (Ent.there (Ent.there Ent.refl))))))))) | (with_reducible exact Ent.there (Ent.there (Ent.there (Ent.there (Ent.there (Ent.there (Ent.there (Ent.there (Ent.there (Ent.there Ent.refl)))))))))) | (with_reducible exact Ent.there (Ent.there (Ent.there (Ent.there (Ent.there (Ent.there (Ent.there (Ent.there (Ent.there (Ent.there (Ent.there Ent.refl))))))))))) | (with_reducible exact Ent.there (Ent.there (Ent.there (Ent.there (Ent.there (Ent.there (Ent.there (Ent.there (Ent.there (Ent.there (Ent.there (Ent.there Ent.refl)))))))))))) | (with_reducible exact Ent.there (Ent.there (Ent.there (Ent.there (Ent.there (Ent.there (Ent.there (Ent.there (Ent.there (Ent.there (Ent.there (Ent.there (Ent.there Ent.refl))))))))))))) | (with_reducible exact Ent.there (Ent.there (Ent.there (Ent.there (Ent.there (Ent.there (Ent.there (Ent.there (Ent.there (Ent.there (Ent.there (Ent.there (Ent.there (Ent.there Ent.refl)))))))))))))) | (with_reducible exact Ent.there (Ent.there (Ent.there (Ent.there (Ent.there (Ent.there (Ent.there (Ent.there (Ent.there (Ent.there (Ent.there (Ent.there (Ent.there (Ent.there (Ent.there Ent.refl))))))))))))))) | (with_reducible exact Ent.there (Ent.there (Ent.there (Ent.there (Ent.there (Ent.there (Ent.there (Ent.there (Ent.there (Ent.there (Ent.there (Ent.there (Ent.there (Ent.there (Ent.there (Ent.there Ent.refl)))))))))))))))) | (with_reducible exact Ent.there (Ent.there (Ent.there (Ent.there (Ent.there (Ent.there (Ent.there (Ent.there (Ent.there (Ent.there (Ent.there (Ent.there (Ent.there (Ent.there (Ent.there (Ent.there (Ent.there Ent.refl))))))))))))))))) | (with_reducible exact Ent.there (Ent.there (Ent.there (Ent.there (Ent.there (Ent.there (Ent.there (Ent.there (Ent.there (Ent.there (Ent.there (Ent.there (Ent.there (Ent.there (Ent.there (Ent.there (Ent.there (Ent.there Ent.refl)))))))))))))))))) | (with_reducible exact Ent.there (Ent.there (Ent.there (Ent.there (Ent.there (Ent.there (Ent.there (Ent.there (Ent.there (Ent.there (Ent.there (Ent.there (Ent.there (Ent.there (Ent.there (Ent.there (Ent.there (Ent.there (Ent.there Ent.refl))))))))))))))))))) | (with_reducible exact Ent.there (Ent.there (Ent.there (Ent.there (Ent.there (Ent.there (Ent.there (Ent.there (Ent.there (Ent.there (Ent.there (Ent.there (Ent.there (Ent.there (Ent.there (Ent.there (Ent.there (Ent.there (Ent.there (Ent.there Ent.refl)))))))))))))))))))) | (with_reducible exact Ent.there (Ent.there (Ent.there (Ent.there (Ent.there (Ent.there (Ent.there (Ent.there (Ent.there (Ent.there (Ent.there (Ent.there (Ent.there (Ent.there (Ent.there (Ent.there (Ent.there (Ent.there (Ent.there (Ent.there (Ent.there Ent.refl))))))))))))))))))))))) (by (first | (with_reducible exact Ent.refl) | exact Ent.take (by (first | (with_reducible exact Ent.refl) | (with_reducible exact Ent.there Ent.refl) | (with_reducible exact Ent.there (Ent.there Ent.refl)) | (with_reducible exact Ent.there (Ent.there (Ent.there Ent.refl))) | (with_reducible exact Ent.there (Ent.there (Ent.there (Ent.there Ent.refl)))) | (with_reducible exact Ent.there (Ent.there (Ent.there (Ent.there (Ent.there Ent.refl))))) | (with_reducible exact Ent.there (Ent.there (Ent.there (Ent.there (Ent.there (Ent.there Ent.refl)))))) | (with_reducible exact Ent.there (Ent.there (Ent.there (Ent.there (Ent.there (Ent.there (Ent.there Ent.refl))))))) | (with_reducible exact Ent.there (Ent.there (Ent.there (Ent.there (Ent.there (Ent.there (Ent.there (Ent.there Ent.refl)))))))) | (with_reducible exact Ent.there (Ent.there (Ent.there (Ent.there (Ent.there (Ent.there (Ent.there (Ent.there (Ent.there Ent.refl))))))))) | (with_reducible exact Ent.there (Ent.there (Ent.there (Ent.there (Ent.there (Ent.there (Ent.there (Ent.there (Ent.there (Ent.there Ent.refl)))))))))) | (with_reducible exact Ent.there (Ent.there (Ent.there (Ent.there (Ent.there (Ent.there (Ent.there (Ent.there (Ent.there (Ent.there (Ent.there Ent.refl))))))))))) | (with_reducible exact Ent.there (Ent.there (Ent.there (Ent.there (Ent.there (Ent.there (Ent.there (Ent.there (Ent.there (Ent.there (Ent.there (Ent.there Ent.refl)))))))))))) | (with_reducible exact Ent.there (Ent.there (Ent.there (Ent.there (Ent.there (Ent.there (Ent.there (Ent.there (Ent.there (Ent.there (Ent.there (Ent.there (Ent.there Ent.refl))))))))))))) | (with_reducible exact Ent.there (Ent.there (Ent.there (Ent.there (Ent.there (Ent.there (Ent.there (Ent.there (Ent.there (Ent.there (Ent.there (Ent.there (Ent.there (Ent.there Ent.refl)))))))))))))) | (with_reducible exact Ent.there (Ent.there (Ent.there (Ent.there (Ent.there (Ent.there (Ent.there (Ent.there (Ent.there (Ent.there (Ent.there (Ent.there (Ent.there (Ent.there (Ent.there Ent.refl))))))))))))))) | (with_reducible exact Ent.there (Ent.there (Ent.there (Ent.there (Ent.there (Ent.there (Ent.there (Ent.there (Ent.there (Ent.there (Ent.there (Ent.there (Ent.there (Ent.there (Ent.there (Ent.there Ent.refl)))))))))))))))) | (with_reducible exact Ent.there (Ent.there (Ent.there (Ent.there (Ent.there (Ent.there (Ent.there (Ent.there (Ent.there (Ent.there (Ent.there (Ent.there (Ent.there (Ent.there (Ent.there (Ent.there (Ent.there Ent.refl))))))))))))))))) | (with_reducible exact Ent.there (Ent.there (Ent.there (Ent.there (Ent.there (Ent.there (Ent.there (Ent.there (Ent.there (Ent.there (Ent.there (Ent.there (Ent.there (Ent.there (Ent.there (Ent.there (Ent.there (Ent.there Ent.refl)))))))))))))))))) | (with_reducible exact Ent.there (Ent.there (Ent.there (Ent.there (Ent.there (Ent.there (Ent.there (Ent.there (Ent.there (Ent.there (Ent.there (Ent.there (Ent.there (Ent.there (Ent.there (Ent.there (Ent.there (Ent.there (Ent.there Ent.refl))))))))))))))))))) | (with_reducible exact Ent.there (Ent.there (Ent.there (Ent.there (Ent.there (Ent.there (Ent.there (Ent.there (Ent.there (Ent.there (Ent.there (Ent.there (Ent.there (Ent.there (Ent.there (Ent.there (Ent.there (Ent.there (Ent.there (Ent.there Ent.refl)))))))))))))))))))) | (with_reducible exact Ent.there (Ent.there (Ent.there (Ent.there (Ent.there (Ent.there (Ent.there (Ent.there (Ent.there (Ent.there (Ent.there (Ent.there (Ent.there (Ent.there (Ent.there (Ent.there (Ent.there (Ent.there (Ent.there (Ent.there (Ent.there Ent.refl))))))))))))))))))))))) (by (first | (with_reducible exact Ent.refl) | exact Ent.take (by (first | (with_reducible exact Ent.refl) | (with_reducible exact Ent.there Ent.refl) | (with_reducible exact Ent.there (Ent.there Ent.refl)) | (with_reducible exact Ent.there (Ent.there (Ent.there Ent.refl))) | (with_reducible exact Ent.there (Ent.there (Ent.there (Ent.there Ent.refl)))) | (with_reducible exact Ent.there (Ent.there (Ent.there (Ent.there (Ent.there Ent.refl))))) | (with_reducible exact Ent.there (Ent.there (Ent.there (Ent.there (Ent.there (Ent.there Ent.refl)))))) | (with_reducible exact Ent.there (Ent.there (Ent.there (Ent.there (Ent.there (Ent.there (Ent.there Ent.refl))))))) | (with_reducible exact Ent.there (Ent.there (Ent.there (Ent.there (Ent.there (Ent.there (Ent.there (Ent.there Ent.refl)))))))) | (with_reducible exact Ent.there (Ent.there (Ent.there (Ent.there (Ent.there (Ent.there (Ent.there (Ent.there (Ent.there Ent.refl))))))))) | (with_reducible exact Ent.there (Ent.there (Ent.there (Ent.there (Ent.there (Ent.there (Ent.there (Ent.there (Ent.there (Ent.there Ent.refl)))))))))) | (with_reducible exact Ent.there (Ent.there (Ent.there (Ent.there (Ent.there (Ent.there (Ent.there (Ent.there (Ent.there (Ent.there (Ent.there Ent.refl))))))))))) | (with_reducible exact Ent.there (Ent.there (Ent.there (Ent.there (Ent.there (Ent.there (Ent.there (Ent.there (Ent.there (Ent.there (Ent.there (Ent.there Ent.refl)))))))))))) | (with_reducible exact Ent.there (Ent.there (Ent.there (Ent.there (Ent.there (Ent.there (Ent.there (Ent.there (Ent.there (Ent.there (Ent.there (Ent.there (Ent.there Ent.refl))))))))))))) | (with_reducible exact Ent.there (Ent.there (Ent.there (Ent.there (Ent.there (Ent.there (Ent.there (Ent.there (Ent.there (Ent.there (Ent.there (Ent.there (Ent.there (Ent.there Ent.refl)))))))))))))) | (with_reducible exact Ent.there (Ent.there (Ent.there (Ent.there (Ent.there (Ent.there (Ent.there (Ent.there (Ent.there (Ent.there (Ent.there (Ent.there (Ent.there (Ent.there (Ent.there Ent.refl))))))))))))))) | (with_reducible exact Ent.there (Ent.there (Ent.there (Ent.there (Ent.there (Ent.there (Ent.there (Ent.there (Ent.there (Ent.there (Ent.there (Ent.there (Ent.there (Ent.there (Ent.there (Ent.there Ent.refl)))))))))))))))) | (with_reducible exact Ent.there (Ent.there (Ent.there (Ent.there (Ent.there (Ent.there (Ent.there (Ent.there (Ent.there (Ent.there (Ent.there (Ent.there (Ent.there (Ent.there (Ent.there (Ent.there (Ent.there Ent.refl))))))))))))))))) | (with_reducible exact Ent.there (Ent.there (Ent.there (Ent.there (Ent.there (Ent.there (Ent.there (Ent.there (Ent.there (Ent.there (Ent.there (Ent.there (Ent.there (Ent.there (Ent.there (Ent.there (Ent.there (Ent.there Ent.refl)))))))))))))))))) | (with_reducible exact Ent.there (Ent.there (Ent.there (Ent.there (Ent.there (Ent.there (Ent.there (Ent.there (Ent.there (Ent.there (Ent.there (Ent.there (Ent.there (Ent.there (Ent.there (Ent.there (Ent.there (Ent.there (Ent.there Ent.refl))))))))))))))))))) | (with_reducible exact Ent.there (Ent.there (Ent.there (Ent.there (Ent.there (Ent.there (Ent.there (Ent.there (Ent.there (Ent.there (Ent.there (Ent.there (Ent.there (Ent.there (Ent.there (Ent.there (Ent.there (Ent.there (Ent.there (Ent.there Ent.refl)))))))))))))))))))) | (with_reducible exact Ent.there (Ent.there (Ent.there (Ent.there (Ent.there (Ent.there (Ent.there (Ent.there (Ent.there (Ent.there (Ent.there (Ent.there (Ent.there (Ent.there (Ent.there (Ent.there (Ent.there (Ent.there (Ent.there (Ent.there (Ent.there Ent.refl))))))))))))))))))))))) (by (first | (with_reducible exact Ent.refl) | exact Ent.take (by (first | (with_reducible exact Ent.refl) | (with_reducible exact Ent.there Ent.refl) | (with_reducible exact Ent.there (Ent.there Ent.refl)) | (with_reducible exact Ent.there (Ent.there (Ent.there Ent.refl))) | (with_reducible exact Ent.there (Ent.there (Ent.there (Ent.there Ent.refl)))) | (with_reducible exact Ent.there (Ent.there (Ent.there (Ent.there (Ent.there Ent.refl))))) | (with_reducible exact Ent.there (Ent.there (Ent.there (Ent.there (Ent.there (Ent.there Ent.refl)))))) | (with_reducible exact Ent.there (Ent.there (Ent.there (Ent.there (Ent.there (Ent.there (Ent.there Ent.refl))))))) | (with_reducible exact Ent.there (Ent.there (Ent.there (Ent.there (Ent.there (Ent.there (Ent.there (Ent.there Ent.refl)))))))) | (with_reducible exact Ent.there (Ent.there (Ent.there (Ent.there (Ent.there (Ent.there (Ent.there (Ent.there (Ent.there Ent.refl))))))))) | (with_reducible exact Ent.there (Ent.there (Ent.there (Ent.there (Ent.there (Ent.there (Ent.there (Ent.there (Ent.there (Ent.there Ent.refl)))))))))) | (with_reducible exact Ent.there (Ent.there (Ent.there (Ent.there (Ent.there (Ent.there (Ent.there (Ent.there (Ent.there (Ent.there (Ent.there Ent.refl))))))))))) | (with_reducible exact Ent.there (Ent.there (Ent.there (Ent.there (Ent.there (Ent.there (Ent.there (Ent.there (Ent.there (Ent.there (Ent.there (Ent.there Ent.refl)))))))))))) | (with_reducible exact Ent.there (Ent.there (Ent.there (Ent.there (Ent.there (Ent.there (Ent.there (Ent.there (Ent.there (Ent.there (Ent.there (Ent.there (Ent.there Ent.refl))))))))))))) | (with_reducible exact Ent.there (Ent.there (Ent.there (Ent.there (Ent.there (Ent.there (Ent.there (Ent.there (Ent.there (Ent.there (Ent.there (Ent.there (Ent.there (Ent.there Ent.refl)))))))))))))) | (with_reducible exact Ent.there (Ent.there (Ent.there (Ent.there (Ent.there (Ent.there (Ent.there (Ent.there (Ent.there (Ent.there (Ent.there (Ent.there (Ent.there (Ent.there (Ent.there Ent.refl))))))))))))))) | (with_reducible exact Ent.there (Ent.there (Ent.there (Ent.there (Ent.there (Ent.there (Ent.there (Ent.there (Ent.there (Ent.there (Ent.there (Ent.there (Ent.there (Ent.there (Ent.there (Ent.there Ent.refl)))))))))))))))) | (with_reducible exact Ent.there (Ent.there (Ent.there (Ent.there (Ent.there (Ent.there (Ent.there (Ent.there (Ent.there (Ent.there (Ent.there (Ent.there (Ent.there (Ent.there (Ent.there (Ent.there (Ent.there Ent.refl))))))))))))))))) | (with_reducible exact Ent.there (Ent.there (Ent.there (Ent.there (Ent.there (Ent.there (Ent.there (Ent.there (Ent.there (Ent.there (Ent.there (Ent.there (Ent.there (Ent.there (Ent.there (Ent.there (Ent.there (Ent.there Ent.refl)))))))))))))))))) | (with_reducible exact Ent.there (Ent.there (Ent.there (Ent.there (Ent.there (Ent.there (Ent.there (Ent.there (Ent.there (Ent.there (Ent.there (Ent.there (Ent.there (Ent.there (Ent.there (Ent.there (Ent.there (Ent.there (Ent.there Ent.refl))))))))))))))))))) | (with_reducible exact Ent.there (Ent.there (Ent.there (Ent.there (Ent.there (Ent.there (Ent.there (Ent.there (Ent.there (Ent.there (Ent.there (Ent.there (Ent.there (Ent.there (Ent.there (Ent.there (Ent.there (Ent.there (Ent.there (Ent.there Ent.refl)))))))))))))))))))) | (with_reducible exact Ent.there (Ent.there (Ent.there (Ent.there (Ent.there (Ent.there (Ent.there (Ent.there (Ent.there (Ent.there (Ent.there (Ent.there (Ent.there (Ent.there (Ent.there (Ent.there (Ent.there (Ent.there (Ent.there (Ent.there (Ent.there Ent.refl))))))))))))))))))))))) (by (first | (with_reducible exact Ent.refl) | exact Ent.take (by (first | (with_reducible exact Ent.refl) | (with_reducible exact Ent.there Ent.refl) | (with_reducible exact Ent.there (Ent.there Ent.refl)) | (with_reducible exact Ent.there (Ent.there (Ent.there Ent.refl))) | (with_reducible exact Ent.there (Ent.there (Ent.there (Ent.there Ent.refl)))) | (with_reducible exact Ent.there (Ent.there (Ent.there (Ent.there (Ent.there Ent.refl))))) | (with_reducible exact Ent.there (Ent.there (Ent.there (Ent.there (Ent.there (Ent.there Ent.refl)))))) | (with_reducible exact Ent.there (Ent.there (Ent.there (Ent.there (Ent.there (Ent.there (Ent.there Ent.refl))))))) | (with_reducible exact Ent.there (Ent.there (Ent.there (Ent.there (Ent.there (Ent.there (Ent.there (Ent.there Ent.refl)))))))) | (with_reducible exact Ent.there (Ent.there (Ent.there (Ent.there (Ent.there (Ent.there (Ent.there (Ent.there (Ent.there Ent.refl))))))))) | (with_reducible exact Ent.there (Ent.there (Ent.there (Ent.there (Ent.there (Ent.there (Ent.there (Ent.there (Ent.there (Ent.there Ent.refl)))))))))) | (with_reducible exact Ent.there (Ent.there (Ent.there (Ent.there (Ent.there (Ent.there (Ent.there (Ent.there (Ent.there (Ent.there (Ent.there Ent.refl))))))))))) | (with_reducible exact Ent.there (Ent.there (Ent.there (Ent.there (Ent.there (Ent.there (Ent.there (Ent.there (Ent.there (Ent.there (Ent.there (Ent.there Ent.refl)))))))))))) | (with_reducible exact Ent.there (Ent.there (Ent.there (Ent.there (Ent.there (Ent.there (Ent.there (Ent.there (Ent.there (Ent.there (Ent.there (Ent.there (Ent.there Ent.refl))))))))))))) | (with_reducible exact Ent.there (Ent.there (Ent.there (Ent.there (Ent.there (Ent.there (Ent.there (Ent.there (Ent.there (Ent.there (Ent.there (Ent.there (Ent.there (Ent.there Ent.refl)))))))))))))) | (with_reducible exact Ent.there (Ent.there (Ent.there (Ent.there (Ent.there (Ent.there (Ent.there (Ent.there (Ent.there (Ent.there (Ent.there (Ent.there (Ent.there (Ent.there (Ent.there Ent.refl))))))))))))))) | (with_reducible exact Ent.there (Ent.there (Ent.there (Ent.there (Ent.there (Ent.there (Ent.there (Ent.there (Ent.there (Ent.there (Ent.there (Ent.there (Ent.there (Ent.there (Ent.there (Ent.there Ent.refl)))))))))))))))) | (with_reducible exact Ent.there (Ent.there (Ent.there (Ent.there (Ent.there (Ent.there (Ent.there (Ent.there (Ent.there (Ent.there (Ent.there (Ent.there (Ent.there (Ent.there (Ent.there (Ent.there (Ent.there Ent.refl))))))))))))))))) | (with_reducible exact Ent.there (Ent.there (Ent.there (Ent.there (Ent.there (Ent.there (Ent.there (Ent.there (Ent.there (Ent.there (Ent.there (Ent.there (Ent.there (Ent.there (Ent.there (Ent.there (Ent.there (Ent.there Ent.refl)))))))))))))))))) | (with_reducible exact Ent.there (Ent.there (Ent.there (Ent.there (Ent.there (Ent.there (Ent.there (Ent.there (Ent.there (Ent.there (Ent.there (Ent.there (Ent.there (Ent.there (Ent.there (Ent.there (Ent.there (Ent.there (Ent.there Ent.refl))))))))))))))))))) | (with_reducible exact Ent.there (Ent.there (Ent.there (Ent.there (Ent.there (Ent.there (Ent.there (Ent.there (Ent.there (Ent.there (Ent.there (Ent.there (Ent.there (Ent.there (Ent.there (Ent.there (Ent.there (Ent.there (Ent.there (Ent.there Ent.refl)))))))))))))))))))) | (with_reducible exact Ent.there (Ent.there (Ent.there (Ent.there (Ent.there (Ent.there (Ent.there (Ent.there (Ent.there (Ent.there (Ent.there (Ent.there (Ent.there (Ent.there (Ent.there (Ent.there (Ent.there (Ent.there (Ent.there (Ent.there (Ent.there Ent.refl))))))))))))))))))))))) (by (first | (with_reducible exact Ent.refl) | exact Ent.take (by (first | (with_reducible exact Ent.refl) | (with_reducible exact Ent.there Ent.refl) | (with_reducible exact Ent.there (Ent.there Ent.refl)) | (with_reducible exact Ent.there (Ent.there (Ent.there Ent.refl))) | (with_reducible exact Ent.there (Ent.there (Ent.there (Ent.there Ent.refl)))) | (with_reducible exact Ent.there (Ent.there (Ent.there (Ent.there (Ent.there Ent.refl))))) | (with_reducible exact Ent.there (Ent.there (Ent.there (Ent.there (Ent.there (Ent.there Ent.refl)))))) | (with_reducible exact Ent.there (Ent.there (Ent.there (Ent.there (Ent.there (Ent.there (Ent.there Ent.refl))))))) | (with_reducible exact Ent.there (Ent.there (Ent.there (Ent.there (Ent.there (Ent.there (Ent.there (Ent.there Ent.refl)))))))) | (with_reducible exact Ent.there (Ent.there (Ent.there (Ent.there (Ent.there (Ent.there (Ent.there (Ent.there (Ent.there Ent.refl))))))))) | (with_reducible exact Ent.there (Ent.there (Ent.there (Ent.there (Ent.there (Ent.there (Ent.there (Ent.there (Ent.there (Ent.there Ent.refl)))))))))) | (with_reducible exact Ent.there (Ent.there (Ent.there (Ent.there (Ent.there (Ent.there (Ent.there (Ent.there (Ent.there (Ent.there (Ent.there Ent.refl))))))))))) | (with_reducible exact Ent.there (Ent.there (Ent.there (Ent.there (Ent.there (Ent.there (Ent.there (Ent.there (Ent.there (Ent.there (Ent.there (Ent.there Ent.refl)))))))))))) | (with_reducible exact Ent.there (Ent.there (Ent.there (Ent.there (Ent.there (Ent.there (Ent.there (Ent.there (Ent.there (Ent.there (Ent.there (Ent.there (Ent.there Ent.refl))))))))))))) | (with_reducible exact Ent.there (Ent.there (Ent.there (Ent.there (Ent.there (Ent.there (Ent.there (Ent.there (Ent.there (Ent.there (Ent.there (Ent.there (Ent.there (Ent.there Ent.refl)))))))))))))) | (with_reducible exact Ent.there (Ent.there (Ent.there (Ent.there (Ent.there (Ent.there (Ent.there (Ent.there (Ent.there (Ent.there (Ent.there (Ent.there (Ent.there (Ent.there (Ent.there Ent.refl))))))))))))))) | (with_reducible exact Ent.there (Ent.there (Ent.there (Ent.there (Ent.there (Ent.there (Ent.there (Ent.there (Ent.there (Ent.there (Ent.there (Ent.there (Ent.there (Ent.there (Ent.there (Ent.there Ent.refl)))))))))))))))) | (with_reducible exact Ent.there (Ent.there (Ent.there (Ent.there (Ent.there (Ent.there (Ent.there (Ent.there (Ent.there (Ent.there (Ent.there (Ent.there (Ent.there (Ent.there (Ent.there (Ent.there (Ent.there Ent.refl))))))))))))))))) | (with_reducible exact Ent.there (Ent.there (Ent.there (Ent.there (Ent.there (Ent.there (Ent.there (Ent.there (Ent.there (Ent.there (Ent.there (Ent.there (Ent.there (Ent.there (Ent.there (Ent.there (Ent.there (Ent.there Ent.refl)))))))))))))))))) | (with_reducible exact Ent.there (Ent.there (Ent.there (Ent.there (Ent.there (Ent.there (Ent.there (Ent.there (Ent.there (Ent.there (Ent.there (Ent.there (Ent.there (Ent.there (Ent.there (Ent.there (Ent.there (Ent.there (Ent.there Ent.refl))))))))))))))))))) | (with_reducible exact Ent.there (Ent.there (Ent.there (Ent.there (Ent.there (Ent.there (Ent.there (Ent.there (Ent.there (Ent.there (Ent.there (Ent.there (Ent.there (Ent.there (Ent.there (Ent.there (Ent.there (Ent.there (Ent.there (Ent.there Ent.refl)))))))))))))))))))) | (with_reducible exact Ent.there (Ent.there (Ent.there (Ent.there (Ent.there (Ent.there (Ent.there (Ent.there (Ent.there (Ent.there (Ent.there (Ent.there (Ent.there (Ent.there (Ent.there (Ent.there (Ent.there (Ent.there (Ent.there (Ent.there (Ent.there Ent.refl))))))))))))))))))))))) (by (first | (with_reducible exact Ent.refl) | exact Ent.take (by (first | (with_reducible exact Ent.refl) | (with_reducible exact Ent.there Ent.refl) | (with_reducible exact Ent.there (Ent.there Ent.refl)) | (with_reducible exact Ent.there (Ent.there (Ent.there Ent.refl))) | (with_reducible exact Ent.there (Ent.there (Ent.there (Ent.there Ent.refl)))) | (with_reducible exact Ent.there (Ent.there (Ent.there (Ent.there (Ent.there Ent.refl))))) | (with_reducible exact Ent.there (Ent.there (Ent.there (Ent.there (Ent.there (Ent.there Ent.refl)))))) | (with_reducible exact Ent.there (Ent.there (Ent.there (Ent.there (Ent.there (Ent.there (Ent.there Ent.refl))))))) | (with_reducible exact Ent.there (Ent.there (Ent.there (Ent.there (Ent.there (Ent.there (Ent.there (Ent.there Ent.refl)))))))) | (with_reducible exact Ent.there (Ent.there (Ent.there (Ent.there (Ent.there (Ent.there (Ent.there (Ent.there (Ent.there Ent.refl))))))))) | (with_reducible exact Ent.there (Ent.there (Ent.there (Ent.there (Ent.there (Ent.there (Ent.there (Ent.there (Ent.there (Ent.there Ent.refl)))))))))) | (with_reducible exact Ent.there (Ent.there (Ent.there (Ent.there (Ent.there (Ent.there (Ent.there (Ent.there (Ent.there (Ent.there (Ent.there Ent.refl))))))))))) | (with_reducible exact Ent.there (Ent.there (Ent.there (Ent.there (Ent.there (Ent.there (Ent.there (Ent.there (Ent.there (Ent.there (Ent.there (Ent.there Ent.refl)))))))))))) | (with_reducible exact Ent.there (Ent.there (Ent.there (Ent.there (Ent.there (Ent.there (Ent.there (Ent.there (Ent.there (Ent.there (Ent.there (Ent.there (Ent.there Ent.refl))))))))))))) | (with_reducible exact Ent.there (Ent.there (Ent.there (Ent.there (Ent.there (Ent.there (Ent.there (Ent.there (Ent.there (Ent.there (Ent.there (Ent.there (Ent.there (Ent.there Ent.refl)))))))))))))) | (with_reducible exact Ent.there (Ent.there (Ent.there (Ent.there (Ent.there (Ent.there (Ent.there (Ent.there (Ent.there (Ent.there (Ent.there (Ent.there (Ent.there (Ent.there (Ent.there Ent.refl))))))))))))))) | (with_reducible exact Ent.there (Ent.there (Ent.there (Ent.there (Ent.there (Ent.there (Ent.there (Ent.there (Ent.there (Ent.there (Ent.there (Ent.there (Ent.there (Ent.there (Ent.there (Ent.there Ent.refl)))))))))))))))) | (with_reducible exact Ent.there (Ent.there (Ent.there (Ent.there (Ent.there (Ent.there (Ent.there (Ent.there (Ent.there (Ent.there (Ent.there (Ent.there (Ent.there (Ent.there (Ent.there (Ent.there (Ent.there Ent.refl))))))))))))))))) | (with_reducible exact Ent.there (Ent.there (Ent.there (Ent.there (Ent.there (Ent.there (Ent.there (Ent.there (Ent.there (Ent.there (Ent.there (Ent.there (Ent.there (Ent.there (Ent.there (Ent.there (Ent.there (Ent.there Ent.refl)))))))))))))))))) | (with_reducible exact Ent.there (Ent.there (Ent.there (Ent.there (Ent.there (Ent.there (Ent.there (Ent.there (Ent.there (Ent.there (Ent.there (Ent.there (Ent.there (Ent.there (Ent.there (Ent.there (Ent.there (Ent.there (Ent.there Ent.refl))))))))))))))))))) | (with_reducible exact Ent.there (Ent.there (Ent.there (Ent.there (Ent.there (Ent.there (Ent.there (Ent.there (Ent.there (Ent.there (Ent.there (Ent.there (Ent.there (Ent.there (Ent.there (Ent.there (Ent.there (Ent.there (Ent.there (Ent.there Ent.refl)))))))))))))))))))) | (with_reducible exact Ent.there (Ent.there (Ent.there (Ent.there (Ent.there (Ent.there (Ent.there (Ent.there (Ent.there (Ent.there (Ent.there (Ent.there (Ent.there (Ent.there (Ent.there (Ent.there (Ent.there (Ent.there (Ent.there (Ent.there (Ent.there Ent.refl))))))))))))))))))))))) (by (first | (with_reducible exact Ent.refl) | exact Ent.take (by (first | (with_reducible exact Ent.refl) | (with_reducible exact Ent.there Ent.refl) | (with_reducible exact Ent.there (Ent.there Ent.refl)) | (with_reducible exact Ent.there (Ent.there (Ent.there Ent.refl))) | (with_reducible exact Ent.there (Ent.there (Ent.there (Ent.there Ent.refl)))) | (with_reducible exact Ent.there (Ent.there (Ent.there (Ent.there (Ent.there Ent.refl))))) | (with_reducible exact Ent.there (Ent.there (Ent.there (Ent.there (Ent.there (Ent.there Ent.refl)))))) | (with_reducible exact Ent.there (Ent.there (Ent.there (Ent.there (Ent.there (Ent.there (Ent.there Ent.refl))))))) | (with_reducible exact Ent.there (Ent.there (Ent.there (Ent.there (Ent.there (Ent.there (Ent.there (Ent.there Ent.refl)))))))) | (with_reducible exact Ent.there (Ent.there (Ent.there (Ent.there (Ent.there (Ent.there (Ent.there (Ent.there (Ent.there Ent.refl))))))))) | (with_reducible exact Ent.there (Ent.there (Ent.there (Ent.there (Ent.there (Ent.there (Ent.there (Ent.there (Ent.there (Ent.there Ent.refl)))))))))) | (with_reducible exact Ent.there (Ent.there (Ent.there (Ent.there (Ent.there (Ent.there (Ent.there (Ent.there (Ent.there (Ent.there (Ent.there Ent.refl))))))))))) | (with_reducible exact Ent.there (Ent.there (Ent.there (Ent.there (Ent.there (Ent.there (Ent.there (Ent.there (Ent.there (Ent.there (Ent.there (Ent.there Ent.refl)))))))))))) | (with_reducible exact Ent.there (Ent.there (Ent.there (Ent.there (Ent.there (Ent.there (Ent.there (Ent.there (Ent.there (Ent.there (Ent.there (Ent.there (Ent.there Ent.refl))))))))))))) | (with_reducible exact Ent.there (Ent.there (Ent.there (Ent.there (Ent.there (Ent.there (Ent.there (Ent.there (Ent.there (Ent.there (Ent.there (Ent.there (Ent.there (Ent.there Ent.refl)))))))))))))) | (with_reducible exact Ent.there (Ent.there (Ent.there (Ent.there (Ent.there (Ent.there (Ent.there (Ent.there (Ent.there (Ent.there (Ent.there (Ent.there (Ent.there (Ent.there (Ent.there Ent.refl))))))))))))))) | (with_reducible exact Ent.there (Ent.there (Ent.there (Ent.there (Ent.there (Ent.there (Ent.there (Ent.there (Ent.there (Ent.there (Ent.there (Ent.there (Ent.there (Ent.there (Ent.there (Ent.there Ent.refl)))))))))))))))) | (with_reducible exact Ent.there (Ent.there (Ent.there (Ent.there (Ent.there (Ent.there (Ent.there (Ent.there (Ent.there (Ent.there (Ent.there (Ent.there (Ent.there (Ent.there (Ent.there (Ent.there (Ent.there Ent.refl))))))))))))))))) | (with_reducible exact Ent.there (Ent.there (Ent.there (Ent.there (Ent.there (Ent.there (Ent.there (Ent.there (Ent.there (Ent.there (Ent.there (Ent.there (Ent.there (Ent.there (Ent.there (Ent.there (Ent.there (Ent.there Ent.refl)))))))))))))))))) | (with_reducible exact Ent.there (Ent.there (Ent.there (Ent.there (Ent.there (Ent.there (Ent.there (Ent.there (Ent.there (Ent.there (Ent.there (Ent.there (Ent.there (Ent.there (Ent.there (Ent.there (Ent.there (Ent.there (Ent.there Ent.refl))))))))))))))))))) | (with_reducible exact Ent.there (Ent.there (Ent.there (Ent.there (Ent.there (Ent.there (Ent.there (Ent.there (Ent.there (Ent.there (Ent.there (Ent.there (Ent.there (Ent.there (Ent.there (Ent.there (Ent.there (Ent.there (Ent.there (Ent.there Ent.refl)))))))))))))))))))) | (with_reducible exact Ent.there (Ent.there (Ent.there (Ent.there (Ent.there (Ent.there (Ent.there (Ent.there (Ent.there (Ent.there (Ent.there (Ent.there (Ent.there (Ent.there (Ent.there (Ent.there (Ent.there (Ent.there (Ent.there (Ent.there (Ent.there Ent.refl))))))))))))))))))))))) (by (first | (with_reducible exact Ent.refl) | exact Ent.take (by (first | (with_reducible exact Ent.refl) | (with_reducible exact Ent.there Ent.refl) | (with_reducible exact Ent.there (Ent.there Ent.refl)) | (with_reducible exact Ent.there (Ent.there (Ent.there Ent.refl))) | (with_reducible exact Ent.there (Ent.there (Ent.there (Ent.there Ent.refl)))) | (with_reducible exact Ent.there (Ent.there (Ent.there (Ent.there (Ent.there Ent.refl))))) | (with_reducible exact Ent.there (Ent.there (Ent.there (Ent.there (Ent.there (Ent.there Ent.refl)))))) | (with_reducible exact Ent.there (Ent.there (Ent.there (Ent.there (Ent.there (Ent.there (Ent.there Ent.refl))))))) | (with_reducible exact Ent.there (Ent.there (Ent.there (Ent.there (Ent.there (Ent.there (Ent.there (Ent.there Ent.refl)))))))) | (with_reducible exact Ent.there (Ent.there (Ent.there (Ent.there (Ent.there (Ent.there (Ent.there (Ent.there (Ent.there Ent.refl))))))))) | (with_reducible exact Ent.there (Ent.there (Ent.there (Ent.there (Ent.there (Ent.there (Ent.there (Ent.there (Ent.there (Ent.there Ent.refl)))))))))) | (with_reducible exact Ent.there (Ent.there (Ent.there (Ent.there (Ent.there (Ent.there (Ent.there (Ent.there (Ent.there (Ent.there (Ent.there Ent.refl))))))))))) | (with_reducible exact Ent.there (Ent.there (Ent.there (Ent.there (Ent.there (Ent.there (Ent.there (Ent.there (Ent.there (Ent.there (Ent.there (Ent.there Ent.refl)))))))))))) | (with_reducible exact Ent.there (Ent.there (Ent.there (Ent.there (Ent.there (Ent.there (Ent.there (Ent.there (Ent.there (Ent.there (Ent.there (Ent.there (Ent.there Ent.refl))))))))))))) | (with_reducible exact Ent.there (Ent.there (Ent.there (Ent.there (Ent.there (Ent.there (Ent.there (Ent.there (Ent.there (Ent.there (Ent.there (Ent.there (Ent.there (Ent.there Ent.refl)))))))))))))) | (with_reducible exact Ent.there (Ent.there (Ent.there (Ent.there (Ent.there (Ent.there (Ent.there (Ent.there (Ent.there (Ent.there (Ent.there (Ent.there (Ent.there (Ent.there (Ent.there Ent.refl))))))))))))))) | (with_reducible exact Ent.there (Ent.there (Ent.there (Ent.there (Ent.there (Ent.there (Ent.there (Ent.there (Ent.there (Ent.there (Ent.there (Ent.there (Ent.there (Ent.there (Ent.there (Ent.there Ent.refl)))))))))))))))) | (with_reducible exact Ent.there (Ent.there (Ent.there (Ent.there (Ent.there (Ent.there (Ent.there (Ent.there (Ent.there (Ent.there (Ent.there (Ent.there (Ent.there (Ent.there (Ent.there (Ent.there (Ent.there Ent.refl))))))))))))))))) | (with_reducible exact Ent.there (Ent.there (Ent.there (Ent.there (Ent.there (Ent.there (Ent.there (Ent.there (Ent.there (Ent.there (Ent.there (Ent.there (Ent.there (Ent.there (Ent.there (Ent.there (Ent.there (Ent.there Ent.refl)))))))))))))))))) | (with_reducible exact Ent.there (Ent.there (Ent.there (Ent.there (Ent.there (Ent.there (Ent.there (Ent.there (Ent.there (Ent.there (Ent.there (Ent.there (Ent.there (Ent.there (Ent.there (Ent.there (Ent.there (Ent.there (Ent.there Ent.refl))))))))))))))))))) | (with_reducible exact Ent.there (Ent.there (Ent.there (Ent.there (Ent.there (Ent.there (Ent.there (Ent.there (Ent.there (Ent.there (Ent.there (Ent.there (Ent.there (Ent.there (Ent.there (Ent.there (Ent.there (Ent.there (Ent.there (Ent.there Ent.refl)))))))))))))))))))) | (with_reducible exact Ent.there (Ent.there (Ent.there (Ent.there (Ent.there (Ent.there (Ent.there (Ent.there (Ent.there (Ent.there (Ent.there (Ent.there (Ent.there (Ent.there (Ent.there (Ent.there (Ent.there (Ent.there (Ent.there (Ent.there (Ent.there Ent.refl))))))))))))))))))))))) (by (first | (with_reducible exact Ent.refl) | exact Ent.take (by (first | (with_reducible exact Ent.refl) | (with_reducible exact Ent.there Ent.refl) | (with_reducible exact Ent.there (Ent.there Ent.refl)) | (with_reducible exact Ent.there (Ent.there (Ent.there Ent.refl))) | (with_reducible exact Ent.there (Ent.there (Ent.there (Ent.there Ent.refl)))) | (with_reducible exact Ent.there (Ent.there (Ent.there (Ent.there (Ent.there Ent.refl))))) | (with_reducible exact Ent.there (Ent.there (Ent.there (Ent.there (Ent.there (Ent.there Ent.refl)))))) | (with_reducible exact Ent.there (Ent.there (Ent.there (Ent.there (Ent.there (Ent.there (Ent.there Ent.refl))))))) | (with_reducible exact Ent.there (Ent.there (Ent.there (Ent.there (Ent.there (Ent.there (Ent.there (Ent.there Ent.refl)))))))) | (with_reducible exact Ent.there (Ent.there (Ent.there (Ent.there (Ent.there (Ent.there (Ent.there (Ent.there (Ent.there Ent.refl))))))))) | (with_reducible exact Ent.there (Ent.there (Ent.there (Ent.there (Ent.there (Ent.there (Ent.there (Ent.there (Ent.there (Ent.there Ent.refl)))))))))) | (with_reducible exact Ent.there (Ent.there (Ent.there (Ent.there (Ent.there (Ent.there (Ent.there (Ent.there (Ent.there (Ent.there (Ent.there Ent.refl))))))))))) | (with_reducible exact Ent.there (Ent.there (Ent.there (Ent.there (Ent.there (Ent.there (Ent.there (Ent.there (Ent.there (Ent.there (Ent.there (Ent.there Ent.refl)))))))))))) | (with_reducible exact Ent.there (Ent.there (Ent.there (Ent.there (Ent.there (Ent.there (Ent.there (Ent.there (Ent.there (Ent.there (Ent.there (Ent.there (Ent.there Ent.refl))))))))))))) | (with_reducible exact Ent.there (Ent.there (Ent.there (Ent.there (Ent.there (Ent.there (Ent.there (Ent.there (Ent.there (Ent.there (Ent.there (Ent.there (Ent.there (Ent.there Ent.refl)))))))))))))) | (with_reducible exact Ent.there (Ent.there (Ent.there (Ent.there (Ent.there (Ent.there (Ent.there (Ent.there (Ent.there (Ent.there (Ent.there (Ent.there (Ent.there (Ent.there (Ent.there Ent.refl))))))))))))))) | (with_reducible exact Ent.there (Ent.there (Ent.there (Ent.there (Ent.there (Ent.there (Ent.there (Ent.there (Ent.there (Ent.there (Ent.there (Ent.there (Ent.there (Ent.there (Ent.there (Ent.there Ent.refl)))))))))))))))) | (with_reducible exact Ent.there (Ent.there (Ent.there (Ent.there (Ent.there (Ent.there (Ent.there (Ent.there (Ent.there (Ent.there (Ent.there (Ent.there (Ent.there (Ent.there (Ent.there (Ent.there (Ent.there Ent.refl))))))))))))))))) | (with_reducible exact Ent.there (Ent.there (Ent.there (Ent.there (Ent.there (Ent.there (Ent.there (Ent.there (Ent.there (Ent.there (Ent.there (Ent.there (Ent.there (Ent.there (Ent.there (Ent.there (Ent.there (Ent.there Ent.refl)))))))))))))))))) | (with_reducible exact Ent.there (Ent.there (Ent.there (Ent.there (Ent.there (Ent.there (Ent.there (Ent.there (Ent.there (Ent.there (Ent.there (Ent.there (Ent.there (Ent.there (Ent.there (Ent.there (Ent.there (Ent.there (Ent.there Ent.refl))))))))))))))))))) | (with_reducible exact Ent.there (Ent.there (Ent.there (Ent.there (Ent.there (Ent.there (Ent.there (Ent.there (Ent.there (Ent.there (Ent.there (Ent.there (Ent.there (Ent.there (Ent.there (Ent.there (Ent.there (Ent.there (Ent.there (Ent.there Ent.refl)))))))))))))))))))) | (with_reducible exact Ent.there (Ent.there (Ent.there (Ent.there (Ent.there (Ent.there (Ent.there (Ent.there (Ent.there (Ent.there (Ent.there (Ent.there (Ent.there (Ent.there (Ent.there (Ent.there (Ent.there (Ent.there (Ent.there (Ent.there (Ent.there Ent.refl))))))))))))))))))))))) (by (first | (with_reducible exact Ent.refl) | exact Ent.take (by (first | (with_reducible exact Ent.refl) | (with_reducible exact Ent.there Ent.refl) | (with_reducible exact Ent.there (Ent.there Ent.refl)) | (with_reducible exact Ent.there (Ent.there (Ent.there Ent.refl))) | (with_reducible exact Ent.there (Ent.there (Ent.there (Ent.there Ent.refl)))) | (with_reducible exact Ent.there (Ent.there (Ent.there (Ent.there (Ent.there Ent.refl))))) | (with_reducible exact Ent.there (Ent.there (Ent.there (Ent.there (Ent.there (Ent.there Ent.refl)))))) | (with_reducible exact Ent.there (Ent.there (Ent.there (Ent.there (Ent.there (Ent.there (Ent.there Ent.refl))))))) | (with_reducible exact Ent.there (Ent.there (Ent.there (Ent.there (Ent.there (Ent.there (Ent.there (Ent.there Ent.refl)))))))) | (with_reducible exact Ent.there (Ent.there (Ent.there (Ent.there (Ent.there (Ent.there (Ent.there (Ent.there (Ent.there Ent.refl))))))))) | (with_reducible exact Ent.there (Ent.there (Ent.there (Ent.there (Ent.there (Ent.there (Ent.there (Ent.there (Ent.there (Ent.there Ent.refl)))))))))) | (with_reducible exact Ent.there (Ent.there (Ent.there (Ent.there (Ent.there (Ent.there (Ent.there (Ent.there (Ent.there (Ent.there (Ent.there Ent.refl))))))))))) | (with_reducible exact Ent.there (Ent.there (Ent.there (Ent.there (Ent.there (Ent.there (Ent.there (Ent.there (Ent.there (Ent.there (Ent.there (Ent.there Ent.refl)))))))))))) | (with_reducible exact Ent.there (Ent.there (Ent.there (Ent.there (Ent.there (Ent.there (Ent.there (Ent.there (Ent.there (Ent.there (Ent.there (Ent.there (Ent.there Ent.refl))))))))))))) | (with_reducible exact Ent.there (Ent.there (Ent.there (Ent.there (Ent.there (Ent.there (Ent.there (Ent.there (Ent.there (Ent.there (Ent.there (Ent.there (Ent.there (Ent.there Ent.refl)))))))))))))) | (with_reducible exact Ent.there (Ent.there (Ent.there (Ent.there (Ent.there (Ent.there (Ent.there (Ent.there (Ent.there (Ent.there (Ent.there (Ent.there (Ent.there (Ent.there (Ent.there Ent.refl))))))))))))))) | (with_reducible exact Ent.there (Ent.there (Ent.there (Ent.there (Ent.there (Ent.there (Ent.there (Ent.there (Ent.there (Ent.there (Ent.there (Ent.there (Ent.there (Ent.there (Ent.there (Ent.there Ent.refl)))))))))))))))) | (with_reducible exact Ent.there (Ent.there (Ent.there (Ent.there (Ent.there (Ent.there (Ent.there (Ent.there (Ent.there (Ent.there (Ent.there (Ent.there (Ent.there (Ent.there (Ent.there (Ent.there (Ent.there Ent.refl))))))))))))))))) | (with_reducible exact Ent.there (Ent.there (Ent.there (Ent.there (Ent.there (Ent.there (Ent.there (Ent.there (Ent.there (Ent.there (Ent.there (Ent.there (Ent.there (Ent.there (Ent.there (Ent.there (Ent.there (Ent.there Ent.refl)))))))))))))))))) | (with_reducible exact Ent.there (Ent.there (Ent.there (Ent.there (Ent.there (Ent.there (Ent.there (Ent.there (Ent.there (Ent.there (Ent.there (Ent.there (Ent.there (Ent.there (Ent.there (Ent.there (Ent.there (Ent.there (Ent.there Ent.refl))))))))))))))))))) | (with_reducible exact Ent.there (Ent.there (Ent.there (Ent.there (Ent.there (Ent.there (Ent.there (Ent.there (Ent.there (Ent.there (Ent.there (Ent.there (Ent.there (Ent.there (Ent.there (Ent.there (Ent.there (Ent.there (Ent.there (Ent.there Ent.refl)))))))))))))))))))) | (with_reducible exact Ent.there (Ent.there (Ent.there (Ent.there (Ent.there (Ent.there (Ent.there (Ent.there (Ent.there (Ent.there (Ent.there (Ent.there (Ent.there (Ent.there (Ent.there (Ent.there (Ent.there (Ent.there (Ent.there (Ent.there (Ent.there Ent.refl))))))))))))))))))))))) (by (first | (with_reducible exact Ent.refl) | exact Ent.take (by (first | (with_reducible exact Ent.refl) | (with_reducible exact Ent.there Ent.refl) | (with_reducible exact Ent.there (Ent.there Ent.refl)) | (with_reducible exact Ent.there (Ent.there (Ent.there Ent.refl))) | (with_reducible exact Ent.there (Ent.there (Ent.there (Ent.there Ent.refl)))) | (with_reducible exact Ent.there (Ent.there (Ent.there (Ent.there (Ent.there Ent.refl))))) | (with_reducible exact Ent.there (Ent.there (Ent.there (Ent.there (Ent.there (Ent.there Ent.refl)))))) | (with_reducible exact Ent.there (Ent.there (Ent.there (Ent.there (Ent.there (Ent.there (Ent.there Ent.refl))))))) | (with_reducible exact Ent.there (Ent.there (Ent.there (Ent.there (Ent.there (Ent.there (Ent.there (Ent.there Ent.refl)))))))) | (with_reducible exact Ent.there (Ent.there (Ent.there (Ent.there (Ent.there (Ent.there (Ent.there (Ent.there (Ent.there Ent.refl))))))))) | (with_reducible exact Ent.there (Ent.there (Ent.there (Ent.there (Ent.there (Ent.there (Ent.there (Ent.there (Ent.there (Ent.there Ent.refl)))))))))) | (with_reducible exact Ent.there (Ent.there (Ent.there (Ent.there (Ent.there (Ent.there (Ent.there (Ent.there (Ent.there (Ent.there (Ent.there Ent.refl))))))))))) | (with_reducible exact Ent.there (Ent.there (Ent.there (Ent.there (Ent.there (Ent.there (Ent.there (Ent.there (Ent.there (Ent.there (Ent.there (Ent.there Ent.refl)))))))))))) | (with_reducible exact Ent.there (Ent.there (Ent.there (Ent.there (Ent.there (Ent.there (Ent.there (Ent.there (Ent.there (Ent.there (Ent.there (Ent.there (Ent.there Ent.refl))))))))))))) | (with_reducible exact Ent.there (Ent.there (Ent.there (Ent.there (Ent.there (Ent.there (Ent.there (Ent.there (Ent.there (Ent.there (Ent.there (Ent.there (Ent.there (Ent.there Ent.refl)))))))))))))) | (with_reducible exact Ent.there (Ent.there (Ent.there (Ent.there (Ent.there (Ent.there (Ent.there (Ent.there (Ent.there (Ent.there (Ent.there (Ent.there (Ent.there (Ent.there (Ent.there Ent.refl))))))))))))))) | (with_reducible exact Ent.there (Ent.there (Ent.there (Ent.there (Ent.there (Ent.there (Ent.there (Ent.there (Ent.there (Ent.there (Ent.there (Ent.there (Ent.there (Ent.there (Ent.there (Ent.there Ent.refl)))))))))))))))) | (with_reducible exact Ent.there (Ent.there (Ent.there (Ent.there (Ent.there (Ent.there (Ent.there (Ent.there (Ent.there (Ent.there (Ent.there (Ent.there (Ent.there (Ent.there (Ent.there (Ent.there (Ent.there Ent.refl))))))))))))))))) | (with_reducible exact Ent.there (Ent.there (Ent.there (Ent.there (Ent.there (Ent.there (Ent.there (Ent.there (Ent.there (Ent.there (Ent.there (Ent.there (Ent.there (Ent.there (Ent.there (Ent.there (Ent.there (Ent.there Ent.refl)))))))))))))))))) | (with_reducible exact Ent.there (Ent.there (Ent.there (Ent.there (Ent.there (Ent.there (Ent.there (Ent.there (Ent.there (Ent.there (Ent.there (Ent.there (Ent.there (Ent.there (Ent.there (Ent.there (Ent.there (Ent.there (Ent.there Ent.refl))))))))))))))))))) | (with_reducible exact Ent.there (Ent.there (Ent.there (Ent.there (Ent.there (Ent.there (Ent.there (Ent.there (Ent.there (Ent.there (Ent.there (Ent.there (Ent.there (Ent.there (Ent.there (Ent.there (Ent.there (Ent.there (Ent.there (Ent.there Ent.refl)))))))))))))))))))) | (with_reducible exact Ent.there (Ent.there (Ent.there (Ent.there (Ent.there (Ent.there (Ent.there (Ent.there (Ent.there (Ent.there (Ent.there (Ent.there (Ent.there (Ent.there (Ent.there (Ent.there (Ent.there (Ent.there (Ent.there (Ent.there (Ent.there Ent.refl))))))))))))))))))))))) (by (first | (with_reducible exact Ent.refl) | exact Ent.take (by (first | (with_reducible exact Ent.refl) | (with_reducible exact Ent.there Ent.refl) | (with_reducible exact Ent.there (Ent.there Ent.refl)) | (with_reducible exact Ent.there (Ent.there (Ent.there Ent.refl))) | (with_reducible exact Ent.there (Ent.there (Ent.there (Ent.there Ent.refl)))) | (with_reducible exact Ent.there (Ent.there (Ent.there (Ent.there (Ent.there Ent.refl))))) | (with_reducible exact Ent.there (Ent.there (Ent.there (Ent.there (Ent.there (Ent.there Ent.refl)))))) | (with_reducible exact Ent.there (Ent.there (Ent.there (Ent.there (Ent.there (Ent.there (Ent.there Ent.refl))))))) | (with_reducible exact Ent.there (Ent.there (Ent.there (Ent.there (Ent.there (Ent.there (Ent.there (Ent.there Ent.refl)))))))) | (with_reducible exact Ent.there (Ent.there (Ent.there (Ent.there (Ent.there (Ent.there (Ent.there (Ent.there (Ent.there Ent.refl))))))))) | (with_reducible exact Ent.there (Ent.there (Ent.there (Ent.there (Ent.there (Ent.there (Ent.there (Ent.there (Ent.there (Ent.there Ent.refl)))))))))) | (with_reducible exact Ent.there (Ent.there (Ent.there (Ent.there (Ent.there (Ent.there (Ent.there (Ent.there (Ent.there (Ent.there (Ent.there Ent.refl))))))))))) | (with_reducible exact Ent.there (Ent.there (Ent.there (Ent.there (Ent.there (Ent.there (Ent.there (Ent.there (Ent.there (Ent.there (Ent.there (Ent.there Ent.refl)))))))))))) | (with_reducible exact Ent.there (Ent.there (Ent.there (Ent.there (Ent.there (Ent.there (Ent.there (Ent.there (Ent.there (Ent.there (Ent.there (Ent.there (Ent.there Ent.refl))))))))))))) | (with_reducible exact Ent.there (Ent.there (Ent.there (Ent.there (Ent.there (Ent.there (Ent.there (Ent.there (Ent.there (Ent.there (Ent.there (Ent.there (Ent.there (Ent.there Ent.refl)))))))))))))) | (with_reducible exact Ent.there (Ent.there (Ent.there (Ent.there (Ent.there (Ent.there (Ent.there (Ent.there (Ent.there (Ent.there (Ent.there (Ent.there (Ent.there (Ent.there (Ent.there Ent.refl))))))))))))))) | (with_reducible exact Ent.there (Ent.there (Ent.there (Ent.there (Ent.there (Ent.there (Ent.there (Ent.there (Ent.there (Ent.there (Ent.there (Ent.there (Ent.there (Ent.there (Ent.there (Ent.there Ent.refl)))))))))))))))) | (with_reducible exact Ent.there (Ent.there (Ent.there (Ent.there (Ent.there (Ent.there (Ent.there (Ent.there (Ent.there (Ent.there (Ent.there (Ent.there (Ent.there (Ent.there (Ent.there (Ent.there (Ent.there Ent.refl))))))))))))))))) | (with_reducible exact Ent.there (Ent.there (Ent.there (Ent.there (Ent.there (Ent.there (Ent.there (Ent.there (Ent.there (Ent.there (Ent.there (Ent.there (Ent.there (Ent.there (Ent.there (Ent.there (Ent.there (Ent.there Ent.refl)))))))))))))))))) | (with_reducible exact Ent.there (Ent.there (Ent.there (Ent.there (Ent.there (Ent.there (Ent.there (Ent.there (Ent.there (Ent.there (Ent.there (Ent.there (Ent.there (Ent.there (Ent.there (Ent.there (Ent.there (Ent.there (Ent.there Ent.refl))))))))))))))))))) | (with_reducible exact Ent.there (Ent.there (Ent.there (Ent.there (Ent.there (Ent.there (Ent.there (Ent.there (Ent.there (Ent.there (Ent.there (Ent.there (Ent.there (Ent.there (Ent.there (Ent.there (Ent.there (Ent.there (Ent.there (Ent.there Ent.refl)))))))))))))))))))) | (with_reducible exact Ent.there (Ent.there (Ent.there (Ent.there (Ent.there (Ent.there (Ent.there (Ent.there (Ent.there (Ent.there (Ent.there (Ent.there (Ent.there (Ent.there (Ent.there (Ent.there (Ent.there (Ent.there (Ent.there (Ent.there (Ent.there Ent.refl))))))))))))))))))))))) (by (first | (with_reducible exact Ent.refl) | exact Ent.take (by (first | (with_reducible exact Ent.refl) | (with_reducible exact Ent.there Ent.refl) | (with_reducible exact Ent.there (Ent.there Ent.refl)) | (with_reducible exact Ent.there (Ent.there (Ent.there Ent.refl))) | (with_reducible exact Ent.there (Ent.there (Ent.there (Ent.there Ent.refl)))) | (with_reducible exact Ent.there (Ent.there (Ent.there (Ent.there (Ent.there Ent.refl))))) | (with_reducible exact Ent.there (Ent.there (Ent.there (Ent.there (Ent.there (Ent.there Ent.refl)))))) | (with_reducible exact Ent.there (Ent.there (Ent.there (Ent.there (Ent.there (Ent.there (Ent.there Ent.refl))))))) | (with_reducible exact Ent.there (Ent.there (Ent.there (Ent.there (Ent.there (Ent.there (Ent.there (Ent.there Ent.refl)))))))) | (with_reducible exact Ent.there (Ent.there (Ent.there (Ent.there (Ent.there (Ent.there (Ent.there (Ent.there (Ent.there Ent.refl))))))))) | (with_reducible exact Ent.there (Ent.there (Ent.there (Ent.there (Ent.there (Ent.there (Ent.there (Ent.there (Ent.there (Ent.there Ent.refl)))))))))) | (with_reducible exact Ent.there (Ent.there (Ent.there (Ent.there (Ent.there (Ent.there (Ent.there (Ent.there (Ent.there (Ent.there (Ent.there Ent.refl))))))))))) | (with_reducible exact Ent.there (Ent.there (Ent.there (Ent.there (Ent.there (Ent.there (Ent.there (Ent.there (Ent.there (Ent.there (Ent.there (Ent.there Ent.refl)))))))))))) | (with_reducible exact Ent.there (Ent.there (Ent.there (Ent.there (Ent.there (Ent.there (Ent.there (Ent.there (Ent.there (Ent.there (Ent.there (Ent.there (Ent.there Ent.refl))))))))))))) | (with_reducible exact Ent.there (Ent.there (Ent.there (Ent.there (Ent.there (Ent.there (Ent.there (Ent.there (Ent.there (Ent.there (Ent.there (Ent.there (Ent.there (Ent.there Ent.refl)))))))))))))) | (with_reducible exact Ent.there (Ent.there (Ent.there (Ent.there (Ent.there (Ent.there (Ent.there (Ent.there (Ent.there (Ent.there (Ent.there (Ent.there (Ent.there (Ent.there (Ent.there Ent.refl))))))))))))))) | (with_reducible exact Ent.there (Ent.there (Ent.there (Ent.there (Ent.there (Ent.there (Ent.there (Ent.there (Ent.there (Ent.there (Ent.there (Ent.there (Ent.there (Ent.there (Ent.there (Ent.there Ent.refl)))))))))))))))) | (with_reducible exact Ent.there (Ent.there (Ent.there (Ent.there (Ent.there (Ent.there (Ent.there (Ent.there (Ent.there (Ent.there (Ent.there (Ent.there (Ent.there (Ent.there (Ent.there (Ent.there (Ent.there Ent.refl))))))))))))))))) | (with_reducible exact Ent.there (Ent.there (Ent.there (Ent.there (Ent.there (Ent.there (Ent.there (Ent.there (Ent.there (Ent.there (Ent.there (Ent.there (Ent.there (Ent.there (Ent.there (Ent.there (Ent.there (Ent.there Ent.refl)))))))))))))))))) | (with_reducible exact Ent.there (Ent.there (Ent.there (Ent.there (Ent.there (Ent.there (Ent.there (Ent.there (Ent.there (Ent.there (Ent.there (Ent.there (Ent.there (Ent.there (Ent.there (Ent.there (Ent.there (Ent.there (Ent.there Ent.refl))))))))))))))))))) | (with_reducible exact Ent.there (Ent.there (Ent.there (Ent.there (Ent.there (Ent.there (Ent.there (Ent.there (Ent.there (Ent.there (Ent.there (Ent.there (Ent.there (Ent.there (Ent.there (Ent.there (Ent.there (Ent.there (Ent.there (Ent.there Ent.refl)))))))))))))))))))) | (with_reducible exact Ent.there (Ent.there (Ent.there (Ent.there (Ent.there (Ent.there (Ent.there (Ent.there (Ent.there (Ent.there (Ent.there (Ent.there (Ent.there (Ent.there (Ent.there (Ent.there (Ent.there (Ent.there (Ent.there (Ent.there (Ent.there Ent.refl))))))))))))))))))))))) (by (first | (with_reducible exact Ent.refl) | exact Ent.take (by (first | (with_reducible exact Ent.refl) | (with_reducible exact Ent.there Ent.refl) | (with_reducible exact Ent.there (Ent.there Ent.refl)) | (with_reducible exact Ent.there (Ent.there (Ent.there Ent.refl))) | (with_reducible exact Ent.there (Ent.there (Ent.there (Ent.there Ent.refl)))) | (with_reducible exact Ent.there (Ent.there (Ent.there (Ent.there (Ent.there Ent.refl))))) | (with_reducible exact Ent.there (Ent.there (Ent.there (Ent.there (Ent.there (Ent.there Ent.refl)))))) | (with_reducible exact Ent.there (Ent.there (Ent.there (Ent.there (Ent.there (Ent.there (Ent.there Ent.refl))))))) | (with_reducible exact Ent.there (Ent.there (Ent.there (Ent.there (Ent.there (Ent.there (Ent.there (Ent.there Ent.refl)))))))) | (with_reducible exact Ent.there (Ent.there (Ent.there (Ent.there (Ent.there (Ent.there (Ent.there (Ent.there (Ent.there Ent.refl))))))))) | (with_reducible exact Ent.there (Ent.there (Ent.there (Ent.there (Ent.there (Ent.there (Ent.there (Ent.there (Ent.there (Ent.there Ent.refl)))))))))) | (with_reducible exact Ent.there (Ent.there (Ent.there (Ent.there (Ent.there (Ent.there (Ent.there (Ent.there (Ent.there (Ent.there (Ent.there Ent.refl))))))))))) | (with_reducible exact Ent.there (Ent.there (Ent.there (Ent.there (Ent.there (Ent.there (Ent.there (Ent.there (Ent.there (Ent.there (Ent.there (Ent.there Ent.refl)))))))))))) | (with_reducible exact Ent.there (Ent.there (Ent.there (Ent.there (Ent.there (Ent.there (Ent.there (Ent.there (Ent.there (Ent.there (Ent.there (Ent.there (Ent.there Ent.refl))))))))))))) | (with_reducible exact Ent.there (Ent.there (Ent.there (Ent.there (Ent.there (Ent.there (Ent.there (Ent.there (Ent.there (Ent.there (Ent.there (Ent.there (Ent.there (Ent.there Ent.refl)))))))))))))) | (with_reducible exact Ent.there (Ent.there (Ent.there (Ent.there (Ent.there (Ent.there (Ent.there (Ent.there (Ent.there (Ent.there (Ent.there (Ent.there (Ent.there (Ent.there (Ent.there Ent.refl))))))))))))))) | (with_reducible exact Ent.there (Ent.there (Ent.there (Ent.there (Ent.there (Ent.there (Ent.there (Ent.there (Ent.there (Ent.there (Ent.there (Ent.there (Ent.there (Ent.there (Ent.there (Ent.there Ent.refl)))))))))))))))) | (with_reducible exact Ent.there (Ent.there (Ent.there (Ent.there (Ent.there (Ent.there (Ent.there (Ent.there (Ent.there (Ent.there (Ent.there (Ent.there (Ent.there (Ent.there (Ent.there (Ent.there (Ent.there Ent.refl))))))))))))))))) | (with_reducible exact Ent.there (Ent.there (Ent.there (Ent.there (Ent.there (Ent.there (Ent.there (Ent.there (Ent.there (Ent.there (Ent.there (Ent.there (Ent.there (Ent.there (Ent.there (Ent.there (Ent.there (Ent.there Ent.refl)))))))))))))))))) | (with_reducible exact Ent.there (Ent.there (Ent.there (Ent.there (Ent.there (Ent.there (Ent.there (Ent.there (Ent.there (Ent.there (Ent.there (Ent.there (Ent.there (Ent.there (Ent.there (Ent.there (Ent.there (Ent.there (Ent.there Ent.refl))))))))))))))))))) | (with_reducible exact Ent.there (Ent.there (Ent.there (Ent.there (Ent.there (Ent.there (Ent.there (Ent.there (Ent.there (Ent.there (Ent.there (Ent.there (Ent.there (Ent.there (Ent.there (Ent.there (Ent.there (Ent.there (Ent.there (Ent.there Ent.refl)))))))))))))))))))) | (with_reducible exact Ent.there (Ent.there (Ent.there (Ent.there (Ent.there (Ent.there (Ent.there (Ent.there (Ent.there (Ent.there (Ent.there (Ent.there (Ent.there (Ent.there (Ent.there (Ent.there (Ent.there (Ent.there (Ent.there (Ent.there (Ent.there Ent.refl))))))))))))))))))))))) (by (first | (with_reducible exact Ent.refl) | exact Ent.take (by (first | (with_reducible exact Ent.refl) | (with_reducible exact Ent.there Ent.refl) | (with_reducible exact Ent.there (Ent.there Ent.refl)) | (with_reducible exact Ent.there (Ent.there (Ent.there Ent.refl))) | (with_reducible exact Ent.there (Ent.there (Ent.there (Ent.there Ent.refl)))) | (with_reducible exact Ent.there (Ent.there (Ent.there (Ent.there (Ent.there Ent.refl))))) | (with_reducible exact Ent.there (Ent.there (Ent.there (Ent.there (Ent.there (Ent.there Ent.refl)))))) | (with_reducible exact Ent.there (Ent.there (Ent.there (Ent.there (Ent.there (Ent.there (Ent.there Ent.refl))))))) | (with_reducible exact Ent.there (Ent.there (Ent.there (Ent.there (Ent.there (Ent.there (Ent.there (Ent.there Ent.refl)))))))) | (with_reducible exact Ent.there (Ent.there (Ent.there (Ent.there (Ent.there (Ent.there (Ent.there (Ent.there (Ent.there Ent.refl))))))))) | (with_reducible exact Ent.there (Ent.there (Ent.there (Ent.there (Ent.there (Ent.there (Ent.there (Ent.there (Ent.there (Ent.there Ent.refl)))))))))) | (with_reducible exact Ent.there (Ent.there (Ent.there (Ent.there (Ent.there (Ent.there (Ent.there (Ent.there (Ent.there (Ent.there (Ent.there Ent.refl))))))))))) | (with_reducible exact Ent.there (Ent.there (Ent.there (Ent.there (Ent.there (Ent.there (Ent.there (Ent.there (Ent.there (Ent.there (Ent.there (Ent.there Ent.refl)))))))))))) | (with_reducible exact Ent.there (Ent.there (Ent.there (Ent.there (Ent.there (Ent.there (Ent.there (Ent.there (Ent.there (Ent.there (Ent.there (Ent.there (Ent.there Ent.refl))))))))))))) | (with_reducible exact Ent.there (Ent.there (Ent.there (Ent.there (Ent.there (Ent.there (Ent.there (Ent.there (Ent.there (Ent.there (Ent.there (Ent.there (Ent.there (Ent.there Ent.refl)))))))))))))) | (with_reducible exact Ent.there (Ent.there (Ent.there (Ent.there (Ent.there (Ent.there (Ent.there (Ent.there (Ent.there (Ent.there (Ent.there (Ent.there (Ent.there (Ent.there (Ent.there Ent.refl))))))))))))))) | (with_reducible exact Ent.there (Ent.there (Ent.there (Ent.there (Ent.there (Ent.there (Ent.there (Ent.there (Ent.there (Ent.there (Ent.there (Ent.there (Ent.there (Ent.there (Ent.there (Ent.there Ent.refl)))))))))))))))) | (with_reducible exact Ent.there (Ent.there (Ent.there (Ent.there (Ent.there (Ent.there (Ent.there (Ent.there (Ent.there (Ent.there (Ent.there (Ent.there (Ent.there (Ent.there (Ent.there (Ent.there (Ent.there Ent.refl))))))))))))))))) | (with_reducible exact Ent.there (Ent.there (Ent.there (Ent.there (Ent.there (Ent.there (Ent.there (Ent.there (Ent.there (Ent.there (Ent.there (Ent.there (Ent.there (Ent.there (Ent.there (Ent.there (Ent.there (Ent.there Ent.refl)))))))))))))))))) | (with_reducible exact Ent.there (Ent.there (Ent.there (Ent.there (Ent.there (Ent.there (Ent.there (Ent.there (Ent.there (Ent.there (Ent.there (Ent.there (Ent.there (Ent.there (Ent.there (Ent.there (Ent.there (Ent.there (Ent.there Ent.refl))))))))))))))))))) | (with_reducible exact Ent.there (Ent.there (Ent.there (Ent.there (Ent.there (Ent.there (Ent.there (Ent.there (Ent.there (Ent.there (Ent.there (Ent.there (Ent.there (Ent.there (Ent.there (Ent.there (Ent.there (Ent.there (Ent.there (Ent.there Ent.refl)))))))))))))))))))) | (with_reducible exact Ent.there (Ent.there (Ent.there (Ent.there (Ent.there (Ent.there (Ent.there (Ent.there (Ent.there (Ent.there (Ent.there (Ent.there (Ent.there (Ent.there (Ent.there (Ent.there (Ent.there (Ent.there (Ent.there (Ent.there (Ent.there Ent.refl))))))))))))))))))))))) (by (repeat (first | (with_reducible exact Ent.refl) | exact Ent.nil | refine Ent.drop ?_))) | (repeat (first | (with_reducible exact Ent.refl) | exact Ent.nil | refine Ent.drop ?_)))) | (repeat (first | (with_reducible exact Ent.refl) | exact Ent.nil | refine Ent.drop ?_)))) | (repeat (first | (with_reducible exact Ent.refl) | exact Ent.nil | refine Ent.drop ?_)))) | (repeat (first | (with_reducible exact Ent.refl) | exact Ent.nil | refine Ent.drop ?_)))) | (repeat (first | (with_reducible exact Ent.refl) | exact Ent.nil | refine Ent.drop ?_)))) | (repeat (first | (with_reducible exact Ent.refl) | exact Ent.nil | refine Ent.drop ?_)))) | (repeat (first | (with_reducible exact Ent.refl) | exact Ent.nil | refine Ent.drop ?_)))) | (repeat (first | (with_reducible exact Ent.refl) | exact Ent.nil | refine Ent.drop ?_)))) | (repeat (first | (with_reducible exact Ent.refl) | exact Ent.nil | refine Ent.drop ?_)))) | (repeat (first | (with_reducible exact Ent.refl) | exact Ent.nil | refine Ent.drop ?_)))) | (repeat (first | (with_reducible exact Ent.refl) | exact Ent.nil | refine Ent.drop ?_)))) | (repeat (first | (with_reducible exact Ent.refl) | exact Ent.nil | refine Ent.drop ?_)))) | (repeat (first | (with_reducible exact Ent.refl) | exact Ent.nil | refine Ent.drop ?_)))) | (repeat (first | (with_reducible exact Ent.refl) | exact Ent.nil | refine Ent.drop ?_)))) | (repeat (first | (with_reducible exact Ent.refl) | exact Ent.nil | refine Ent.drop ?_)))) | (repeat (first | (with_reducible exact Ent.refl) | exact Ent.nil | refine Ent.drop ?_)))) | (repeat (first | (with_reducible exact Ent.refl) | exact Ent.nil | refine Ent.drop ?_)))) | (repeat (first | (with_reducible exact Ent.refl) | exact Ent.nil | refine Ent.drop ?_)))) : Ent Γ Γ' := h
/-- .. found among those that there are -/
theorem frameL {Γ Γ' : List HP} (h : Ent Γ Γ' := by (first | (with_reducible exact Ent.refl) | exact Ent.take (by (first | (with_reducible exact Ent.refl) | (with_reducible exact Ent.there Ent.refl) | (with_reducible exact Ent.there (Ent.there Ent.refl)) | (with_reducible exact Ent.there (Ent.there (Ent.there Ent.refl))) | (with_reducible exact Ent.there (Ent.there (Ent.there (Ent.there Ent.refl)))) | (with_reducible exact Ent.there (Ent.there (Ent.there (Ent.there (Ent.there Ent.refl))))) | (with_reducible exact Ent.there (Ent.there (Ent.there (Ent.there (Ent.there (Ent.there Ent.refl)))))) | (with_reducible exact Ent.there (Ent.there (Ent.there (Ent.there (Ent.there (Ent.there (Ent.there Ent.refl))))))) | (with_reducible exact Ent.there (Ent.there (Ent.there (Ent.there (Ent.there (Ent.there (Ent.there (Ent.there Ent.refl)))))))) | (with_reducible exact Ent.there (Ent.there (Ent.there (Ent.there (Ent.there (Ent.there (Ent.there (Ent.there (Ent.there Ent.refl))))))))) | (with_reducible exact Ent.there (Ent.there (Ent.there (Ent.there (Ent.there (Ent.there (Ent.there (Ent.there (Ent.there (Ent.there Ent.refl)))))))))) | (with_reducible exact Ent.there (Ent.there (Ent.there (Ent.there (Ent.there (Ent.there (Ent.there (Ent.there (Ent.there (Ent.there (Ent.there Ent.refl))))))))))) | (with_reducible exact Ent.there (Ent.there (Ent.there (Ent.there (Ent.there (Ent.there (Ent.there (Ent.there (Ent.there (Ent.there (Ent.there (Ent.there Ent.refl)))))))))))) | (with_reducible exact Ent.there (Ent.there (Ent.there (Ent.there (Ent.there (Ent.there (Ent.there (Ent.there (Ent.there (Ent.there (Ent.there (Ent.there (Ent.there Ent.refl))))))))))))) | (with_reducible exact Ent.there (Ent.there (Ent.there (Ent.there (Ent.there (Ent.there (Ent.there (Ent.there (Ent.there (Ent.there (Ent.there (Ent.there (Ent.there (Ent.there Ent.refl)))))))))))))) | (with_reducible exact Ent.there (Ent.there (Ent.there (Ent.there (Ent.there (Ent.there (Ent.there (Ent.there (Ent.there (Ent.there (Ent.there (Ent.there (Ent.there (Ent.there (Ent.there Ent.refl))))))))))))))) | (with_reducible exact Ent.there (Ent.there (Ent.there (Ent.there (Ent.there (Ent.there (Ent.there (Ent.there (Ent.there (Ent.there (Ent.there (Ent.there (Ent.there (Ent.there (Ent.there (Ent.there Ent.refl)))))))))))))))) | (with_reducible exact Ent.there (Ent.there (Ent.there (Ent.there (Ent.there (Ent.there (Ent.there (Ent.there (Ent.there (Ent.there (Ent.there (Ent.there (Ent.there (Ent.there (Ent.there (Ent.there (Ent.there Ent.refl))))))))))))))))) | (with_reducible exact Ent.there (Ent.there (Ent.there (Ent.there (Ent.there (Ent.there (Ent.there (Ent.there (Ent.there (Ent.there (Ent.there (Ent.there (Ent.there (Ent.there (Ent.there (Ent.there (Ent.there (Ent.there Ent.refl)))))))))))))))))) | (with_reducible exact Ent.there (Ent.there (Ent.there (Ent.there (Ent.there (Ent.there (Ent.there (Ent.there (Ent.there (Ent.there (Ent.there (Ent.there (Ent.there (Ent.there (Ent.there (Ent.there (Ent.there (Ent.there (Ent.there Ent.refl))))))))))))))))))) | (with_reducible exact Ent.there (Ent.there (Ent.there (Ent.there (Ent.there (Ent.there (Ent.there (Ent.there (Ent.there (Ent.there (Ent.there (Ent.there (Ent.there (Ent.there (Ent.there (Ent.there (Ent.there (Ent.there (Ent.there (Ent.there Ent.refl)))))))))))))))))))) | (with_reducible exact Ent.there (Ent.there (Ent.there (Ent.there (Ent.there (Ent.there (Ent.there (Ent.there (Ent.there (Ent.there (Ent.there (Ent.there (Ent.there (Ent.there (Ent.there (Ent.there (Ent.there (Ent.there (Ent.there (Ent.there (Ent.there Ent.refl))))))))))))))))))))))) (by (first | (with_reducible exact Ent.refl) | exact Ent.take (by (first | (with_reducible exact Ent.refl) | (with_reducible exact Ent.there Ent.refl) | (with_reducible exact Ent.there (Ent.there Ent.refl)) | (with_reducible exact Ent.there (Ent.there (Ent.there Ent.refl))) | (with_reducible exact Ent.there (Ent.there (Ent.there (Ent.there Ent.refl)))) | (with_reducible exact Ent.there (Ent.there (Ent.there (Ent.there (Ent.there Ent.refl))))) | (with_reducible exact Ent.there (Ent.there (Ent.there (Ent.there (Ent.there (Ent.there Ent.refl)))))) | (with_reducible exact Ent.there (Ent.there (Ent.there (Ent.there (Ent.there (Ent.there (Ent.there Ent.refl))))))) | (with_reducible exact Ent.there (Ent.there (Ent.there (Ent.there (Ent.there (Ent.there (Ent.there (Ent.there Ent.refl)))))))) | (with_reducible exact Ent.there (Ent.there (Ent.there (Ent.there (Ent.there (Ent.there (Ent.there (Ent.there (Ent.there Ent.refl))))))))) | (with_reducible exact Ent.there (Ent.there (Ent.there (Ent.there (Ent.there (Ent.there (Ent.there (Ent.there (Ent.there (Ent.there Ent.refl)))))))))) | (with_reducible exact Ent.there (Ent.there (Ent.there (Ent.there (Ent.there (Ent.there (Ent.there (Ent.there (Ent.there (Ent.there (Ent.there Ent.refl))))))))))) | (with_reducible exact Ent.there (Ent.there (Ent.there (Ent.there (Ent.there (Ent.there (Ent.there (Ent.there (Ent.there (Ent.there (Ent.there (Ent.there Ent.refl)))))))))))) | (with_reducible exact Ent.there (Ent.there (Ent.there (Ent.there (Ent.there (Ent.there (Ent.there (Ent.there (Ent.there (Ent.there (Ent.there (Ent.there (Ent.there Ent.refl))))))))))))) | (with_reducible exact Ent.there (Ent.there (Ent.there (Ent.there (Ent.there (Ent.there (Ent.there (Ent.there (Ent.there (Ent.there (Ent.there (Ent.there (Ent.there (Ent.there Ent.refl)))))))))))))) | (with_reducible exact Ent.there (Ent.there (Ent.there (Ent.there (Ent.there (Ent.there (Ent.there (Ent.there (Ent.there (Ent.there (Ent.there (Ent.there (Ent.there (Ent.there (Ent.there Ent.refl))))))))))))))) | (with_reducible exact Ent.there (Ent.there (Ent.there (Ent.there (Ent.there (Ent.there (Ent.there (Ent.there (Ent.there (Ent.there (Ent.there (Ent.there (Ent.there (Ent.there (Ent.there (Ent.there Ent.refl)))))))))))))))) | (with_reducible exact Ent.there (Ent.there (Ent.there (Ent.there (Ent.there (Ent.there (Ent.there (Ent.there (Ent.there (Ent.there (Ent.there (Ent.there (Ent.there (Ent.there (Ent.there (Ent.there (Ent.there Ent.refl))))))))))))))))) | (with_reducible exact Ent.there (Ent.there (Ent.there (Ent.there (Ent.there (Ent.there (Ent.there (Ent.there (Ent.there (Ent.there (Ent.there (Ent.there (Ent.there (Ent.there (Ent.there (Ent.there (Ent.there (Ent.there Ent.refl)))))))))))))))))) | (with_reducible exact Ent.there (Ent.there (Ent.there (Ent.there (Ent.there (Ent.there (Ent.there (Ent.there (Ent.there (Ent.there (Ent.there (Ent.there (Ent.there (Ent.there (Ent.there (Ent.there (Ent.there (Ent.there (Ent.there Ent.refl))))))))))))))))))) | (with_reducible exact Ent.there (Ent.there (Ent.there (Ent.there (Ent.there (Ent.there (Ent.there (Ent.there (Ent.there (Ent.there (Ent.there (Ent.there (Ent.there (Ent.there (Ent.there (Ent.there (Ent.there (Ent.there (Ent.there (Ent.there Ent.refl)))))))))))))))))))) | (with_reducible exact Ent.there (Ent.there (Ent.there (Ent.there (Ent.there (Ent.there (Ent.there (Ent.there (Ent.there (Ent.there (Ent.there (Ent.there (Ent.there (Ent.there (Ent.there (Ent.there (Ent.there (Ent.there (Ent.there (Ent.there (Ent.there Ent.refl))))))))))))))))))))))) (by (first | (with_reducible exact Ent.refl) | exact Ent.take (by (first | (with_reducible exact Ent.refl) | (with_reducible exact Ent.there Ent.refl) | (with_reducible exact Ent.there (Ent.there Ent.refl)) | (with_reducible exact Ent.there (Ent.there (Ent.there Ent.refl))) | (with_reducible exact Ent.there (Ent.there (Ent.there (Ent.there Ent.refl)))) | (with_reducible exact Ent.there (Ent.there (Ent.there (Ent.there (Ent.there Ent.refl))))) | (with_reducible exact Ent.there (Ent.there (Ent.there (Ent.there (Ent.there (Ent.there Ent.refl)))))) | (with_reducible exact Ent.there (Ent.there (Ent.there (Ent.there (Ent.there (Ent.there (Ent.there Ent.refl))))))) | (with_reducible exact Ent.there (Ent.there (Ent.there (Ent.there (Ent.there (Ent.there (Ent.there (Ent.there Ent.refl)))))))) | (with_reducible exact Ent.there (Ent.there (Ent.there (Ent.there (Ent.there (Ent.there (Ent.there (Ent.there (Ent.there Ent.refl))))))))) | (with_reducible exact Ent.there (Ent.there (Ent.there (Ent.there (Ent.there (Ent.there (Ent.there (Ent.there (Ent.there (Ent.there Ent.refl)))))))))) | (with_reducible exact Ent.there (Ent.there (Ent.there (Ent.there (Ent.there (Ent.there (Ent.there (Ent.there (Ent.there (Ent.there (Ent.there Ent.refl))))))))))) | (with_reducible exact Ent.there (Ent.there (Ent.there (Ent.there (Ent.there (Ent.there (Ent.there (Ent.there (Ent.there (Ent.there (Ent.there (Ent.there Ent.refl)))))))))))) | (with_reducible exact Ent.there (Ent.there (Ent.there (Ent.there (Ent.there (Ent.there (Ent.there (Ent.there (Ent.there (Ent.there (Ent.there (Ent.there (Ent.there Ent.refl))))))))))))) | (with_reducible exact Ent.there (Ent.there (Ent.there (Ent.there (Ent.there (Ent.there (Ent.there (Ent.there (Ent.there (Ent.there (Ent.there (Ent.there (Ent.there (Ent.there Ent.refl)))))))))))))) | (with_reducible exact Ent.there (Ent.there (Ent.there (Ent.there (Ent.there (Ent.there (Ent.there (Ent.there (Ent.there (Ent.there (Ent.there (Ent.there (Ent.there (Ent.there (Ent.there Ent.refl))))))))))))))) | (with_reducible exact Ent.there (Ent.there (Ent.there (Ent.there (Ent.there (Ent.there (Ent.there (Ent.there (Ent.there (Ent.there (Ent.there (Ent.there (Ent.there (Ent.there (Ent.there (Ent.there Ent.refl)))))))))))))))) | (with_reducible exact Ent.there (Ent.there (Ent.there (Ent.there (Ent.there (Ent.there (Ent.there (Ent.there (Ent.there (Ent.there (Ent.there (Ent.there (Ent.there (Ent.there (Ent.there (Ent.there (Ent.there Ent.refl))))))))))))))))) | (with_reducible exact Ent.there (Ent.there (Ent.there (Ent.there (Ent.there (Ent.there (Ent.there (Ent.there (Ent.there (Ent.there (Ent.there (Ent.there (Ent.there (Ent.there (Ent.there (Ent.there (Ent.there (Ent.there Ent.refl)))))))))))))))))) | (with_reducible exact Ent.there (Ent.there (Ent.there (Ent.there (Ent.there (Ent.there (Ent.there (Ent.there (Ent.there (Ent.there (Ent.there (Ent.there (Ent.there (Ent.there (Ent.there (Ent.there (Ent.there (Ent.there (Ent.there Ent.refl))))))))))))))))))) | (with_reducible exact Ent.there (Ent.there (Ent.there (Ent.there (Ent.there (Ent.there (Ent.there (Ent.there (Ent.there (Ent.there (Ent.there (Ent.there (Ent.there (Ent.there (Ent.there (Ent.there (Ent.there (Ent.there (Ent.there (Ent.there Ent.refl)))))))))))))))))))) | (with_reducible exact Ent.there (Ent.there (Ent.there (Ent.there (Ent.there (Ent.there (Ent.there (Ent.there (Ent.there (Ent.there (Ent.there (Ent.there (Ent.there (Ent.there (Ent.there (Ent.there (Ent.there (Ent.there (Ent.there (Ent.there (Ent.there Ent.refl))))))))))))))))))))))) (by (first | (with_reducible exact Ent.refl) | exact Ent.take (by (first | (with_reducible exact Ent.refl) | (with_reducible exact Ent.there Ent.refl) | (with_reducible exact Ent.there (Ent.there Ent.refl)) | (with_reducible exact Ent.there (Ent.there (Ent.there Ent.refl))) | (with_reducible exact Ent.there (Ent.there (Ent.there (Ent.there Ent.refl)))) | (with_reducible exact Ent.there (Ent.there (Ent.there (Ent.there (Ent.there Ent.refl))))) | (with_reducible exact Ent.there (Ent.there (Ent.there (Ent.there (Ent.there (Ent.there Ent.refl)))))) | (with_reducible exact Ent.there (Ent.there (Ent.there (Ent.there (Ent.there (Ent.there (Ent.there Ent.refl))))))) | (with_reducible exact Ent.there (Ent.there (Ent.there (Ent.there (Ent.there (Ent.there (Ent.there (Ent.there Ent.refl)))))))) | (with_reducible exact Ent.there (Ent.there (Ent.there (Ent.there (Ent.there (Ent.there (Ent.there (Ent.there (Ent.there Ent.refl))))))))) | (with_reducible exact Ent.there (Ent.there (Ent.there (Ent.there (Ent.there (Ent.there (Ent.there (Ent.there (Ent.there (Ent.there Ent.refl)))))))))) | (with_reducible exact Ent.there (Ent.there (Ent.there (Ent.there (Ent.there (Ent.there (Ent.there (Ent.there (Ent.there (Ent.there (Ent.there Ent.refl))))))))))) | (with_reducible exact Ent.there (Ent.there (Ent.there (Ent.there (Ent.there (Ent.there (Ent.there (Ent.there (Ent.there (Ent.there (Ent.there (Ent.there Ent.refl)))))))))))) | (with_reducible exact Ent.there (Ent.there (Ent.there (Ent.there (Ent.there (Ent.there (Ent.there (Ent.there (Ent.there (Ent.there (Ent.there (Ent.there (Ent.there Ent.refl))))))))))))) | (with_reducible exact Ent.there (Ent.there (Ent.there (Ent.there (Ent.there (Ent.there (Ent.there (Ent.there (Ent.there (Ent.there (Ent.there (Ent.there (Ent.there (Ent.there Ent.refl)))))))))))))) | (with_reducible exact Ent.there (Ent.there (Ent.there (Ent.there (Ent.there (Ent.there (Ent.there (Ent.there (Ent.there (Ent.there (Ent.there (Ent.there (Ent.there (Ent.there (Ent.there Ent.refl))))))))))))))) | (with_reducible exact Ent.there (Ent.there (Ent.there (Ent.there (Ent.there (Ent.there (Ent.there (Ent.there (Ent.there (Ent.there (Ent.there (Ent.there (Ent.there (Ent.there (Ent.there (Ent.there Ent.refl)))))))))))))))) | (with_reducible exact Ent.there (Ent.there (Ent.there (Ent.there (Ent.there (Ent.there (Ent.there (Ent.there (Ent.there (Ent.there (Ent.there (Ent.there (Ent.there (Ent.there (Ent.there (Ent.there (Ent.there Ent.refl))))))))))))))))) | (with_reducible exact Ent.there (Ent.there (Ent.there (Ent.there (Ent.there (Ent.there (Ent.there (Ent.there (Ent.there (Ent.there (Ent.there (Ent.there (Ent.there (Ent.there (Ent.there (Ent.there (Ent.there (Ent.there Ent.refl)))))))))))))))))) | (with_reducible exact Ent.there (Ent.there (Ent.there (Ent.there (Ent.there (Ent.there (Ent.there (Ent.there (Ent.there (Ent.there (Ent.there (Ent.there (Ent.there (Ent.there (Ent.there (Ent.there (Ent.there (Ent.there (Ent.there Ent.refl))))))))))))))))))) | (with_reducible exact Ent.there (Ent.there (Ent.there (Ent.there (Ent.there (Ent.there (Ent.there (Ent.there (Ent.there (Ent.there (Ent.there (Ent.there (Ent.there (Ent.there (Ent.there (Ent.there (Ent.there (Ent.there (Ent.there (Ent.there Ent.refl)))))))))))))))))))) | (with_reducible exact Ent.there (Ent.there (Ent.there (Ent.there (Ent.there (Ent.there (Ent.there (Ent.there (Ent.there (Ent.there (Ent.there (Ent.there (Ent.there (Ent.there (Ent.there (Ent.there (Ent.there (Ent.there (Ent.there (Ent.there (Ent.there Ent.refl))))))))))))))))))))))) (by (first | (with_reducible exact Ent.refl) | exact Ent.take (by (first | (with_reducible exact Ent.refl) | (with_reducible exact Ent.there Ent.refl) | (with_reducible exact Ent.there (Ent.there Ent.refl)) | (with_reducible exact Ent.there (Ent.there (Ent.there Ent.refl))) | (with_reducible exact Ent.there (Ent.there (Ent.there (Ent.there Ent.refl)))) | (with_reducible exact Ent.there (Ent.there (Ent.there (Ent.there (Ent.there Ent.refl))))) | (with_reducible exact Ent.there (Ent.there (Ent.there (Ent.there (Ent.there (Ent.there Ent.refl)))))) | (with_reducible exact Ent.there (Ent.there (Ent.there (Ent.there (Ent.there (Ent.there (Ent.there Ent.refl))))))) | (with_reducible exact Ent.there (Ent.there (Ent.there (Ent.there (Ent.there (Ent.there (Ent.there (Ent.there Ent.refl)))))))) | (with_reducible exact Ent.there (Ent.there (Ent.there (Ent.there (Ent.there (Ent.there (Ent.there (Ent.there (Ent.there Ent.refl))))))))) | (with_reducible exact Ent.there (Ent.there (Ent.there (Ent.there (Ent.there (Ent.there (Ent.there (Ent.there (Ent.there (Ent.there Ent.refl)))))))))) | (with_reducible exact Ent.there (Ent.there (Ent.there (Ent.there (Ent.there (Ent.there (Ent.there (Ent.there (Ent.there (Ent.there (Ent.there Ent.refl))))))))))) | (with_reducible exact Ent.there (Ent.there (Ent.there (Ent.there (Ent.there (Ent.there (Ent.there (Ent.there (Ent.there (Ent.there (Ent.there (Ent.there Ent.refl)))))))))))) | (with_reducible exact Ent.there (Ent.there (Ent.there (Ent.there (Ent.there (Ent.there (Ent.there (Ent.there (Ent.there (Ent.there (Ent.there (Ent.there (Ent.there Ent.refl))))))))))))) | (with_reducible exact Ent.there (Ent.there (Ent.there (Ent.there (Ent.there (Ent.there (Ent.there (Ent.there (Ent.there (Ent.there (Ent.there (Ent.there (Ent.there (Ent.there Ent.refl)))))))))))))) | (with_reducible exact Ent.there (Ent.there (Ent.there (Ent.there (Ent.there (Ent.there (Ent.there (Ent.there (Ent.there (Ent.there (Ent.there (Ent.there (Ent.there (Ent.there (Ent.there Ent.refl))))))))))))))) | (with_reducible exact Ent.there (Ent.there (Ent.there (Ent.there (Ent.there (Ent.there (Ent.there (Ent.there (Ent.there (Ent.there (Ent.there (Ent.there (Ent.there (Ent.there (Ent.there (Ent.there Ent.refl)))))))))))))))) | (with_reducible exact Ent.there (Ent.there (Ent.there (Ent.there (Ent.there (Ent.there (Ent.there (Ent.there (Ent.there (Ent.there (Ent.there (Ent.there (Ent.there (Ent.there (Ent.there (Ent.there (Ent.there Ent.refl))))))))))))))))) | (with_reducible exact Ent.there (Ent.there (Ent.there (Ent.there (Ent.there (Ent.there (Ent.there (Ent.there (Ent.there (Ent.there (Ent.there (Ent.there (Ent.there (Ent.there (Ent.there (Ent.there (Ent.there (Ent.there Ent.refl)))))))))))))))))) | (with_reducible exact Ent.there (Ent.there (Ent.there (Ent.there (Ent.there (Ent.there (Ent.there (Ent.there (Ent.there (Ent.there (Ent.there (Ent.there (Ent.there (Ent.there (Ent.there (Ent.there (Ent.there (Ent.there (Ent.there Ent.refl))))))))))))))))))) | (with_reducible exact Ent.there (Ent.there (Ent.there (Ent.there (Ent.there (Ent.there (Ent.there (Ent.there (Ent.there (Ent.there (Ent.there (Ent.there (Ent.there (Ent.there (Ent.there (Ent.there (Ent.there (Ent.there (Ent.there (Ent.there Ent.refl)))))))))))))))))))) | (with_reducible exact Ent.there (Ent.there (Ent.there (Ent.there (Ent.there (Ent.there (Ent.there (Ent.there (Ent.there (Ent.there (Ent.there (Ent.there (Ent.there (Ent.there (Ent.there (Ent.there (Ent.there (Ent.there (Ent.there (Ent.there (Ent.there Ent.refl))))))))))))))))))))))) (by (first | (with_reducible exact Ent.refl) | exact Ent.take (by (first | (with_reducible exact Ent.refl) | (with_reducible exact Ent.there Ent.refl) | (with_reducible exact Ent.there (Ent.there Ent.refl)) | (with_reducible exact Ent.there (Ent.there (Ent.there Ent.refl))) | (with_reducible exact Ent.there (Ent.there (Ent.there (Ent.there Ent.refl)))) | (with_reducible exact Ent.there (Ent.there (Ent.there (Ent.there (Ent.there Ent.refl))))) | (with_reducible exact Ent.there (Ent.there (Ent.there (Ent.there (Ent.there (Ent.there Ent.refl)))))) | (with_reducible exact Ent.there (Ent.there (Ent.there (Ent.there (Ent.there (Ent.there (Ent.there Ent.refl))))))) | (with_reducible exact Ent.there (Ent.there (Ent.there (Ent.there (Ent.there (Ent.there (Ent.there (Ent.there Ent.refl)))))))) | (with_reducible exact Ent.there (Ent.there (Ent.there (Ent.there (Ent.there (Ent.there (Ent.there (Ent.there (Ent.there Ent.refl))))))))) | (with_reducible exact Ent.there (Ent.there (Ent.there (Ent.there (Ent.there (Ent.there (Ent.there (Ent.there (Ent.there (Ent.there Ent.refl)))))))))) | (with_reducible exact Ent.there (Ent.there (Ent.there (Ent.there (Ent.there (Ent.there (Ent.there (Ent.there (Ent.there (Ent.there (Ent.there Ent.refl))))))))))) | (with_reducible exact Ent.there (Ent.there (Ent.there (Ent.there (Ent.there (Ent.there (Ent.there (Ent.there (Ent.there (Ent.there (Ent.there (Ent.there Ent.refl)))))))))))) | (with_reducible exact Ent.there (Ent.there (Ent.there (Ent.there (Ent.there (Ent.there (Ent.there (Ent.there (Ent.there (Ent.there (Ent.there (Ent.there (Ent.there Ent.refl))))))))))))) | (with_reducible exact Ent.there (Ent.there (Ent.there (Ent.there (Ent.there (Ent.there (Ent.there (Ent.there (Ent.there (Ent.there (Ent.there (Ent.there (Ent.there (Ent.there Ent.refl)))))))))))))) | (with_reducible exact Ent.there (Ent.there (Ent.there (Ent.there (Ent.there (Ent.there (Ent.there (Ent.there (Ent.there (Ent.there (Ent.there (Ent.there (Ent.there (Ent.there (Ent.there Ent.refl))))))))))))))) | (with_reducible exact Ent.there (Ent.there (Ent.there (Ent.there (Ent.there (Ent.there (Ent.there (Ent.there (Ent.there (Ent.there (Ent.there (Ent.there (Ent.there (Ent.there (Ent.there (Ent.there Ent.refl)))))))))))))))) | (with_reducible exact Ent.there (Ent.there (Ent.there (Ent.there (Ent.there (Ent.there (Ent.there (Ent.there (Ent.there (Ent.there (Ent.there (Ent.there (Ent.there (Ent.there (Ent.there (Ent.there (Ent.there Ent.refl))))))))))))))))) | (with_reducible exact Ent.there (Ent.there (Ent.there (Ent.there (Ent.there (Ent.there (Ent.there (Ent.there (Ent.there (Ent.there (Ent.there (Ent.there (Ent.there (Ent.there (Ent.there (Ent.there (Ent.there (Ent.there Ent.refl)))))))))))))))))) | (with_reducible exact Ent.there (Ent.there (Ent.there (Ent.there (Ent.there (Ent.there (Ent.there (Ent.there (Ent.there (Ent.there (Ent.there (Ent.there (Ent.there (Ent.there (Ent.there (Ent.there (Ent.there (Ent.there (Ent.there Ent.refl))))))))))))))))))) | (with_reducible exact Ent.there (Ent.there (Ent.there (Ent.there (Ent.there (Ent.there (Ent.there (Ent.there (Ent.there (Ent.there (Ent.there (Ent.there (Ent.there (Ent.there (Ent.there (Ent.there (Ent.there (Ent.there (Ent.there (Ent.there Ent.refl)))))))))))))))))))) | (with_reducible exact Ent.there (Ent.there (Ent.there (Ent.there (Ent.there (Ent.there (Ent.there (Ent.there (Ent.there (Ent.there (Ent.there (Ent.there (Ent.there (Ent.there (Ent.there (Ent.there (Ent.there (Ent.there (Ent.there (Ent.there (Ent.there Ent.refl))))))))))))))))))))))) (by (first | (with_reducible exact Ent.refl) | exact Ent.take (by (first | (with_reducible exact Ent.refl) | (with_reducible exact Ent.there Ent.refl) | (with_reducible exact Ent.there (Ent.there Ent.refl)) | (with_reducible exact Ent.there (Ent.there (Ent.there Ent.refl))) | (with_reducible exact Ent.there (Ent.there (Ent.there (Ent.there Ent.refl)))) | (with_reducible exact Ent.there (Ent.there (Ent.there (Ent.there (Ent.there Ent.refl))))) | (with_reducible exact Ent.there (Ent.there (Ent.there (Ent.there (Ent.there (Ent.there Ent.refl)))))) | (with_reducible exact Ent.there (Ent.there (Ent.there (Ent.there (Ent.there (Ent.there (Ent.there Ent.refl))))))) | (with_reducible exact Ent.there (Ent.there (Ent.there (Ent.there (Ent.there (Ent.there (Ent.there (Ent.there Ent.refl)))))))) | (with_reducible exact Ent.there (Ent.there (Ent.there (Ent.there (Ent.there (Ent.there (Ent.there (Ent.there (Ent.there Ent.refl))))))))) | (with_reducible exact Ent.there (Ent.there (Ent.there (Ent.there (Ent.there (Ent.there (Ent.there (Ent.there (Ent.there (Ent.there Ent.refl)))))))))) | (with_reducible exact Ent.there (Ent.there (Ent.there (Ent.there (Ent.there (Ent.there (Ent.there (Ent.there (Ent.there (Ent.there (Ent.there Ent.refl))))))))))) | (with_reducible exact Ent.there (Ent.there (Ent.there (Ent.there (Ent.there (Ent.there (Ent.there (Ent.there (Ent.there (Ent.there (Ent.there (Ent.there Ent.refl)))))))))))) | (with_reducible exact Ent.there (Ent.there (Ent.there (Ent.there (Ent.there (Ent.there (Ent.there (Ent.there (Ent.there (Ent.there (Ent.there (Ent.there (Ent.there Ent.refl))))))))))))) | (with_reducible exact Ent.there (Ent.there (Ent.there (Ent.there (Ent.there (Ent.there (Ent.there (Ent.there (Ent.there (Ent.there (Ent.there (Ent.there (Ent.there (Ent.there Ent.refl)))))))))))))) | (with_reducible exact Ent.there (Ent.there (Ent.there (Ent.there (Ent.there (Ent.there (Ent.there (Ent.there (Ent.there (Ent.there (Ent.there (Ent.there (Ent.there (Ent.there (Ent.there Ent.refl))))))))))))))) | (with_reducible exact Ent.there (Ent.there (Ent.there (Ent.there (Ent.there (Ent.there (Ent.there (Ent.there (Ent.there (Ent.there (Ent.there (Ent.there (Ent.there (Ent.there (Ent.there (Ent.there Ent.refl)))))))))))))))) | (with_reducible exact Ent.there (Ent.there (Ent.there (Ent.there (Ent.there (Ent.there (Ent.there (Ent.there (Ent.there (Ent.there (Ent.there (Ent.there (Ent.there (Ent.there (Ent.there (Ent.there (Ent.there Ent.refl))))))))))))))))) | (with_reducible exact Ent.there (Ent.there (Ent.there (Ent.there (Ent.there (Ent.there (Ent.there (Ent.there (Ent.there (Ent.there (Ent.there (Ent.there (Ent.there (Ent.there (Ent.there (Ent.there (Ent.there (Ent.there Ent.refl)))))))))))))))))) | (with_reducible exact Ent.there (Ent.there (Ent.there (Ent.there (Ent.there (Ent.there (Ent.there (Ent.there (Ent.there (Ent.there (Ent.there (Ent.there (Ent.there (Ent.there (Ent.there (Ent.there (Ent.there (Ent.there (Ent.there Ent.refl))))))))))))))))))) | (with_reducible exact Ent.there (Ent.there (Ent.there (Ent.there (Ent.there (Ent.there (Ent.there (Ent.there (Ent.there (Ent.there (Ent.there (Ent.there (Ent.there (Ent.there (Ent.there (Ent.there (Ent.there (Ent.there (Ent.there (Ent.there Ent.refl)))))))))))))))))))) | (with_reducible exact Ent.there (Ent.there (Ent.there (Ent.there (Ent.there (Ent.there (Ent.there (Ent.there (Ent.there (Ent.there (Ent.there (Ent.there (Ent.there (Ent.there (Ent.there (Ent.there (Ent.there (Ent.there (Ent.there (Ent.there (Ent.there Ent.refl))))))))))))))))))))))) (by (first | (with_reducible exact Ent.refl) | exact Ent.take (by (first | (with_reducible exact Ent.refl) | (with_reducible exact Ent.there Ent.refl) | (with_reducible exact Ent.there (Ent.there Ent.refl)) | (with_reducible exact Ent.there (Ent.there (Ent.there Ent.refl))) | (with_reducible exact Ent.there (Ent.there (Ent.there (Ent.there Ent.refl)))) | (with_reducible exact Ent.there (Ent.there (Ent.there (Ent.there (Ent.there Ent.refl))))) | (with_reducible exact Ent.there (Ent.there (Ent.there (Ent.there (Ent.there (Ent.there Ent.refl)))))) | (with_reducible exact Ent.there (Ent.there (Ent.there (Ent.there (Ent.there (Ent.there (Ent.there Ent.refl))))))) | (with_reducible exact Ent.there (Ent.there (Ent.there (Ent.there (Ent.there (Ent.there (Ent.there (Ent.there Ent.refl)))))))) | (with_reducible exact Ent.there (Ent.there (Ent.there (Ent.there (Ent.there (Ent.there (Ent.there (Ent.there (Ent.there Ent.refl))))))))) | (with_reducible exact Ent.there (Ent.there (Ent.there (Ent.there (Ent.there (Ent.there (Ent.there (Ent.there (Ent.there (Ent.there Ent.refl)))))))))) | (with_reducible exact Ent.there (Ent.there (Ent.there (Ent.there (Ent.there (Ent.there (Ent.there (Ent.there (Ent.there (Ent.there (Ent.there Ent.refl))))))))))) | (with_reducible exact Ent.there (Ent.there (Ent.there (Ent.there (Ent.there (Ent.there (Ent.there (Ent.there (Ent.there (Ent.there (Ent.there (Ent.there Ent.refl)))))))))))) | (with_reducible exact Ent.there (Ent.there (Ent.there (Ent.there (Ent.there (Ent.there (Ent.there (Ent.there (Ent.there (Ent.there (Ent.there (Ent.there (Ent.there Ent.refl))))))))))))) | (with_reducible exact Ent.there (Ent.there (Ent.there (Ent.there (Ent.there (Ent.there (Ent.there (Ent.there (Ent.there (Ent.there (Ent.there (Ent.there (Ent.there (Ent.there Ent.refl)))))))))))))) | (with_reducible exact Ent.there (Ent.there (Ent.there (Ent.there (Ent.there (Ent.there (Ent.there (Ent.there (Ent.there (Ent.there (Ent.there (Ent.there (Ent.there (Ent.there (Ent.there Ent.refl))))))))))))))) | (with_reducible exact Ent.there (Ent.there (Ent.there (Ent.there (Ent.there (Ent.there (Ent.there (Ent.there (Ent.there (Ent.there (Ent.there (Ent.there (Ent.there (Ent.there (Ent.there (Ent.there Ent.refl)))))))))))))))) | (with_reducible exact Ent.there (Ent.there (Ent.there (Ent.there (Ent.there (Ent.there (Ent.there (Ent.there (Ent.there (Ent.there (Ent.there (Ent.there (Ent.there (Ent.there (Ent.there (Ent.there (Ent.there Ent.refl))))))))))))))))) | (with_reducible exact Ent.there (Ent.there (Ent.there (Ent.there (Ent.there (Ent.there (Ent.there (Ent.there (Ent.there (Ent.there (Ent.there (Ent.there (Ent.there (Ent.there (Ent.there (Ent.there (Ent.there (Ent.there Ent.refl)))))))))))))))))) | (with_reducible exact Ent.there (Ent.there (Ent.there (Ent.there (Ent.there (Ent.there (Ent.there (Ent.there (Ent.there (Ent.there (Ent.there (Ent.there (Ent.there (Ent.there (Ent.there (Ent.there (Ent.there (Ent.there (Ent.there Ent.refl))))))))))))))))))) | (with_reducible exact Ent.there (Ent.there (Ent.there (Ent.there (Ent.there (Ent.there (Ent.there (Ent.there (Ent.there (Ent.there (Ent.there (Ent.there (Ent.there (Ent.there (Ent.there (Ent.there (Ent.there (Ent.there (Ent.there (Ent.there Ent.refl)))))))))))))))))))) | (with_reducible exact Ent.there (Ent.there (Ent.there (Ent.there (Ent.there (Ent.there (Ent.there (Ent.there (Ent.there (Ent.there (Ent.there (Ent.there (Ent.there (Ent.there (Ent.there (Ent.there (Ent.there (Ent.there (Ent.there (Ent.there (Ent.there Ent.refl))))))))))))))))))))))) (by (first | (with_reducible exact Ent.refl) | exact Ent.take (by (first | (with_reducible exact Ent.refl) | (with_reducible exact Ent.there Ent.refl) | (with_reducible exact Ent.there (Ent.there Ent.refl)) | (with_reducible exact Ent.there (Ent.there (Ent.there Ent.refl))) | (with_reducible exact Ent.there (Ent.there (Ent.there (Ent.there Ent.refl)))) | (with_reducible exact Ent.there (Ent.there (Ent.there (Ent.there (Ent.there Ent.refl))))) | (with_reducible exact Ent.there (Ent.there (Ent.there (Ent.there (Ent.there (Ent.there Ent.refl)))))) | (with_reducible exact Ent.there (Ent.there (Ent.there (Ent.there (Ent.there (Ent.there (Ent.there Ent.refl))))))) | (with_reducible exact Ent.there (Ent.there (Ent.there (Ent.there (Ent.there (Ent.there (Ent.there (Ent.there Ent.refl)))))))) | (with_reducible exact Ent.there (Ent.there (Ent.there (Ent.there (Ent.there (Ent.there (Ent.there (Ent.there (Ent.there Ent.refl))))))))) | (with_reducible exact Ent.there (Ent.there (Ent.there (Ent.there (Ent.there (Ent.there (Ent.there (Ent.there (Ent.there (Ent.there Ent.refl)))))))))) | (with_reducible exact Ent.there (Ent.there (Ent.there (Ent.there (Ent.there (Ent.there (Ent.there (Ent.there (Ent.there (Ent.there (Ent.there Ent.refl))))))))))) | (with_reducible exact Ent.there (Ent.there (Ent.there (Ent.there (Ent.there (Ent.there (Ent.there (Ent.there (Ent.there (Ent.there (Ent.there (Ent.there Ent.refl)))))))))))) | (with_reducible exact Ent.there (Ent.there (Ent.there (Ent.there (Ent.there (Ent.there (Ent.there (Ent.there (Ent.there (Ent.there (Ent.there (Ent.there (Ent.there Ent.refl))))))))))))) | (with_reducible exact Ent.there (Ent.there (Ent.there (Ent.there (Ent.there (Ent.there (Ent.there (Ent.there (Ent.there (Ent.there (Ent.there (Ent.there (Ent.there (Ent.there Ent.refl)))))))))))))) | (with_reducible exact Ent.there (Ent.there (Ent.there (Ent.there (Ent.there (Ent.there (Ent.there (Ent.there (Ent.there (Ent.there (Ent.there (Ent.there (Ent.there (Ent.there (Ent.there Ent.refl))))))))))))))) | (with_reducible exact Ent.there (Ent.there (Ent.there (Ent.there (Ent.there (Ent.there (Ent.there (Ent.there (Ent.there (Ent.there (Ent.there (Ent.there (Ent.there (Ent.there (Ent.there (Ent.there Ent.refl)))))))))))))))) | (with_reducible exact Ent.there (Ent.there (Ent.there (Ent.there (Ent.there (Ent.there (Ent.there (Ent.there (Ent.there (Ent.there (Ent.there (Ent.there (Ent.there (Ent.there (Ent.there (Ent.there (Ent.there Ent.refl))))))))))))))))) | (with_reducible exact Ent.there (Ent.there (Ent.there (Ent.there (Ent.there (Ent.there (Ent.there (Ent.there (Ent.there (Ent.there (Ent.there (Ent.there (Ent.there (Ent.there (Ent.there (Ent.there (Ent.there (Ent.there Ent.refl)))))))))))))))))) | (with_reducible exact Ent.there (Ent.there (Ent.there (Ent.there (Ent.there (Ent.there (Ent.there (Ent.there (Ent.there (Ent.there (Ent.there (Ent.there (Ent.there (Ent.there (Ent.there (Ent.there (Ent.there (Ent.there (Ent.there Ent.refl))))))))))))))))))) | (with_reducible exact Ent.there (Ent.there (Ent.there (Ent.there (Ent.there (Ent.there (Ent.there (Ent.there (Ent.there (Ent.there (Ent.there (Ent.there (Ent.there (Ent.there (Ent.there (Ent.there (Ent.there (Ent.there (Ent.there (Ent.there Ent.refl)))))))))))))))))))) | (with_reducible exact Ent.there (Ent.there (Ent.there (Ent.there (Ent.there (Ent.there (Ent.there (Ent.there (Ent.there (Ent.there (Ent.there (Ent.there (Ent.there (Ent.there (Ent.there (Ent.there (Ent.there (Ent.there (Ent.there (Ent.there (Ent.there Ent.refl))))))))))))))))))))))) (by (first | (with_reducible exact Ent.refl) | exact Ent.take (by (first | (with_reducible exact Ent.refl) | (with_reducible exact Ent.there Ent.refl) | (with_reducible exact Ent.there (Ent.there Ent.refl)) | (with_reducible exact Ent.there (Ent.there (Ent.there Ent.refl))) | (with_reducible exact Ent.there (Ent.there (Ent.there (Ent.there Ent.refl)))) | (with_reducible exact Ent.there (Ent.there (Ent.there (Ent.there (Ent.there Ent.refl))))) | (with_reducible exact Ent.there (Ent.there (Ent.there (Ent.there (Ent.there (Ent.there Ent.refl)))))) | (with_reducible exact Ent.there (Ent.there (Ent.there (Ent.there (Ent.there (Ent.there (Ent.there Ent.refl))))))) | (with_reducible exact Ent.there (Ent.there (Ent.there (Ent.there (Ent.there (Ent.there (Ent.there (Ent.there Ent.refl)))))))) | (with_reducible exact Ent.there (Ent.there (Ent.there (Ent.there (Ent.there (Ent.there (Ent.there (Ent.there (Ent.there Ent.refl))))))))) | (with_reducible exact Ent.there (Ent.there (Ent.there (Ent.there (Ent.there (Ent.there (Ent.there (Ent.there (Ent.there (Ent.there Ent.refl)))))))))) | (with_reducible exact Ent.there (Ent.there (Ent.there (Ent.there (Ent.there (Ent.there (Ent.there (Ent.there (Ent.there (Ent.there (Ent.there Ent.refl))))))))))) | (with_reducible exact Ent.there (Ent.there (Ent.there (Ent.there (Ent.there (Ent.there (Ent.there (Ent.there (Ent.there (Ent.there (Ent.there (Ent.there Ent.refl)))))))))))) | (with_reducible exact Ent.there (Ent.there (Ent.there (Ent.there (Ent.there (Ent.there (Ent.there (Ent.there (Ent.there (Ent.there (Ent.there (Ent.there (Ent.there Ent.refl))))))))))))) | (with_reducible exact Ent.there (Ent.there (Ent.there (Ent.there (Ent.there (Ent.there (Ent.there (Ent.there (Ent.there (Ent.there (Ent.there (Ent.there (Ent.there (Ent.there Ent.refl)))))))))))))) | (with_reducible exact Ent.there (Ent.there (Ent.there (Ent.there (Ent.there (Ent.there (Ent.there (Ent.there (Ent.there (Ent.there (Ent.there (Ent.there (Ent.there (Ent.there (Ent.there Ent.refl))))))))))))))) | (with_reducible exact Ent.there (Ent.there (Ent.there (Ent.there (Ent.there (Ent.there (Ent.there (Ent.there (Ent.there (Ent.there (Ent.there (Ent.there (Ent.there (Ent.there (Ent.there (Ent.there Ent.refl)))))))))))))))) | (with_reducible exact Ent.there (Ent.there (Ent.there (Ent.there (Ent.there (Ent.there (Ent.there (Ent.there (Ent.there (Ent.there (Ent.there (Ent.there (Ent.there (Ent.there (Ent.there (Ent.there (Ent.there Ent.refl))))))))))))))))) | (with_reducible exact Ent.there (Ent.there (Ent.there (Ent.there (Ent.there (Ent.there (Ent.there (Ent.there (Ent.there (Ent.there (Ent.there (Ent.there (Ent.there (Ent.there (Ent.there (Ent.there (Ent.there (Ent.there Ent.refl)))))))))))))))))) | (with_reducible exact Ent.there (Ent.there (Ent.there (Ent.there (Ent.there (Ent.there (Ent.there (Ent.there (Ent.there (Ent.there (Ent.there (Ent.there (Ent.there (Ent.there (Ent.there (Ent.there (Ent.there (Ent.there (Ent.there Ent.refl))))))))))))))))))) | (with_reducible exact Ent.there (Ent.there (Ent.there (Ent.there (Ent.there (Ent.there (Ent.there (Ent.there (Ent.there (Ent.there (Ent.there (Ent.there (Ent.there (Ent.there (Ent.there (Ent.there (Ent.there (Ent.there (Ent.there (Ent.there Ent.refl)))))))))))))))))))) | (with_reducible exact Ent.there (Ent.there (Ent.there (Ent.there (Ent.there (Ent.there (Ent.there (Ent.there (Ent.there (Ent.there (Ent.there (Ent.there (Ent.there (Ent.there (Ent.there (Ent.there (Ent.there (Ent.there (Ent.there (Ent.there (Ent.there Ent.refl))))))))))))))))))))))) (by (first | (with_reducible exact Ent.refl) | exact Ent.take (by (first | (with_reducible exact Ent.refl) | (with_reducible exact Ent.there Ent.refl) | (with_reducible exact Ent.there (Ent.there Ent.refl)) | (with_reducible exact Ent.there (Ent.there (Ent.there Ent.refl))) | (with_reducible exact Ent.there (Ent.there (Ent.there (Ent.there Ent.refl)))) | (with_reducible exact Ent.there (Ent.there (Ent.there (Ent.there (Ent.there Ent.refl))))) | (with_reducible exact Ent.there (Ent.there (Ent.there (Ent.there (Ent.there (Ent.there Ent.refl)))))) | (with_reducible exact Ent.there (Ent.there (Ent.there (Ent.there (Ent.there (Ent.there (Ent.there Ent.refl))))))) | (with_reducible exact Ent.there (Ent.there (Ent.there (Ent.there (Ent.there (Ent.there (Ent.there (Ent.there Ent.refl)))))))) | (with_reducible exact Ent.there (Ent.there (Ent.there (Ent.there (Ent.there (Ent.there (Ent.there (Ent.there (Ent.there Ent.refl))))))))) | (with_reducible exact Ent.there (Ent.there (Ent.there (Ent.there (Ent.there (Ent.there (Ent.there (Ent.there (Ent.there (Ent.there Ent.refl)))))))))) | (with_reducible exact Ent.there (Ent.there (Ent.there (Ent.there (Ent.there (Ent.there (Ent.there (Ent.there (Ent.there (Ent.there (Ent.there Ent.refl))))))))))) | (with_reducible exact Ent.there (Ent.there (Ent.there (Ent.there (Ent.there (Ent.there (Ent.there (Ent.there (Ent.there (Ent.there (Ent.there (Ent.there Ent.refl)))))))))))) | (with_reducible exact Ent.there (Ent.there (Ent.there (Ent.there (Ent.there (Ent.there (Ent.there (Ent.there (Ent.there (Ent.there (Ent.there (Ent.there (Ent.there Ent.refl))))))))))))) | (with_reducible exact Ent.there (Ent.there (Ent.there (Ent.there (Ent.there (Ent.there (Ent.there (Ent.there (Ent.there (Ent.there (Ent.there (Ent.there (Ent.there (Ent.there Ent.refl)))))))))))))) | (with_reducible exact Ent.there (Ent.there (Ent.there (Ent.there (Ent.there (Ent.there (Ent.there (Ent.there (Ent.there (Ent.there (Ent.there (Ent.there (Ent.there (Ent.there (Ent.there Ent.refl))))))))))))))) | (with_reducible exact Ent.there (Ent.there (Ent.there (Ent.there (Ent.there (Ent.there (Ent.there (Ent.there (Ent.there (Ent.there (Ent.there (Ent.there (Ent.there (Ent.there (Ent.there (Ent.there Ent.refl)))))))))))))))) | (with_reducible exact Ent.there (Ent.there (Ent.there (Ent.there (Ent.there (Ent.there (Ent.there (Ent.there (Ent.there (Ent.there (Ent.there (Ent.there (Ent.there (Ent.there (Ent.there (Ent.there (Ent.there Ent.refl))))))))))))))))) | (with_reducible exact Ent.there (Ent.there (Ent.there (Ent.there (Ent.there (Ent.there (Ent.there (Ent.there (Ent.there (Ent.there (Ent.there (Ent.there (Ent.there (Ent.there (Ent.there (Ent.there (Ent.there (Ent.there Ent.refl)))))))))))))))))) | (with_reducible exact Ent.there (Ent.there (Ent.there (Ent.there (Ent.there (Ent.there (Ent.there (Ent.there (Ent.there (Ent.there (Ent.there (Ent.there (Ent.there (Ent.there (Ent.there (Ent.there (Ent.there (Ent.there (Ent.there Ent.refl))))))))))))))))))) | (with_reducible exact Ent.there (Ent.there (Ent.there (Ent.there (Ent.there (Ent.there (Ent.there (Ent.there (Ent.there (Ent.there (Ent.there (Ent.there (Ent.there (Ent.there (Ent.there (Ent.there (Ent.there (Ent.there (Ent.there (Ent.there Ent.refl)))))))))))))))))))) | (with_reducible exact Ent.there (Ent.there (Ent.there (Ent.there (Ent.there (Ent.there (Ent.there (Ent.there (Ent.there (Ent.there (Ent.there (Ent.there (Ent.there (Ent.there (Ent.there (Ent.there (Ent.there (Ent.there (Ent.there (Ent.there (Ent.there Ent.refl))))))))))))))))))))))) (by (first | (with_reducible exact Ent.refl) | exact Ent.take (by (first | (with_reducible exact Ent.refl) | (with_reducible exact Ent.there Ent.refl) | (with_reducible exact Ent.there (Ent.there Ent.refl)) | (with_reducible exact Ent.there (Ent.there (Ent.there Ent.refl))) | (with_reducible exact Ent.there (Ent.there (Ent.there (Ent.there Ent.refl)))) | (with_reducible exact Ent.there (Ent.there (Ent.there (Ent.there (Ent.there Ent.refl))))) | (with_reducible exact Ent.there (Ent.there (Ent.there (Ent.there (Ent.there (Ent.there Ent.refl)))))) | (with_reducible exact Ent.there (Ent.there (Ent.there (Ent.there (Ent.there (Ent.there (Ent.there Ent.refl))))))) | (with_reducible exact Ent.there (Ent.there (Ent.there (Ent.there (Ent.there (Ent.there (Ent.there (Ent.there Ent.refl)))))))) | (with_reducible exact Ent.there (Ent.there (Ent.there (Ent.there (Ent.there (Ent.there (Ent.there (Ent.there (Ent.there Ent.refl))))))))) | (with_reducible exact Ent.there (Ent.there (Ent.there (Ent.there (Ent.there (Ent.there (Ent.there (Ent.there (Ent.there (Ent.there Ent.refl)))))))))) | (with_reducible exact Ent.there (Ent.there (Ent.there (Ent.there (Ent.there (Ent.there (Ent.there (Ent.there (Ent.there (Ent.there (Ent.there Ent.refl))))))))))) | (with_reducible exact Ent.there (Ent.there (Ent.there (Ent.there (Ent.there (Ent.there (Ent.there (Ent.there (Ent.there (Ent.there (Ent.there (Ent.there Ent.refl)))))))))))) | (with_reducible exact Ent.there (Ent.there (Ent.there (Ent.there (Ent.there (Ent.there (Ent.there (Ent.there (Ent.there (Ent.there (Ent.there (Ent.there (Ent.there Ent.refl))))))))))))) | (with_reducible exact Ent.there (Ent.there (Ent.there (Ent.there (Ent.there (Ent.there (Ent.there (Ent.there (Ent.there (Ent.there (Ent.there (Ent.there (Ent.there (Ent.there Ent.refl)))))))))))))) | (with_reducible exact Ent.there (Ent.there (Ent.there (Ent.there (Ent.there (Ent.there (Ent.there (Ent.there (Ent.there (Ent.there (Ent.there (Ent.there (Ent.there (Ent.there (Ent.there Ent.refl))))))))))))))) | (with_reducible exact Ent.there (Ent.there (Ent.there (Ent.there (Ent.there (Ent.there (Ent.there (Ent.there (Ent.there (Ent.there (Ent.there (Ent.there (Ent.there (Ent.there (Ent.there (Ent.there Ent.refl)))))))))))))))) | (with_reducible exact Ent.there (Ent.there (Ent.there (Ent.there (Ent.there (Ent.there (Ent.there (Ent.there (Ent.there (Ent.there (Ent.there (Ent.there (Ent.there (Ent.there (Ent.there (Ent.there (Ent.there Ent.refl))))))))))))))))) | (with_reducible exact Ent.there (Ent.there (Ent.there (Ent.there (Ent.there (Ent.there (Ent.there (Ent.there (Ent.there (Ent.there (Ent.there (Ent.there (Ent.there (Ent.there (Ent.there (Ent.there (Ent.there (Ent.there Ent.refl)))))))))))))))))) | (with_reducible exact Ent.there (Ent.there (Ent.there (Ent.there (Ent.there (Ent.there (Ent.there (Ent.there (Ent.there (Ent.there (Ent.there (Ent.there (Ent.there (Ent.there (Ent.there (Ent.there (Ent.there (Ent.there (Ent.there Ent.refl))))))))))))))))))) | (with_reducible exact Ent.there (Ent.there (Ent.there (Ent.there (Ent.there (Ent.there (Ent.there (Ent.there (Ent.there (Ent.there (Ent.there (Ent.there (Ent.there (Ent.there (Ent.there (Ent.there (Ent.there (Ent.there (Ent.there (Ent.there Ent.refl)))))))))))))))))))) | (with_reducible exact Ent.there (Ent.there (Ent.there (Ent.there (Ent.there (Ent.there (Ent.there (Ent.there (Ent.there (Ent.there (Ent.there (Ent.there (Ent.there (Ent.there (Ent.there (Ent.there (Ent.there (Ent.there (Ent.there (Ent.there (Ent.there Ent.refl))))))))))))))))))))))) (by (first | (with_reducible exact Ent.refl) | exact Ent.take (by (first | (with_reducible exact Ent.refl) | (with_reducible exact Ent.there Ent.refl) | (with_reducible exact Ent.there (Ent.there Ent.refl)) | (with_reducible exact Ent.there (Ent.there (Ent.there Ent.refl))) | (with_reducible exact Ent.there (Ent.there (Ent.there (Ent.there Ent.refl)))) | (with_reducible exact Ent.there (Ent.there (Ent.there (Ent.there (Ent.there Ent.refl))))) | (with_reducible exact Ent.there (Ent.there (Ent.there (Ent.there (Ent.there (Ent.there Ent.refl)))))) | (with_reducible exact Ent.there (Ent.there (Ent.there (Ent.there (Ent.there (Ent.there (Ent.there Ent.refl))))))) | (with_reducible exact Ent.there (Ent.there (Ent.there (Ent.there (Ent.there (Ent.there (Ent.there (Ent.there Ent.refl)))))))) | (with_reducible exact Ent.there (Ent.there (Ent.there (Ent.there (Ent.there (Ent.there (Ent.there (Ent.there (Ent.there Ent.refl))))))))) | (with_reducible exact Ent.there (Ent.there (Ent.there (Ent.there (Ent.there (Ent.there (Ent.there (Ent.there (Ent.there (Ent.there Ent.refl)))))))))) | (with_reducible exact Ent.there (Ent.there (Ent.there (Ent.there (Ent.there (Ent.there (Ent.there (Ent.there (Ent.there (Ent.there (Ent.there Ent.refl))))))))))) | (with_reducible exact Ent.there (Ent.there (Ent.there (Ent.there (Ent.there (Ent.there (Ent.there (Ent.there (Ent.there (Ent.there (Ent.there (Ent.there Ent.refl)))))))))))) | (with_reducible exact Ent.there (Ent.there (Ent.there (Ent.there (Ent.there (Ent.there (Ent.there (Ent.there (Ent.there (Ent.there (Ent.there (Ent.there (Ent.there Ent.refl))))))))))))) | (with_reducible exact Ent.there (Ent.there (Ent.there (Ent.there (Ent.there (Ent.there (Ent.there (Ent.there (Ent.there (Ent.there (Ent.there (Ent.there (Ent.there (Ent.there Ent.refl)))))))))))))) | (with_reducible exact Ent.there (Ent.there (Ent.there (Ent.there (Ent.there (Ent.there (Ent.there (Ent.there (Ent.there (Ent.there (Ent.there (Ent.there (Ent.there (Ent.there (Ent.there Ent.refl))))))))))))))) | (with_reducible exact Ent.there (Ent.there (Ent.there (Ent.there (Ent.there (Ent.there (Ent.there (Ent.there (Ent.there (Ent.there (Ent.there (Ent.there (Ent.there (Ent.there (Ent.there (Ent.there Ent.refl)))))))))))))))) | (with_reducible exact Ent.there (Ent.there (Ent.there (Ent.there (Ent.there (Ent.there (Ent.there (Ent.there (Ent.there (Ent.there (Ent.there (Ent.there (Ent.there (Ent.there (Ent.there (Ent.there (Ent.there Ent.refl))))))))))))))))) | (with_reducible exact Ent.there (Ent.there (Ent.there (Ent.there (Ent.there (Ent.there (Ent.there (Ent.there (Ent.there (Ent.there (Ent.there (Ent.there (Ent.there (Ent.there (Ent.there (Ent.there (Ent.there (Ent.there Ent.refl)))))))))))))))))) | (with_reducible exact Ent.there (Ent.there (Ent.there (Ent.there (Ent.there (Ent.there (Ent.there (Ent.there (Ent.there (Ent.there (Ent.there (Ent.there (Ent.there (Ent.there (Ent.there (Ent.there (Ent.there (Ent.there (Ent.there Ent.refl))))))))))))))))))) | (with_reducible exact Ent.there (Ent.there (Ent.there (Ent.there (Ent.there (Ent.there (Ent.there (Ent.there (Ent.there (Ent.there (Ent.there (Ent.there (Ent.there (Ent.there (Ent.there (Ent.there (Ent.there (Ent.there (Ent.there (Ent.there Ent.refl)))))))))))))))))))) | (with_reducible exact Ent.there (Ent.there (Ent.there (Ent.there (Ent.there (Ent.there (Ent.there (Ent.there (Ent.there (Ent.there (Ent.there (Ent.there (Ent.there (Ent.there (Ent.there (Ent.there (Ent.there (Ent.there (Ent.there (Ent.there (Ent.there Ent.refl))))))))))))))))))))))) (by (first | (with_reducible exact Ent.refl) | exact Ent.take (by (first | (with_reducible exact Ent.refl) | (with_reducible exact Ent.there Ent.refl) | (with_reducible exact Ent.there (Ent.there Ent.refl)) | (with_reducible exact Ent.there (Ent.there (Ent.there Ent.refl))) | (with_reducible exact Ent.there (Ent.there (Ent.there (Ent.there Ent.refl)))) | (with_reducible exact Ent.there (Ent.there (Ent.there (Ent.there (Ent.there Ent.refl))))) | (with_reducible exact Ent.there (Ent.there (Ent.there (Ent.there (Ent.there (Ent.there Ent.refl)))))) | (with_reducible exact Ent.there (Ent.there (Ent.there (Ent.there (Ent.there (Ent.there (Ent.there Ent.refl))))))) | (with_reducible exact Ent.there (Ent.there (Ent.there (Ent.there (Ent.there (Ent.there (Ent.there (Ent.there Ent.refl)))))))) | (with_reducible exact Ent.there (Ent.there (Ent.there (Ent.there (Ent.there (Ent.there (Ent.there (Ent.there (Ent.there Ent.refl))))))))) | (with_reducible exact Ent.there (Ent.there (Ent.there (Ent.there (Ent.there (Ent.there (Ent.there (Ent.there (Ent.there (Ent.there Ent.refl)))))))))) | (with_reducible exact Ent.there (Ent.there (Ent.there (Ent.there (Ent.there (Ent.there (Ent.there (Ent.there (Ent.there (Ent.there (Ent.there Ent.refl))))))))))) | (with_reducible exact Ent.there (Ent.there (Ent.there (Ent.there (Ent.there (Ent.there (Ent.there (Ent.there (Ent.there (Ent.there (Ent.there (Ent.there Ent.refl)))))))))))) | (with_reducible exact Ent.there (Ent.there (Ent.there (Ent.there (Ent.there (Ent.there (Ent.there (Ent.there (Ent.there (Ent.there (Ent.there (Ent.there (Ent.there Ent.refl))))))))))))) | (with_reducible exact Ent.there (Ent.there (Ent.there (Ent.there (Ent.there (Ent.there (Ent.there (Ent.there (Ent.there (Ent.there (Ent.there (Ent.there (Ent.there (Ent.there Ent.refl)))))))))))))) | (with_reducible exact Ent.there (Ent.there (Ent.there (Ent.there (Ent.there (Ent.there (Ent.there (Ent.there (Ent.there (Ent.there (Ent.there (Ent.there (Ent.there (Ent.there (Ent.there Ent.refl))))))))))))))) | (with_reducible exact Ent.there (Ent.there (Ent.there (Ent.there (Ent.there (Ent.there (Ent.there (Ent.there (Ent.there (Ent.there (Ent.there (Ent.there (Ent.there (Ent.there (Ent.there (Ent.there Ent.refl)))))))))))))))) | (with_reducible exact Ent.there (Ent.there (Ent.there (Ent.there (Ent.there (Ent.there (Ent.there (Ent.there (Ent.there (Ent.there (Ent.there (Ent.there (Ent.there (Ent.there (Ent.there (Ent.there (Ent.there Ent.refl))))))))))))))))) | (with_reducible exact Ent.there (Ent.there (Ent.there (Ent.there (Ent.there (Ent.there (Ent.there (Ent.there (Ent.there (Ent.there (Ent.there (Ent.there (Ent.there (Ent.there (Ent.there (Ent.there (Ent.there (Ent.there Ent.refl)))))))))))))))))) | (with_reducible exact Ent.there (Ent.there (Ent.there (Ent.there (Ent.there (Ent.there (Ent.there (Ent.there (Ent.there (Ent.there (Ent.there (Ent.there (Ent.there (Ent.there (Ent.there (Ent.there (Ent.there (Ent.there (Ent.there Ent.refl))))))))))))))))))) | (with_reducible exact Ent.there (Ent.there (Ent.there (Ent.there (Ent.there (Ent.there (Ent.there (Ent.there (Ent.there (Ent.there (Ent.there (Ent.there (Ent.there (Ent.there (Ent.there (Ent.there (Ent.there (Ent.there (Ent.there (Ent.there Ent.refl)))))))))))))))))))) | (with_reducible exact Ent.there (Ent.there (Ent.there (Ent.there (Ent.there (Ent.there (Ent.there (Ent.there (Ent.there (Ent.there (Ent.there (Ent.there (Ent.there (Ent.there (Ent.there (Ent.there (Ent.there (Ent.there (Ent.there (Ent.there (Ent.there Ent.refl))))))))))))))))))))))) (by (first | (with_reducible exact Ent.refl) | exact Ent.take (by (first | (with_reducible exact Ent.refl) | (with_reducible exact Ent.there Ent.refl) | (with_reducible exact Ent.there (Ent.there Ent.refl)) | (with_reducible exact Ent.there (Ent.there (Ent.there Ent.refl))) | (with_reducible exact Ent.there (Ent.there (Ent.there (Ent.there Ent.refl)))) | (with_reducible exact Ent.there (Ent.there (Ent.there (Ent.there (Ent.there Ent.refl))))) | (with_reducible exact Ent.there (Ent.there (Ent.there (Ent.there (Ent.there (Ent.there Ent.refl)))))) | (with_reducible exact Ent.there (Ent.there (Ent.there (Ent.there (Ent.there (Ent.there (Ent.there Ent.refl))))))) | (with_reducible exact Ent.there (Ent.there (Ent.there (Ent.there (Ent.there (Ent.there (Ent.there (Ent.there Ent.refl)))))))) | (with_reducible exact Ent.there (Ent.there (Ent.there (Ent.there (Ent.there (Ent.there (Ent.there (Ent.there (Ent.there Ent.refl))))))))) | (with_reducible exact Ent.there (Ent.there (Ent.there (Ent.there (Ent.there (Ent.there (Ent.there (Ent.there (Ent.there (Ent.there Ent.refl)))))))))) | (with_reducible exact Ent.there (Ent.there (Ent.there (Ent.there (Ent.there (Ent.there (Ent.there (Ent.there (Ent.there (Ent.there (Ent.there Ent.refl))))))))))) | (with_reducible exact Ent.there (Ent.there (Ent.there (Ent.there (Ent.there (Ent.there (Ent.there (Ent.there (Ent.there (Ent.there (Ent.there (Ent.there Ent.refl)))))))))))) | (with_reducible exact Ent.there (Ent.there (Ent.there (Ent.there (Ent.there (Ent.there (Ent.there (Ent.there (Ent.there (Ent.there (Ent.there (Ent.there (Ent.there Ent.refl))))))))))))) | (with_reducible exact Ent.there (Ent.there (Ent.there (Ent.there (Ent.there (Ent.there (Ent.there (Ent.there (Ent.there (Ent.there (Ent.there (Ent.there (Ent.there (Ent.there Ent.refl)))))))))))))) | (with_reducible exact Ent.there (Ent.there (Ent.there (Ent.there (Ent.there (Ent.there (Ent.there (Ent.there (Ent.there (Ent.there (Ent.there (Ent.there (Ent.there (Ent.there (Ent.there Ent.refl))))))))))))))) | (with_reducible exact Ent.there (Ent.there (Ent.there (Ent.there (Ent.there (Ent.there (Ent.there (Ent.there (Ent.there (Ent.there (Ent.there (Ent.there (Ent.there (Ent.there (Ent.there (Ent.there Ent.refl)))))))))))))))) | (with_reducible exact Ent.there (Ent.there (Ent.there (Ent.there (Ent.there (Ent.there (Ent.there (Ent.there (Ent.there (Ent.there (Ent.there (Ent.there (Ent.there (Ent.there (Ent.there (Ent.there (Ent.there Ent.refl))))))))))))))))) | (with_reducible exact Ent.there (Ent.there (Ent.there (Ent.there (Ent.there (Ent.there (Ent.there (Ent.there (Ent.there (Ent.there (Ent.there (Ent.there (Ent.there (Ent.there (Ent.there (Ent.there (Ent.there (Ent.there Ent.refl)))))))))))))))))) | (with_reducible exact Ent.there (Ent.there (Ent.there (Ent.there (Ent.there (Ent.there (Ent.there (Ent.there (Ent.there (Ent.there (Ent.there (Ent.there (Ent.there (Ent.there (Ent.there (Ent.there (Ent.there (Ent.there (Ent.there Ent.refl))))))))))))))))))) | (with_reducible exact Ent.there (Ent.there (Ent.there (Ent.there (Ent.there (Ent.there (Ent.there (Ent.there (Ent.there (Ent.there (Ent.there (Ent.there (Ent.there (Ent.there (Ent.there (Ent.there (Ent.there (Ent.there (Ent.there (Ent.there Ent.refl)))))))))))))))))))) | (with_reducible exact Ent.there (Ent.there (Ent.there (Ent.there (Ent.there (Ent.there (Ent.there (Ent.there (Ent.there (Ent.there (Ent.there (Ent.there (Ent.there (Ent.there (Ent.there (Ent.there (Ent.there (Ent.there (Ent.there (Ent.there (Ent.there Ent.refl))))))))))))))))))))))) (by (first | (with_reducible exact Ent.refl) | exact Ent.take (by (first | (with_reducible exact Ent.refl) | (with_reducible exact Ent.there Ent.refl) | (with_reducible exact Ent.there (Ent.there Ent.refl)) | (with_reducible exact Ent.there (Ent.there (Ent.there Ent.refl))) | (with_reducible exact Ent.there (Ent.there (Ent.there (Ent.there Ent.refl)))) | (with_reducible exact Ent.there (Ent.there (Ent.there (Ent.there (Ent.there Ent.refl))))) | (with_reducible exact Ent.there (Ent.there (Ent.there (Ent.there (Ent.there (Ent.there Ent.refl)))))) | (with_reducible exact Ent.there (Ent.there (Ent.there (Ent.there (Ent.there (Ent.there (Ent.there Ent.refl))))))) | (with_reducible exact Ent.there (Ent.there (Ent.there (Ent.there (Ent.there (Ent.there (Ent.there (Ent.there Ent.refl)))))))) | (with_reducible exact Ent.there (Ent.there (Ent.there (Ent.there (Ent.there (Ent.there (Ent.there (Ent.there (Ent.there Ent.refl))))))))) | (with_reducible exact Ent.there (Ent.there (Ent.there (Ent.there (Ent.there (Ent.there (Ent.there (Ent.there (Ent.there (Ent.there Ent.refl)))))))))) | (with_reducible exact Ent.there (Ent.there (Ent.there (Ent.there (Ent.there (Ent.there (Ent.there (Ent.there (Ent.there (Ent.there (Ent.there Ent.refl))))))))))) | (with_reducible exact Ent.there (Ent.there (Ent.there (Ent.there (Ent.there (Ent.there (Ent.there (Ent.there (Ent.there (Ent.there (Ent.there (Ent.there Ent.refl)))))))))))) | (with_reducible exact Ent.there (Ent.there (Ent.there (Ent.there (Ent.there (Ent.there (Ent.there (Ent.there (Ent.there (Ent.there (Ent.there (Ent.there (Ent.there Ent.refl))))))))))))) | (with_reducible exact Ent.there (Ent.there (Ent.there (Ent.there (Ent.there (Ent.there (Ent.there (Ent.there (Ent.there (Ent.there (Ent.there (Ent.there (Ent.there (Ent.there Ent.refl)))))))))))))) | (with_reducible exact Ent.there (Ent.there (Ent.there (Ent.there (Ent.there (Ent.there (Ent.there (Ent.there (Ent.there (Ent.there (Ent.there (Ent.there (Ent.there (Ent.there (Ent.there Ent.refl))))))))))))))) | (with_reducible exact Ent.there (Ent.there (Ent.there (Ent.there (Ent.there (Ent.there (Ent.there (Ent.there (Ent.there (Ent.there (Ent.there (Ent.there (Ent.there (Ent.there (Ent.there (Ent.there Ent.refl)))))))))))))))) | (with_reducible exact Ent.there (Ent.there (Ent.there (Ent.there (Ent.there (Ent.there (Ent.there (Ent.there (Ent.there (Ent.there (Ent.there (Ent.there (Ent.there (Ent.there (Ent.there (Ent.there (Ent.there Ent.refl))))))))))))))))) | (with_reducible exact Ent.there (Ent.there (Ent.there (Ent.there (Ent.there (Ent.there (Ent.there (Ent.there (Ent.there (Ent.there (Ent.there (Ent.there (Ent.there (Ent.there (Ent.there (Ent.there (Ent.there (Ent.there Ent.refl)))))))))))))))))) | (with_reducible exact Ent.there (Ent.there (Ent.there (Ent.there (Ent.there (Ent.there (Ent.there (Ent.there (Ent.there (Ent.there (Ent.there (Ent.there (Ent.there (Ent.there (Ent.there (Ent.there (Ent.there (Ent.there (Ent.there Ent.refl))))))))))))))))))) | (with_reducible exact Ent.there (Ent.there (Ent.there (Ent.there (Ent.there (Ent.there (Ent.there (Ent.there (Ent.there (Ent.there (Ent.there (Ent.there (Ent.there (Ent.there (Ent.there (Ent.there (Ent.there (Ent.there (Ent.there (Ent.there Ent.refl)))))))))))))))))))) | (with_reducible exact Ent.there (Ent.there (Ent.there (Ent.there (Ent.there (Ent.there (Ent.there (Ent.there (Ent.there (Ent.there (Ent.there (Ent.there (Ent.there (Ent.there (Ent.there (Ent.there (Ent.there (Ent.there (Ent.there (Ent.there (Ent.there Ent.refl))))))))))))))))))))))) (by (first | (with_reducible exact Ent.refl) | exact Ent.take (by (first | (with_reducible exact Ent.refl) | (with_reducible exact Ent.there Ent.refl) | (with_reducible exact Ent.there (Ent.there Ent.refl)) | (with_reducible exact Ent.there (Ent.there (Ent.there Ent.refl))) | (with_reducible exact Ent.there (Ent.there (Ent.there (Ent.there Ent.refl)))) | (with_reducible exact Ent.there (Ent.there (Ent.there (Ent.there (Ent.there Ent.refl))))) | (with_reducible exact Ent.there (Ent.there (Ent.there (Ent.there (Ent.there (Ent.there Ent.refl)))))) | (with_reducible exact Ent.there (Ent.there (Ent.there (Ent.there (Ent.there (Ent.there (Ent.there Ent.refl))))))) | (with_reducible exact Ent.there (Ent.there (Ent.there (Ent.there (Ent.there (Ent.there (Ent.there (Ent.there Ent.refl)))))))) | (with_reducible exact Ent.there (Ent.there (Ent.there (Ent.there (Ent.there (Ent.there (Ent.there (Ent.there (Ent.there Ent.refl))))))))) | (with_reducible exact Ent.there (Ent.there (Ent.there (Ent.there (Ent.there (Ent.there (Ent.there (Ent.there (Ent.there (Ent.there Ent.refl)))))))))) | (with_reducible exact Ent.there (Ent.there (Ent.there (Ent.there (Ent.there (Ent.there (Ent.there (Ent.there (Ent.there (Ent.there (Ent.there Ent.refl))))))))))) | (with_reducible exact Ent.there (Ent.there (Ent.there (Ent.there (Ent.there (Ent.there (Ent.there (Ent.there (Ent.there (Ent.there (Ent.there (Ent.there Ent.refl)))))))))))) | (with_reducible exact Ent.there (Ent.there (Ent.there (Ent.there (Ent.there (Ent.there (Ent.there (Ent.there (Ent.there (Ent.there (Ent.there (Ent.there (Ent.there Ent.refl))))))))))))) | (with_reducible exact Ent.there (Ent.there (Ent.there (Ent.there (Ent.there (Ent.there (Ent.there (Ent.there (Ent.there (Ent.there (Ent.there (Ent.there (Ent.there (Ent.there Ent.refl)))))))))))))) | (with_reducible exact Ent.there (Ent.there (Ent.there (Ent.there (Ent.there (Ent.there (Ent.there (Ent.there (Ent.there (Ent.there (Ent.there (Ent.there (Ent.there (Ent.there (Ent.there Ent.refl))))))))))))))) | (with_reducible exact Ent.there (Ent.there (Ent.there (Ent.there (Ent.there (Ent.there (Ent.there (Ent.there (Ent.there (Ent.there (Ent.there (Ent.there (Ent.there (Ent.there (Ent.there (Ent.there Ent.refl)))))))))))))))) | (with_reducible exact Ent.there (Ent.there (Ent.there (Ent.there (Ent.there (Ent.there (Ent.there (Ent.there (Ent.there (Ent.there (Ent.there (Ent.there (Ent.there (Ent.there (Ent.there (Ent.there (Ent.there Ent.refl))))))))))))))))) | (with_reducible exact Ent.there (Ent.there (Ent.there (Ent.there (Ent.there (Ent.there (Ent.there (Ent.there (Ent.there (Ent.there (Ent.there (Ent.there (Ent.there (Ent.there (Ent.there (Ent.there (Ent.there (Ent.there Ent.refl)))))))))))))))))) | (with_reducible exact Ent.there (Ent.there (Ent.there (Ent.there (Ent.there (Ent.there (Ent.there (Ent.there (Ent.there (Ent.there (Ent.there (Ent.there (Ent.there (Ent.there (Ent.there (Ent.there (Ent.there (Ent.there (Ent.there Ent.refl))))))))))))))))))) | (with_reducible exact Ent.there (Ent.there (Ent.there (Ent.there (Ent.there (Ent.there (Ent.there (Ent.there (Ent.there (Ent.there (Ent.there (Ent.there (Ent.there (Ent.there (Ent.there (Ent.there (Ent.there (Ent.there (Ent.there (Ent.there Ent.refl)))))))))))))))))))) | (with_reducible exact Ent.there (Ent.there (Ent.there (Ent.there (Ent.there (Ent.there (Ent.there (Ent.there (Ent.there (Ent.there (Ent.there (Ent.there (Ent.there (Ent.there (Ent.there (Ent.there (Ent.there (Ent.there (Ent.there (Ent.there (Ent.there Ent.refl))))))))))))))))))))))) (by (first | (with_reducible exact Ent.refl) | exact Ent.take (by (first | (with_reducible exact Ent.refl) | (with_reducible exact Ent.there Ent.refl) | (with_reducible exact Ent.there (Ent.there Ent.refl)) | (with_reducible exact Ent.there (Ent.there (Ent.there Ent.refl))) | (with_reducible exact Ent.there (Ent.there (Ent.there (Ent.there Ent.refl)))) | (with_reducible exact Ent.there (Ent.there (Ent.there (Ent.there (Ent.there Ent.refl))))) | (with_reducible exact Ent.there (Ent.there (Ent.there (Ent.there (Ent.there (Ent.there Ent.refl)))))) | (with_reducible exact Ent.there (Ent.there (Ent.there (Ent.there (Ent.there (Ent.there (Ent.there Ent.refl))))))) | (with_reducible exact Ent.there (Ent.there (Ent.there (Ent.there (Ent.there (Ent.there (Ent.there (Ent.there Ent.refl)))))))) | (with_reducible exact Ent.there (Ent.there (Ent.there (Ent.there (Ent.there (Ent.there (Ent.there (Ent.there (Ent.there Ent.refl))))))))) | (with_reducible exact Ent.there (Ent.there (Ent.there (Ent.there (Ent.there (Ent.there (Ent.there (Ent.there (Ent.there (Ent.there Ent.refl)))))))))) | (with_reducible exact Ent.there (Ent.there (Ent.there (Ent.there (Ent.there (Ent.there (Ent.there (Ent.there (Ent.there (Ent.there (Ent.there Ent.refl))))))))))) | (with_reducible exact Ent.there (Ent.there (Ent.there (Ent.there (Ent.there (Ent.there (Ent.there (Ent.there (Ent.there (Ent.there (Ent.there (Ent.there Ent.refl)))))))))))) | (with_reducible exact Ent.there (Ent.there (Ent.there (Ent.there (Ent.there (Ent.there (Ent.there (Ent.there (Ent.there (Ent.there (Ent.there (Ent.there (Ent.there Ent.refl))))))))))))) | (with_reducible exact Ent.there (Ent.there (Ent.there (Ent.there (Ent.there (Ent.there (Ent.there (Ent.there (Ent.there (Ent.there (Ent.there (Ent.there (Ent.there (Ent.there Ent.refl)))))))))))))) | (with_reducible exact Ent.there (Ent.there (Ent.there (Ent.there (Ent.there (Ent.there (Ent.there (Ent.there (Ent.there (Ent.there (Ent.there (Ent.there (Ent.there (Ent.there (Ent.there Ent.refl))))))))))))))) | (with_reducible exact Ent.there (Ent.there (Ent.there (Ent.there (Ent.there (Ent.there (Ent.there (Ent.there (Ent.there (Ent.there (Ent.there (Ent.there (Ent.there (Ent.there (Ent.there (Ent.there Ent.refl)))))))))))))))) | (with_reducible exact Ent.there (Ent.there (Ent.there (Ent.there (Ent.there (Ent.there (Ent.there (Ent.there (Ent.there (Ent.there (Ent.there (Ent.there (Ent.there (Ent.there (Ent.there (Ent.there (Ent.there Ent.refl))))))))))))))))) | (with_reducible exact Ent.there (Ent.there (Ent.there (Ent.there (Ent.there (Ent.there (Ent.there (Ent.there (Ent.there (Ent.there (Ent.there (Ent.there (Ent.there (Ent.there (Ent.there (Ent.there (Ent.there (Ent.there Ent.refl)))))))))))))))))) | (with_reducible exact Ent.there (Ent.there (Ent.there (Ent.there (Ent.there (Ent.there (Ent.there (Ent.there (Ent.there (Ent.there (Ent.there (Ent.there (Ent.there (Ent.there (Ent.there (Ent.there (Ent.there (Ent.there (Ent.there Ent.refl))))))))))))))))))) | (with_reducible exact Ent.there (Ent.there (Ent.there (Ent.there (Ent.there (Ent.there (Ent.there (Ent.there (Ent.there (Ent.there (Ent.there (Ent.there (Ent.there (Ent.there (Ent.there (Ent.there (Ent.there (Ent.there (Ent.there (Ent.there Ent.refl)))))))))))))))))))) | (with_reducible exact Ent.there (Ent.there (Ent.there (Ent.there (Ent.there (Ent.there (Ent.there (Ent.there (Ent.there (Ent.there (Ent.there (Ent.there (Ent.there (Ent.there (Ent.there (Ent.there (Ent.there (Ent.there (Ent.there (Ent.there (Ent.there Ent.refl))))))))))))))))))))))) (by (with_reducible exact Ent.refl)))))))))))))))))))))))))))))))))))))) : Ent Γ Γ' := h
end Go.Sl
end

section
/- ArrayCut: when the power goes at any operation while a stripe is put, whatever stays of what waited: all other stripes read as they were put. -/
namespace Go.Proofs.Ytapgejjjgeiihaa
open Go Go.Sl
attribute [local irreducible] Yl WL WC WQ WD

/-- a stripe is put, and what comes of it isn't asked -/
def aputU (s : Shp) (t : Int) (L : List Bytes) (r : Rig) : Out Rig Unit := (aput s t L r).bind fun _ r => .ok () r
set_option maxHeartbeats 2000000 in
theorem cut1_spec (l : LK) (hk : l.k.Ok) (b11 b14 b7 : Nat) (t : Int) (ht : 0 ≤ t ∧ t < l.k.sh.all) (z f : UInt8) (r : Rig) :
    SpecG Try.prog outage 64 [vp b11, vp b14, vp b7] (fun _ => True) (fun r F => LRigAt l r (Cells b11 [vp l.g] :: Cells b14 [vi t] :: Cells b7 (strCells (z, f)) :: F)) (aputU l.k.sh t (chunksOf l.k.sh f) r) r (fun (_ : Unit) _ => True) (fun _ _ => .tuple #[]) (fun _ _ F => F) := by
  obtain ⟨m', hm'⟩ : ∃ m', m' = aputU l.k.sh t (chunksOf l.k.sh f) r := ⟨_, rfl⟩
  have hr : m' = (aput l.k.sh t (chunksOf l.k.sh f) r).bind fun _ r => .ok () r := hm'
  rw [← hm']
  clear hm'
  have hs := hk.sh
  have hmm := hs.members
  have hbl := hs.block
  (refine spec_of Try.func64 rfl Try.ntmps64 rfl (fun F w0 hrd => ?_))
  dsimp only [LRigAt, strCells]
  refine walk ?_
  (refine draw ?_; refine dy 0 ?_; refine dy 1 ?_; refine dy 2 ?_; refine dy 3 ?_; refine dy 4 ?_; refine dy 5 ?_; refine dy 6 ?_; refine dy 7 ?_; refine dy 8 ?_; refine dy 9 ?_; refine dy 10 ?_; refine ddo 11 ?_)
  refine call (chunks_spec l.k.sh (by omega) (by omega) f) ?_
  intro y hy
  obtain ⟨cv, rows⟩ := y
  dsimp only at hy ⊢
  have hrl : rows.length ≤ 1048576 := by have := congrArg List.length hy; simp [chunksOf] at this; omega
  have hrb : ∀ q ∈ rows, q.2.length ≤ 1099511627776 := fun q hq => by
    have h1 : q.2 ∈ chunksOf l.k.sh f := by rw [← hy]; exact List.mem_map.2 ⟨q, hq, rfl⟩
    have := (chunksOf_chunks hs f).each _ h1
    omega
  rw [← hy] at hr
  (refine walk ?_; refine ddo 12 ?_)
  (refine gcall (aput_spec l.k hk r t cv rows hrl hrb) (fun s' hg => ⟨s', ?_, ?_⟩) (fun x e r1 h1 _ => ?_); (rw [hr, hg] <;> rfl); (first | (exact perm) | (exact permL)); (rw [h1] at hr); (try rw [Out.bind_ok] at hr))
  refine walk ?_
  exact wq_end0 rfl ((), (), r1) rfl ⟨hr, trivial⟩ permL
/-- all is well, but for the power -/
structure Calm (s : Shp) (m : IMap UInt8) (r : Rig) : Prop where
  fits : Fits s r
  live : ∀ i, i < r.ds.length → Live (r.at i)
  stale : r.stale = -1
  whole : r.broken = false
  all : Stripes s m r
theorem Calm.tr0 {s : Shp} {m : IMap UInt8} {r r' : Rig} (h : Calm s m r) {S : Nat → Int → Prop} (t : Tr0 S r r') : Fits s r' ∧ (∀ i, i < r'.ds.length → Live (r'.at i)) ∧ r'.stale = -1 ∧ r'.broken = false := by
  have hst : r'.stale = -1 := by
    rcases t.stale with h1 | ⟨_, m, hm, _, h3⟩
    · rw [h1, h.stale]
    · exact absurd (h.live m hm) h3
  refine ⟨h.fits.tr t, fun i hi => t.live i (h.live i (by rw [← t.len]; exact hi)), hst, ?_⟩
  cases hb' : r'.broken with
  | false => rfl
  | true =>
    exfalso
    rcases t.broken hb' with h1 | ⟨m, hm, h1, _⟩
    · rw [h.whole] at h1; cases h1
    · exact h1 (h.live m hm)
theorem Calm.pow {s : Shp} {m : IMap UInt8} {r : Rig} (h : Calm s m r) (p : Pow) : Calm s m { r with pow := p } := ⟨⟨h.fits.many, h.fits.size, h.fits.on⟩, h.live, h.stale, h.whole, h.all⟩
theorem Calm.cycle {s : Shp} {m : IMap UInt8} {r : Rig} (h : Calm s m r) {k : Nat} (hk : k < r.ds.length) (keep : Nat) : Calm s m { r with ds := r.ds.set k ((r.at k).cycle keep) } := by
  have hat := fun i => at_set (r := r) (m := k) (d := (r.at k).cycle keep) rfl hk (r' := { r with ds := r.ds.set k ((r.at k).cycle keep) }) rfl i
  have hl : ({ r with ds := r.ds.set k ((r.at k).cycle keep) } : Rig).ds.length = r.ds.length := by simp
  refine ⟨⟨by rw [hl]; exact h.fits.many, fun i hi => ?_, fun i hi => ?_⟩, fun i hi => ?_, h.stale, h.whole, ⟨h.all.1, fun t f ht hg i hi hne => ?_⟩⟩
  all_goals rw [hl] at hi; rw [hat]; split
  · rename_i e; subst e; exact h.fits.size i hi
  · exact h.fits.size i hi
  · rename_i e; subst e
    show (((r.at i).settle _).on.length : Int) = _
    rw [show ((r.at i).settle (fun j => keepBit keep ((r.at i).waiting.idxOf j))).on.length = (r.at i).on.length from by simp [Dsk.settle]]
    exact h.fits.on i hi
  · exact h.fits.on i hi
  · rename_i e; subst e; exact h.live i hi
  · exact h.live i hi
  · rename_i e; subst e; exact (h.all.2 t f ht hg i hi hne).settle _
  · exact h.all.2 t f ht hg i hi hne
theorem Calm.put {s : Shp} (hs : s.Ok) {m : IMap UInt8} {r : Rig} (h : Calm s m r) {t : Int} (ht : 0 ≤ t ∧ t < s.all) (f : UInt8) :
    (aputU s t (chunksOf s f) r).Sat (fun _ r' => Calm s (mset (mdel m t) t f) r') (fun r' => Calm s (mdel m t) r') := by
  unfold aputU
  refine Out.Sat.bind ((aput_sat hs h.fits ht (chunksOf_chunks hs f)).mono (fun _ _ h => h) (fun r' hg => ?_)) ?_
  · obtain ⟨a1, a2, a3, a4⟩ := h.tr0 hg.1
    exact ⟨a1, a2, a3, a4, h.all.del hg.1⟩
  · rintro e r' ⟨t1, h1⟩
    obtain ⟨a1, a2, a3, a4⟩ := h.tr0 t1.toTr0
    rcases h1 with ⟨rfl, _, h1, _⟩ | ⟨_, h1⟩
    · refine ⟨a1, a2, a3, a4, ?_⟩
      have hd := h.all.del t1.toTr0
      exact hd.put (Tr0.refl (S := SA (s.stripeAt t)) r') f h1
    · rw [a4] at h1; cases h1
theorem Calm.of {s : Shp} {m : IMap UInt8} {r : Rig} (hj : JP s m r) : Calm s m r := ⟨hj.2.fits, fun i hi => hj.2.live i hi (fun x => x), hj.stale, hj.1.whole, hj.1.nodup, fun t f ht hg => by
  obtain ⟨L, _, l2, l3, _⟩ := hj.1.lie t ht
  rw [← l3 f hg]; exact l2⟩
theorem Calm.hold {s : Shp} {m : IMap UInt8} {r : Rig} (h : Calm s m r) (hl : r.pow.limit = -1) : JHold s 0 m r := ⟨⟨h.fits, hl, fun i hi _ => h.live i hi, .inl h.stale⟩, h.all, h.whole⟩
theorem rcycle_spec (k : Keys) (r : Rig) (m : Nat) (hm : m < k.ps.length) (keep : Nat) (hkeep : keep < 18446744073709551616) :
    Spec0 Try.prog 53 [vp k.ps[m], .int .u64 keep] (fun _ => True) (fun F => RigAt k r F) (fun _ : Unit => True) (fun _ => .tuple #[]) (fun _ F => RigAt k { r with ds := r.ds.set m ((r.at m).cycle keep) } F) := by
  intro F w hr hs
  refine (cycle_spec k.ps[m] k.pp (r.at m) keep hkeep (PowAt k.pp r.pow :: RigBut k r m F) w (fun _ _ => trivial) (RigAt.take hm _ hs)).mono fun e w' he => ?_
  obtain ⟨hev, he | he⟩ := he
  · obtain ⟨x, hx, rfl, hsat⟩ := he
    exact ⟨hev, .inl ⟨x, hx, rfl, RigAt.give (r := r) hm ((r.at m).cycle keep, r.pow) _ hsat⟩⟩
  · obtain ⟨y, hy, _⟩ := he
    exact hy.elim

set_option maxHeartbeats 8000000 in
theorem cut_spec (x : Small) (v1 : Value) (xs : List (UInt8 × UInt8)) (last : UInt8 × UInt8) (ops : UInt8) (keep : Nat) (hkeep : keep < 18446744073709551616) (hb1 : xs.length ≤ 9223372036854775807) :
    Spec0 Try.prog 16 [Small.val x, v1, .agg (strCells last).toArray, vb ops, .int .u64 keep] (Rd v1 2 (xs.flatMap strCells)) (fun F => F) (fun _ : Unit => True) (fun _ => .bool true) (fun _ F => F) := by
  (refine spec_of Try.func16 rfl Try.ntmps16 rfl (fun F w0 hrd => ?_))
  haveI : RdIn F v1 2 (xs.flatMap strCells) := ⟨hrd⟩
  refine walk ?_
  intro c
  refine walk ?_
  intro b7
  refine walk ?_
  refine call (awake11_spec) ?_
  intro _ _
  refine walk ?_
  refine wif_dec (fun hc => ?_) (fun hc => ?_) <;> refine walk ?_
  · exact wq_ret1 rfl rfl () rfl trivial perm
  have h1 : xs.length ≤ 10 := by omega
  refine call (shape5_spec x) ?_
  intro _ _
  have hs := shapeOf_ok x
  generalize shapeOf x = s at *
  have hmm := hs.members
  have hbl := hs.block
  refine walk ?_
  refine call (new11_spec s hs) ?_
  intro l hl
  obtain ⟨g, dv, ⟨a, nv, pp, ps, lv, sh⟩⟩ := l
  obtain ⟨hk, hsh⟩ := hl
  dsimp only [LRigAt] at hk hsh ⊢
  subst hsh
  have hps := hk.mem
  dsimp only at hps
  have hall := (bounds hs).all
  have hall0 : 8 ≤ sh.all := hall.1
  have hall1 : sh.all ≤ 1024 := hall.2
  refine walk ?_
  intro b11
  refine walk ?_
  intro hb
  refine walk ?_
  rw [show (MapI hb [] : HP) = MapB hb [] from rfl]
  refine call (rput_spec ⟨g, dv, ⟨a, nv, pp, ps, lv, sh⟩⟩ hk (JP sh) false (JP.puts hs (by dsimp only; omega)) v1 xs (by omega) [] (Rig.fresh sh) ⟨fresh_jm hs (by omega), fresh_base hs _⟩ hb) ?_
  intro y1 hj1
  obtain ⟨m1, r1⟩ := y1
  dsimp only [LRigAt] at hj1 ⊢
  refine walk ?_
  have hl8 := last.1.toNat_lt
  obtain ⟨t, ht⟩ : ∃ t : Int, t = (last.1.toNat : Int) % sh.all := ⟨_, rfl⟩
  have ht1 : 0 ≤ t ∧ t < sh.all := by
    have h1 := Int.emod_nonneg (last.1.toNat : Int) (show sh.all ≠ 0 by omega)
    have h2 := Int.emod_lt_of_pos (last.1.toNat : Int) (show 0 < sh.all by omega)
    omega
  refine wc_join (X := Nat) (fun b14 => [(0, Small.val x), (1, v1), (3, vb ops), (4, .int .u64 keep), (7, vp b7), (10, .bool false), (11, vp b11), (13, .map (some hb)), (14, vp b14)]) (fun b14 => LRigAt ⟨g, dv, ⟨a, nv, pp, ps, lv, sh⟩⟩ r1 (Cells b11 [vp g] :: Cells b14 [vi t] :: Cells b7 (strCells last) :: MapB hb m1 :: F)) (fun _ => True) ?_ (fun b14 _ => ?_)
  · refine draw ?_; refine dy 0 ?_; refine dy 1 ?_; refine dy 2 ?_; refine dy 3 ?_; refine dy 4 ?_; refine dy 5 ?_; refine dy 6 ?_
    refine fork2 7 9 ?_ ?_
    · refine call (all_spec sh hs) ?_
      intro _ _
      refine walk ?_
      refine dy 8 ?_
      refine ddx 9 ?_
      refine walk ?_
      intro b14
      refine walk ?_
      refine ddx 10 ?_
      rw [← ht]
      refine walk ?_
      exact wq_meet _ _ _ b14 trivial envs permL
    · refine walk ?_
      intro b14
      refine walk ?_
      refine ddx 7 ?_
      refine call (all_spec sh hs) ?_
      intro _ _
      refine walk ?_
      refine dy 8 ?_
      refine ddx 10 ?_
      rw [← ht]
      refine walk ?_
      exact wq_meet _ _ _ b14 trivial envs permL
  dsimp only [LRigAt]
  refine walk ?_
  have hc1 := Calm.of hj1
  have hop := ops.toNat_lt
  obtain ⟨n, hn⟩ : ∃ n : Int, n = (ops.toNat : Int) % 16 := ⟨_, rfl⟩
  rw [← hn]
  refine call (limit_spec pp r1.pow n) ?_
  intro _ _
  obtain ⟨r2, hr2⟩ : ∃ r2 : Rig, r2 = { r1 with pow := r1.pow.may n } := ⟨_, rfl⟩
  have hc2 : Calm sh m1 r2 := by rw [hr2]; exact hc1.pow _
  have hput := hc2.put hs ht1 last.2
  rw [show PowAt pp (r1.pow.may n) = PowAt pp r2.pow from by rw [hr2], show NvAt nv pp r1.nv = NvAt nv pp r2.nv from by rw [hr2], show r1.broken = r2.broken from by rw [hr2], show r1.ds = r2.ds from by rw [hr2]]
  clear hr2 hc1
  refine walk ?_
  refine call (run_spec (caps := [vp b11, vp b14, vp b7]) (cut1_spec ⟨g, dv, ⟨a, nv, pp, ps, lv, sh⟩⟩ hk b11 b14 b7 t ht1 last.1 last.2 r2) (fun A F => permL) (fun x A F => permL) (fun y A F => permL)) ?_ (hg := frameL)
  intro y hy
  rcases y with ⟨_, _, r3⟩ | r3
  · have hy1 : aputU sh t (chunksOf sh last.2) r2 = .ok () r3 := hy.1
    rw [hy1] at hput
    have hc3 : Calm sh (mset (mdel m1 t) t last.2) r3 := hput
    obtain ⟨m2, hm2⟩ : ∃ m2, m2 = mset (mdel m1 t) t last.2 := ⟨_, rfl⟩
    rw [← hm2] at hc3
    obtain ⟨gone, hgone⟩ : ∃ gone, gone = false := ⟨_, rfl⟩
    dsimp only [Sum.elim_inl, Sum.elim_inr, Sum.isRight_inl, Sum.isRight_inr, LRigAt]
    refine walk ?_
    refine call (limit_spec pp r3.pow (-1)) ?_
    intro _ _
    obtain ⟨r4, hr4⟩ : ∃ r4 : Rig, r4 = { r3 with pow := r3.pow.may (-1) } := ⟨_, rfl⟩
    have hc4 : Calm sh m2 r4 := by rw [hr4]; exact hc3.pow _
    have hl4 : r4.pow.limit = -1 := by rw [hr4]; rfl
    rw [show PowAt pp (r3.pow.may (-1)) = PowAt pp r4.pow from by rw [hr4], show NvAt nv pp r3.nv = NvAt nv pp r4.nv from by rw [hr4], show r3.broken = r4.broken from by rw [hr4], show r3.ds = r4.ds from by rw [hr4]]
    clear hr4 hc3
    refine walk ?_
    refine wc_loop (X := Nat × Rig) (fun y => [(0, Small.val x), (1, v1), (4, .int .u64 keep), (7, vp b7), (10, .bool false), (11, vp b11), (13, .map (some hb)), (14, vp b14), (15, .bool gone), (66, dv), (67, vi ps.length), (68, vi y.1)])
      (fun y => LRigAt ⟨g, dv, ⟨a, nv, pp, ps, lv, sh⟩⟩ y.2 (Cells b11 [vp g] :: Cells b14 [vi t] :: Cells b7 (strCells last) :: MapB hb m1 :: F))
      (fun y => y.1 ≤ ps.length ∧ Calm sh m2 y.2 ∧ y.2.pow.limit = -1) (fun y => ps.length - y.1) (0, r4) ⟨by dsimp only; omega, hc4, hl4⟩ (by rw [hgone]; exact envs) permL (fun y hy => ?_)
    obtain ⟨i, r5⟩ := y
    dsimp only [LRigAt] at hy ⊢
    obtain ⟨hi, hc5, hl5⟩ := hy
    refine walk ?_
    refine wif_dec (fun hlt => ?_) (fun hlt => ?_)
    · have hlt : i < ps.length := by omega
      refine walk ?_
      refine call (rcycle_spec ⟨a, nv, pp, ps, lv, sh⟩ r5 i (by dsimp only; omega) keep hkeep) ?_ (hg := frameL)
      intro _ _
      refine walk ?_
      exact wq_round (i + 1, _) ⟨by dsimp only; omega, hc5.cycle (k := i) (by have := hc5.fits.many; omega) keep, hl5⟩ (by dsimp only; omega) envs permL
    refine walk ?_
    rw [mdel_map vb]
    rw [hgone]
    refine walk ?_
    rw [mset_map vb, ← hm2]
    refine call (rholds_spec ⟨g, dv, ⟨a, nv, pp, ps, lv, sh⟩⟩ hk m2 (JHold sh 0 m2) false (JHold.gets hs 0 m2) r5 (hc5.hold hl5) hb) ?_
    intro r6 _
    refine walk ?_
    exact wq_ret1 rfl rfl () rfl trivial perm
  · have hy1 : aputU sh t (chunksOf sh last.2) r2 = .gone r3 := hy
    rw [hy1] at hput
    have hc3 : Calm sh (mdel m1 t) r3 := hput
    obtain ⟨m2, hm2⟩ : ∃ m2, m2 = mdel m1 t := ⟨_, rfl⟩
    rw [← hm2] at hc3
    obtain ⟨gone, hgone⟩ : ∃ gone, gone = true := ⟨_, rfl⟩
    dsimp only [Sum.elim_inl, Sum.elim_inr, Sum.isRight_inl, Sum.isRight_inr, LRigAt]
    refine walk ?_
    refine call (limit_spec pp r3.pow (-1)) ?_
    intro _ _
    obtain ⟨r4, hr4⟩ : ∃ r4 : Rig, r4 = { r3 with pow := r3.pow.may (-1) } := ⟨_, rfl⟩
    have hc4 : Calm sh m2 r4 := by rw [hr4]; exact hc3.pow _
    have hl4 : r4.pow.limit = -1 := by rw [hr4]; rfl
    rw [show PowAt pp (r3.pow.may (-1)) = PowAt pp r4.pow from by rw [hr4], show NvAt nv pp r3.nv = NvAt nv pp r4.nv from by rw [hr4], show r3.broken = r4.broken from by rw [hr4], show r3.ds = r4.ds from by rw [hr4]]
    clear hr4 hc3
    refine walk ?_
    refine wc_loop (X := Nat × Rig) (fun y => [(0, Small.val x), (1, v1), (4, .int .u64 keep), (7, vp b7), (10, .bool false), (11, vp b11), (13, .map (some hb)), (14, vp b14), (15, .bool gone), (66, dv), (67, vi ps.length), (68, vi y.1)])
      (fun y => LRigAt ⟨g, dv, ⟨a, nv, pp, ps, lv, sh⟩⟩ y.2 (Cells b11 [vp g] :: Cells b14 [vi t] :: Cells b7 (strCells last) :: MapB hb m1 :: F))
      (fun y => y.1 ≤ ps.length ∧ Calm sh m2 y.2 ∧ y.2.pow.limit = -1) (fun y => ps.length - y.1) (0, r4) ⟨by dsimp only; omega, hc4, hl4⟩ (by rw [hgone]; exact envs) permL (fun y hy => ?_)
    obtain ⟨i, r5⟩ := y
    dsimp only [LRigAt] at hy ⊢
    obtain ⟨hi, hc5, hl5⟩ := hy
    refine walk ?_
    refine wif_dec (fun hlt => ?_) (fun hlt => ?_)
    · have hlt : i < ps.length := by omega
      refine walk ?_
      refine call (rcycle_spec ⟨a, nv, pp, ps, lv, sh⟩ r5 i (by dsimp only; omega) keep hkeep) ?_ (hg := frameL)
      intro _ _
      refine walk ?_
      exact wq_round (i + 1, _) ⟨by dsimp only; omega, hc5.cycle (k := i) (by have := hc5.fits.many; omega) keep, hl5⟩ (by dsimp only; omega) envs permL
    refine walk ?_
    rw [mdel_map vb]
    rw [hgone, ← hm2]
    refine walk ?_
    refine call (rholds_spec ⟨g, dv, ⟨a, nv, pp, ps, lv, sh⟩⟩ hk m2 (JHold sh 0 m2) false (JHold.gets hs 0 m2) r5 (hc5.hold hl5) hb) ?_
    intro r6 _
    refine walk ?_
    exact wq_ret1 rfl rfl () rfl trivial perm
theorem cut_spec' (x : Small) (v1 : Value) (xs : List (UInt8 × UInt8)) (last : UInt8 × UInt8) (ops : UInt8) (keep : Int) (hkeep : 0 ≤ keep ∧ keep ≤ 18446744073709551615) (hb1 : xs.length ≤ 9223372036854775807) :
    Spec0 Try.prog 16 [Small.val x, v1, .agg (strCells last).toArray, vb ops, .int .u64 keep] (Rd v1 2 (xs.flatMap strCells)) (fun F => F) (fun _ : Unit => True) (fun _ => .bool true) (fun _ F => F) := by
  obtain ⟨k, rfl⟩ := Int.eq_ofNat_of_zero_le hkeep.1
  exact cut_spec x v1 xs last ops k (by omega) hb1

set_option maxRecDepth 100000 in
open Go.RowKit Go.ChangeShapes Go.WideShapes in
theorem arrayCut_lifted (os : Os) (started : os.Started) (H : Type) (enc : TypeId × Value → H) :
    ReturnsInHanded {} Try.checked os 16 .any (Rows.arrayCutSpec.pre6 enc Try.prog Try.f16 Rows.arrayCutRow.domain false) (Rows.arrayCutSpec.post enc Try.prog Try.f16 false true false false) := by
  refine returnsInHanded_of_change (C := Try.checked) Try.own started (by kernel_rfl) Try.func16
    (ChangeSpec.witness6 (enc := enc) (C := Try.checked) false ⟨#[], #[.agg #[.int .u8 0, .int .u8 0, .int .u8 0, .int .u8 0, .int .u8 0, .int .u8 0], .slice none 0 0, .agg #[.int .u8 0, .int .u8 0], .int .u8 0, .int .u64 0], []⟩ 8 (by kernel_rfl) (by kernel_rfl) (by kernel_rfl) (by kernel_rfl)) ?_
  intro W base args ds gs before hval0 hW hcnd _
  rw [Try.same] at hval0 hW hcnd ⊢
  have hval : ∀ (j : Nat) t v, Try.f16.params[j]? = some t → args[j]? = some v → Value.okWide Try.prog W .any base t v := hval0
  have hW' := hW
  obtain ⟨p, q, hA, hV, rfl, hfz, hnd⟩ := hW
  have hA : DataW.TrodAll enc Try.prog W 0 (fun _ => true) true [23, 24, 102, 5, 69] args.toList ds p := hA
  obtain ⟨v0, vs0, d0, ds0, q0, m0, y0, e0, rfl, t0, h0⟩ := trodAll_split1 hA
  obtain ⟨v1, vs1, d1, ds1, q1, m1, y1, e1, rfl, t1, h1⟩ := trodAll_split1 h0
  obtain ⟨v2, vs2, d2, ds2, q2, m2, y2, e2, rfl, t2, h2⟩ := trodAll_split1 h1
  obtain ⟨v3, vs3, d3, ds3, q3, m3, y3, e3, rfl, t3, h3⟩ := trodAll_split1 h2
  obtain ⟨v4, vs4, d4, ds4, q4, m4, y4, e4, rfl, t4, h4⟩ := trodAll_split1 h3
  obtain ⟨e5, rfl⟩ := trodAll_split0 h4
  have ea : args = [v0, v1, v2, v3, v4].toArray := by apply Array.toList_inj.1; rw [e0, e1, e2, e3, e4, e5]
  subst ea
  obtain ⟨b0, c0, rfl, rfl, hx0⟩ := arg_struct Try.underlying23 @rdr_small (hval 0 23 v0 rfl rfl) t0
  obtain ⟨b1, w1, f1, hr1, hb1, hx1⟩ := arg_slice (@rdr_slicef Try.prog 24 102 2 (UInt8×UInt8) strCells _ _ (by kernel_rfl) (by decide) @rdr_stripe) (hval 1 24 v1 rfl rfl) t1
  obtain rfl : v1 = w1 := by simpa using f1
  obtain ⟨b2, c2, rfl, rfl, hx2⟩ := arg_struct Try.underlying102 @rdr_stripe (hval 2 102 v2 rfl rfl) t2
  obtain ⟨x3, rfl⟩ := arg_u8 (hval 3 5 v3 rfl rfl) t3
  obtain ⟨n4, rfl, a4⟩ := arg_int (k := .u64) (hval 4 69 v4 rfl rfl) t4
  refine (cut_spec' b0 v1 b1 b2 x3 n4 a4 hb1 [Old W] W (fun h hs => (Old.rd hr1).rd h hs) (sat_old W)).mono fun e W' he => ?_
  obtain ⟨hev, ⟨_, _, rfl, hs⟩ | ⟨_, hf, _⟩⟩ := he
  · exact ⟨_, rfl, law_post Try.laidOut rfl hW' rfl Try.underlying4 (by decide +kernel) (by cases gs <;> first | rfl | exact False.elim hV) (Sat.below hev hs)⟩
  · exact hf.elim

set_option maxRecDepth 100000 in
theorem arrayCut_holds : Rows.ArrayCutSaid :=
  OpenClaim.holds_of_wide 16 Try.f16 rfl rfl rfl rfl rfl rfl rfl ⟨rfl, rfl, rfl, rfl, rfl⟩ rfl rfl rfl rfl rfl (by kernel_rfl) Try.func16 (Try.joined (by kernel_rfl))
    (of_decide_eq_true (by kernel_rfl)) (by unfold Func.isWrapper; first | (rw [if_pos (by decide +kernel)]; kernel_rfl) | (rw [if_neg (by decide +kernel)]; exact ⟨rfl, rfl⟩))
    (fun os started H enc _ => arrayCut_lifted os started H enc)
#print axioms arrayCut_holds
end Go.Proofs.Ytapgejjjgeiihaa
end
