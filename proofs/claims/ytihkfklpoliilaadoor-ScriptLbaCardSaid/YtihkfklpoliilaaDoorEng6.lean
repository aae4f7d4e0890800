/- A statement whose order is open: what only reads floats; what it reads stays till another needs it. No program. -/
import Derived.Test.YtihkfklpoliilaaDoorEng5
namespace Go.Sl
open Go

def dependsOn (ops : Array Oper) (j i : Nat) : Bool := match ops[j]? with
  | some o => o.after.any fun e => Region.binds .any e && e.on == i
  | none => false

/-- what must hold of a world, till one comes that stands behind the operation of that number -/
abbrev Obl := List (Nat × (World → Prop))
def OblOk (L : Obl) (w : World) : Prop := ∀ q ∈ L, q.2 w

def wpAnyL (P : Program) (ops : Array Oper) (Q : Exit → Act → World → Prop) : Nat → Obl → Array Bool → Act → World → Prop
  | 0, L, listed, a, w => OblOk L w ∧ Region.ready .any ops listed = [] ∧ Q .normal a w
  | fuel + 1, L, listed, a, w => OblOk L w ∧ (Region.ready .any ops listed = [] → Q .normal a w) ∧
      ∀ i ∈ Region.ready .any ops listed, wpOp P ops Q i (wpAnyL P ops Q fuel (L.filter fun q => !dependsOn ops i q.1) (listed.setIfInBounds i true)) a w

section draw
variable {P : Program} {ops : Array Oper} {Q : Exit → Act → World → Prop}

theorem wpAnyL_sound : ∀ (fuel : Nat) (L : Obl) (listed : Array Bool) (a : Act) (w : World), wpAnyL P ops Q fuel L listed a w → wpAny P .any ops Q fuel listed a w := by
  intro fuel
  induction fuel with
  | zero => intro L listed a w h; exact h.2
  | succ fuel ih => intro L listed a w h; exact ⟨h.2.1, fun i hi => wpOp_mono (fun a w => ih _ _ a w) (h.2.2 i hi)⟩

theorem wpAnyL_mono : ∀ (fuel : Nat) (L L' : Obl) (listed : Array Bool) (a : Act) (w : World), (∀ q ∈ L', q ∈ L ∨ q.2 = Tt) → wpAnyL P ops Q fuel L listed a w → wpAnyL P ops Q fuel L' listed a w := by
  intro fuel
  induction fuel with
  | zero =>
    intro L L' listed a w hs h
    refine ⟨fun q hq => ?_, h.2⟩
    rcases hs q hq with h1 | h1
    · exact h.1 q h1
    · rw [h1]; trivial
  | succ fuel ih =>
    intro L L' listed a w hs h
    refine ⟨fun q hq => ?_, h.2.1, fun i hi => wpOp_mono (fun a w => ih _ _ _ a w fun q hq => ?_) (h.2.2 i hi)⟩
    · rcases hs q hq with h1 | h1
      · exact h.1 q h1
      · rw [h1]; trivial
    · obtain ⟨h1, h2⟩ := List.mem_filter.1 hq
      rcases hs q h1 with h3 | h3
      · exact .inl (List.mem_filter.2 ⟨h3, h2⟩)
      · exact .inr h3

/-- the operation yields v in each world of which I holds; or it isn't wanted -/
def YI (P : Program) (ops : Array Oper) (o : Oper) (v : Value) (I : World → Prop) (a : Act) : Prop :=
  (Region.wanted o (yielded ops a.tmps) = true ∧ ∀ w, I w → (execOp a.eval o).run P w = .ok (.value v) w) ∨
  (Region.wanted o (yielded ops a.tmps) = false ∧ v = undef)

theorem YI.op {i : Nat} {o : Oper} {v : Value} {I : World → Prop} {a : Act} (hi : ops[i]? = some o) (hy : YI P ops o v I a) {K : Act → World → Prop} {w : World} (hw : I w)
    (h : K (a.put o.dst v) w) : wpOp P ops Q i K a w := by
  unfold wpOp
  simp only [hi]
  rcases hy with ⟨h1, h2⟩ | ⟨h1, rfl⟩
  · rw [if_pos h1]; left; unfold Oper.wp; rw [h2 w hw]; exact h
  · rw [if_neg (by simp [h1])]; exact h

theorem YI.stays {oi oj : Oper} {v : Value} {I : World → Prop} {a : Act} (hap : oi.apart ops oj = true) (hs : ∀ cs b, oi.op ≠ .select cs b) (hy : YI P ops oi v I a) (u : Value) :
    YI P ops oi v I (a.put oj.dst u) := by
  obtain ⟨_, _, h3⟩ := Oper.apart_spec hap
  unfold YI
  rw [execOp_put oi hs a oj.dst u h3, wanted_put oi a oj.dst u h3]
  exact hy

/-- a panic goes through whatever a slot holds -/
class PutQ (Q : Exit → Act → World → Prop) : Prop where
  put : ∀ c a d v w, Q (.panic c) (a.put d v) w → Q (.panic c) a w
instance {P : Program} {fn : Func} {R : Ending → World → Prop} : PutQ (bodyPost P fn R) := ⟨fun c a d v w h => ⟨by
  have := h.1; cases d <;> exact this, h.2⟩⟩
instance {K : Act → World → Prop} {Q : Exit → Act → World → Prop} [t : PutQ Q] : PutQ (Exit.then K Q) := ⟨t.put⟩
instance {id : Nat} {Q : Exit → Act → World → Prop} [t : PutQ Q] : PutQ (Exit.inBlock id Q) := ⟨t.put⟩
instance {X : Type} {w0 : World} {n : Nat} {env : X → Env} {Γ : X → List HP} {inv : X → Prop} {μ : X → Nat} {x : X} {Q : Exit → Act → World → Prop} [t : PutQ Q] :
    PutQ (LoopQ w0 n env Γ inv μ x Q) := ⟨t.put⟩

theorem swapOp [pq : PutQ Q] {j : Nat} {oi oj : Oper} {v : Value} {I : World → Prop} (hj : ops[j]? = some oj) (hap : oi.apart ops oj = true)
    (hsi : ∀ cs b, oi.op ≠ .select cs b) (hsj : ∀ cs b, oj.op ≠ .select cs b) {K : Act → World → Prop} {a : Act} {w : World}
    (hy : YI P ops oi v I a) (h : wpOp P ops Q j K (a.put oi.dst v) w) :
    wpOp P ops Q j (fun a' w' => YI P ops oi v I a' ∧ K (a'.put oi.dst v) w') a w := by
  obtain ⟨h1, h2, _⟩ := Oper.apart_spec hap
  have key : ∀ u, (a.put oj.dst u).put oi.dst v = (a.put oi.dst v).put oj.dst u := fun u => (Act.put_comm a v u h2).symm
  unfold wpOp at h ⊢
  simp only [hj] at h ⊢
  rw [wanted_put oj a oi.dst v h1] at h
  by_cases hw : Region.wanted oj (yielded ops a.tmps) = true
  · rw [if_pos hw] at h ⊢
    rcases h with h | ⟨h, hl⟩
    · left
      unfold Oper.wp at h ⊢
      rw [execOp_put oj hsj a oi.dst v h1] at h
      cases hr : (execOp a.eval oj).run P w with
      | halt x w' =>
        rw [hr] at h
        cases x <;> first | exact h.elim | exact pq.put _ _ _ _ _ h
      | ok nx w' =>
        rw [hr] at h
        cases nx <;> simp only [Oper.upon] at h ⊢
        case value u => exact ⟨hy.stays hap hsi u, by rw [key]; exact h⟩
        case skip => exact ⟨hy.stays hap hsi _, by rw [key]; exact h⟩
        case defer d =>
          have hy' : YI P ops oi v I { a with defers := d :: a.defers } := hy
          refine ⟨hy'.stays hap hsi _, ?_⟩
          rw [← Act.put_comm _ v undef h2, ← Act.put_defers]; exact h
        case enter f args =>
          refine Calls.mono h fun e w'' he => ?_
          cases e with
          | returned u => exact ⟨hy.stays hap hsi u, by rw [key]; exact he⟩
          | panicked c => exact pq.put _ _ _ _ _ he
          | outgrown => exact he
        case row row args => exact Rows.mono h fun u w'' he => ⟨hy.stays hap hsi u, by rw [key]; exact he⟩
    · right
      refine ⟨?_, hl⟩
      unfold Oper.asks at h ⊢
      rw [execOp_put oj hsj a oi.dst v h1] at h
      exact h
  · rw [if_neg hw] at h ⊢
    exact ⟨hy.stays hap hsi _, by rw [key]; exact h⟩

theorem ready_gone {i : Nat} {listed : Array Bool} (hr : i ∈ Region.ready .any ops listed) : Region.ready .any ops listed ≠ [] := by
  intro h; rw [h] at hr; cases hr

theorem wpAnyL_first [pq : PutQ Q] {i : Nat} {oi : Oper} {v : Value} {I : World → Prop} (hi : ops[i]? = some oi) (hsel : Region.noSelect ops = true) :
    ∀ (fuel : Nat) (L : Obl) (listed : Array Bool) (a : Act) (w : World),
      (∀ j oj, ops[j]? = some oj → j ≠ i → listed.getD j true = false → (∀ e ∈ oj.after, Region.binds .any e = true → e.on ≠ i) → oi.apart ops oj = true) →
      i ∈ Region.ready .any ops listed → YI P ops oi v I a → I w → OblOk L w →
      wpAnyL P ops Q fuel ((i, I) :: L) (listed.setIfInBounds i true) (a.put oi.dst v) w → wpAnyL P ops Q (fuel + 1) L listed a w := by
  intro fuel
  induction fuel with
  | zero =>
    intro L listed a w _ hr hy hw hL H
    refine ⟨hL, fun h => absurd h (ready_gone hr), fun j hj => ?_⟩
    by_cases hji : j = i
    · subst hji
      refine hy.op hi hw (wpAnyL_mono _ _ _ _ _ _ (fun q hq => .inl ?_) H)
      exact List.mem_cons_of_mem _ (List.mem_filter.1 hq).1
    · have := ready_mono hj hji
      rw [H.2.1] at this; cases this
  | succ fuel ih =>
    intro L listed a w hfree hr hy hw hL H
    refine ⟨hL, fun h => absurd h (ready_gone hr), fun j hj => ?_⟩
    by_cases hji : j = i
    · subst hji
      refine hy.op hi hw (wpAnyL_mono _ _ _ _ _ _ (fun q hq => .inl ?_) H)
      exact List.mem_cons_of_mem _ (List.mem_filter.1 hq).1
    · have h1 := H.2.2 j (ready_mono hj hji)
      obtain ⟨hjun, oj, hoj, hall⟩ := mem_ready.1 hj
      have hnot : ∀ e ∈ oj.after, Region.binds .any e = true → e.on ≠ i := fun e he hb heq => by
        have h2 := hall e he hb
        have h0 := (mem_ready.1 hr).1
        rw [heq] at h2
        rcases Nat.lt_or_ge i listed.size with h' | h'
        · simp [h'] at h0 h2; rw [h0] at h2; cases h2
        · simp [Array.getElem?_eq_none h'] at h2
      have hnd : dependsOn ops j i = false := by
        unfold dependsOn
        rw [hoj]
        apply Bool.eq_false_iff.2
        intro hany
        obtain ⟨e, he, hb⟩ := Array.any_eq_true'.1 hany
        simp only [Bool.and_eq_true, beq_iff_eq] at hb
        exact hnot e he hb.1 hb.2
      have h2 := swapOp hoj (hfree j oj hoj hji hjun hnot) (fun cs b => Region.noSelect_spec hsel i oi cs b hi) (fun cs b => Region.noSelect_spec hsel j oj cs b hoj) hy h1
      have hfree' : ∀ k ok, ops[k]? = some ok → k ≠ i → (listed.setIfInBounds j true).getD k true = false →
          (∀ e ∈ ok.after, Region.binds .any e = true → e.on ≠ i) → oi.apart ops ok = true := fun k ok hk hki hun hno => by
        refine hfree k ok hk hki ?_ hno
        by_cases hjk : j = k
        · subst hjk; exact hjun
        · rw [getD_set_ne true hjk] at hun; exact hun
      refine wpOp_mono (fun a' w' h3 => ?_) h2
      obtain ⟨hy', h3⟩ := h3
      rw [List.filter_cons, if_pos (by simp [hnd]), Array.setIfInBounds_comm _ _ (Ne.symm hji)] at h3
      have hok : OblOk ((i, I) :: L.filter fun q => !dependsOn ops j q.1) w' := by
        cases fuel with
        | zero => exact h3.1
        | succ fuel => exact h3.1
      exact ih _ (listed.setIfInBounds j true) a' w' hfree' (ready_mono hr (Ne.symm hji)) hy' (hok _ (.head _)) (fun q hq => hok q (.tail _ hq)) h3

end draw

/-! the same, of frames and heaps -/
def WD (P : Program) (ops : Array Oper) (Q : Exit → Act → World → Prop) (fuel : Nat) (L : Obl) (listed : Array Bool) (w0 : World) (n : Nat) (env : Env) (Γ : List HP) : Prop :=
  ∀ a w, St w0 n env Γ a w → OblOk L w → wpAnyL P ops Q fuel L listed a w

/-- what stays as long as these parts are there -/
class Keeps (Γ : List HP) (I : World → Prop) : Prop where
  keeps : ∀ w, Sat Γ (hpOf w) → I w
instance {Γ : List HP} : Keeps Γ Tt := ⟨fun _ _ => trivial⟩
instance {Γ Γ' : List HP} {b : Nat} {cs : List Value} [p : PickC Γ b cs Γ'] : Keeps Γ (HasC b cs) := ⟨fun _ s => (p.pick _ s).cells⟩
instance {Γ : List HP} {v : Value} {k : Nat} {vs : List Value} [r : RdIn Γ v k vs] : Keeps Γ (HasR v k vs) := ⟨fun _ s => r.rd _ s⟩
instance {Γ Γ' : List HP} {b : Nat} {m : IMap Value} [p : PickM Γ b m Γ'] : Keeps Γ (HasM b m) := ⟨fun _ s => (p.pick _ s).mapI⟩
class KeepsL (Γ : List HP) (L : Obl) : Prop where
  keeps : ∀ w, Sat Γ (hpOf w) → OblOk L w
instance {Γ : List HP} : KeepsL Γ [] := ⟨fun _ _ _ h => by cases h⟩
instance {Γ : List HP} {i : Nat} {I : World → Prop} {L : Obl} [h : Keeps Γ I] [t : KeepsL Γ L] : KeepsL Γ ((i, I) :: L) :=
  ⟨fun w s q hq => by
    rcases List.mem_cons.1 hq with rfl | hq
    · exact h.keeps w s
    · exact t.keeps w s q hq⟩

section laws
variable {P : Program} {Q : Exit → Act → World → Prop} {w0 : World} {n : Nat} {env : Env} {Γ : List HP} {ops : Array Oper} {fuel : Nat} {L : Obl} {listed : Array Bool}

theorem wc_draw {id : Nat} (hm : P.follows .mixedOrders = true) (h : WD P ops Q ops.size [] (Array.replicate ops.size false) w0 n env Γ) : WC P (.region id ops true) Q w0 n env Γ :=
  fun a w s => wp_region_any hm (wpAnyL_sound _ _ _ _ _ (h a w.drew ⟨s.env, s.defers, s.evo.trans (evo_drew w), s.sat⟩ (fun _ hq => by cases hq)))

/-- one that yields a value, and changes nothing, is taken first -/
theorem wd_y [pq : PutQ Q] (i : Nat) {d : Nat} {op : Op} {ty : TypeId} {pos : String} {after : Array Edge} {v : Value} {I : World → Prop} (hi : ops[i]? = some ⟨some d, op, ty, pos, after, none⟩)
    (hsel : Region.noSelect ops = true) (hf : Region.free .any ops listed i = true) (hr : (Region.ready .any ops listed).contains i = true)
    (y : Yl P op ty w0 n env Γ v I) (hd : Nat.blt d n = true) (k : WD P ops Q fuel ((i, I) :: L) (listed.setIfInBounds i true) w0 n ((d, v) :: env) Γ) :
    WD P ops Q (fuel + 1) L listed w0 n env Γ := fun a w s ho => by
  obtain ⟨iw, hrun⟩ := y (some d) pos after none a w s
  refine wpAnyL_first hi hsel fuel L listed a w (Region.free_spec hi hf) (by simpa using hr) (v := v) (I := I) (.inl ⟨by simp [Region.wanted], hrun⟩) iw ho ?_
  exact k _ _ ⟨s.env.put hd _, s.defers, s.evo, s.sat⟩ (fun q hq => by
    rcases List.mem_cons.1 hq with rfl | hq
    · exact iw
    · exact ho q hq)
/-- one that is guarded, and wanted -/
theorem wd_gy [pq : PutQ Q] (i : Nat) {d : Nat} {op : Op} {ty : TypeId} {pos : String} {after : Array Edge} {v : Value} {I : World → Prop} {g : Nat} {want : Bool} {og : Oper} {t : Tmp}
    (hi : ops[i]? = some ⟨some d, op, ty, pos, after, some (g, want)⟩)
    (hg : ops[g]? = some og) (ht : og.dst = some t) (hc : env.get t = some (.bool want))
    (hsel : Region.noSelect ops = true) (hf : Region.free .any ops listed i = true) (hr : (Region.ready .any ops listed).contains i = true)
    (y : Yl P op ty w0 n env Γ v I) (hd : Nat.blt d n = true) (k : WD P ops Q fuel ((i, I) :: L) (listed.setIfInBounds i true) w0 n ((d, v) :: env) Γ) :
    WD P ops Q (fuel + 1) L listed w0 n env Γ := fun a w s ho => by
  obtain ⟨iw, hrun⟩ := y (some d) pos after (some (g, want)) a w s
  refine wpAnyL_first hi hsel fuel L listed a w (Region.free_spec hi hf) (by simpa using hr) (v := v) (I := I) (.inl ⟨?_, hrun⟩) iw ho ?_
  · simp [Region.wanted, yielded, hg, ht, s.env.get _ _ hc]
  · exact k _ _ ⟨s.env.put hd _, s.defers, s.evo, s.sat⟩ (fun q hq => by
      rcases List.mem_cons.1 hq with rfl | hq
      · exact iw
      · exact ho q hq)
/-- one that is guarded, and not wanted -/
theorem wd_gn [pq : PutQ Q] (i : Nat) {d : Nat} {op : Op} {ty : TypeId} {pos : String} {after : Array Edge} {g : Nat} {want c : Bool} {og : Oper} {t : Tmp}
    (hi : ops[i]? = some ⟨some d, op, ty, pos, after, some (g, want)⟩)
    (hg : ops[g]? = some og) (ht : og.dst = some t) (hc : env.get t = some (.bool c)) (hne : (c == want) = false)
    (hsel : Region.noSelect ops = true) (hf : Region.free .any ops listed i = true) (hr : (Region.ready .any ops listed).contains i = true)
    (hd : Nat.blt d n = true) (k : WD P ops Q fuel L (listed.setIfInBounds i true) w0 n ((d, undef) :: env) Γ) :
    WD P ops Q (fuel + 1) L listed w0 n env Γ := fun a w s ho => by
  refine wpAnyL_first hi hsel fuel L listed a w (Region.free_spec hi hf) (by simpa using hr) (v := undef) (I := Tt) (.inr ⟨?_, rfl⟩) trivial ho ?_
  · have hcw : c ≠ want := by intro e; subst e; simp at hne
    simp [Region.wanted, yielded, hg, ht, s.env.get _ _ hc, hcw]
  · exact wpAnyL_mono _ _ _ _ _ _ (fun q hq => by
      rcases List.mem_cons.1 hq with rfl | hq
      · exact .inr rfl
      · exact .inl hq) (k _ _ ⟨s.env.put hd _, s.defers, s.evo, s.sat⟩ ho)

theorem wd_case (t : Nat) {c : Bool} (hc : env.get t = some (.bool c)) (h1 : c = true → WD P ops Q fuel L listed w0 n ((t, .bool true) :: env) Γ) (h2 : c = false → WD P ops Q fuel L listed w0 n ((t, .bool false) :: env) Γ) :
    WD P ops Q fuel L listed w0 n env Γ := fun a w s ho => by
  cases hb : c with
  | true => subst hb; exact h1 rfl a w ⟨s.env.known hc, s.defers, s.evo, s.sat⟩ ho
  | false => subst hb; exact h2 rfl a w ⟨s.env.known hc, s.defers, s.evo, s.sat⟩ ho

/-- the one that is ready, and no other, is done; then the obligations L' -/
def DrawQ (P : Program) (ops : Array Oper) (fuel : Nat) (L : Obl) (listed : Array Bool) (Q : Exit → Act → World → Prop) : Exit → Act → World → Prop :=
  Exit.then (fun a w => wpAnyL P ops Q fuel L listed a w) Q
instance {P : Program} {ops : Array Oper} {fuel : Nat} {L : Obl} {listed : Array Bool} {Q : Exit → Act → World → Prop} {R : Ending → World → Prop} [t : Thru Q R] : Thru (DrawQ P ops fuel L listed Q) R := ⟨t.panic⟩

theorem wpOp_of_list {i : Nat} {o : Oper} {K : Act → World → Prop} {a : Act} {w : World} (hi : ops[i]? = some o)
    (h : wpList P ops (Exit.then K Q) [o] a w) : wpOp P ops Q i K a w := by
  unfold wpOp
  simp only [hi]
  unfold wpList at h
  by_cases hw : Region.wanted o (yielded ops a.tmps) = true
  · rw [if_pos hw] at h ⊢
    rcases h with h | ⟨h, hl⟩
    · left
      unfold Oper.wp at h ⊢
      cases hr : (execOp a.eval o).run P w with
      | halt x w' => rw [hr] at h; cases x <;> first | exact h.elim | exact h
      | ok nx w' =>
        rw [hr] at h
        cases nx <;> simp only [Oper.upon] at h ⊢
        case value u => exact h
        case skip => exact h
        case defer d => exact h
        case enter f args =>
          refine Calls.mono h fun e w'' he => ?_
          cases e with
          | returned u => exact he
          | panicked c => exact he
          | outgrown => exact he
        case row row args => exact Rows.mono h fun u w'' he => he
    · right; exact ⟨h, hl⟩
  · rw [if_neg hw] at h ⊢; exact h

/-- the one that is ready is done, and what was owed stays owed -/
theorem wd_do (i : Nat) {o : Oper} (hi : ops[i]? = some o) (hr : Region.ready .any ops listed = [i])
    (h : WL P ops [o] (DrawQ P ops fuel L (listed.setIfInBounds i true) Q) w0 n env Γ) : WD P ops Q (fuel + 1) L listed w0 n env Γ := fun a w s ho => by
  refine ⟨ho, fun h0 => (by rw [hr] at h0; cases h0), fun j hj => ?_⟩
  rw [hr] at hj
  have : j = i := by simpa using hj
  subst this
  refine wpOp_mono (fun a' w' h' => wpAnyL_mono _ _ _ _ _ _ (fun q hq => .inl (List.mem_filter.1 hq).1) h') (wpOp_of_list hi (h a w s))
/-- the one that is ready is done, and nothing is owed any more -/
theorem wd_last (i : Nat) {o : Oper} (hi : ops[i]? = some o) (hr : Region.ready .any ops listed = [i]) (hL : (L.filter fun q => !dependsOn ops i q.1) = [])
    (h : WL P ops [o] (DrawQ P ops fuel [] (listed.setIfInBounds i true) Q) w0 n env Γ) : WD P ops Q (fuel + 1) L listed w0 n env Γ := fun a w s ho => by
  refine ⟨ho, fun h0 => (by rw [hr] at h0; cases h0), fun j hj => ?_⟩
  rw [hr] at hj
  have : j = i := by simpa using hj
  subst this
  rw [hL]
  exact wpOp_of_list hi (h a w s)

theorem wq_draw [kp : KeepsL Γ L] (h : WD P ops Q fuel L listed w0 n env Γ) : WQ (DrawQ P ops fuel L listed Q) .normal w0 n env Γ :=
  fun a w s => h a w s (kp.keeps w s.sat)
theorem wd_end (hr : Region.ready .any ops listed = []) (h : WQ Q .normal w0 n env Γ) : WD P ops Q 0 L listed w0 n env Γ :=
  fun a w s ho => ⟨ho, hr, h a w s⟩
end laws
end Go.Sl
