/- Words of steps; lists of steps that are the same. -/
import Derived.Test.YtihkfklpoliilaaDoorLin
namespace Go.Proofs.YtihkfklpoliilaaDoor
open Go Go.Sl
attribute [local irreducible] Yl WL WC WQ WD
instance : MethT Tryd.prog 69 "Word" 93 := ⟨fun v w => by kernel_rfl⟩
instance : MethT Tryd.prog 71 "Word" 95 := ⟨fun v w => by kernel_rfl⟩
instance : MethT Tryd.prog 72 "Word" 97 := ⟨fun v w => by kernel_rfl⟩
instance : MethT Tryd.prog 74 "Word" 98 := ⟨fun v w => by kernel_rfl⟩
instance : MethT Tryd.prog 76 "Word" 99 := ⟨fun v w => by kernel_rfl⟩
instance : MethT Tryd.prog 78 "Word" 100 := ⟨fun v w => by kernel_rfl⟩
instance : MethT Tryd.prog 80 "Word" 101 := ⟨fun v w => by kernel_rfl⟩
instance : MethT Tryd.prog 82 "Word" 102 := ⟨fun v w => by kernel_rfl⟩
theorem wordWrite_spec (n : Nat) (t : Bytes) : Spec0 Tryd.prog 93 [.agg #[vi n, vs t]] (fun _ => True) (fun F => F) (fun _ : Unit => True) (fun _ => vs wWrite) (fun _ F => F) := by
  (refine spec_of Tryd.func93 rfl Tryd.ntmps93 rfl (fun F w0 hrd => ?_))
  refine walk ?_
  intro c
  refine walk ?_
  exact wq_ret1 rfl rfl () rfl trivial perm
theorem wordRead_spec (n : Nat) : Spec0 Tryd.prog 95 [.agg #[vi n]] (fun _ => True) (fun F => F) (fun _ : Unit => True) (fun _ => vs wRead) (fun _ F => F) := by
  (refine spec_of Tryd.func95 rfl Tryd.ntmps95 rfl (fun F w0 hrd => ?_))
  refine walk ?_
  intro c
  refine walk ?_
  exact wq_ret1 rfl rfl () rfl trivial perm
theorem wordTrim_spec (n : Nat) : Spec0 Tryd.prog 97 [.agg #[vi n]] (fun _ => True) (fun F => F) (fun _ : Unit => True) (fun _ => vs wTrim) (fun _ F => F) := by
  (refine spec_of Tryd.func97 rfl Tryd.ntmps97 rfl (fun F w0 hrd => ?_))
  refine walk ?_
  intro c
  refine walk ?_
  exact wq_ret1 rfl rfl () rfl trivial perm
theorem wordPlain_spec (t : Bytes) : Spec0 Tryd.prog 98 [.agg #[vs t]] (fun _ => True) (fun F => F) (fun _ : Unit => True) (fun _ => vs t) (fun _ F => F) := by
  (refine spec_of Tryd.func98 rfl Tryd.ntmps98 rfl (fun F w0 hrd => ?_))
  refine walk ?_
  intro c
  refine walk ?_
  exact wq_ret1 rfl rfl () rfl trivial perm
theorem wordClean_spec (g : Bool) (n : Nat) : Spec0 Tryd.prog 99 [.agg #[.bool g, vi n]] (fun _ => True) (fun F => F) (fun _ : Unit => True) (fun _ => vs [99, 108, 101, 97, 110]) (fun _ F => F) := by
  (refine spec_of Tryd.func99 rfl Tryd.ntmps99 rfl (fun F w0 hrd => ?_))
  refine walk ?_
  intro c
  refine walk ?_
  exact wq_ret1 rfl rfl () rfl trivial perm
theorem wordMember_spec (t : Bytes) (n : Nat) : Spec0 Tryd.prog 100 [.agg #[vs t, vi n]] (fun _ => True) (fun F => F) (fun _ : Unit => True) (fun _ => vs t) (fun _ F => F) := by
  (refine spec_of Tryd.func100 rfl Tryd.ntmps100 rfl (fun F w0 hrd => ?_))
  refine walk ?_
  intro c
  refine walk ?_
  exact wq_ret1 rfl rfl () rfl trivial perm
theorem wordFailAt_spec (m o : Nat) : Spec0 Tryd.prog 101 [.agg #[vi m, vi o]] (fun _ => True) (fun F => F) (fun _ : Unit => True) (fun _ => vs wFailat) (fun _ F => F) := by
  (refine spec_of Tryd.func101 rfl Tryd.ntmps101 rfl (fun F w0 hrd => ?_))
  refine walk ?_
  intro c
  refine walk ?_
  exact wq_ret1 rfl rfl () rfl trivial perm
theorem wordCrash_spec (n k : Nat) : Spec0 Tryd.prog 102 [.agg #[vi n, .int .u64 k]] (fun _ => True) (fun F => F) (fun _ : Unit => True) (fun _ => vs wCrash) (fun _ F => F) := by
  (refine spec_of Tryd.func102 rfl Tryd.ntmps102 rfl (fun F w0 hrd => ?_))
  refine walk ?_
  intro c
  refine walk ?_
  exact wq_ret1 rfl rfl () rfl trivial perm
section
variable {ops : Array Oper} {Q : Exit → Act → World → Prop} {w0 : World} {n : Nat} {env : Env} {Γ : List HP} {rest : List Oper} {ty : TypeId} {pos : String} {after : Array Edge}
/-- a step's word, asked of the interface's value -/
theorem wordCall {d : Nat} {recv : Operand} {ts : Array TypeId} {R : Ending → World → Prop} [th : Thru Q R] (st : Stp)
    (k : WL Tryd.prog ops rest Q w0 n ((d, vs (wordB st)) :: env) Γ) (hc : evl env recv = some (stv st) := by rfl) (hd : Nat.blt d n = true := by rfl) :
    WL Tryd.prog ops (⟨some d, .call ⟨.invoke recv "Word", #[], ts⟩, ty, pos, after, none⟩ :: rest) Q w0 n env Γ := by
  cases st with
  | write m t => exact icall (F := Γ) (wordWrite_spec m t) (fun _ _ => k) hc rfl hd Ent.refl (fun _ _ => trivial)
  | read m => exact icall (F := Γ) (wordRead_spec m) (fun _ _ => k) hc rfl hd Ent.refl (fun _ _ => trivial)
  | trim m => exact icall (F := Γ) (wordTrim_spec m) (fun _ _ => k) hc rfl hd Ent.refl (fun _ _ => trivial)
  | plain t => exact icall (F := Γ) (wordPlain_spec t) (fun _ _ => k) hc rfl hd Ent.refl (fun _ _ => trivial)
  | clean g m => exact icall (F := Γ) (wordClean_spec g m) (fun _ _ => k) hc rfl hd Ent.refl (fun _ _ => trivial)
  | member t m => exact icall (F := Γ) (wordMember_spec t m) (fun _ _ => k) hc rfl hd Ent.refl (fun _ _ => trivial)
  | failat m o => exact icall (F := Γ) (wordFailAt_spec m o) (fun _ _ => k) hc rfl hd Ent.refl (fun _ _ => trivial)
  | crash m o => exact icall (F := Γ) (wordCrash_spec m o) (fun _ _ => k) hc rfl hd Ent.refl (fun _ _ => trivial)
end
theorem stv_iface (st : Stp) : ∃ T v, stv st = .iface T v := by cases st <;> exact ⟨_, _, rfl⟩
theorem yl_eqstv {w0 : World} {n : Nat} {env : Env} {Γ : List HP} {ty : TypeId} (st : Stp) {t yt : TypeId} {ms : Array (String × TypeId)} {x y : Operand} [u : Und Tryd.prog t (.interface ms)] (hx : evl env x = some (stv st)) (hy : evl env y = some .nilIface) :
    Yl Tryd.prog (.binOp .eql t x y yt) ty w0 n env Γ (.bool false) Tt := by
  obtain ⟨T, v, h⟩ := stv_iface st
  rw [h] at hx
  exact yl_eqifn hx hy
set_option maxHeartbeats 8000000 in
theorem same_spec (v1 v2 : Value) (l : List Stp) (hl : l.length ≤ 1099511627776) (hfit : ∀ st ∈ l, SFit st) :
    Spec0 Tryd.prog 13 [v1, v2] (fun h => Tabs h ∧ Rd v1 1 (l.map stv) h ∧ Rd v2 1 (l.map stv) h) (fun F => F) (fun _ : Unit => True) (fun _ => .bool true) (fun _ F => F) := by
  (refine spec_of Tryd.func13 rfl Tryd.ntmps13 rfl (fun F w0 hrd => ?_))
  haveI : ReadIn F Tabs := ⟨fun h hs => (hrd h hs).1⟩
  haveI : RdIn F v1 1 (l.map stv) := ⟨fun h hs => (hrd h hs).2.1⟩
  haveI : RdIn F v2 1 (l.map stv) := ⟨fun h hs => (hrd h hs).2.2⟩
  refine walk ?_
  refine wif_dec (fun h => absurd rfl h) (fun _ => ?_)
  refine walk ?_
  refine wc_loop (X := Nat) (fun k => [(0, v1), (1, v2), (12, vi (l.length : Int)), (13, vi k)]) (fun _ => F) (fun k => k ≤ l.length) (fun k => l.length - k) 0 (by omega) envs Ent.refl (fun k hk => ?_)
  refine walk ?_
  refine wif_dec (fun hlt => ?_) (fun hlt => ?_)
  · have hlt : k < l.length := by omega
    have hf := hfit _ (List.getElem_mem hlt)
    obtain ⟨T, u, hTu⟩ := stv_iface l[k]
    refine walk ?_
    (refine draw ?_; refine dy 0 ?_; refine dy 1 ?_; refine dy 2 ?_; refine dy 3 ?_; refine dy 5 ?_; refine dy 6 ?_; refine dy 7 ?_; refine dy 8 ?_; refine ddo 4 ?_)
    refine call (line_spec l[k] hf) ?_
    intro _ _
    (refine walk ?_; refine ddo 9 ?_)
    refine call (line_spec l[k] hf) ?_
    intro _ _
    (refine walk ?_; refine dy 10 ?_; refine dy 11 ?_; refine dwhich 27 ?_)
    refine ⟨fun hz => absurd rfl (of_decide_eq_true hz), fun _ => ?_⟩
    refine dg 12 ?_; refine dg 13 ?_; refine dg 14 ?_; refine dg 15 ?_; refine dg 16 (v := .bool false) (I := Tt) (hi := rfl) ?_ (y := ?_); rotate_left; exact yl_eqstv _ rfl rfl; refine dy 17 ?_; refine dy 18 ?_; refine dwhich 34 ?_; refine WIf.no ?_
    refine dg 19 ?_; refine dg 20 ?_; refine dg 21 ?_; refine dg 22 ?_; refine dg 23 (v := .bool false) (I := Tt) (hi := rfl) ?_ (y := ?_); rotate_left; exact yl_eqstv _ rfl rfl; refine dy 24 ?_; refine dy 25 ?_; refine dwhich 41 ?_; refine WIf.no ?_
    refine dg 26 ?_; refine dg 27 ?_; refine dg 28 ?_; refine dg 29 ?_; refine dg 31 ?_; refine dg 32 ?_; refine dg 33 ?_; refine dg 34 ?_; refine ddo 30 ?_
    refine wl_guard_yes rfl rfl rfl ?_
    refine wordCall l[k] ?_
    refine wl_nil ?_; refine wq_draw ?_; refine ddo 35 ?_
    refine wl_guard_yes rfl rfl rfl ?_
    refine wordCall l[k] ?_
    refine wl_nil ?_; refine wq_draw ?_; refine dg 36 ?_; refine dy 37 ?_
    refine walk ?_
    refine ⟨fun hz => absurd rfl (of_decide_eq_true hz), fun _ => ?_⟩
    refine walk ?_
    exact wq_round (k + 1) hlt (by omega) envs Ent.refl
  · refine walk ?_
    exact wq_ret1 rfl rfl () rfl trivial Ent.refl
end Go.Proofs.YtihkfklpoliilaaDoor
