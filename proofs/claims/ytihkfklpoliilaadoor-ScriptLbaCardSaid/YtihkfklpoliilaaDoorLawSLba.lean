/- ScriptLba: any step: the block that it is about; of one that is about none that is thrown. -/
import Derived.Test.YtihkfklpoliilaaDoorLid
import Derived.Test.YtihkfklpoliilaaDoorLba
import Derived.Test.YtihkfklpoliilaaDoorAwk
namespace Go.Proofs.YtihkfklpoliilaaDoor
open Go Go.Sl
attribute [local irreducible] Yl WL WC WQ WD
theorem stp_block (x : Act21) : blockOfStp x.stp = if x.d.toNat % 12 < 5 then some x.a else none := by
  unfold Act21.stp
  rcases (by omega : x.d.toNat % 12 = 0 ∨ x.d.toNat % 12 = 1 ∨ x.d.toNat % 12 = 2 ∨ x.d.toNat % 12 = 3 ∨ x.d.toNat % 12 = 4 ∨ x.d.toNat % 12 = 5 ∨ x.d.toNat % 12 = 6 ∨ x.d.toNat % 12 = 7 ∨ x.d.toNat % 12 = 8 ∨ x.d.toNat % 12 = 9 ∨ x.d.toNat % 12 = 10 ∨ x.d.toNat % 12 = 11) with h | h | h | h | h | h | h | h | h | h | h | h <;> rw [h] <;> rfl
set_option maxHeartbeats 4000000 in
theorem scriptLba_spec (x : Act21) (hx : x.Ok) :
    Spec0 Tryd.prog 6 [.agg x.cells.toArray] Tabs (fun F => F) (fun _ : Unit => True) (fun _ => .bool true) (fun _ F => F) := by
  (refine spec_of Tryd.func6 rfl Tryd.ntmps6 rfl (fun F w0 hrd => ?_))
  haveI : ReadIn F Tabs := ⟨hrd⟩
  have hsb := stp_block x
  have hst := step_act_spec x hx
  obtain ⟨st, hst'⟩ : ∃ st, st = x.stp := ⟨_, rfl⟩
  rw [← hst'] at hsb hst
  unfold Act21.cells at hst ⊢
  refine walk ?_
  intro c
  refine walk ?_
  refine call (awake_spec) ?_
  intro _ _
  refine walk ?_
  refine call (hst) ?_
  intro _ _
  obtain ⟨T, u, hTu⟩ := stv_iface st
  haveI hone : ∀ Γ : List HP, OneIn Γ [stv st] := fun Γ => OneIn.mk' (by rw [hTu]; rfl)
  refine walk ?_
  intro c3
  refine walk ?_
  refine wif_dec (fun h5 => ?_) (fun h5 => ?_)
  · rw [if_pos (by omega)] at hsb
    refine walk ?_
    (refine draw ?_; refine dy 0 ?_; refine ddo 1 ?_)
    refine call (about_spec st) ?_
    intro _ _
    rw [hsb]
    (refine walk ?_; refine dy 2 ?_; refine dg 3 ?_; refine dg 5 ?_; refine dg 6 ?_; refine dg 7 ?_; refine ddo 4 ?_)
    refine walk ?_
    refine call (lba_spec st x.a hsb) ?_
    intro _ _
    (refine walk ?_; refine dg 8 ?_; refine dy 9 ?_; refine dy 10 ?_; refine walk ?_)
    refine walk ?_
    refine wq_ret1 rfl rfl () ?_ trivial perm
    have hxa := hx.1
    simp
    exact (wrap_i64 (by omega) (by omega)).symm
  · rw [if_neg (by omega)] at hsb
    refine walk ?_
    refine call (about_spec st) ?_
    intro _ _
    rw [hsb]
    refine walk ?_
    refine call (thrown_spec (lba1_throws c3 st hsb) (fun _ _ => perm) (fun _ _ => perm)) ?_
    intro _ _
    refine walk ?_
    refine wq_ret1 rfl rfl () ?_ trivial perm
    simp
set_option maxRecDepth 100000 in
open Go.RowKit Go.ChangeShapes Go.WideShapes Go.ChangeAt in
theorem scriptLba_lifted (os : Os) (started : os.Started) (H : Type) (enc : TypeId × Value → H) (F : Stop.Interp) :
    ReturnsInHanded {} Tryd.checked os 6 .any ((OpenSpec.ofChange Rows.scriptLbaSpec).preRow enc Tryd.prog Tryd.f6 Rows.scriptLbaRow.domain false Rows.scriptLbaRow.laid) (((OpenSpec.ofChange Rows.scriptLbaSpec).at F).post enc Tryd.prog Tryd.f6 false true false false) := by
  obtain ⟨places, hx⟩ : ∃ places, DataW.whole enc Tryd.prog ((laidWorld os).forCall (fun _ _ => 0) ⟨#[], #[.agg #[.int .u8 0, .int .u16 0, .int .u16 0, .int .u64 0, .string ⟨#[]⟩]], []⟩).memory Tryd.f6.params.toList Rows.scriptLbaSpec.vars false (#[.agg #[.int .u8 0, .int .u16 0, .int .u16 0, .int .u64 0, .string ⟨#[]⟩]] : Array Value).toList 8 = some ([.agg [.lit (.int .u8 0), .lit (.int .u16 0), .lit (.int .u16 0), .lit (.int .u64 0), .lit (.string [])]], [], places) := ⟨[], by kernel_rfl⟩
  refine returnsInHanded_of_row (C := Tryd.checked) (s := OpenSpec.ofChange Rows.scriptLbaSpec) Tryd.own started (by kernel_rfl) Tryd.func6
    (witness_row_at (enc := enc) (C := Tryd.checked) false (laidWorld os) #[.agg #[.int .u8 0, .int .u16 0, .int .u16 0, .int .u64 0, .string ⟨#[]⟩]] rfl (by kernel_rfl) (by kernel_rfl) (by kernel_rfl)
      (OpenSpec.preRow_of_cond 8 hx (by kernel_rfl) (fun k hk => by cases hk) (by kernel_rfl) (laid_met os _))) ?_
  intro W base args ds gs before hval0 hW _ _ hwt hL _ _
  have hval : ∀ (j : Nat) t v, Tryd.f6.params[j]? = some t → args[j]? = some v → Value.okWide Tryd.prog W .any base t v := hval0
  have hT := Tabs.old (tabsW hL) (size7 hL) (F := [])
  have hW' := hW
  obtain ⟨p, q, hA, hV, rfl, hfz, hnd⟩ := hW
  have hA : DataW.TrodAll enc Tryd.prog W 0 (fun _ => true) true [40] args.toList ds p := hA
  obtain ⟨v0, vs0, ds0, q0, m0, y0, e0, rfl, t0, h0⟩ := trodAll_splitW hA
  obtain ⟨e1, rfl⟩ := trodAll_split0 h0
  have ea : args = [v0].toArray := by apply Array.toList_inj.1; rw [e0, e1]
  subst ea
  obtain ⟨b0, c0, rfl, rfl, hx0⟩ := argW_struct Tryd.underlying40 @rdr_act21 (hval 0 40 v0 rfl rfl) t0 (wgt_at hwt (i := 0) rfl rfl)
  refine (scriptLba_spec b0 hx0 [Old W] W (hT) (sat_old W)).mono fun e W' he => ?_
  obtain ⟨hev, ⟨_, _, rfl, hs⟩ | ⟨_, hf, _⟩⟩ := he
  · exact ⟨_, rfl, law_post Tryd.laidOut rfl hW' rfl Tryd.underlying4 (by decide +kernel) (by cases gs <;> first | rfl | exact False.elim hV) (Sat.below hev hs)⟩
  · exact hf.elim

set_option maxRecDepth 100000 in
theorem scriptLba_said : Rows.ScriptLbaSaid :=
  OpenClaim.holds_of_cond 6 Tryd.f6 rfl rfl rfl rfl rfl rfl rfl ⟨rfl, rfl, rfl, rfl, rfl⟩ rfl rfl rfl rfl rfl (by kernel_rfl) Tryd.func6 (by kernel_rfl)
    (of_decide_eq_true (by kernel_rfl)) (by unfold Func.isWrapper; first | (rw [if_pos (by decide +kernel)]; kernel_rfl) | (rw [if_neg (by decide +kernel)]; exact ⟨rfl, rfl⟩))
    (fun os started H enc _ F => by rw [OpenClaim.pre_eq_preRow]; exact scriptLba_lifted os started H enc F)
theorem scriptLba_plain (f : FuncId) (fn : Func) (hf : Tryd.pinned.checked.prog.funcNamed "drystone/drystonelaw21.ScriptLba" = some f) (hfn : Tryd.pinned.checked.prog.funcs[f]? = some fn) :
    true = Tryd.pinned.checked.prog.looks [] ∧ ∀ (j : Nat) t, fn.params[j]? = some t → Tryd.pinned.checked.prog.wantsStandIn t = false := by
  obtain rfl : f = 6 := Option.some.inj ((show Tryd.prog.funcNamed "drystone/drystonelaw21.ScriptLba" = some 6 by kernel_rfl).symm.trans hf) |>.symm
  obtain rfl : fn = Tryd.f6 := (Option.some.inj (Tryd.func6.symm.trans hfn)).symm
  refine ⟨by kernel_rfl, fun j t ht => ?_⟩
  rw [Tryd.params6] at ht
  have hm : t ∈ [40] := by simpa using Array.mem_of_getElem? ht
  simp only [List.mem_cons, List.mem_nil_iff, or_false] at hm
  subst hm
  exact (show Tryd.prog.wantsStandIn 40 = false by kernel_rfl)
theorem scriptLba_card : Rows.ScriptLbaCardSaid :=
  Claim7.holds_tied_plain_at .later [] _ _ _ _ scriptLba_said (fun _ h => by cases h) (by kernel_rfl) (fun _ h => by cases h) scriptLba_row_tie rfl ⟨rfl, rfl⟩ (by kernel_rfl) rfl scriptLba_plain (by kernel_rfl)
#print axioms scriptLba_card
end Go.Proofs.YtihkfklpoliilaaDoor
