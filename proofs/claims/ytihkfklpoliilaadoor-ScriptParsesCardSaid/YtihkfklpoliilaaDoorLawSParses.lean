/- ScriptParses: any text: the steps, or where it goes wrong, and why. -/
import Derived.Test.YtihkfklpoliilaaDoorLid
import Derived.Test.YtihkfklpoliilaaDoorFit
import Derived.Test.YtihkfklpoliilaaDoorAwk
import Derived.Test.YtihkfklpoliilaaDoorRds
namespace Go.Proofs.YtihkfklpoliilaaDoor
open Go Go.Sl
attribute [local irreducible] Yl WL WC WQ WD
set_option maxHeartbeats 4000000 in
theorem scriptParses_spec (s : Bytes) :
    Spec0 Tryd.prog 4 [vs s] Tabs (fun F => F) (fun _ : Unit => True) (fun _ => .bool true) (fun _ F => F) := by
  (refine spec_of Tryd.func4 rfl Tryd.ntmps4 rfl (fun F w0 hrd => ?_))
  haveI : ReadIn F Tabs := ⟨hrd⟩
  refine walk ?_
  refine call (awake_spec) ?_
  intro _ _
  refine walk ?_
  refine wif_dec (fun h0 => ?_) (fun h0 => ?_)
  · refine walk ?_
    exact wq_ret1 rfl rfl () rfl trivial Ent.refl
  · obtain ⟨hfit, hlen⟩ := psteps_fit s (by omega)
    refine walk ?_
    refine call (parse_spec s (by omega)) ?_
    intro v1 _
    refine walk ?_
    refine call (reads_spec s (by omega)) ?_
    intro v2 _
    refine walk ?_
    refine wif_dec (fun _ => ?_) (fun h => absurd rfl h)
    refine walk ?_
    refine wif_dec (fun _ => ?_) (fun h => absurd rfl h)
    refine walk ?_
    refine call (same_spec v1 v2 (psteps s).1 (by omega) hfit) ?_ (hr := fun h hs => ⟨ReadIn.rd h hs, RdIn.rd h hs, RdIn.rd h hs⟩)
    intro _ _
    refine walk ?_
    exact wq_ret1 rfl rfl () rfl trivial perm
set_option maxRecDepth 100000 in
open Go.RowKit Go.ChangeShapes Go.WideShapes Go.ChangeAt in
theorem scriptParses_lifted (os : Os) (started : os.Started) (H : Type) (enc : TypeId × Value → H) (F : Stop.Interp) :
    ReturnsInHanded {} Tryd.checked os 4 .any ((OpenSpec.ofChange Rows.scriptParsesSpec).preRow enc Tryd.prog Tryd.f4 Rows.scriptParsesRow.domain false Rows.scriptParsesRow.laid) (((OpenSpec.ofChange Rows.scriptParsesSpec).at F).post enc Tryd.prog Tryd.f4 false true false false) := by
  obtain ⟨places, hx⟩ : ∃ places, DataW.whole enc Tryd.prog ((laidWorld os).forCall (fun _ _ => 0) ⟨#[], #[.string ⟨#[]⟩], []⟩).memory Tryd.f4.params.toList Rows.scriptParsesSpec.vars false (#[.string ⟨#[]⟩] : Array Value).toList 8 = some ([.lit (.string [])], [], places) := ⟨[], by kernel_rfl⟩
  refine returnsInHanded_of_row (C := Tryd.checked) (s := OpenSpec.ofChange Rows.scriptParsesSpec) Tryd.own started (by kernel_rfl) Tryd.func4
    (witness_row_at (enc := enc) (C := Tryd.checked) false (laidWorld os) #[.string ⟨#[]⟩] rfl (by kernel_rfl) (by kernel_rfl) (by kernel_rfl)
      (OpenSpec.preRow_of_cond 8 hx (by kernel_rfl) (fun k hk => by cases hk) (by kernel_rfl) (laid_met os _))) ?_
  intro W base args ds gs before hval0 hW _ _ hwt hL _ _
  have hval : ∀ (j : Nat) t v, Tryd.f4.params[j]? = some t → args[j]? = some v → Value.okWide Tryd.prog W .any base t v := hval0
  have hT := Tabs.old (tabsW hL) (size7 hL) (F := [])
  have hW' := hW
  obtain ⟨p, q, hA, hV, rfl, hfz, hnd⟩ := hW
  have hA : DataW.TrodAll enc Tryd.prog W 0 (fun _ => true) true [9] args.toList ds p := hA
  obtain ⟨v0, vs0, d0, ds0, q0, m0, y0, e0, rfl, t0, h0⟩ := trodAll_split1 hA
  obtain ⟨e1, rfl⟩ := trodAll_split0 h0
  have ea : args = [v0].toArray := by apply Array.toList_inj.1; rw [e0, e1]
  subst ea
  obtain ⟨s0, rfl, hs0⟩ := arg_string (hval 0 9 v0 rfl rfl) t0
  obtain ⟨l0, rfl⟩ := str_eta s0
  rw [ba_size] at hs0
  refine (scriptParses_spec l0 [Old W] W (hT) (sat_old W)).mono fun e W' he => ?_
  obtain ⟨hev, ⟨_, _, rfl, hs⟩ | ⟨_, hf, _⟩⟩ := he
  · exact ⟨_, rfl, law_post Tryd.laidOut rfl hW' rfl Tryd.underlying4 (by decide +kernel) (by cases gs <;> first | rfl | exact False.elim hV) (Sat.below hev hs)⟩
  · exact hf.elim

set_option maxRecDepth 100000 in
theorem scriptParses_said : Rows.ScriptParsesSaid :=
  OpenClaim.holds_of_cond 4 Tryd.f4 rfl rfl rfl rfl rfl rfl rfl ⟨rfl, rfl, rfl, rfl, rfl⟩ rfl rfl rfl rfl rfl (by kernel_rfl) Tryd.func4 (by kernel_rfl)
    (of_decide_eq_true (by kernel_rfl)) (by unfold Func.isWrapper; first | (rw [if_pos (by decide +kernel)]; kernel_rfl) | (rw [if_neg (by decide +kernel)]; exact ⟨rfl, rfl⟩))
    (fun os started H enc _ F => by rw [OpenClaim.pre_eq_preRow]; exact scriptParses_lifted os started H enc F)
theorem scriptParses_plain (f : FuncId) (fn : Func) (hf : Tryd.pinned.checked.prog.funcNamed "drystone/drystonelaw21.ScriptParses" = some f) (hfn : Tryd.pinned.checked.prog.funcs[f]? = some fn) :
    true = Tryd.pinned.checked.prog.looks [] ∧ ∀ (j : Nat) t, fn.params[j]? = some t → Tryd.pinned.checked.prog.wantsStandIn t = false := by
  obtain rfl : f = 4 := Option.some.inj ((show Tryd.prog.funcNamed "drystone/drystonelaw21.ScriptParses" = some 4 by kernel_rfl).symm.trans hf) |>.symm
  obtain rfl : fn = Tryd.f4 := (Option.some.inj (Tryd.func4.symm.trans hfn)).symm
  refine ⟨by kernel_rfl, fun j t ht => ?_⟩
  rw [Tryd.params4] at ht
  have hm : t ∈ [9] := by simpa using Array.mem_of_getElem? ht
  simp only [List.mem_cons, List.mem_nil_iff, or_false] at hm
  subst hm
  exact (show Tryd.prog.wantsStandIn 9 = false by kernel_rfl)
theorem scriptParses_card : Rows.ScriptParsesCardSaid :=
  Claim7.holds_tied_plain_at .later [] _ _ _ _ scriptParses_said (fun _ h => by cases h) (by kernel_rfl) (fun _ h => by cases h) scriptParses_row_tie rfl ⟨rfl, rfl⟩ (by kernel_rfl) rfl scriptParses_plain (by kernel_rfl)
#print axioms scriptParses_card
end Go.Proofs.YtihkfklpoliilaaDoor
