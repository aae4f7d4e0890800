/- ScriptJoins: two scripts' texts, with a line feed between, are the steps of the one, and of the other. -/
import Derived.Test.YtihkfklpoliilaaDoorLid
import Derived.Test.YtihkfklpoliilaaDoorPn
import Derived.Test.YtihkfklpoliilaaDoorAwk
namespace Go.Proofs.YtihkfklpoliilaaDoor
open Go Go.Sl
attribute [local irreducible] Yl WL WC WQ WD
set_option maxHeartbeats 2000000 in
theorem clone_spec (v : Value) (us : List Value) (h1 : ∀ u ∈ us, u.oneCell' = true) (hl : us.length ≤ 1099511627776) :
    Spec0 Tryd.prog 22 [v] (Rd v 1 us) (fun F => F) (fun _ : Value => True) (fun x => x) (fun x F => Sl x 1 us :: F) := by
  (refine spec_of Tryd.func22 rfl Tryd.ntmps22 rfl (fun F w0 hrd => ?_))
  haveI : RdIn F v 1 us := ⟨hrd⟩
  haveI hone : ∀ Γ : List HP, OneIn Γ us := fun Γ => ⟨fun _ _ u hu => h1 u hu⟩
  refine walk ?_
  refine WIf.both (fun hn => ?_) (fun hn => ?_)
  · refine walk ?_
    refine WQ.ex (X := Unit) (φ := fun _ => us = []) (Γ' := fun _ => F) (fun h hs => ⟨(), ?_, hs⟩) (fun _ hu => ?_)
    · have hr := hrd h hs
      have hz := (isNil_iff hr).1 hn
      have hlen := hr.len
      rw [hz] at hlen
      exact List.eq_nil_of_length_eq_zero (by simpa [slLen] using hlen.symm)
    subst hu
    exact wq_ret1 rfl rfl (.slice none 0 0) rfl trivial (sl_nil 1)
  · refine walk ?_
    intro s0 _ _
    refine walk ?_
    intro s1 _ _
    refine walk ?_
    rw [List.nil_append]
    exact wq_ret1 rfl rfl s1 rfl trivial perm
set_option maxHeartbeats 4000000 in
theorem scriptJoins_spec (a b : Bytes) (hA : a.length ≤ 9223372036854775807) (hB : b.length ≤ 9223372036854775807) :
    Spec0 Tryd.prog 8 [vs a, vs b] Tabs (fun F => F) (fun _ : Unit => True) (fun _ => .bool true) (fun _ F => F) := by
  (refine spec_of Tryd.func8 rfl Tryd.ntmps8 rfl (fun F w0 hrd => ?_))
  haveI : ReadIn F Tabs := ⟨hrd⟩
  refine walk ?_
  refine call (awake_spec) ?_
  intro _ _
  refine walk ?_
  refine wif_dec (fun h0 => ?_) (fun h0 => ?_)
  · refine walk ?_
    exact wq_ret1 rfl rfl () rfl trivial Ent.refl
  refine walk ?_
  refine wif_dec (fun h0' => ?_) (fun h0' => ?_)
  · refine walk ?_
    exact wq_ret1 rfl rfl () rfl trivial Ent.refl
  obtain ⟨ha, hb⟩ : a.length ≤ 1000 ∧ b.length ≤ 1000 := by omega
  obtain ⟨j1, j2, j3⟩ := psteps_join a b ha hb
  have hlen : (a ++ [10] ++ b).length ≤ 2001 := by simp; omega
  obtain ⟨hfa, hla⟩ := psteps_fit (a ++ [10] ++ b) (by omega)
  obtain ⟨_, hla1⟩ := psteps_fit a (by omega)
  obtain ⟨_, hlb1⟩ := psteps_fit b (by omega)
  have hm1 : ((psteps a).1.map stv).length = (psteps a).1.length := List.length_map ..
  have hm2 : ((psteps b).1.map stv).length = (psteps b).1.length := List.length_map ..
  have ho1 : ∀ (l : List Stp), ∀ u ∈ l.map stv, u.oneCell' = true := fun l u hu => by obtain ⟨st, _, rfl⟩ := List.mem_map.1 hu; obtain ⟨T, v, h⟩ := stv_iface st; rw [h]; rfl
  refine walk ?_
  refine call (parse_spec a (by omega)) ?_
  intro v1 _
  refine walk ?_
  refine call (parse_spec b (by omega)) ?_
  intro v2 _
  refine walk ?_
  refine call (parse_spec (a ++ [10] ++ b) (by omega)) ?_
  intro v3 _
  refine walk ?_
  refine wif_dec (fun h1 => ?_) (fun h1 => ?_)
  · refine walk ?_
    refine wq_ret1 rfl rfl () ?_ trivial perm
    rw [decide_eq_true (by have := j1 (by omega); omega)]
  refine walk ?_
  refine wif_dec (fun h2 => ?_) (fun h2 => ?_)
  · refine walk ?_
    refine wq_ret1 rfl rfl () ?_ trivial perm
    rw [decide_eq_true (by have := j2 (by omega) (by omega); omega)]
  obtain ⟨j4, j5⟩ := j3 (by omega) (by omega)
  rw [j4, j5]
  rw [j5] at hfa hla
  rw [List.length_append] at hla
  refine walk ?_
  refine call (clone_spec v1 ((psteps a).1.map stv) (ho1 _) (by omega)) ?_
  intro s1 _
  refine walk ?_
  haveI hone : ∀ Γ : List HP, OneIn Γ ((psteps b).1.map stv) := fun Γ => ⟨fun _ _ u hu => ho1 _ u hu⟩
  refine walk ?_
  intro s2 _ _
  rw [← List.map_append]
  refine walk ?_
  refine call (same_spec v3 s2 ((psteps a).1 ++ (psteps b).1) (by rw [List.length_append]; omega) hfa) ?_ (hr := fun h hs => ⟨ReadIn.rd h hs, RdIn.rd h hs, RdIn.rd h hs⟩)
  intro _ _
  refine walk ?_
  exact wq_ret1 rfl rfl () rfl trivial perm
set_option maxRecDepth 100000 in
open Go.RowKit Go.ChangeShapes Go.WideShapes Go.ChangeAt in
theorem scriptJoins_lifted (os : Os) (started : os.Started) (H : Type) (enc : TypeId × Value → H) (F : Stop.Interp) :
    ReturnsInHanded {} Tryd.checked os 8 .any ((OpenSpec.ofChange Rows.scriptJoinsSpec).preRow enc Tryd.prog Tryd.f8 Rows.scriptJoinsRow.domain false Rows.scriptJoinsRow.laid) (((OpenSpec.ofChange Rows.scriptJoinsSpec).at F).post enc Tryd.prog Tryd.f8 false true false false) := by
  obtain ⟨places, hx⟩ : ∃ places, DataW.whole enc Tryd.prog ((laidWorld os).forCall (fun _ _ => 0) ⟨#[], #[.string ⟨#[]⟩, .string ⟨#[]⟩], []⟩).memory Tryd.f8.params.toList Rows.scriptJoinsSpec.vars false (#[.string ⟨#[]⟩, .string ⟨#[]⟩] : Array Value).toList 8 = some ([.lit (.string []), .lit (.string [])], [], places) := ⟨[], by kernel_rfl⟩
  refine returnsInHanded_of_row (C := Tryd.checked) (s := OpenSpec.ofChange Rows.scriptJoinsSpec) Tryd.own started (by kernel_rfl) Tryd.func8
    (witness_row_at (enc := enc) (C := Tryd.checked) false (laidWorld os) #[.string ⟨#[]⟩, .string ⟨#[]⟩] rfl (by kernel_rfl) (by kernel_rfl) (by kernel_rfl)
      (OpenSpec.preRow_of_cond 8 hx (by kernel_rfl) (fun k hk => by cases hk) (by kernel_rfl) (laid_met os _))) ?_
  intro W base args ds gs before hval0 hW _ _ hwt hL _ _
  have hval : ∀ (j : Nat) t v, Tryd.f8.params[j]? = some t → args[j]? = some v → Value.okWide Tryd.prog W .any base t v := hval0
  have hT := Tabs.old (tabsW hL) (size7 hL) (F := [])
  have hW' := hW
  obtain ⟨p, q, hA, hV, rfl, hfz, hnd⟩ := hW
  have hA : DataW.TrodAll enc Tryd.prog W 0 (fun _ => true) true [9, 9] args.toList ds p := hA
  obtain ⟨v0, vs0, d0, ds0, q0, m0, y0, e0, rfl, t0, h0⟩ := trodAll_split1 hA
  obtain ⟨v1, vs1, d1, ds1, q1, m1, y1, e1, rfl, t1, h1⟩ := trodAll_split1 h0
  obtain ⟨e2, rfl⟩ := trodAll_split0 h1
  have ea : args = [v0, v1].toArray := by apply Array.toList_inj.1; rw [e0, e1, e2]
  subst ea
  obtain ⟨s0, rfl, hs0⟩ := arg_string (hval 0 9 v0 rfl rfl) t0
  obtain ⟨l0, rfl⟩ := str_eta s0
  rw [ba_size] at hs0
  obtain ⟨s1, rfl, hs1⟩ := arg_string (hval 1 9 v1 rfl rfl) t1
  obtain ⟨l1, rfl⟩ := str_eta s1
  rw [ba_size] at hs1
  refine (scriptJoins_spec l0 l1 hs0 hs1 [Old W] W (hT) (sat_old W)).mono fun e W' he => ?_
  obtain ⟨hev, ⟨_, _, rfl, hs⟩ | ⟨_, hf, _⟩⟩ := he
  · exact ⟨_, rfl, law_post Tryd.laidOut rfl hW' rfl Tryd.underlying4 (by decide +kernel) (by cases gs <;> first | rfl | exact False.elim hV) (Sat.below hev hs)⟩
  · exact hf.elim

set_option maxRecDepth 100000 in
theorem scriptJoins_said : Rows.ScriptJoinsSaid :=
  OpenClaim.holds_of_cond 8 Tryd.f8 rfl rfl rfl rfl rfl rfl rfl ⟨rfl, rfl, rfl, rfl, rfl⟩ rfl rfl rfl rfl rfl (by kernel_rfl) Tryd.func8 (by kernel_rfl)
    (of_decide_eq_true (by kernel_rfl)) (by unfold Func.isWrapper; first | (rw [if_pos (by decide +kernel)]; kernel_rfl) | (rw [if_neg (by decide +kernel)]; exact ⟨rfl, rfl⟩))
    (fun os started H enc _ F => by rw [OpenClaim.pre_eq_preRow]; exact scriptJoins_lifted os started H enc F)
theorem scriptJoins_plain (f : FuncId) (fn : Func) (hf : Tryd.pinned.checked.prog.funcNamed "drystone/drystonelaw21.ScriptJoins" = some f) (hfn : Tryd.pinned.checked.prog.funcs[f]? = some fn) :
    true = Tryd.pinned.checked.prog.looks [] ∧ ∀ (j : Nat) t, fn.params[j]? = some t → Tryd.pinned.checked.prog.wantsStandIn t = false := by
  obtain rfl : f = 8 := Option.some.inj ((show Tryd.prog.funcNamed "drystone/drystonelaw21.ScriptJoins" = some 8 by kernel_rfl).symm.trans hf) |>.symm
  obtain rfl : fn = Tryd.f8 := (Option.some.inj (Tryd.func8.symm.trans hfn)).symm
  refine ⟨by kernel_rfl, fun j t ht => ?_⟩
  rw [Tryd.params8] at ht
  have hm : t ∈ [9, 9] := by simpa using Array.mem_of_getElem? ht
  simp only [List.mem_cons, List.mem_nil_iff, or_false] at hm
  rcases hm with rfl | hm
  · exact (show Tryd.prog.wantsStandIn 9 = false by kernel_rfl)
  subst hm
  exact (show Tryd.prog.wantsStandIn 9 = false by kernel_rfl)
theorem scriptJoins_card : Rows.ScriptJoinsCardSaid :=
  Claim7.holds_tied_plain_at .later [] _ _ _ _ scriptJoins_said (fun _ h => by cases h) (by kernel_rfl) (fun _ h => by cases h) scriptJoins_row_tie rfl ⟨rfl, rfl⟩ (by kernel_rfl) rfl scriptJoins_plain (by kernel_rfl)
#print axioms scriptJoins_card
end Go.Proofs.YtihkfklpoliilaaDoor
