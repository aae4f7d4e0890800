/- ScriptPrints: any steps: their lines; parsed they are the steps. -/
import Derived.Test.YtihkfklpoliilaaDoorLid
import Derived.Test.YtihkfklpoliilaaDoorPla
import Derived.Test.YtihkfklpoliilaaDoorLinP
import Derived.Test.YtihkfklpoliilaaDoorAwk
namespace Go.Proofs.YtihkfklpoliilaaDoor
open Go Go.Sl
attribute [local irreducible] Yl WL WC WQ WD
theorem flat_getc {xs : List Act21} {k : Nat} (j : Nat) (h : k < xs.length) (hj : j < 5) : (xs.flatMap Act21.cells)[k * 5 + j]? = (xs[k].cells)[j]? := by
  induction xs generalizing k with
  | nil => simp at h
  | cons x xs ih =>
    rw [List.flatMap_cons]
    have hx : x.cells.length = 5 := rfl
    cases k with
    | zero => rw [Nat.zero_mul, Nat.zero_add, List.getElem?_append_left (by omega)]; rfl
    | succ k =>
      rw [List.getElem?_append_right (by omega), hx, show (k + 1) * 5 + j - 5 = k * 5 + j by omega, ih (by simpa using h)]
      rfl
set_option maxHeartbeats 8000000 in
theorem scriptPrints_spec (v0 : Value) (xs : List Act21) (hl : xs.length ≤ 9223372036854775807) (hok : ∀ a ∈ xs, a.Ok) :
    Spec0 Tryd.prog 9 [v0] (fun h => Tabs h ∧ Rd v0 5 (xs.flatMap Act21.cells) h) (fun F => F) (fun _ : Unit => True) (fun _ => .bool true) (fun _ F => F) := by
  (refine spec_of Tryd.func9 rfl Tryd.ntmps9 rfl (fun F w0 hrd => ?_))
  haveI : ReadIn F Tabs := ⟨fun h hs => (hrd h hs).1⟩
  haveI : RdIn F v0 5 (xs.flatMap Act21.cells) := ⟨fun h hs => (hrd h hs).2⟩
  refine walk ?_
  refine call (awake_spec) ?_
  intro _ _
  refine walk ?_
  refine wif_dec (fun h0 => ?_) (fun h0 => ?_)
  · refine walk ?_
    exact wq_ret1 rfl rfl () rfl trivial Ent.refl
  have hl40 : xs.length ≤ 40 := by omega
  refine walk ?_
  refine call (steps_spec v0 xs (by omega) hok) ?_
  intro sv _
  obtain ⟨l, hL⟩ : ∃ l, l = xs.map Act21.stp := ⟨_, rfl⟩
  have hll : l.length = xs.length := by rw [hL, List.length_map]
  have hlx : ∀ k (h : k < l.length) (h' : k < xs.length), l[k] = xs[k].stp := fun k h h' => by subst hL; simp
  rw [← hL]
  refine walk ?_
  refine wc_loop (X := Nat) (fun k => [(0, v0), (4, sv), (19, sv), (20, vi l.length), (21, vi k), (3, vs ((l.take k).flatMap lineB))]) (fun _ => Sl sv 1 (l.map stv) :: F)
    (fun k => k ≤ l.length ∧ ((l.take k).flatMap lineB).length ≤ k * 160 ∧ ∀ st ∈ l.take k, SFit st ∧ (lineB st).length ≤ 160) (fun k => l.length - k) 0 ⟨Nat.zero_le _, Nat.zero_le _, fun st h => (by simp at h)⟩ envs Ent.refl (fun k hk => ?_)
  obtain ⟨hk, hk2, hk3⟩ := hk
  refine walk ?_
  refine wif_dec (fun hlt => ?_) (fun hlt => ?_)
  · have hlt : k < l.length := by omega
    have hltx : k < xs.length := by omega
    have hxo := hok _ (List.getElem_mem hltx)
    have hlen := line_len hxo
    have hfx := act_fit hxo
    rw [← hlx k hlt hltx] at hlen hfx
    refine walk ?_
    refine wl_y (yl_loadx (u := vs xs[k].t) rfl (flat_getc 4 hltx (by decide))) rfl ?_
    refine walk ?_
    refine wif_dec (fun h1 => ?_) (fun h1 => ?_)
    · refine walk ?_
      exact wq_ret1 rfl rfl () rfl trivial perm
    refine walk ?_
    refine call (line_spec l[k] hfx) ?_
    intro _ _
    refine walk ?_
    have e1 : (l.take (k + 1)) = l.take k ++ [l[k]] := by rw [List.take_add_one, List.getElem?_eq_getElem hlt, Option.toList_some]
    have e2 : (l.take (k + 1)).flatMap lineB = (l.take k).flatMap lineB ++ lineB l[k] := by rw [e1, List.flatMap_append, List.flatMap_cons, List.flatMap_nil, List.append_nil]
    rw [← e2]
    refine wq_round (k + 1) ⟨hlt, by rw [e2, List.length_append]; omega, fun st hst => ?_⟩ (by omega) envs perm
    rw [e1] at hst
    rcases List.mem_append.1 hst with hst | hst
    · exact hk3 st hst
    · rw [List.mem_singleton] at hst; subst hst; exact ⟨hfx, by omega⟩
  · obtain rfl : k = l.length := by omega
    rw [List.take_length] at hk2 hk3 ⊢
    refine walk ?_
    refine call (print_spec sv l (by omega) (fun st hst => ⟨(hk3 st hst).1, Nat.le_trans (hk3 st hst).2 (by decide)⟩)) ?_ (hr := fun h hs => ⟨ReadIn.rd h hs, RdIn.rd h hs⟩)
    intro _ _
    refine walk ?_
    refine WIf.both (fun h => absurd rfl (of_decide_eq_true h)) (fun _ => ?_)
    refine walk ?_
    refine wc_loop (X := Nat) (fun k => [(0, v0), (4, sv), (42, v0), (43, vi xs.length), (44, vi k), (3, vs (l.flatMap lineB))]) (fun _ => Sl sv 1 (l.map stv) :: F)
      (fun k => k ≤ xs.length ∧ ∀ x ∈ xs.take k, plainB x.t = true) (fun k => xs.length - k) 0 ⟨Nat.zero_le _, fun st h => (by simp at h)⟩ envs Ent.refl (fun k hk => ?_)
    obtain ⟨hk, hk4⟩ := hk
    refine walk ?_
    refine wif_dec (fun hlt => ?_) (fun hlt => ?_)
    · have hlt : k < xs.length := by omega
      have h4 := (hok _ (List.getElem_mem hlt)).2.2.2
      refine walk ?_
      intro c
      refine walk ?_
      dsimp only [Act21.cells]
      refine walk ?_
      refine call (plain_spec xs[k].t (by omega)) ?_
      intro _ _
      refine walk ?_
      refine WIf.both (fun hb => ?_) (fun hb => ?_)
      · refine walk ?_
        refine wq_round (k + 1) ⟨hlt, fun x hx => ?_⟩ (by omega) envs perm
        rw [List.take_add_one, List.getElem?_eq_getElem hlt, Option.toList_some] at hx
        rcases List.mem_append.1 hx with hx | hx
        · exact hk4 x hx
        · rw [List.mem_singleton] at hx; subst hx; exact hb
      · refine walk ?_
        exact wq_ret1 rfl rfl () rfl trivial perm
    · obtain rfl : k = xs.length := by omega
      rw [List.take_length] at hk4
      have hpr : ∀ st ∈ l, PrOk st := fun st hst => by
        rw [hL] at hst
        obtain ⟨x, hx, rfl⟩ := List.mem_map.1 hst
        exact act_pr (hok x hx) (hk4 x hx)
      have hps := psteps_lines l hpr (by omega) (by omega)
      refine walk ?_
      refine call (parse_spec (l.flatMap lineB) (by omega)) ?_
      intro v1 _
      rw [hps]
      refine walk ?_
      refine call (same_spec v1 sv l (by omega) (fun st hst => (hk3 st hst).1)) ?_ (hr := fun h hs => ⟨ReadIn.rd h hs, RdIn.rd h hs, RdIn.rd h hs⟩)
      intro _ _
      refine walk ?_
      exact wq_ret1 rfl rfl () rfl trivial perm
set_option maxRecDepth 100000 in
open Go.RowKit Go.ChangeShapes Go.WideShapes Go.ChangeAt in
theorem scriptPrints_lifted (os : Os) (started : os.Started) (H : Type) (enc : TypeId × Value → H) (F : Stop.Interp) :
    ReturnsInHanded {} Tryd.checked os 9 .any ((OpenSpec.ofChange Rows.scriptPrintsSpec).preRow enc Tryd.prog Tryd.f9 Rows.scriptPrintsRow.domain false Rows.scriptPrintsRow.laid) (((OpenSpec.ofChange Rows.scriptPrintsSpec).at F).post enc Tryd.prog Tryd.f9 false true false false) := by
  obtain ⟨places, hx⟩ : ∃ places, DataW.whole enc Tryd.prog ((laidWorld os).forCall (fun _ _ => 0) ⟨#[], #[.slice none 0 0], []⟩).memory Tryd.f9.params.toList Rows.scriptPrintsSpec.vars false (#[.slice none 0 0] : Array Value).toList 8 = some ([.nil], [], places) := ⟨[], by kernel_rfl⟩
  refine returnsInHanded_of_row (C := Tryd.checked) (s := OpenSpec.ofChange Rows.scriptPrintsSpec) Tryd.own started (by kernel_rfl) Tryd.func9
    (witness_row_at (enc := enc) (C := Tryd.checked) false (laidWorld os) #[.slice none 0 0] rfl (by kernel_rfl) (by kernel_rfl) (by kernel_rfl)
      (OpenSpec.preRow_of_cond 8 hx (by kernel_rfl) (fun k hk => by cases hk) (by kernel_rfl) (laid_met os _))) ?_
  intro W base args ds gs before hval0 hW _ _ hwt hL _ _
  have hval : ∀ (j : Nat) t v, Tryd.f9.params[j]? = some t → args[j]? = some v → Value.okWide Tryd.prog W .any base t v := hval0
  have hT := Tabs.old (tabsW hL) (size7 hL) (F := [])
  have hW' := hW
  obtain ⟨p, q, hA, hV, rfl, hfz, hnd⟩ := hW
  have hA : DataW.TrodAll enc Tryd.prog W 0 (fun _ => true) true [31] args.toList ds p := hA
  obtain ⟨v0, vs0, ds0, q0, m0, y0, e0, rfl, t0, h0⟩ := trodAll_splitW hA
  obtain ⟨e1, rfl⟩ := trodAll_split0 h0
  have ea : args = [v0].toArray := by apply Array.toList_inj.1; rw [e0, e1]
  subst ea
  obtain ⟨b0, w0, f0, hr0, hb0, hx0⟩ := argW_slice (@rdrW_slicef Tryd.prog 31 40 5 Act21 Act21.cells _ _ (by kernel_rfl) (by decide) @rdr_act21) (hval 0 31 v0 rfl rfl) t0 (wgt_at hwt (i := 0) rfl rfl)
  obtain rfl : v0 = w0 := by simpa using f0
  refine (scriptPrints_spec v0 b0 hb0 hx0 [Old W] W (fun h hs => ⟨hT h hs, (Old.rd hr0).rd h hs⟩) (sat_old W)).mono fun e W' he => ?_
  obtain ⟨hev, ⟨_, _, rfl, hs⟩ | ⟨_, hf, _⟩⟩ := he
  · exact ⟨_, rfl, law_post Tryd.laidOut rfl hW' rfl Tryd.underlying4 (by decide +kernel) (by cases gs <;> first | rfl | exact False.elim hV) (Sat.below hev hs)⟩
  · exact hf.elim

set_option maxRecDepth 100000 in
theorem scriptPrints_said : Rows.ScriptPrintsSaid :=
  OpenClaim.holds_of_cond 9 Tryd.f9 rfl rfl rfl rfl rfl rfl rfl ⟨rfl, rfl, rfl, rfl, rfl⟩ rfl rfl rfl rfl rfl (by kernel_rfl) Tryd.func9 (by kernel_rfl)
    (of_decide_eq_true (by kernel_rfl)) (by unfold Func.isWrapper; first | (rw [if_pos (by decide +kernel)]; kernel_rfl) | (rw [if_neg (by decide +kernel)]; exact ⟨rfl, rfl⟩))
    (fun os started H enc _ F => by rw [OpenClaim.pre_eq_preRow]; exact scriptPrints_lifted os started H enc F)
theorem scriptPrints_plain (f : FuncId) (fn : Func) (hf : Tryd.pinned.checked.prog.funcNamed "drystone/drystonelaw21.ScriptPrints" = some f) (hfn : Tryd.pinned.checked.prog.funcs[f]? = some fn) :
    true = Tryd.pinned.checked.prog.looks [] ∧ ∀ (j : Nat) t, fn.params[j]? = some t → Tryd.pinned.checked.prog.wantsStandIn t = false := by
  obtain rfl : f = 9 := Option.some.inj ((show Tryd.prog.funcNamed "drystone/drystonelaw21.ScriptPrints" = some 9 by kernel_rfl).symm.trans hf) |>.symm
  obtain rfl : fn = Tryd.f9 := (Option.some.inj (Tryd.func9.symm.trans hfn)).symm
  refine ⟨by kernel_rfl, fun j t ht => ?_⟩
  rw [Tryd.params9] at ht
  have hm : t ∈ [31] := by simpa using Array.mem_of_getElem? ht
  simp only [List.mem_cons, List.mem_nil_iff, or_false] at hm
  subst hm
  exact (show Tryd.prog.wantsStandIn 31 = false by kernel_rfl)
theorem scriptPrints_card : Rows.ScriptPrintsCardSaid :=
  Claim7.holds_tied_plain_at .later [] _ _ _ _ scriptPrints_said (fun _ h => by cases h) (by kernel_rfl) (fun _ h => by cases h) scriptPrints_row_tie rfl ⟨rfl, rfl⟩ (by kernel_rfl) rfl scriptPrints_plain (by kernel_rfl)
#print axioms scriptPrints_card
end Go.Proofs.YtihkfklpoliilaaDoor
