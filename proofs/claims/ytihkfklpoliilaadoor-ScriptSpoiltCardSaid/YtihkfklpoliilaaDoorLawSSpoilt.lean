/- ScriptSpoilt: steps' lines with a sign left out, or another text put in: the steps, or where it goes wrong, and why. -/
import Derived.Test.YtihkfklpoliilaaDoorLid
import Derived.Test.YtihkfklpoliilaaDoorAct
import Derived.Test.YtihkfklpoliilaaDoorFit
import Derived.Test.YtihkfklpoliilaaDoorAwk
import Derived.Test.YtihkfklpoliilaaDoorRds
namespace Go.Proofs.YtihkfklpoliilaaDoor
open Go Go.Sl
attribute [local irreducible] Yl WL WC WQ WD
theorem linesB_succ {l : List Stp} {k : Nat} (h : k < l.length) : linesB (l.take (k + 1)) = linesB (l.take k) ++ lineB l[k] := by
  unfold linesB
  rw [List.take_add_one, List.getElem?_eq_getElem h, Option.toList_some, List.flatMap_append, List.flatMap_cons, List.flatMap_nil, List.append_nil]
set_option maxHeartbeats 8000000 in
theorem scriptSpoilt_spec (v0 : Value) (xs : List Act21) (at_ : Int) (cut : UInt8) (more : Bytes) (hl : xs.length ≤ 9223372036854775807) (hok : ∀ a ∈ xs, a.Ok) (hat : 0 ≤ at_ ∧ at_ ≤ 65535) (hmore : more.length ≤ 9223372036854775807) :
    Spec0 Tryd.prog 5 [v0, .int .u16 at_, vb cut, vs more] (fun h => Tabs h ∧ Rd v0 5 (xs.flatMap Act21.cells) h) (fun F => F) (fun _ : Unit => True) (fun _ => .bool true) (fun _ F => F) := by
  obtain ⟨p, rfl⟩ : ∃ p : Nat, at_ = p := ⟨at_.toNat, by omega⟩
  have hcut := cut.toNat_lt
  (refine spec_of Tryd.func5 rfl Tryd.ntmps5 rfl (fun F w0 hrd => ?_))
  haveI : ReadIn F Tabs := ⟨fun h hs => (hrd h hs).1⟩
  haveI : RdIn F v0 5 (xs.flatMap Act21.cells) := ⟨fun h hs => (hrd h hs).2⟩
  refine walk ?_
  refine call (awake_spec) ?_
  intro _ _
  refine walk ?_
  refine wif_dec (fun h0 => ?_) (fun h0 => ?_)
  · refine walk ?_
    exact wq_ret1 rfl rfl () rfl trivial Ent.refl
  refine walk ?_
  refine wif_dec (fun h0' => ?_) (fun h0' => ?_)
  · refine walk ?_
    exact wq_ret1 rfl rfl () rfl trivial Ent.refl
  obtain ⟨hl12, hm30⟩ : xs.length ≤ 12 ∧ more.length ≤ 30 := by omega
  refine walk ?_
  refine call (steps_spec v0 xs (by omega) hok) ?_
  intro sv _
  obtain ⟨l, hL⟩ : ∃ l, l = xs.map Act21.stp := ⟨_, rfl⟩
  have hll : l.length = xs.length := by rw [hL, List.length_map]
  have hlb : ∀ k, k ≤ l.length → (linesB (l.take k)).length ≤ k * 140737488351292 := fun k hk => by
    have := lines_len (xs := xs.take k) (fun x hx => hok x (List.mem_of_mem_take hx))
    rw [List.length_take, Nat.min_eq_left (by omega), List.map_take, ← hL] at this
    exact this
  have hlf : ∀ st ∈ l, SFit st ∧ (lineB st).length ≤ 140737488351292 := fun st hst => by
    rw [hL] at hst
    obtain ⟨x, hx, rfl⟩ := List.mem_map.1 hst
    have h1 := line_len (hok x hx)
    have h2 := (hok x hx).2.2.2
    exact ⟨act_fit (hok x hx), by omega⟩
  rw [← hL]
  refine walk ?_
  refine wc_loop (X := Nat) (fun k => [(0, v0), (1, .int .u16 (p : Int)), (2, vb cut), (3, vs more), (30, sv), (31, vi l.length), (32, vi k), (9, vs (linesB (l.take k)))]) (fun _ => Sl sv 1 (l.map stv) :: F)
    (fun k => k ≤ l.length) (fun k => l.length - k) 0 (Nat.zero_le _) envs Ent.refl (fun k hk => ?_)
  have htk := hlb k hk
  refine walk ?_
  refine wif_dec (fun hlt => ?_) (fun hlt => ?_)
  · have hlt : k < l.length := by omega
    obtain ⟨hf, hfl⟩ := hlf _ (List.getElem_mem hlt)
    refine walk ?_
    refine call (line_spec l[k] hf) ?_
    intro _ _
    refine walk ?_
    rw [← linesB_succ hlt]
    exact wq_round (k + 1) hlt (by omega) envs perm
  · obtain rfl : k = l.length := by omega
    rw [List.take_length] at htk ⊢
    generalize hT : linesB l = text at *
    refine walk ?_
    refine wif_dec (fun h1 => ?_) (fun h1 => ?_)
    · refine walk ?_
      exact wq_ret1 rfl rfl () rfl trivial perm
    have hmod : (p : Int) % ((text.length : Int) + 1) = ((p % (text.length + 1) : Nat) : Int) := by rw [Int.natCast_emod, Int.natCast_add]; rfl
    have hmod2 : p % (text.length + 1) < text.length + 1 := Nat.mod_lt _ (by omega)
    generalize hq : p % (text.length + 1) = q at *
    refine walk ?_
    rw [hmod]
    (refine draw ?_; refine dy 0 ?_; refine dy 1 ?_; refine dy 2 ?_; refine dy 3 ?_; refine dy 4 ?_; refine dy 5 ?_; refine dy 6 ?_; refine dy 7 ?_; refine dy 8 ?_; refine dy 9 ?_; refine dy 10 ?_; refine dy 11 ?_; refine dy 12 ?_; refine dy 13 ?_)
    obtain ⟨m, hm, hml⟩ : ∃ m : Nat, min ((q : Int) + (cut.toNat : Int) % 4) (text.length : Int) = (m : Int) ∧ m ≤ text.length := ⟨(min ((q : Int) + (cut.toNat : Int) % 4) (text.length : Int)).toNat, by omega, by omega⟩
    rw [hm]
    have hq2 : (text.take q ++ more).length ≤ 2030 := by simp; omega
    have hm2 : (text.drop m).length ≤ 2000 := by rw [List.length_drop]; omega
    have hs : (text.take q ++ more ++ text.drop m).length ≤ 4030 := by rw [List.length_append]; omega
    (refine dy 14 ?_; refine dy 15 ?_; refine dy 16 ?_)
    generalize text.take q ++ more ++ text.drop m = s at *
    obtain ⟨hfit, hlen⟩ := psteps_fit s (by omega)
    refine walk ?_
    refine call (parse_spec s (by omega)) ?_
    intro v1 _
    refine walk ?_
    refine call (reads_spec s (by omega)) ?_
    intro v2 _
    refine walk ?_
    refine wif_dec (fun _ => ?_) (fun h => absurd rfl h)
    refine walk ?_
    refine wif_dec (fun _ => ?_) (fun h => absurd rfl h)
    refine walk ?_
    refine call (same_spec v1 v2 (psteps s).1 (by omega) hfit) ?_ (hr := fun h hs => ⟨ReadIn.rd h hs, RdIn.rd h hs, RdIn.rd h hs⟩)
    intro _ _
    refine walk ?_
    exact wq_ret1 rfl rfl () rfl trivial perm
set_option maxRecDepth 100000 in
open Go.RowKit Go.ChangeShapes Go.WideShapes Go.ChangeAt in
theorem scriptSpoilt_lifted (os : Os) (started : os.Started) (H : Type) (enc : TypeId × Value → H) (F : Stop.Interp) :
    ReturnsInHanded {} Tryd.checked os 5 .any ((OpenSpec.ofChange Rows.scriptSpoiltSpec).preRow enc Tryd.prog Tryd.f5 Rows.scriptSpoiltRow.domain false Rows.scriptSpoiltRow.laid) (((OpenSpec.ofChange Rows.scriptSpoiltSpec).at F).post enc Tryd.prog Tryd.f5 false true false false) := by
  obtain ⟨places, hx⟩ : ∃ places, DataW.whole enc Tryd.prog ((laidWorld os).forCall (fun _ _ => 0) ⟨#[], #[.slice none 0 0, .int .u16 0, .int .u8 0, .string ⟨#[]⟩], []⟩).memory Tryd.f5.params.toList Rows.scriptSpoiltSpec.vars false (#[.slice none 0 0, .int .u16 0, .int .u8 0, .string ⟨#[]⟩] : Array Value).toList 8 = some ([.nil, .lit (.int .u16 0), .lit (.int .u8 0), .lit (.string [])], [], places) := ⟨[], by kernel_rfl⟩
  refine returnsInHanded_of_row (C := Tryd.checked) (s := OpenSpec.ofChange Rows.scriptSpoiltSpec) Tryd.own started (by kernel_rfl) Tryd.func5
    (witness_row_at (enc := enc) (C := Tryd.checked) false (laidWorld os) #[.slice none 0 0, .int .u16 0, .int .u8 0, .string ⟨#[]⟩] rfl (by kernel_rfl) (by kernel_rfl) (by kernel_rfl)
      (OpenSpec.preRow_of_cond 8 hx (by kernel_rfl) (fun k hk => by cases hk) (by kernel_rfl) (laid_met os _))) ?_
  intro W base args ds gs before hval0 hW _ _ hwt hL _ _
  have hval : ∀ (j : Nat) t v, Tryd.f5.params[j]? = some t → args[j]? = some v → Value.okWide Tryd.prog W .any base t v := hval0
  have hT := Tabs.old (tabsW hL) (size7 hL) (F := [])
  have hW' := hW
  obtain ⟨p, q, hA, hV, rfl, hfz, hnd⟩ := hW
  have hA : DataW.TrodAll enc Tryd.prog W 0 (fun _ => true) true [31, 32, 5, 9] args.toList ds p := hA
  obtain ⟨v0, vs0, ds0, q0, m0, y0, e0, rfl, t0, h0⟩ := trodAll_splitW hA
  obtain ⟨v1, vs1, ds1, q1, m1, y1, e1, rfl, t1, h1⟩ := trodAll_splitW h0
  obtain ⟨v2, vs2, ds2, q2, m2, y2, e2, rfl, t2, h2⟩ := trodAll_splitW h1
  obtain ⟨v3, vs3, ds3, q3, m3, y3, e3, rfl, t3, h3⟩ := trodAll_splitW h2
  obtain ⟨e4, rfl⟩ := trodAll_split0 h3
  have ea : args = [v0, v1, v2, v3].toArray := by apply Array.toList_inj.1; rw [e0, e1, e2, e3, e4]
  subst ea
  obtain ⟨b0, w0, f0, hr0, hb0, hx0⟩ := argW_slice (@rdrW_slicef Tryd.prog 31 40 5 Act21 Act21.cells _ _ (by kernel_rfl) (by decide) @rdr_act21) (hval 0 31 v0 rfl rfl) t0 (wgt_at hwt (i := 0) rfl rfl)
  obtain rfl : v0 = w0 := by simpa using f0
  obtain ⟨n1, rfl, a1⟩ := arg_int (k := .u16) (hval 1 32 v1 rfl rfl) t1
  obtain ⟨x2, rfl⟩ := arg_u8 (hval 2 5 v2 rfl rfl) t2
  obtain ⟨s3, rfl, hs3⟩ := arg_string (hval 3 9 v3 rfl rfl) t3
  obtain ⟨l3, rfl⟩ := str_eta s3
  rw [ba_size] at hs3
  refine (scriptSpoilt_spec v0 b0 n1 x2 l3 hb0 hx0 a1 hs3 [Old W] W (fun h hs => ⟨hT h hs, (Old.rd hr0).rd h hs⟩) (sat_old W)).mono fun e W' he => ?_
  obtain ⟨hev, ⟨_, _, rfl, hs⟩ | ⟨_, hf, _⟩⟩ := he
  · exact ⟨_, rfl, law_post Tryd.laidOut rfl hW' rfl Tryd.underlying4 (by decide +kernel) (by cases gs <;> first | rfl | exact False.elim hV) (Sat.below hev hs)⟩
  · exact hf.elim

set_option maxRecDepth 100000 in
theorem scriptSpoilt_said : Rows.ScriptSpoiltSaid :=
  OpenClaim.holds_of_cond 5 Tryd.f5 rfl rfl rfl rfl rfl rfl rfl ⟨rfl, rfl, rfl, rfl, rfl⟩ rfl rfl rfl rfl rfl (by kernel_rfl) Tryd.func5 (by kernel_rfl)
    (of_decide_eq_true (by kernel_rfl)) (by unfold Func.isWrapper; first | (rw [if_pos (by decide +kernel)]; kernel_rfl) | (rw [if_neg (by decide +kernel)]; exact ⟨rfl, rfl⟩))
    (fun os started H enc _ F => by rw [OpenClaim.pre_eq_preRow]; exact scriptSpoilt_lifted os started H enc F)
theorem scriptSpoilt_plain (f : FuncId) (fn : Func) (hf : Tryd.pinned.checked.prog.funcNamed "drystone/drystonelaw21.ScriptSpoilt" = some f) (hfn : Tryd.pinned.checked.prog.funcs[f]? = some fn) :
    true = Tryd.pinned.checked.prog.looks [] ∧ ∀ (j : Nat) t, fn.params[j]? = some t → Tryd.pinned.checked.prog.wantsStandIn t = false := by
  obtain rfl : f = 5 := Option.some.inj ((show Tryd.prog.funcNamed "drystone/drystonelaw21.ScriptSpoilt" = some 5 by kernel_rfl).symm.trans hf) |>.symm
  obtain rfl : fn = Tryd.f5 := (Option.some.inj (Tryd.func5.symm.trans hfn)).symm
  refine ⟨by kernel_rfl, fun j t ht => ?_⟩
  rw [Tryd.params5] at ht
  have hm : t ∈ [31, 32, 5, 9] := by simpa using Array.mem_of_getElem? ht
  simp only [List.mem_cons, List.mem_nil_iff, or_false] at hm
  rcases hm with rfl | hm
  · exact (show Tryd.prog.wantsStandIn 31 = false by kernel_rfl)
  rcases hm with rfl | hm
  · exact (show Tryd.prog.wantsStandIn 32 = false by kernel_rfl)
  rcases hm with rfl | hm
  · exact (show Tryd.prog.wantsStandIn 5 = false by kernel_rfl)
  subst hm
  exact (show Tryd.prog.wantsStandIn 9 = false by kernel_rfl)
theorem scriptSpoilt_card : Rows.ScriptSpoiltCardSaid :=
  Claim7.holds_tied_plain_at .later [] _ _ _ _ scriptSpoilt_said (fun _ h => by cases h) (by kernel_rfl) (fun _ h => by cases h) scriptSpoilt_row_tie rfl ⟨rfl, rfl⟩ (by kernel_rfl) rfl scriptSpoilt_plain (by kernel_rfl)
#print axioms scriptSpoilt_card
end Go.Proofs.YtihkfklpoliilaaDoor
