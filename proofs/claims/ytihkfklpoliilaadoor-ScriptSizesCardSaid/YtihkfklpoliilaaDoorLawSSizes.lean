/- ScriptSizes: as many steps as may be, or more; as many bytes. -/
import Derived.Test.YtihkfklpoliilaaDoorLid
import Derived.Test.YtihkfklpoliilaaDoorPn
import Derived.Test.YtihkfklpoliilaaDoorSzs
import Derived.Test.YtihkfklpoliilaaDoorStr4
import Derived.Test.YtihkfklpoliilaaDoorAwk
namespace Go.Proofs.YtihkfklpoliilaaDoor
open Go Go.Sl
attribute [local irreducible] Yl WL WC WQ WD
theorem psteps_blanks (n : Nat) : psteps (List.replicate n 32) = ([], 0, if 65536 < n then 6 else 0) := by
  unfold psteps
  rw [List.length_replicate]
  by_cases h : 65536 < n
  · rw [if_pos h, if_pos h]
  · rw [if_neg h, if_neg h, runes_blanks, if_neg (by simp), parse_blanks]
theorem psteps_flush (n : Nat) (hn : n ≤ 10000) : psteps (flushB n) = if n ≤ 4096 then (List.replicate n (.plain wFlush), 0, 0) else ([], 24576, 6) := by
  unfold psteps
  rw [flushB_len, if_neg (by omega), runes_flush, if_neg (by simp), parse_flush]
  dsimp only
  by_cases h : n ≤ 4096
  · rw [if_pos h, if_pos h]
  · rw [if_neg h, if_neg h]
    dsimp only
    rw [flush_len, flush_len, show 6 * n - 6 * (n - 4096) = 24576 by omega]
theorem blanks_set {N k : Nat} (h : k < N) : List.set ((List.replicate k (32 : UInt8) ++ List.replicate (N - k) 0).map vb) k (.int .u8 32) = (List.replicate (k + 1) (32 : UInt8) ++ List.replicate (N - (k + 1)) 0).map vb := by
  obtain ⟨d, hd⟩ : ∃ d, N - k = d + 1 := ⟨N - k - 1, by omega⟩
  rw [hd, show N - (k + 1) = d by omega, List.map_append, List.set_append_right _ _ (by simp), List.replicate_succ]
  simp only [List.length_map, List.length_replicate, Nat.sub_self, List.map_cons, List.set_cons_zero]
  rw [List.replicate_succ', List.map_append, List.map_append, List.append_assoc]
  rfl
set_option maxHeartbeats 4000000 in
theorem scriptSizes_spec (m : UInt8) (long : Bool) :
    Spec0 Tryd.prog 3 [vb m, .bool long] Tabs (fun F => F) (fun _ : Unit => True) (fun _ => .bool true) (fun _ F => F) := by
  have hm := m.toNat_lt
  (refine spec_of Tryd.func3 rfl Tryd.ntmps3 rfl (fun F w0 hrd => ?_))
  haveI : ReadIn F Tabs := ⟨hrd⟩
  refine walk ?_
  refine call (awake_spec) ?_
  intro _ _
  refine walk ?_
  refine WIf.both (fun hl => ?_) (fun hl => ?_)
  · obtain ⟨N, hN⟩ : ∃ N : Nat, N = 65530 + m.toNat % 12 := ⟨_, rfl⟩
    have e1 : (65530 + (m.toNat : Int) % 12) = (N : Int) := by omega
    refine walk ?_
    rw [e1, Int.toNat_natCast]
    intro v hvl _
    refine walk ?_
    rw [List.length_replicate]
    refine wc_loop (X := Nat) (fun k => [(0, vb m), (24, v), (5, v), (25, vi N), (26, vi k)]) (fun k => Sl v 1 ((List.replicate k (32 : UInt8) ++ List.replicate (N - k) 0).map vb) :: F)
      (fun k => k ≤ N) (fun k => N - k) 0 (Nat.zero_le _) envs Ent.refl (fun k hk => ?_)
    have hkl : ((List.replicate k (32 : UInt8) ++ List.replicate (N - k) 0).map vb).length = N := by simp; omega
    refine walk ?_
    refine wif_dec (fun hlt => ?_) (fun hlt => ?_)
    · refine walk ?_
      rw [Int.toNat_natCast, blanks_set (by omega)]
      exact wq_round (k + 1) (by omega) (by omega) envs Ent.refl
    · obtain rfl : k = N := by omega
      rw [Nat.sub_self, List.replicate_zero, List.append_nil]
      rw [Nat.sub_self, List.replicate_zero, List.append_nil] at hkl
      refine walk ?_
      refine call (parse_spec (List.replicate k 32) (by rw [List.length_replicate]; omega)) ?_
      intro v2 _
      rw [psteps_blanks]
      refine walk ?_
      refine wif_dec (fun h1 => ?_) (fun h1 => ?_) <;> rw [List.length_replicate] at h1
      · rw [if_pos (by omega)]
        refine walk ?_
        exact wq_ret1 rfl rfl () rfl trivial perm
      · rw [if_neg (by omega)]
        refine walk ?_
        exact wq_ret1 rfl rfl () rfl trivial perm
  · obtain ⟨N, hN⟩ : ∃ N : Nat, N = 4090 + m.toNat % 12 := ⟨_, rfl⟩
    have e1 : (4090 + (m.toNat : Int) % 12) = (N : Int) := by omega
    refine walk ?_
    rw [e1]
    refine wl_makecapT rfl rfl (by omega) (by omega) (by omega) rfl rfl (fun v0 => ?_)
    refine walk ?_
    refine wc_loop (X := Nat × Value) (fun y => [(0, vb m), (10, vi N), (12, y.2), (68, vi N), (69, vi y.1)]) (fun y => SlT y.2 5 ((flushB y.1).map vb) :: F)
      (fun y => y.1 ≤ N) (fun y => N - y.1) (0, v0) (Nat.zero_le _) envs Ent.refl (fun y hk => ?_)
    obtain ⟨k, v⟩ := y
    dsimp only at hk ⊢
    have hkl : ((flushB k).map vb).length = 6 * k := by rw [List.length_map, flushB_len]
    refine walk ?_
    refine wif_dec (fun hlt => ?_) (fun hlt => ?_)
    · refine walk ?_
      refine wl_appendV (l := [102, 108, 117, 115, 104, 10]) rfl rfl rfl (by rw [hkl]; simp; omega) (by rw [hkl]; simp; omega) rfl (fun s' => ?_)
      refine walk ?_
      rw [← List.map_append, flushB_add]
      exact wq_round (k + 1, s') (by dsimp only; omega) (by dsimp only; omega) envs Ent.refl
    · obtain rfl : k = N := by omega
      refine walk ?_
      refine call (parse_spec (flushB k) (by rw [flushB_len]; omega)) ?_
      intro v2 _
      rw [psteps_flush k (by omega)]
      refine walk ?_
      refine wif_dec (fun h1 => ?_) (fun h1 => ?_)
      · rw [if_neg (by omega)]
        refine walk ?_
        exact wq_ret1 rfl rfl () rfl trivial perm
      · rw [if_pos (by omega)]
        refine walk ?_
        refine wq_ret1 rfl rfl () ?_ trivial perm
        simp
set_option maxRecDepth 100000 in
open Go.RowKit Go.ChangeShapes Go.WideShapes Go.ChangeAt in
theorem scriptSizes_lifted (os : Os) (started : os.Started) (H : Type) (enc : TypeId × Value → H) (F : Stop.Interp) :
    ReturnsInHanded {} Tryd.checked os 3 .any ((OpenSpec.ofChange Rows.scriptSizesSpec).preRow enc Tryd.prog Tryd.f3 Rows.scriptSizesRow.domain false Rows.scriptSizesRow.laid) (((OpenSpec.ofChange Rows.scriptSizesSpec).at F).post enc Tryd.prog Tryd.f3 false true false false) := by
  obtain ⟨places, hx⟩ : ∃ places, DataW.whole enc Tryd.prog ((laidWorld os).forCall (fun _ _ => 0) ⟨#[], #[.int .u8 0, .bool false], []⟩).memory Tryd.f3.params.toList Rows.scriptSizesSpec.vars false (#[.int .u8 0, .bool false] : Array Value).toList 8 = some ([.lit (.int .u8 0), .lit (.bool false)], [], places) := ⟨[], by kernel_rfl⟩
  refine returnsInHanded_of_row (C := Tryd.checked) (s := OpenSpec.ofChange Rows.scriptSizesSpec) Tryd.own started (by kernel_rfl) Tryd.func3
    (witness_row_at (enc := enc) (C := Tryd.checked) false (laidWorld os) #[.int .u8 0, .bool false] rfl (by kernel_rfl) (by kernel_rfl) (by kernel_rfl)
      (OpenSpec.preRow_of_cond 8 hx (by kernel_rfl) (fun k hk => by cases hk) (by kernel_rfl) (laid_met os _))) ?_
  intro W base args ds gs before hval0 hW _ _ hwt hL _ _
  have hval : ∀ (j : Nat) t v, Tryd.f3.params[j]? = some t → args[j]? = some v → Value.okWide Tryd.prog W .any base t v := hval0
  have hT := Tabs.old (tabsW hL) (size7 hL) (F := [])
  have hW' := hW
  obtain ⟨p, q, hA, hV, rfl, hfz, hnd⟩ := hW
  have hA : DataW.TrodAll enc Tryd.prog W 0 (fun _ => true) true [5, 4] args.toList ds p := hA
  obtain ⟨v0, vs0, d0, ds0, q0, m0, y0, e0, rfl, t0, h0⟩ := trodAll_split1 hA
  obtain ⟨v1, vs1, d1, ds1, q1, m1, y1, e1, rfl, t1, h1⟩ := trodAll_split1 h0
  obtain ⟨e2, rfl⟩ := trodAll_split0 h1
  have ea : args = [v0, v1].toArray := by apply Array.toList_inj.1; rw [e0, e1, e2]
  subst ea
  obtain ⟨x0, rfl⟩ := arg_u8 (hval 0 5 v0 rfl rfl) t0
  obtain ⟨x1, rfl⟩ := arg_bool (hval 1 4 v1 rfl rfl)
  refine (scriptSizes_spec x0 x1 [Old W] W (hT) (sat_old W)).mono fun e W' he => ?_
  obtain ⟨hev, ⟨_, _, rfl, hs⟩ | ⟨_, hf, _⟩⟩ := he
  · exact ⟨_, rfl, law_post Tryd.laidOut rfl hW' rfl Tryd.underlying4 (by decide +kernel) (by cases gs <;> first | rfl | exact False.elim hV) (Sat.below hev hs)⟩
  · exact hf.elim

set_option maxRecDepth 100000 in
theorem scriptSizes_said : Rows.ScriptSizesSaid :=
  OpenClaim.holds_of_cond 3 Tryd.f3 rfl rfl rfl rfl rfl rfl rfl ⟨rfl, rfl, rfl, rfl, rfl⟩ rfl rfl rfl rfl rfl (by kernel_rfl) Tryd.func3 (by kernel_rfl)
    (of_decide_eq_true (by kernel_rfl)) (by unfold Func.isWrapper; first | (rw [if_pos (by decide +kernel)]; kernel_rfl) | (rw [if_neg (by decide +kernel)]; exact ⟨rfl, rfl⟩))
    (fun os started H enc _ F => by rw [OpenClaim.pre_eq_preRow]; exact scriptSizes_lifted os started H enc F)
theorem scriptSizes_plain (f : FuncId) (fn : Func) (hf : Tryd.pinned.checked.prog.funcNamed "drystone/drystonelaw21.ScriptSizes" = some f) (hfn : Tryd.pinned.checked.prog.funcs[f]? = some fn) :
    true = Tryd.pinned.checked.prog.looks [] ∧ ∀ (j : Nat) t, fn.params[j]? = some t → Tryd.pinned.checked.prog.wantsStandIn t = false := by
  obtain rfl : f = 3 := Option.some.inj ((show Tryd.prog.funcNamed "drystone/drystonelaw21.ScriptSizes" = some 3 by kernel_rfl).symm.trans hf) |>.symm
  obtain rfl : fn = Tryd.f3 := (Option.some.inj (Tryd.func3.symm.trans hfn)).symm
  refine ⟨by kernel_rfl, fun j t ht => ?_⟩
  rw [Tryd.params3] at ht
  have hm : t ∈ [5, 4] := by simpa using Array.mem_of_getElem? ht
  simp only [List.mem_cons, List.mem_nil_iff, or_false] at hm
  rcases hm with rfl | hm
  · exact (show Tryd.prog.wantsStandIn 5 = false by kernel_rfl)
  subst hm
  exact (show Tryd.prog.wantsStandIn 4 = false by kernel_rfl)
theorem scriptSizes_card : Rows.ScriptSizesCardSaid :=
  Claim7.holds_tied_plain_at .later [] _ _ _ _ scriptSizes_said (fun _ h => by cases h) (by kernel_rfl) (fun _ h => by cases h) scriptSizes_row_tie rfl ⟨rfl, rfl⟩ (by kernel_rfl) rfl scriptSizes_plain (by kernel_rfl)
#print axioms scriptSizes_card
end Go.Proofs.YtihkfklpoliilaaDoor
