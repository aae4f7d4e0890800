/- ScriptBlanks: blanks about lines, and empty lines, change nothing. -/
import Derived.Test.YtihkfklpoliilaaDoorLid
import Derived.Test.YtihkfklpoliilaaDoorPla
import Derived.Test.YtihkfklpoliilaaDoorAwk
namespace Go.Proofs.YtihkfklpoliilaaDoor
open Go Go.Sl
attribute [local irreducible] Yl WL WC WQ WD
theorem flat_getd {xs : List Act21} {k : Nat} (j : Nat) (h : k < xs.length) (hj : j < 5) : (xs.flatMap Act21.cells)[k * 5 + j]? = (xs[k].cells)[j]? := by
  induction xs generalizing k with
  | nil => simp at h
  | cons x xs ih =>
    rw [List.flatMap_cons]
    have hx : x.cells.length = 5 := rfl
    cases k with
    | zero => rw [Nat.zero_mul, Nat.zero_add, List.getElem?_append_left (by omega)]; rfl
    | succ k =>
      rw [List.getElem?_append_right (by omega), hx, show (k + 1) * 5 + j - 5 = k * 5 + j by omega, ih (by simpa using h)]
      rfl
def gapOf (c : UInt8) : Bytes := match c.toNat % 5 with | 0 => [] | 1 => [32] | 2 => [32, 32, 32] | 3 => [10] | _ => [10, 32, 32, 10]
def tailOf (c : UInt8) : Bytes := match c.toNat % 2 with | 0 => [] | _ => [32, 32]
theorem gaps_get (c : UInt8) : ([vs [], vs [32], vs [32, 32, 32], vs [10], vs [10, 32, 32, 10]] : List Value)[((c.toNat : Int) % 5).toNat]? = some (vs (gapOf c)) := by
  obtain ⟨r, hr⟩ : ∃ r, r = c.toNat % 5 := ⟨_, rfl⟩
  have e : ((c.toNat : Int) % 5).toNat = r := by omega
  unfold gapOf
  rw [e, ← hr]
  rcases (by omega : r = 0 ∨ r = 1 ∨ r = 2 ∨ r = 3 ∨ r = 4) with h | h | h | h | h <;> subst h <;> rfl
theorem tails_get (c : UInt8) : ([vs [], vs [32, 32]] : List Value)[((c.toNat : Int) % 2).toNat]? = some (vs (tailOf c)) := by
  obtain ⟨r, hr⟩ : ∃ r, r = c.toNat % 2 := ⟨_, rfl⟩
  have e : ((c.toNat : Int) % 2).toNat = r := by omega
  unfold tailOf
  rw [e, ← hr]
  rcases (by omega : r = 0 ∨ r = 1) with h | h <;> subst h <;> rfl
theorem gap_ok (c : UInt8) : Gap (gapOf c) ∧ (gapOf c).length ≤ 4 := by
  unfold gapOf
  split
  · exact ⟨.inl rfl, by decide⟩
  · exact ⟨.inr (.inl rfl), by decide⟩
  · exact ⟨.inr (.inr (.inl rfl)), by decide⟩
  · exact ⟨.inr (.inr (.inr (.inl rfl))), by decide⟩
  · exact ⟨.inr (.inr (.inr (.inr rfl))), by decide⟩
theorem tail_ok (c : UInt8) : Tail (tailOf c) ∧ (tailOf c).length ≤ 2 := by
  unfold tailOf
  split
  · exact ⟨.inl rfl, by decide⟩
  · exact ⟨.inr rfl, by decide⟩
/-- line k with what is about it -/
def chk (g : Bytes) (l : List Stp) (k : Nat) : Bytes × Bytes × Stp := (gapOf (g.getD (k % g.length) 0), tailOf (g.getD (k % g.length) 0), l.getD k (.plain []))
def chks (g : Bytes) (l : List Stp) (k : Nat) : Bytes := ((List.range k).map (chk g l)).flatMap chunk
theorem chks_succ (g : Bytes) (l : List Stp) (k : Nat) : chks g l (k + 1) = chks g l k ++ chunk (chk g l k) := by
  unfold chks
  rw [List.range_succ, List.map_append, List.flatMap_append, List.map_cons, List.map_nil, List.flatMap_cons, List.flatMap_nil, List.append_nil]
set_option maxHeartbeats 8000000 in
theorem scriptBlanks_spec (v0 v1 : Value) (xs : List Act21) (g : Bytes) (hl : xs.length ≤ 9223372036854775807) (hok : ∀ a ∈ xs, a.Ok) (hgl : g.length ≤ 9223372036854775807) :
    Spec0 Tryd.prog 7 [v0, v1] (fun h => Tabs h ∧ Rd v0 5 (xs.flatMap Act21.cells) h ∧ Rd v1 1 (g.map vb) h) (fun F => F) (fun _ : Unit => True) (fun _ => .bool true) (fun _ F => F) := by
  (refine spec_of Tryd.func7 rfl Tryd.ntmps7 rfl (fun F w0 hrd => ?_))
  haveI : ReadIn F Tabs := ⟨fun h hs => (hrd h hs).1⟩
  haveI : RdIn F v0 5 (xs.flatMap Act21.cells) := ⟨fun h hs => (hrd h hs).2.1⟩
  haveI : RdIn F v1 1 (g.map vb) := ⟨fun h hs => (hrd h hs).2.2⟩
  refine walk ?_
  refine call (awake_spec) ?_
  intro _ _
  refine walk ?_
  refine wif_dec (fun h0 => ?_) (fun h0 => ?_)
  · refine walk ?_
    exact wq_ret1 rfl rfl () rfl trivial Ent.refl
  refine walk ?_
  refine wif_dec (fun h0' => ?_) (fun h0' => ?_)
  · refine walk ?_
    exact wq_ret1 rfl rfl () rfl trivial Ent.refl
  have hl20 : xs.length ≤ 20 := by omega
  have hgn : 0 < g.length := by omega
  refine walk ?_
  refine call (steps_spec v0 xs (by omega) hok) ?_
  intro sv _
  obtain ⟨l, hL⟩ : ∃ l, l = xs.map Act21.stp := ⟨_, rfl⟩
  have hll : l.length = xs.length := by rw [hL, List.length_map]
  have hlx : ∀ k (h : k < l.length) (h' : k < xs.length), l[k] = xs[k].stp := fun k h h' => by subst hL; simp
  rw [← hL]
  refine walk ?_
  refine wc_loop (X := Nat) (fun k => [(0, v0), (1, v1), (24, sv), (25, vi l.length), (26, vi k), (5, vs (chks g l k))]) (fun _ => Sl sv 1 (l.map stv) :: F)
    (fun k => k ≤ l.length ∧ (chks g l k).length ≤ k * 170 ∧ ∀ x ∈ xs.take k, plainB x.t = true) (fun k => l.length - k) 0 ⟨Nat.zero_le _, Nat.zero_le _, fun st h => (by simp at h)⟩ envs Ent.refl (fun k hk => ?_)
  obtain ⟨hk, hk2, hk3⟩ := hk
  refine walk ?_
  refine wif_dec (fun hlt => ?_) (fun hlt => ?_)
  · have hlt : k < l.length := by omega
    have hltx : k < xs.length := by omega
    have hxo := hok _ (List.getElem_mem hltx)
    have hlen := line_len hxo
    have hfx := act_fit hxo
    have h4 := hxo.2.2.2
    rw [← hlx k hlt hltx] at hlen hfx
    refine walk ?_
    refine wl_y (yl_loadx (u := vs xs[k].t) rfl (flat_getd 4 hltx (by decide))) rfl ?_
    refine walk ?_
    refine call (plain_spec xs[k].t (by omega)) ?_
    intro _ _
    refine walk ?_
    refine WIf.both (fun hb => ?_) (fun hb => ?_)
    case _ =>
      refine walk ?_
      refine wl_y (yl_loadx (u := vs xs[k].t) rfl (flat_getd 4 hltx (by decide))) rfl ?_
      refine walk ?_
      refine wif_dec (fun h1 => ?_) (fun h1 => ?_)
      · refine walk ?_
        exact wq_ret1 rfl rfl () rfl trivial perm
      refine walk ?_
      refine call (line_spec l[k] hfx) ?_
      intro _ _
      rw [lineB_eq]
      rw [lineB_eq] at hlen
      have hbl : (bodyB l[k]).length ≤ 160 := by rw [List.length_append] at hlen; simp at hlen; omega
      have hq := Nat.mod_lt k hgn
      have hck : chks g l (k + 1) = chks g l k ++ (gapOf g[k % g.length] ++ bodyB l[k] ++ tailOf g[k % g.length] ++ [10]) := by
        rw [chks_succ]
        unfold chk chunk
        have : k % g.length < g.length := Nat.mod_lt _ hgn
        rw [List.getD_eq_getElem?_getD, List.getD_eq_getElem?_getD, List.getElem?_eq_getElem this, List.getElem?_eq_getElem hlt]
        rfl
      have hsub : ((List.length (bodyB l[k] ++ [10]) : Nat) : Int) - 1 = ((bodyB l[k]).length : Int) := by rw [List.length_append]; simp
      generalize bodyB l[k] = bd at *
      have hmod : (k : Int) % (g.length : Int) = ((k % g.length : Nat) : Int) := (Int.natCast_emod ..).symm
      obtain ⟨c, hc⟩ : ∃ c, c = g[k % g.length] := ⟨_, rfl⟩
      rw [← hc] at hck
      generalize k % g.length = q at *
      have hgc := gap_ok c
      have htc := tail_ok c
      have hcl := c.toNat_lt
      have hgi : ∀ (h : Int.toNat ((k : Int) % (g.length : Int)) < g.length), g[Int.toNat ((k : Int) % (g.length : Int))]'h = c := fun h => by
        rw [hc]; congr 1; omega
      refine walk ?_
      intro s1 _ _
      refine walk ?_
      simp only [hgi]
      refine wl_y (yl_index1 rfl rfl (by omega) (by simp; omega)) rfl ?_
      refine wl_y (yl_loadx (u := vs (gapOf c)) rfl (gaps_get c)) rfl ?_
      refine walk ?_
      (refine draw ?_; refine dy 0 ?_; refine dy 1 ?_; refine dy 2 ?_; refine dy 3 ?_; refine dy 4 ?_; refine dy 5 ?_)
      rw [hsub]
      (refine dy 6 ?_; refine dy 7 ?_; refine dy 9 ?_; refine dy 10 ?_; refine dy 11 ?_; refine dy 12 ?_; refine dy 13 ?_; refine dy 14 ?_; refine dy 15 ?_; refine dy 16 ?_)
      simp only [hgi]
      (refine ddo 8 ?_)
      refine walk ?_
      intro s2 _ _
      refine walk ?_
      refine dy 17 (y := by exact yl_index1 rfl rfl (by omega) (by simp; omega)) ?_
      refine dy 18 (y := by exact yl_loadx (u := vs (tailOf c)) rfl (tails_get c)) ?_
      obtain ⟨_, hgl2⟩ := hgc
      obtain ⟨_, htl2⟩ := htc
      (refine dy 19 ?_; refine dy 20 ?_; refine dy 21 ?_; refine dy 22 ?_)
      refine walk ?_
      rw [List.take_left, ← hck]
      refine wq_round (k + 1) ⟨hlt, ?_, fun x hx => ?_⟩ (by omega) envs perm
      · rw [hck]; simp; omega
      · rw [List.take_add_one, List.getElem?_eq_getElem hltx, Option.toList_some] at hx
        rcases List.mem_append.1 hx with hx | hx
        · exact hk3 x hx
        · rw [List.mem_singleton] at hx; subst hx; exact hb
    case _ =>
      refine walk ?_
      exact wq_ret1 rfl rfl () rfl trivial perm
  · obtain rfl : k = l.length := by omega
    rw [hll, List.take_length] at hk3
    have hpr : ∀ st ∈ l, PrOk st := fun st hst => by
      rw [hL] at hst
      obtain ⟨x, hx, rfl⟩ := List.mem_map.1 hst
      exact act_pr (hok x hx) (hk3 x hx)
    have hps : psteps (chks g l l.length) = (l, 0, 0) := by
      have := psteps_chunks ((List.range l.length).map (chk g l)) (fun c hc => by
        obtain ⟨i, hi, rfl⟩ := List.mem_map.1 hc
        rw [List.mem_range] at hi
        refine ⟨(gap_ok _).1, (tail_ok _).1, ?_⟩
        show PrOk (l.getD i (.plain []))
        rw [List.getD_eq_getElem?_getD, List.getElem?_eq_getElem hi]
        exact hpr _ (List.getElem_mem hi)) (by simp; omega) (by show (chks g l l.length).length ≤ 65536; omega)
      have e : ((List.range l.length).map (chk g l)).map (·.2.2) = l := by
        rw [List.map_map]
        apply List.ext_getElem?
        intro i
        rw [List.getElem?_map]
        by_cases hi : i < l.length
        · rw [List.getElem?_range hi, List.getElem?_eq_getElem hi]
          show some (l.getD i (.plain [])) = _
          rw [List.getD_eq_getElem?_getD, List.getElem?_eq_getElem hi]; rfl
        · rw [List.getElem?_eq_none (by simp; omega), List.getElem?_eq_none (by omega)]; rfl
      rw [e] at this
      exact this
    have hfit : ∀ st ∈ l, SFit st := fun st hst => by
      rw [hL] at hst
      obtain ⟨x, hx, rfl⟩ := List.mem_map.1 hst
      exact act_fit (hok x hx)
    refine walk ?_
    refine call (parse_spec (chks g l l.length) (by omega)) ?_
    intro v2 _
    rw [hps]
    refine walk ?_
    refine call (steps_spec v0 xs (by omega) hok) ?_
    intro s2 _
    rw [← hL]
    refine walk ?_
    refine call (same_spec v2 s2 l (by omega) hfit) ?_ (hr := fun h hs => ⟨ReadIn.rd h hs, RdIn.rd h hs, RdIn.rd h hs⟩)
    intro _ _
    refine walk ?_
    exact wq_ret1 rfl rfl () rfl trivial perm
set_option maxRecDepth 100000 in
open Go.RowKit Go.ChangeShapes Go.WideShapes Go.ChangeAt in
theorem scriptBlanks_lifted (os : Os) (started : os.Started) (H : Type) (enc : TypeId × Value → H) (F : Stop.Interp) :
    ReturnsInHanded {} Tryd.checked os 7 .any ((OpenSpec.ofChange Rows.scriptBlanksSpec).preRow enc Tryd.prog Tryd.f7 Rows.scriptBlanksRow.domain false Rows.scriptBlanksRow.laid) (((OpenSpec.ofChange Rows.scriptBlanksSpec).at F).post enc Tryd.prog Tryd.f7 false true false false) := by
  obtain ⟨places, hx⟩ : ∃ places, DataW.whole enc Tryd.prog ((laidWorld os).forCall (fun _ _ => 0) ⟨#[], #[.slice none 0 0, .slice none 0 0], []⟩).memory Tryd.f7.params.toList Rows.scriptBlanksSpec.vars false (#[.slice none 0 0, .slice none 0 0] : Array Value).toList 8 = some ([.nil, .nil], [], places) := ⟨[], by kernel_rfl⟩
  refine returnsInHanded_of_row (C := Tryd.checked) (s := OpenSpec.ofChange Rows.scriptBlanksSpec) Tryd.own started (by kernel_rfl) Tryd.func7
    (witness_row_at (enc := enc) (C := Tryd.checked) false (laidWorld os) #[.slice none 0 0, .slice none 0 0] rfl (by kernel_rfl) (by kernel_rfl) (by kernel_rfl)
      (OpenSpec.preRow_of_cond 8 hx (by kernel_rfl) (fun k hk => by cases hk) (by kernel_rfl) (laid_met os _))) ?_
  intro W base args ds gs before hval0 hW _ _ hwt hL _ _
  have hval : ∀ (j : Nat) t v, Tryd.f7.params[j]? = some t → args[j]? = some v → Value.okWide Tryd.prog W .any base t v := hval0
  have hT := Tabs.old (tabsW hL) (size7 hL) (F := [])
  have hW' := hW
  obtain ⟨p, q, hA, hV, rfl, hfz, hnd⟩ := hW
  have hA : DataW.TrodAll enc Tryd.prog W 0 (fun _ => true) true [31, 23] args.toList ds p := hA
  obtain ⟨v0, vs0, ds0, q0, m0, y0, e0, rfl, t0, h0⟩ := trodAll_splitW hA
  obtain ⟨v1, vs1, ds1, q1, m1, y1, e1, rfl, t1, h1⟩ := trodAll_splitW h0
  obtain ⟨e2, rfl⟩ := trodAll_split0 h1
  have ea : args = [v0, v1].toArray := by apply Array.toList_inj.1; rw [e0, e1, e2]
  subst ea
  obtain ⟨b0, w0, f0, hr0, hb0, hx0⟩ := argW_slice (@rdrW_slicef Tryd.prog 31 40 5 Act21 Act21.cells _ _ (by kernel_rfl) (by decide) @rdr_act21) (hval 0 31 v0 rfl rfl) t0 (wgt_at hwt (i := 0) rfl rfl)
  obtain rfl : v0 = w0 := by simpa using f0
  obtain ⟨b1, w1, f1, hr1, hb1⟩ := arg_slice (@rdr_bytes Tryd.prog 23 5 _ _ (by kernel_rfl)) (hval 1 23 v1 rfl rfl) t1
  obtain rfl : v1 = w1 := by simpa using f1
  refine (scriptBlanks_spec v0 v1 b0 b1 hb0 hx0 hb1 [Old W] W (fun h hs => ⟨hT h hs, (Old.rd hr0).rd h hs, (Old.rd hr1).rd h hs⟩) (sat_old W)).mono fun e W' he => ?_
  obtain ⟨hev, ⟨_, _, rfl, hs⟩ | ⟨_, hf, _⟩⟩ := he
  · exact ⟨_, rfl, law_post Tryd.laidOut rfl hW' rfl Tryd.underlying4 (by decide +kernel) (by cases gs <;> first | rfl | exact False.elim hV) (Sat.below hev hs)⟩
  · exact hf.elim

set_option maxRecDepth 100000 in
theorem scriptBlanks_said : Rows.ScriptBlanksSaid :=
  OpenClaim.holds_of_cond 7 Tryd.f7 rfl rfl rfl rfl rfl rfl rfl ⟨rfl, rfl, rfl, rfl, rfl⟩ rfl rfl rfl rfl rfl (by kernel_rfl) Tryd.func7 (by kernel_rfl)
    (of_decide_eq_true (by kernel_rfl)) (by unfold Func.isWrapper; first | (rw [if_pos (by decide +kernel)]; kernel_rfl) | (rw [if_neg (by decide +kernel)]; exact ⟨rfl, rfl⟩))
    (fun os started H enc _ F => by rw [OpenClaim.pre_eq_preRow]; exact scriptBlanks_lifted os started H enc F)
theorem scriptBlanks_plain (f : FuncId) (fn : Func) (hf : Tryd.pinned.checked.prog.funcNamed "drystone/drystonelaw21.ScriptBlanks" = some f) (hfn : Tryd.pinned.checked.prog.funcs[f]? = some fn) :
    true = Tryd.pinned.checked.prog.looks [] ∧ ∀ (j : Nat) t, fn.params[j]? = some t → Tryd.pinned.checked.prog.wantsStandIn t = false := by
  obtain rfl : f = 7 := Option.some.inj ((show Tryd.prog.funcNamed "drystone/drystonelaw21.ScriptBlanks" = some 7 by kernel_rfl).symm.trans hf) |>.symm
  obtain rfl : fn = Tryd.f7 := (Option.some.inj (Tryd.func7.symm.trans hfn)).symm
  refine ⟨by kernel_rfl, fun j t ht => ?_⟩
  rw [Tryd.params7] at ht
  have hm : t ∈ [31, 23] := by simpa using Array.mem_of_getElem? ht
  simp only [List.mem_cons, List.mem_nil_iff, or_false] at hm
  rcases hm with rfl | hm
  · exact (show Tryd.prog.wantsStandIn 31 = false by kernel_rfl)
  subst hm
  exact (show Tryd.prog.wantsStandIn 23 = false by kernel_rfl)
theorem scriptBlanks_card : Rows.ScriptBlanksCardSaid :=
  Claim7.holds_tied_plain_at .later [] _ _ _ _ scriptBlanks_said (fun _ h => by cases h) (by kernel_rfl) (fun _ h => by cases h) scriptBlanks_row_tie rfl ⟨rfl, rfl⟩ (by kernel_rfl) rfl scriptBlanks_plain (by kernel_rfl)
#print axioms scriptBlanks_card
end Go.Proofs.YtihkfklpoliilaaDoor
