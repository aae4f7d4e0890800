/- script.line, Print: steps' lines, as the program has them. -/
import Derived.Test.YtihkfklpoliilaaDoorLin2
namespace Go.Proofs.YtihkfklpoliilaaDoor
open Go Go.Sl
attribute [local irreducible] Yl WL WC WQ WD
instance : AssM Tryd.prog 69 85 true := ⟨fun v xt w => by kernel_rfl⟩
instance : AssM Tryd.prog 71 85 true := ⟨fun v xt w => by kernel_rfl⟩
instance : AssM Tryd.prog 72 85 true := ⟨fun v xt w => by kernel_rfl⟩
theorem missing_one {want : Array (String × TypeId)} {got : Array Method} {nm : String} (h : ((want.toList.filter fun (name, sig) => !got.any fun m => m.name == name && m.sig == sig).map (·.1)) = [nm]) : ∃ m, Instr.missingMethod want got = some m := by
  unfold Instr.missingMethod
  rw [h]
  cases hc : nm.contains (Char.ofNat 46) with
  | true => exact ⟨_, by simp only [List.partition, List.partition.loop, hc]; rfl⟩
  | false => exact ⟨_, by simp only [List.partition, List.partition.loop, hc]; rfl⟩
set_option maxRecDepth 10000 in
instance : AssM Tryd.prog 74 85 false := ⟨fun v xt w => by
  simp only [Instr.typeAssert, Sem.run_bind, Tryd.runUnderlying85, Result.andThen_ok, Tryd.typeInfo74]
  rw [(missing_one (nm := "Block") ?h).choose_spec]
  case h => kernel_rfl
  simp [Tryd.zeroValue85]⟩
set_option maxRecDepth 10000 in
instance : AssM Tryd.prog 76 85 false := ⟨fun v xt w => by
  simp only [Instr.typeAssert, Sem.run_bind, Tryd.runUnderlying85, Result.andThen_ok, Tryd.typeInfo76]
  rw [(missing_one (nm := "Block") ?h).choose_spec]
  case h => kernel_rfl
  simp [Tryd.zeroValue85]⟩
set_option maxRecDepth 10000 in
instance : AssM Tryd.prog 78 85 false := ⟨fun v xt w => by
  simp only [Instr.typeAssert, Sem.run_bind, Tryd.runUnderlying85, Result.andThen_ok, Tryd.typeInfo78]
  rw [(missing_one (nm := "Block") ?h).choose_spec]
  case h => kernel_rfl
  simp [Tryd.zeroValue85]⟩
set_option maxRecDepth 10000 in
instance : AssM Tryd.prog 80 85 false := ⟨fun v xt w => by
  simp only [Instr.typeAssert, Sem.run_bind, Tryd.runUnderlying85, Result.andThen_ok, Tryd.typeInfo80]
  rw [(missing_one (nm := "Block") ?h).choose_spec]
  case h => kernel_rfl
  simp [Tryd.zeroValue85]⟩
set_option maxRecDepth 10000 in
instance : AssM Tryd.prog 82 85 false := ⟨fun v xt w => by
  simp only [Instr.typeAssert, Sem.run_bind, Tryd.runUnderlying85, Result.andThen_ok, Tryd.typeInfo82]
  rw [(missing_one (nm := "Block") ?h).choose_spec]
  case h => kernel_rfl
  simp [Tryd.zeroValue85]⟩
instance : MethT Tryd.prog 69 "Block" 92 := ⟨fun v w => by kernel_rfl⟩
instance : MethT Tryd.prog 71 "Block" 94 := ⟨fun v w => by kernel_rfl⟩
instance : MethT Tryd.prog 72 "Block" 96 := ⟨fun v w => by kernel_rfl⟩
theorem blockWrite_spec (n : Nat) (t : Bytes) : Spec0 Tryd.prog 92 [.agg #[vi n, vs t]] (fun _ => True) (fun F => F) (fun _ : Unit => True) (fun _ => vi n) (fun _ F => F) := by
  (refine spec_of Tryd.func92 rfl Tryd.ntmps92 rfl (fun F w0 hrd => ?_))
  refine walk ?_
  intro c
  refine walk ?_
  exact wq_ret1 rfl rfl () rfl trivial perm
theorem blockRead_spec (n : Nat) : Spec0 Tryd.prog 94 [.agg #[vi n]] (fun _ => True) (fun F => F) (fun _ : Unit => True) (fun _ => vi n) (fun _ F => F) := by
  (refine spec_of Tryd.func94 rfl Tryd.ntmps94 rfl (fun F w0 hrd => ?_))
  refine walk ?_
  intro c
  refine walk ?_
  exact wq_ret1 rfl rfl () rfl trivial perm
theorem blockTrim_spec (n : Nat) : Spec0 Tryd.prog 96 [.agg #[vi n]] (fun _ => True) (fun F => F) (fun _ : Unit => True) (fun _ => vi n) (fun _ F => F) := by
  (refine spec_of Tryd.func96 rfl Tryd.ntmps96 rfl (fun F w0 hrd => ?_))
  refine walk ?_
  intro c
  refine walk ?_
  exact wq_ret1 rfl rfl () rfl trivial perm
set_option maxHeartbeats 8000000 in
theorem pline_spec (st : Stp) (hst : SFit st) :
    Spec0 Tryd.prog 38 [stv st] Tabs (fun F => F) (fun _ : Unit => True) (fun _ => vs (lineB st)) (fun _ F => F) := by
  (refine spec_of Tryd.func38 rfl Tryd.ntmps38 rfl (fun F w0 hrd => ?_))
  haveI : ReadIn F Tabs := ⟨hrd⟩
  cases st with
  | write n t =>
    obtain ⟨h1, h2⟩ := hst
    have hd := dig_len (n := n) (by omega)
    unfold stv
    refine walk ?_
    intro c
    refine walk ?_
    (refine draw ?_; refine dy 0 ?_; refine dy 1 ?_; refine dy 5 ?_; refine dy 6 ?_; refine ddo 2 ?_)
    refine call (itoa_spec n (by omega)) ?_
    intro _ _
    (refine walk ?_; refine dy 3 ?_; refine dy 4 ?_; refine dy 7 ?_; refine dy 8 ?_; refine dy 9 ?_; refine walk ?_)
    refine wq_ret1 rfl rfl () ?_ trivial perm
    simp [lineB, numB, wWrite]
  | read n =>
    have h1 : n ≤ 1073741824 := hst
    have hd := dig_len (n := n) (by omega)
    unfold stv
    refine walk ?_
    have hw : wRead.length = 4 := rfl
    refine icall (wordRead_spec n) (fun _ _ => ?_)
    refine walk ?_
    refine icall (blockRead_spec n) (fun _ _ => ?_)
    refine walk ?_
    refine call (itoa_spec n (by omega)) ?_
    intro _ _
    refine walk ?_
    refine wq_ret1 rfl rfl () ?_ trivial perm
    simp [lineB, numB, wRead]
  | trim n =>
    have h1 : n ≤ 1073741824 := hst
    have hd := dig_len (n := n) (by omega)
    unfold stv
    refine walk ?_
    have hw : wTrim.length = 4 := rfl
    refine icall (wordTrim_spec n) (fun _ _ => ?_)
    refine walk ?_
    refine icall (blockTrim_spec n) (fun _ _ => ?_)
    refine walk ?_
    refine call (itoa_spec n (by omega)) ?_
    intro _ _
    refine walk ?_
    refine wq_ret1 rfl rfl () ?_ trivial perm
    simp [lineB, numB, wTrim]
  | plain w =>
    have h1 : w.length ≤ 65536 := hst
    unfold stv
    refine walk ?_
    intro c
    refine walk ?_
    exact wq_ret1 rfl rfl () rfl trivial perm
  | clean g n =>
    have h1 : n ≤ 1073741824 := hst
    have hd := dig_len (n := n) (by omega)
    unfold stv
    cases g
    · refine walk ?_
      intro c
      refine walk ?_
      refine call (itoa_spec n (by omega)) ?_
      intro _ _
      refine walk ?_
      refine wq_ret1 rfl rfl () ?_ trivial perm
      simp [lineB, numB, wWorth]
    · refine walk ?_
      intro c
      refine walk ?_
      refine call (itoa_spec n (by omega)) ?_
      intro _ _
      refine walk ?_
      refine wq_ret1 rfl rfl () ?_ trivial perm
      simp [lineB, numB, wGreedy]
  | member w n =>
    obtain ⟨h1, h2⟩ := hst
    have hd := dig_len (n := n) (by omega)
    unfold stv
    refine walk ?_
    intro c
    refine walk ?_
    (refine draw ?_; refine dy 0 ?_; refine dy 1 ?_; refine dy 2 ?_; refine dy 3 ?_; refine dy 4 ?_; refine ddo 5 ?_)
    refine call (itoa_spec n (by omega)) ?_
    intro _ _
    (refine walk ?_; refine dy 6 ?_; refine dy 7 ?_; refine dy 8 ?_; refine walk ?_)
    refine wq_ret1 rfl rfl () ?_ trivial perm
    simp [lineB, numB]
  | failat m o =>
    obtain ⟨h1, h2⟩ := hst
    have hd := dig_len (n := m) (by omega)
    have hd2 := dig_len (n := o) (by omega)
    unfold stv
    refine walk ?_
    intro c
    refine walk ?_
    (refine draw ?_; refine dy 0 ?_; refine dy 1 ?_; refine dy 5 ?_; refine dy 6 ?_; refine ddo 2 ?_)
    refine call (itoa_spec m (by omega)) ?_
    intro _ _
    (refine walk ?_; refine dy 3 ?_; refine dy 4 ?_; refine ddo 7 ?_)
    refine call (itoa_spec o (by omega)) ?_
    intro _ _
    (refine walk ?_; refine dy 8 ?_; refine dy 9 ?_; refine dy 10 ?_; refine walk ?_)
    refine wq_ret1 rfl rfl () ?_ trivial perm
    simp [lineB, numB, wFailat]
  | crash n k =>
    obtain ⟨h1, h2⟩ := hst
    have hd := dig_len (n := n) (by omega)
    have hd2 := dig_len h2
    unfold stv
    refine walk ?_
    intro c
    refine walk ?_
    (refine draw ?_; refine dy 0 ?_; refine dy 1 ?_; refine dy 5 ?_; refine dy 6 ?_; refine ddo 2 ?_)
    refine call (itoa_spec n (by omega)) ?_
    intro _ _
    (refine walk ?_; refine dy 3 ?_; refine dy 4 ?_; refine ddo 7 ?_)
    refine call (fmtUint_spec k h2) ?_
    intro _ _
    (refine walk ?_; refine dy 8 ?_; refine dy 9 ?_; refine dy 10 ?_; refine walk ?_)
    refine wq_ret1 rfl rfl () ?_ trivial perm
    simp [lineB, numB, wCrash]
set_option maxHeartbeats 4000000 in
theorem print_spec (v0 : Value) (l : List Stp) (hl : l.length ≤ 4096) (hf : ∀ st ∈ l, SFit st ∧ (lineB st).length ≤ 65536) :
    Spec0 Tryd.prog 23 [v0] (fun h => Tabs h ∧ Rd v0 1 (l.map stv) h) (fun F => F) (fun _ : Unit => True) (fun _ => vs (l.flatMap lineB)) (fun _ F => F) := by
  (refine spec_of Tryd.func23 rfl Tryd.ntmps23 rfl (fun F w0 hrd => ?_))
  haveI : ReadIn F Tabs := ⟨fun h hs => (hrd h hs).1⟩
  haveI : RdIn F v0 1 (l.map stv) := ⟨fun h hs => (hrd h hs).2⟩
  have hlen : ∀ k, k ≤ l.length → ((l.take k).flatMap lineB).length ≤ k * 65536 := by
    intro k
    induction k with
    | zero => intro _; simp
    | succ k ih =>
      intro hk
      have h1 := ih (by omega)
      have h2 := (hf _ (List.getElem_mem (show k < l.length by omega))).2
      rw [List.take_add_one, List.getElem?_eq_getElem (by omega), Option.toList_some, List.flatMap_append, List.flatMap_cons, List.flatMap_nil, List.append_nil, List.length_append]
      omega
  refine walk ?_
  intro c
  refine WL.ent Bld.new ?_
  refine walk ?_
  refine wc_loop (X := Nat) (fun k => [(0, v0), (3, vp c), (6, v0), (7, vi l.length), (8, vi k)]) (fun k => Bld c ((l.take k).flatMap lineB) :: F)
    (fun k => k ≤ l.length) (fun k => l.length - k) 0 (Nat.zero_le _) envs Ent.refl (fun k hk => ?_)
  have hk2 := hlen k hk
  refine walk ?_
  refine wif_dec (fun hlt => ?_) (fun hlt => ?_)
  · have hlt : k < l.length := by omega
    obtain ⟨h1, h2⟩ := hf _ (List.getElem_mem hlt)
    refine walk ?_
    refine call (pline_spec l[k] h1) ?_
    intro _ _
    refine walk ?_
    refine call (writeString_spec c ((l.take k).flatMap lineB) (lineB l[k]) (by omega)) ?_
    intro _ _
    refine walk ?_
    refine wq_round (k + 1) hlt (by omega) envs ?_
    rw [List.take_add_one, List.getElem?_eq_getElem hlt, Option.toList_some, List.flatMap_append, List.flatMap_cons, List.flatMap_nil, List.append_nil]
    exact perm
  · obtain rfl : k = l.length := by omega
    rw [List.take_length] at hk2 ⊢
    refine walk ?_
    refine call (bldString_spec c (l.flatMap lineB) (by omega)) ?_
    intro _ _
    refine walk ?_
    exact wq_ret1 rfl rfl () rfl trivial perm
end Go.Proofs.YtihkfklpoliilaaDoor
