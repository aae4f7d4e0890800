/- Disks: a blank one. -/
import Derived.Test.YtapgejjjgeiihaaDsk3
import Derived.Test.YtapgejjjgeiihaaCom
namespace Go.Proofs.Ytapgejjjgeiihaa
open Go Go.Sl
attribute [local irreducible] Yl WL WC WQ WD

set_option maxHeartbeats 4000000 in
/-- a slice of new slices of noughts -/
theorem blank_spec (d pp : Nat) (n : Int) (hn : 0 ≤ n ∧ n ≤ 1073741824) (size : Int) (hs : 0 ≤ size ∧ size ≤ 1099511627776) (v2 v3 v4 v5 v6 : Value) :
    Spec0 Try.prog 84 [vp d, vi n] (fun _ => True) (fun F => Cells d [vp pp, vi size, v2, v3, v4, v5, v6] :: F) (fun y : Value × Nat × Value × List Value => y.2.2.2.length = n.toNat) (fun _ => .tuple #[])
      (fun y F => Cells d [vp pp, vi size, y.1, .map (some y.2.1), y.2.2.1, v5, v6] :: Sl y.1 1 y.2.2.2 :: Sl y.2.2.1 1 ((List.replicate n.toNat (0 : Int)).map vi) :: MapI y.2.1 [] :: Pool (y.2.2.2.map fun v => (v, List.replicate size.toNat 0)) :: F) := by
  (refine spec_of Try.func84 rfl Try.ntmps84 rfl (fun F w0 hrd => ?_))
  refine walk ?_
  refine wc_join (X := Value × Nat × Value) (fun _ => [(0, vp d), (1, vi n)]) (fun y => Cells d [vp pp, vi size, y.1, .map (some y.2.1), y.2.2, v5, v6] :: Sl y.1 1 (List.replicate n.toNat (.slice none 0 0)) :: Sl y.2.2 1 (List.replicate n.toNat (vi 0)) :: MapI y.2.1 [] :: F) (fun _ => True) ?_ (fun y _ => ?_)
  refine draw ?_; refine dy 0 ?_; refine dy 1 ?_; refine dy 2 ?_; refine dy 3 ?_; refine dy 6 ?_; refine fork3 4 5 7 ?_ ?_ ?_
  · (first | refine wl_makeb rfl (by omega) (by omega) (by omega) rfl (fun v9 hl9 hn9 => ?_) | refine wl_make1 rfl (by omega) (by omega) (by omega) (by rfl) rfl (fun v9 hl9 hn9 => ?_)); refine wl_nil ?_; refine wq_draw ?_
    refine dy 8 ?_; refine dy 9 ?_; refine fork3 5 7 10 ?_ ?_ ?_
    · refine wl_makeMap rfl (fun v10 => ?_); refine wl_nil ?_; refine wq_draw ?_
      refine fork2 7 10 ?_ ?_
      · (first | refine wl_makeb rfl (by omega) (by omega) (by omega) rfl (fun v12 hl12 hn12 => ?_) | refine wl_make1 rfl (by omega) (by omega) (by omega) (by rfl) rfl (fun v12 hl12 hn12 => ?_)); refine wl_nil ?_; refine wq_draw ?_
        refine ddo 10 ?_; (first | (refine wl_store rfl rfl rfl (by decide) ?_; refine wl_nil ?_; refine wq_draw ?_) | refine walk ?_); refine dy 11 ?_; refine dy 12 ?_; refine ddo 13 ?_; (first | (refine wl_store rfl rfl rfl (by decide) ?_; refine wl_nil ?_; refine wq_draw ?_) | refine walk ?_); refine dy 14 ?_; refine dy 15 ?_; refine ddo 16 ?_; refine walk ?_; (refine wq_meet _ _ _ (v9, v10, v12) trivial envs perm)
      · (first | (refine wl_store rfl rfl rfl (by decide) ?_; refine wl_nil ?_; refine wq_draw ?_) | refine walk ?_)
        refine dy 11 ?_; refine dy 12 ?_; refine fork2 7 13 ?_ ?_
        · (first | refine wl_makeb rfl (by omega) (by omega) (by omega) rfl (fun v12 hl12 hn12 => ?_) | refine wl_make1 rfl (by omega) (by omega) (by omega) (by rfl) rfl (fun v12 hl12 hn12 => ?_)); refine wl_nil ?_; refine wq_draw ?_
          refine ddo 13 ?_; (first | (refine wl_store rfl rfl rfl (by decide) ?_; refine wl_nil ?_; refine wq_draw ?_) | refine walk ?_); refine dy 14 ?_; refine dy 15 ?_; refine ddo 16 ?_; refine walk ?_; (refine wq_meet _ _ _ (v9, v10, v12) trivial envs perm)
        · (first | (refine wl_store rfl rfl rfl (by decide) ?_; refine wl_nil ?_; refine wq_draw ?_) | refine walk ?_)
          refine ddo 7 ?_; (first | refine wl_makeb rfl (by omega) (by omega) (by omega) rfl (fun v12 hl12 hn12 => ?_) | refine wl_make1 rfl (by omega) (by omega) (by omega) (by rfl) rfl (fun v12 hl12 hn12 => ?_)); refine wl_nil ?_; refine wq_draw ?_; refine dy 14 ?_; refine dy 15 ?_; refine ddo 16 ?_; refine walk ?_; (refine wq_meet _ _ _ (v9, v10, v12) trivial envs perm)
    · (first | refine wl_makeb rfl (by omega) (by omega) (by omega) rfl (fun v12 hl12 hn12 => ?_) | refine wl_make1 rfl (by omega) (by omega) (by omega) (by rfl) rfl (fun v12 hl12 hn12 => ?_)); refine wl_nil ?_; refine wq_draw ?_
      refine fork2 5 10 ?_ ?_
      · refine wl_makeMap rfl (fun v10 => ?_); refine wl_nil ?_; refine wq_draw ?_
        refine ddo 10 ?_; (first | (refine wl_store rfl rfl rfl (by decide) ?_; refine wl_nil ?_; refine wq_draw ?_) | refine walk ?_); refine dy 11 ?_; refine dy 12 ?_; refine ddo 13 ?_; (first | (refine wl_store rfl rfl rfl (by decide) ?_; refine wl_nil ?_; refine wq_draw ?_) | refine walk ?_); refine dy 14 ?_; refine dy 15 ?_; refine ddo 16 ?_; refine walk ?_; (refine wq_meet _ _ _ (v9, v10, v12) trivial envs perm)
      · (first | (refine wl_store rfl rfl rfl (by decide) ?_; refine wl_nil ?_; refine wq_draw ?_) | refine walk ?_)
        refine ddo 5 ?_; refine wl_makeMap rfl (fun v10 => ?_); refine wl_nil ?_; refine wq_draw ?_; refine dy 11 ?_; refine dy 12 ?_; refine ddo 13 ?_; (first | (refine wl_store rfl rfl rfl (by decide) ?_; refine wl_nil ?_; refine wq_draw ?_) | refine walk ?_); refine dy 14 ?_; refine dy 15 ?_; refine ddo 16 ?_; refine walk ?_; (refine wq_meet _ _ _ (v9, v10, v12) trivial envs perm)
    · (first | (refine wl_store rfl rfl rfl (by decide) ?_; refine wl_nil ?_; refine wq_draw ?_) | refine walk ?_)
      refine fork2 5 7 ?_ ?_
      · refine wl_makeMap rfl (fun v10 => ?_); refine wl_nil ?_; refine wq_draw ?_
        refine dy 11 ?_; refine dy 12 ?_; refine fork2 7 13 ?_ ?_
        · (first | refine wl_makeb rfl (by omega) (by omega) (by omega) rfl (fun v12 hl12 hn12 => ?_) | refine wl_make1 rfl (by omega) (by omega) (by omega) (by rfl) rfl (fun v12 hl12 hn12 => ?_)); refine wl_nil ?_; refine wq_draw ?_
          refine ddo 13 ?_; (first | (refine wl_store rfl rfl rfl (by decide) ?_; refine wl_nil ?_; refine wq_draw ?_) | refine walk ?_); refine dy 14 ?_; refine dy 15 ?_; refine ddo 16 ?_; refine walk ?_; (refine wq_meet _ _ _ (v9, v10, v12) trivial envs perm)
        · (first | (refine wl_store rfl rfl rfl (by decide) ?_; refine wl_nil ?_; refine wq_draw ?_) | refine walk ?_)
          refine ddo 7 ?_; (first | refine wl_makeb rfl (by omega) (by omega) (by omega) rfl (fun v12 hl12 hn12 => ?_) | refine wl_make1 rfl (by omega) (by omega) (by omega) (by rfl) rfl (fun v12 hl12 hn12 => ?_)); refine wl_nil ?_; refine wq_draw ?_; refine dy 14 ?_; refine dy 15 ?_; refine ddo 16 ?_; refine walk ?_; (refine wq_meet _ _ _ (v9, v10, v12) trivial envs perm)
      · (first | refine wl_makeb rfl (by omega) (by omega) (by omega) rfl (fun v12 hl12 hn12 => ?_) | refine wl_make1 rfl (by omega) (by omega) (by omega) (by rfl) rfl (fun v12 hl12 hn12 => ?_)); refine wl_nil ?_; refine wq_draw ?_
        refine ddo 5 ?_; refine wl_makeMap rfl (fun v10 => ?_); refine wl_nil ?_; refine wq_draw ?_; refine dy 11 ?_; refine dy 12 ?_; refine ddo 13 ?_; (first | (refine wl_store rfl rfl rfl (by decide) ?_; refine wl_nil ?_; refine wq_draw ?_) | refine walk ?_); refine dy 14 ?_; refine dy 15 ?_; refine ddo 16 ?_; refine walk ?_; (refine wq_meet _ _ _ (v9, v10, v12) trivial envs perm)
  · refine wl_makeMap rfl (fun v10 => ?_); refine wl_nil ?_; refine wq_draw ?_
    refine fork2 4 7 ?_ ?_
    · (first | refine wl_makeb rfl (by omega) (by omega) (by omega) rfl (fun v9 hl9 hn9 => ?_) | refine wl_make1 rfl (by omega) (by omega) (by omega) (by rfl) rfl (fun v9 hl9 hn9 => ?_)); refine wl_nil ?_; refine wq_draw ?_
      refine dy 8 ?_; refine dy 9 ?_; refine fork2 7 10 ?_ ?_
      · (first | refine wl_makeb rfl (by omega) (by omega) (by omega) rfl (fun v12 hl12 hn12 => ?_) | refine wl_make1 rfl (by omega) (by omega) (by omega) (by rfl) rfl (fun v12 hl12 hn12 => ?_)); refine wl_nil ?_; refine wq_draw ?_
        refine ddo 10 ?_; (first | (refine wl_store rfl rfl rfl (by decide) ?_; refine wl_nil ?_; refine wq_draw ?_) | refine walk ?_); refine dy 11 ?_; refine dy 12 ?_; refine ddo 13 ?_; (first | (refine wl_store rfl rfl rfl (by decide) ?_; refine wl_nil ?_; refine wq_draw ?_) | refine walk ?_); refine dy 14 ?_; refine dy 15 ?_; refine ddo 16 ?_; refine walk ?_; (refine wq_meet _ _ _ (v9, v10, v12) trivial envs perm)
      · (first | (refine wl_store rfl rfl rfl (by decide) ?_; refine wl_nil ?_; refine wq_draw ?_) | refine walk ?_)
        refine dy 11 ?_; refine dy 12 ?_; refine fork2 7 13 ?_ ?_
        · (first | refine wl_makeb rfl (by omega) (by omega) (by omega) rfl (fun v12 hl12 hn12 => ?_) | refine wl_make1 rfl (by omega) (by omega) (by omega) (by rfl) rfl (fun v12 hl12 hn12 => ?_)); refine wl_nil ?_; refine wq_draw ?_
          refine ddo 13 ?_; (first | (refine wl_store rfl rfl rfl (by decide) ?_; refine wl_nil ?_; refine wq_draw ?_) | refine walk ?_); refine dy 14 ?_; refine dy 15 ?_; refine ddo 16 ?_; refine walk ?_; (refine wq_meet _ _ _ (v9, v10, v12) trivial envs perm)
        · (first | (refine wl_store rfl rfl rfl (by decide) ?_; refine wl_nil ?_; refine wq_draw ?_) | refine walk ?_)
          refine ddo 7 ?_; (first | refine wl_makeb rfl (by omega) (by omega) (by omega) rfl (fun v12 hl12 hn12 => ?_) | refine wl_make1 rfl (by omega) (by omega) (by omega) (by rfl) rfl (fun v12 hl12 hn12 => ?_)); refine wl_nil ?_; refine wq_draw ?_; refine dy 14 ?_; refine dy 15 ?_; refine ddo 16 ?_; refine walk ?_; (refine wq_meet _ _ _ (v9, v10, v12) trivial envs perm)
    · (first | refine wl_makeb rfl (by omega) (by omega) (by omega) rfl (fun v12 hl12 hn12 => ?_) | refine wl_make1 rfl (by omega) (by omega) (by omega) (by rfl) rfl (fun v12 hl12 hn12 => ?_)); refine wl_nil ?_; refine wq_draw ?_
      refine ddo 4 ?_; (first | refine wl_makeb rfl (by omega) (by omega) (by omega) rfl (fun v9 hl9 hn9 => ?_) | refine wl_make1 rfl (by omega) (by omega) (by omega) (by rfl) rfl (fun v9 hl9 hn9 => ?_)); refine wl_nil ?_; refine wq_draw ?_; refine dy 8 ?_; refine dy 9 ?_; refine ddo 10 ?_; (first | (refine wl_store rfl rfl rfl (by decide) ?_; refine wl_nil ?_; refine wq_draw ?_) | refine walk ?_); refine dy 11 ?_; refine dy 12 ?_; refine ddo 13 ?_; (first | (refine wl_store rfl rfl rfl (by decide) ?_; refine wl_nil ?_; refine wq_draw ?_) | refine walk ?_); refine dy 14 ?_; refine dy 15 ?_; refine ddo 16 ?_; refine walk ?_; (refine wq_meet _ _ _ (v9, v10, v12) trivial envs perm)
  · (first | refine wl_makeb rfl (by omega) (by omega) (by omega) rfl (fun v12 hl12 hn12 => ?_) | refine wl_make1 rfl (by omega) (by omega) (by omega) (by rfl) rfl (fun v12 hl12 hn12 => ?_)); refine wl_nil ?_; refine wq_draw ?_
    refine fork2 4 5 ?_ ?_
    · (first | refine wl_makeb rfl (by omega) (by omega) (by omega) rfl (fun v9 hl9 hn9 => ?_) | refine wl_make1 rfl (by omega) (by omega) (by omega) (by rfl) rfl (fun v9 hl9 hn9 => ?_)); refine wl_nil ?_; refine wq_draw ?_
      refine dy 8 ?_; refine dy 9 ?_; refine fork2 5 10 ?_ ?_
      · refine wl_makeMap rfl (fun v10 => ?_); refine wl_nil ?_; refine wq_draw ?_
        refine ddo 10 ?_; (first | (refine wl_store rfl rfl rfl (by decide) ?_; refine wl_nil ?_; refine wq_draw ?_) | refine walk ?_); refine dy 11 ?_; refine dy 12 ?_; refine ddo 13 ?_; (first | (refine wl_store rfl rfl rfl (by decide) ?_; refine wl_nil ?_; refine wq_draw ?_) | refine walk ?_); refine dy 14 ?_; refine dy 15 ?_; refine ddo 16 ?_; refine walk ?_; (refine wq_meet _ _ _ (v9, v10, v12) trivial envs perm)
      · (first | (refine wl_store rfl rfl rfl (by decide) ?_; refine wl_nil ?_; refine wq_draw ?_) | refine walk ?_)
        refine ddo 5 ?_; refine wl_makeMap rfl (fun v10 => ?_); refine wl_nil ?_; refine wq_draw ?_; refine dy 11 ?_; refine dy 12 ?_; refine ddo 13 ?_; (first | (refine wl_store rfl rfl rfl (by decide) ?_; refine wl_nil ?_; refine wq_draw ?_) | refine walk ?_); refine dy 14 ?_; refine dy 15 ?_; refine ddo 16 ?_; refine walk ?_; (refine wq_meet _ _ _ (v9, v10, v12) trivial envs perm)
    · refine wl_makeMap rfl (fun v10 => ?_); refine wl_nil ?_; refine wq_draw ?_
      refine ddo 4 ?_; (first | refine wl_makeb rfl (by omega) (by omega) (by omega) rfl (fun v9 hl9 hn9 => ?_) | refine wl_make1 rfl (by omega) (by omega) (by omega) (by rfl) rfl (fun v9 hl9 hn9 => ?_)); refine wl_nil ?_; refine wq_draw ?_; refine dy 8 ?_; refine dy 9 ?_; refine ddo 10 ?_; (first | (refine wl_store rfl rfl rfl (by decide) ?_; refine wl_nil ?_; refine wq_draw ?_) | refine walk ?_); refine dy 11 ?_; refine dy 12 ?_; refine ddo 13 ?_; (first | (refine wl_store rfl rfl rfl (by decide) ?_; refine wl_nil ?_; refine wq_draw ?_) | refine walk ?_); refine dy 14 ?_; refine dy 15 ?_; refine ddo 16 ?_; refine walk ?_; (refine wq_meet _ _ _ (v9, v10, v12) trivial envs perm)
  obtain ⟨on, c, wr⟩ := y
  dsimp only
  refine walk ?_
  refine wc_loop (X := List Value) (fun us => [(0, vp d), (23, vi n), (24, vi us.length)])
    (fun us => Cells d [vp pp, vi size, on, .map (some c), wr, v5, v6] :: Sl on 1 (us ++ List.replicate (n.toNat - us.length) (.slice none 0 0)) :: Sl wr 1 (List.replicate n.toNat (vi 0)) :: MapI c [] :: Pool (us.map fun v => (v, List.replicate size.toNat 0)) :: F)
    (fun us => (us.length : Int) ≤ n) (fun us => n.toNat - us.length) [] (by simp; omega) ?_ ?_ (fun us hus => ?_)
  · refine ⟨rfl, ?_, rfl, trivial⟩
    show some _ = some _
    congr 2
    simp; omega
  · refine Ent.trans Pool.nil ?_
    simp only [List.nil_append, List.length_nil, Nat.sub_zero, List.map_nil]
    exact perm
  have hlen : (us ++ List.replicate (n.toNat - us.length) (Value.slice none 0 0)).length = n.toNat := by simp; omega
  refine walk ?_
  refine wif_dec (fun hlt => ?_) (fun hlt => ?_)
  · refine walk ?_
    (refine draw ?_; refine dy 0 ?_; refine dy 1 ?_; refine dy 2 ?_; refine dy 3 ?_; refine dy 4 ?_; refine dy 5 ?_; refine dy 6 ?_; refine dy 7 ?_; refine dy 8 ?_; refine ddo 9 ?_)
    refine walk ?_
    intro v hvl hvn
    haveI : OneC [v] := ⟨fun u hu => by simp at hu; subst hu; obtain ⟨a, m, c, rfl⟩ := hvn; rfl⟩
    (refine walk ?_; refine dy 10 ?_; refine dlast 11 ?_)
    refine walk ?_
    have e1 : (us ++ List.replicate (n.toNat - us.length) (Value.slice none 0 0)).set (us.length : Int).toNat v = (us ++ [v]) ++ List.replicate (n.toNat - (us ++ [v]).length) (.slice none 0 0) := by
      obtain ⟨m, hm⟩ : ∃ m, n.toNat - us.length = m + 1 := ⟨n.toNat - us.length - 1, by omega⟩
      have hm2 : n.toNat - (us ++ [v]).length = m := by simp; omega
      rw [hm, hm2, List.replicate_succ]
      simp
    rw [e1]
    refine wq_round (us ++ [v]) (by simp; omega) (by simp; omega) ?_ ?_
    · refine ⟨rfl, rfl, ?_, trivial⟩
      show some _ = some _
      congr 2
      simp
    · refine Ent.trans (Γ' := SlB v (List.replicate size.toNat 0) :: Pool (us.map fun v => (v, List.replicate size.toNat 0)) :: Sl on 1 ((us ++ [v]) ++ List.replicate (n.toNat - (us ++ [v]).length) (.slice none 0 0)) :: Cells d [vp pp, vi size, on, .map (some c), wr, v5, v6] :: Sl wr 1 (List.replicate n.toNat (vi 0)) :: MapI c [] :: F) perm ?_
      refine Pool.put.trans ((Pool.sub (rows' := (us ++ [v]).map fun v => (v, List.replicate size.toNat 0)) (fun r hr => ?_)).trans perm)
      obtain ⟨u, hu, rfl⟩ := List.mem_map.1 hr
      rcases List.mem_append.1 hu with hu | hu
      · exact List.mem_cons_of_mem _ (List.mem_map.2 ⟨u, hu, rfl⟩)
      · have : u = v := by simpa using hu
        subst this; exact List.mem_cons_self
  · refine walk ?_
    have he : us.length = n.toNat := by omega
    refine wq_end0 rfl (on, c, wr, us) rfl he ?_
    rw [he, Nat.sub_self, List.map_replicate]
    simp only [List.replicate_zero, List.append_nil]
    exact perm
/-- what a blank disk has in memory -/
theorem blankFits (n : Nat) (size : Int) (hn : n ≤ 1073741824) (hs : 0 ≤ size ∧ size ≤ 1099511627776) (on wv : Value) (c : Nat) (us : List Value) (hus : us.length = n) :
    DFits ⟨on, wv, c, us.map fun v => (v, List.replicate size.toNat 0), [], us.map fun v => (v, List.replicate size.toNat 0)⟩ (Dsk.blank n size) := by
  refine ⟨⟨hs.1, hs.2, by simpa [Dsk.blank] using hn, by simp [Dsk.blank], ?_, (fun e he => by cases he), by simp [Dsk.blank]⟩, ?_, rfl, fun r hr => hr, (fun e he => by cases he)⟩
  · intro b hb
    obtain rfl := (List.mem_replicate.1 hb).2
    simp [Dsk.blank]; omega
  · simp only [Dsk.blank, List.map_map]
    rw [← hus]
    exact List.map_const' ..

theorem dnew_spec (pp : Nat) (n size : Int) (hn : n ≤ 1073741824) (hs : size ≤ 1099511627776) :
    Spec0 Try.prog 48 [vp pp, vi n, vi size] (fun _ => True) (fun F => F) (fun _ : Nat => True) (fun d => vp d) (fun d F => DiskAt d pp (Dsk.blank (max n 0).toNat (max size 0)) :: F) := by
  (refine spec_of Try.func48 rfl Try.ntmps48 rfl (fun F w0 hrd => ?_))
  refine walk ?_
  intro d
  refine walk ?_
  refine call (blank_spec d pp (max n 0) (by omega) (max size 0) (by omega) _ _ _ _ _) ?_
  intro y hy
  obtain ⟨on, c, wr, us⟩ := y
  dsimp only at hy ⊢
  refine walk ?_
  refine wq_ret1 rfl rfl d rfl trivial ?_
  have hf := blankFits (max n 0).toNat (max size 0) (by omega) (by omega) on wr c us hy
  refine Ent.trans ?_ (DiskAt.shut (pp := pp) (d := d) _ hf)
  have e : (us.map fun v => (v, List.replicate (max size 0).toNat (0 : UInt8))).map (·.1) = us := by simp [List.map_map, Function.comp_def]
  show Ent _ (Cells d [vp pp, vi (max size 0), on, .map (some c), wr, .bool false, vi (-1)] :: Sl on 1 ((us.map fun v => (v, List.replicate (max size 0).toNat (0 : UInt8))).map (·.1)) :: Sl wr 1 ((List.replicate (max n 0).toNat (0 : Int)).map vi) :: MapI c [] :: Pool (us.map fun v => (v, List.replicate (max size 0).toNat (0 : UInt8))) :: F)
  rw [e]
  exact perm


theorem danew_spec (d pp : Nat) (s : Dsk) :
    Spec0 Try.prog 88 [vp d] (fun _ => True) (fun F => DiskAt d pp s :: F) (fun _ : Unit => True) (fun _ => .tuple #[]) (fun _ F => DiskAt d pp s.anew :: F) := by
  (refine spec_of Try.func88 rfl Try.ntmps88 rfl (fun F w0 hrd => ?_))
  (first | refine WC.ex (fun y => DiskAt.opened) (fun x hf => ?_) | refine WL.ex (fun y => DiskAt.opened) (fun x hf => ?_) | refine WQ.ex (fun y => DiskAt.opened) (fun x hf => ?_))
  have hl : x.ons.length = s.on.length := by have := congrArg List.length hf.on; simpa using this
  refine walk ?_
  refine call (blank_spec d pp x.ons.length (by have := hf.ok.many; omega) s.size ⟨hf.ok.size0, hf.ok.size⟩ _ _ _ _ _) ?_
  intro y hy
  obtain ⟨on, c, wr, us⟩ := y
  dsimp only at hy ⊢
  refine walk ?_
  have hf' := blankFits x.ons.length s.size (by have := hf.ok.many; omega) ⟨hf.ok.size0, hf.ok.size⟩ on wr c us (by simpa using hy)
  refine wq_end0 rfl () rfl trivial ?_
  rw [show s.anew = Dsk.blank x.ons.length s.size from by unfold Dsk.anew; rw [hl]]
  refine Ent.trans ?_ (DiskAt.shut (pp := pp) (d := d) _ hf')
  have e : (us.map fun v => (v, List.replicate s.size.toNat (0 : UInt8))).map (·.1) = us := by simp [List.map_map, Function.comp_def]
  show Ent _ (Cells d [vp pp, vi s.size, on, .map (some c), wr, .bool false, vi (-1)] :: Sl on 1 ((us.map fun v => (v, List.replicate s.size.toNat (0 : UInt8))).map (·.1)) :: Sl wr 1 ((List.replicate x.ons.length (0 : Int)).map vi) :: MapI c [] :: Pool (us.map fun v => (v, List.replicate s.size.toNat (0 : UInt8))) :: F)
  rw [e, show ((x.ons.length : Nat) : Int).toNat = x.ons.length from Int.toNat_natCast _]
  exact perm
end Go.Proofs.Ytapgejjjgeiihaa
