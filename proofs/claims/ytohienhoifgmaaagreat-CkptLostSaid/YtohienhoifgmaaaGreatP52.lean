/- A log's book: an empty one. -/
import Derived.Test.YtohienhoifgmaaaGreatP42
import Derived.Test.YtohienhoifgmaaaGreatP17

namespace Go.Proofs.YtohienhoifgmaaaGreat
open Go Go.Sl
attribute [local irreducible] Yl WL WC WQ WD
set_option maxHeartbeats 16000000 in
theorem bempty_spec (s : Shp) (h : s.Ok) :
    Spec0 Tryz.prog 13 [Shp.val s] (fun _ => True) (fun F => F) (fun _ : Nat => True) (fun p => vp p) (fun p F => BkAt p [] (Bok.empty s) :: F) := by
  (refine spec_of Tryz.func13 rfl Tryz.ntmps13 rfl (fun F w0 hrd => ?_))
  have hsg := h.segments
  have hlo := (bounds h).logical
  have hl1 := h.logical
  refine walk ?_
  intro c1
  refine walk ?_
  refine wc_join (X := Nat × Value × Value × Nat × Nat) (fun y => [(1, vp c1), (2, .pointer none), (3, vp y.1)]) (fun y => Cells y.1 [vi s.members, vi s.block, vi s.segments, vi s.stripes, vi s.nv, vi s.logical, .slice none 0 0, .int .u64 1, .int .u64 0, vi 0, vi 0, y.2.1, y.2.2.1, .slice none 0 0, .map (some y.2.2.2.1), .map (some y.2.2.2.2)] ::
      Sl y.2.1 1 (List.replicate s.segments.toNat (vi 0)) :: Sl y.2.2.1 1 (List.replicate s.segments.toNat (.int .u64 0)) :: MapI y.2.2.2.1 [] :: MapI y.2.2.2.2 [] :: Cells c1 [vi s.members, vi s.block, vi s.segments, vi s.stripes, vi s.nv, vi s.logical] :: F) (fun _ => True) ?_ (fun y _ => ?_)
  refine draw ?_; refine dy 0 ?_; refine dy 1 ?_; refine dy 2 ?_; refine dy 4 ?_; refine dy 5 ?_; refine fork4 3 6 7 8 ?_ ?_ ?_ ?_
  · refine wl_make1 rfl (by omega) (by omega) (by omega) (by rfl) rfl (fun v7 hl7 hn7 => ?_); obtain ⟨a7, m7, k7, rfl⟩ := hn7; refine wl_nil ?_; refine wq_draw ?_
    refine fork3 6 7 8 ?_ ?_ ?_
    · refine wl_make1 rfl (by omega) (by omega) (by omega) (by rfl) rfl (fun v10 hl10 hn10 => ?_); obtain ⟨a10, m10, k10, rfl⟩ := hn10; refine wl_nil ?_; refine wq_draw ?_
      refine fork2 7 8 ?_ ?_
      · refine wl_makeMap rfl (fun v11 => ?_); refine wl_nil ?_; refine wq_draw ?_
        refine ddo 8 ?_; refine wl_makeMap rfl (fun v12 => ?_); refine wl_nil ?_; refine wq_draw ?_; refine dy 9 ?_; refine ddo 10 ?_; refine walk ?_; intro v14; refine walk ?_; refine dy 11 ?_; (refine walk ?_; refine wq_meet _ _ _ (v14, Value.slice (some a7) m7 k7, Value.slice (some a10) m10 k10, v11, v12) trivial envs permL)
      · refine wl_makeMap rfl (fun v12 => ?_); refine wl_nil ?_; refine wq_draw ?_
        refine ddo 7 ?_; refine wl_makeMap rfl (fun v11 => ?_); refine wl_nil ?_; refine wq_draw ?_; refine dy 9 ?_; refine ddo 10 ?_; refine walk ?_; intro v14; refine walk ?_; refine dy 11 ?_; (refine walk ?_; refine wq_meet _ _ _ (v14, Value.slice (some a7) m7 k7, Value.slice (some a10) m10 k10, v11, v12) trivial envs permL)
    · refine wl_makeMap rfl (fun v11 => ?_); refine wl_nil ?_; refine wq_draw ?_
      refine fork2 6 8 ?_ ?_
      · refine wl_make1 rfl (by omega) (by omega) (by omega) (by rfl) rfl (fun v10 hl10 hn10 => ?_); obtain ⟨a10, m10, k10, rfl⟩ := hn10; refine wl_nil ?_; refine wq_draw ?_
        refine ddo 8 ?_; refine wl_makeMap rfl (fun v12 => ?_); refine wl_nil ?_; refine wq_draw ?_; refine dy 9 ?_; refine ddo 10 ?_; refine walk ?_; intro v14; refine walk ?_; refine dy 11 ?_; (refine walk ?_; refine wq_meet _ _ _ (v14, Value.slice (some a7) m7 k7, Value.slice (some a10) m10 k10, v11, v12) trivial envs permL)
      · refine wl_makeMap rfl (fun v12 => ?_); refine wl_nil ?_; refine wq_draw ?_
        refine ddo 6 ?_; refine wl_make1 rfl (by omega) (by omega) (by omega) (by rfl) rfl (fun v10 hl10 hn10 => ?_); obtain ⟨a10, m10, k10, rfl⟩ := hn10; refine wl_nil ?_; refine wq_draw ?_; refine dy 9 ?_; refine ddo 10 ?_; refine walk ?_; intro v14; refine walk ?_; refine dy 11 ?_; (refine walk ?_; refine wq_meet _ _ _ (v14, Value.slice (some a7) m7 k7, Value.slice (some a10) m10 k10, v11, v12) trivial envs permL)
    · refine wl_makeMap rfl (fun v12 => ?_); refine wl_nil ?_; refine wq_draw ?_
      refine fork2 6 7 ?_ ?_
      · refine wl_make1 rfl (by omega) (by omega) (by omega) (by rfl) rfl (fun v10 hl10 hn10 => ?_); obtain ⟨a10, m10, k10, rfl⟩ := hn10; refine wl_nil ?_; refine wq_draw ?_
        refine ddo 7 ?_; refine wl_makeMap rfl (fun v11 => ?_); refine wl_nil ?_; refine wq_draw ?_; refine dy 9 ?_; refine ddo 10 ?_; refine walk ?_; intro v14; refine walk ?_; refine dy 11 ?_; (refine walk ?_; refine wq_meet _ _ _ (v14, Value.slice (some a7) m7 k7, Value.slice (some a10) m10 k10, v11, v12) trivial envs permL)
      · refine wl_makeMap rfl (fun v11 => ?_); refine wl_nil ?_; refine wq_draw ?_
        refine ddo 6 ?_; refine wl_make1 rfl (by omega) (by omega) (by omega) (by rfl) rfl (fun v10 hl10 hn10 => ?_); obtain ⟨a10, m10, k10, rfl⟩ := hn10; refine wl_nil ?_; refine wq_draw ?_; refine dy 9 ?_; refine ddo 10 ?_; refine walk ?_; intro v14; refine walk ?_; refine dy 11 ?_; (refine walk ?_; refine wq_meet _ _ _ (v14, Value.slice (some a7) m7 k7, Value.slice (some a10) m10 k10, v11, v12) trivial envs permL)
  · refine wl_make1 rfl (by omega) (by omega) (by omega) (by rfl) rfl (fun v10 hl10 hn10 => ?_); obtain ⟨a10, m10, k10, rfl⟩ := hn10; refine wl_nil ?_; refine wq_draw ?_
    refine fork3 3 7 8 ?_ ?_ ?_
    · refine wl_make1 rfl (by omega) (by omega) (by omega) (by rfl) rfl (fun v7 hl7 hn7 => ?_); obtain ⟨a7, m7, k7, rfl⟩ := hn7; refine wl_nil ?_; refine wq_draw ?_
      refine fork2 7 8 ?_ ?_
      · refine wl_makeMap rfl (fun v11 => ?_); refine wl_nil ?_; refine wq_draw ?_
        refine ddo 8 ?_; refine wl_makeMap rfl (fun v12 => ?_); refine wl_nil ?_; refine wq_draw ?_; refine dy 9 ?_; refine ddo 10 ?_; refine walk ?_; intro v14; refine walk ?_; refine dy 11 ?_; (refine walk ?_; refine wq_meet _ _ _ (v14, Value.slice (some a7) m7 k7, Value.slice (some a10) m10 k10, v11, v12) trivial envs permL)
      · refine wl_makeMap rfl (fun v12 => ?_); refine wl_nil ?_; refine wq_draw ?_
        refine ddo 7 ?_; refine wl_makeMap rfl (fun v11 => ?_); refine wl_nil ?_; refine wq_draw ?_; refine dy 9 ?_; refine ddo 10 ?_; refine walk ?_; intro v14; refine walk ?_; refine dy 11 ?_; (refine walk ?_; refine wq_meet _ _ _ (v14, Value.slice (some a7) m7 k7, Value.slice (some a10) m10 k10, v11, v12) trivial envs permL)
    · refine wl_makeMap rfl (fun v11 => ?_); refine wl_nil ?_; refine wq_draw ?_
      refine fork2 3 8 ?_ ?_
      · refine wl_make1 rfl (by omega) (by omega) (by omega) (by rfl) rfl (fun v7 hl7 hn7 => ?_); obtain ⟨a7, m7, k7, rfl⟩ := hn7; refine wl_nil ?_; refine wq_draw ?_
        refine ddo 8 ?_; refine wl_makeMap rfl (fun v12 => ?_); refine wl_nil ?_; refine wq_draw ?_; refine dy 9 ?_; refine ddo 10 ?_; refine walk ?_; intro v14; refine walk ?_; refine dy 11 ?_; (refine walk ?_; refine wq_meet _ _ _ (v14, Value.slice (some a7) m7 k7, Value.slice (some a10) m10 k10, v11, v12) trivial envs permL)
      · refine wl_makeMap rfl (fun v12 => ?_); refine wl_nil ?_; refine wq_draw ?_
        refine ddo 3 ?_; refine wl_make1 rfl (by omega) (by omega) (by omega) (by rfl) rfl (fun v7 hl7 hn7 => ?_); obtain ⟨a7, m7, k7, rfl⟩ := hn7; refine wl_nil ?_; refine wq_draw ?_; refine dy 9 ?_; refine ddo 10 ?_; refine walk ?_; intro v14; refine walk ?_; refine dy 11 ?_; (refine walk ?_; refine wq_meet _ _ _ (v14, Value.slice (some a7) m7 k7, Value.slice (some a10) m10 k10, v11, v12) trivial envs permL)
    · refine wl_makeMap rfl (fun v12 => ?_); refine wl_nil ?_; refine wq_draw ?_
      refine fork2 3 7 ?_ ?_
      · refine wl_make1 rfl (by omega) (by omega) (by omega) (by rfl) rfl (fun v7 hl7 hn7 => ?_); obtain ⟨a7, m7, k7, rfl⟩ := hn7; refine wl_nil ?_; refine wq_draw ?_
        refine ddo 7 ?_; refine wl_makeMap rfl (fun v11 => ?_); refine wl_nil ?_; refine wq_draw ?_; refine dy 9 ?_; refine ddo 10 ?_; refine walk ?_; intro v14; refine walk ?_; refine dy 11 ?_; (refine walk ?_; refine wq_meet _ _ _ (v14, Value.slice (some a7) m7 k7, Value.slice (some a10) m10 k10, v11, v12) trivial envs permL)
      · refine wl_makeMap rfl (fun v11 => ?_); refine wl_nil ?_; refine wq_draw ?_
        refine ddo 3 ?_; refine wl_make1 rfl (by omega) (by omega) (by omega) (by rfl) rfl (fun v7 hl7 hn7 => ?_); obtain ⟨a7, m7, k7, rfl⟩ := hn7; refine wl_nil ?_; refine wq_draw ?_; refine dy 9 ?_; refine ddo 10 ?_; refine walk ?_; intro v14; refine walk ?_; refine dy 11 ?_; (refine walk ?_; refine wq_meet _ _ _ (v14, Value.slice (some a7) m7 k7, Value.slice (some a10) m10 k10, v11, v12) trivial envs permL)
  · refine wl_makeMap rfl (fun v11 => ?_); refine wl_nil ?_; refine wq_draw ?_
    refine fork3 3 6 8 ?_ ?_ ?_
    · refine wl_make1 rfl (by omega) (by omega) (by omega) (by rfl) rfl (fun v7 hl7 hn7 => ?_); obtain ⟨a7, m7, k7, rfl⟩ := hn7; refine wl_nil ?_; refine wq_draw ?_
      refine fork2 6 8 ?_ ?_
      · refine wl_make1 rfl (by omega) (by omega) (by omega) (by rfl) rfl (fun v10 hl10 hn10 => ?_); obtain ⟨a10, m10, k10, rfl⟩ := hn10; refine wl_nil ?_; refine wq_draw ?_
        refine ddo 8 ?_; refine wl_makeMap rfl (fun v12 => ?_); refine wl_nil ?_; refine wq_draw ?_; refine dy 9 ?_; refine ddo 10 ?_; refine walk ?_; intro v14; refine walk ?_; refine dy 11 ?_; (refine walk ?_; refine wq_meet _ _ _ (v14, Value.slice (some a7) m7 k7, Value.slice (some a10) m10 k10, v11, v12) trivial envs permL)
      · refine wl_makeMap rfl (fun v12 => ?_); refine wl_nil ?_; refine wq_draw ?_
        refine ddo 6 ?_; refine wl_make1 rfl (by omega) (by omega) (by omega) (by rfl) rfl (fun v10 hl10 hn10 => ?_); obtain ⟨a10, m10, k10, rfl⟩ := hn10; refine wl_nil ?_; refine wq_draw ?_; refine dy 9 ?_; refine ddo 10 ?_; refine walk ?_; intro v14; refine walk ?_; refine dy 11 ?_; (refine walk ?_; refine wq_meet _ _ _ (v14, Value.slice (some a7) m7 k7, Value.slice (some a10) m10 k10, v11, v12) trivial envs permL)
    · refine wl_make1 rfl (by omega) (by omega) (by omega) (by rfl) rfl (fun v10 hl10 hn10 => ?_); obtain ⟨a10, m10, k10, rfl⟩ := hn10; refine wl_nil ?_; refine wq_draw ?_
      refine fork2 3 8 ?_ ?_
      · refine wl_make1 rfl (by omega) (by omega) (by omega) (by rfl) rfl (fun v7 hl7 hn7 => ?_); obtain ⟨a7, m7, k7, rfl⟩ := hn7; refine wl_nil ?_; refine wq_draw ?_
        refine ddo 8 ?_; refine wl_makeMap rfl (fun v12 => ?_); refine wl_nil ?_; refine wq_draw ?_; refine dy 9 ?_; refine ddo 10 ?_; refine walk ?_; intro v14; refine walk ?_; refine dy 11 ?_; (refine walk ?_; refine wq_meet _ _ _ (v14, Value.slice (some a7) m7 k7, Value.slice (some a10) m10 k10, v11, v12) trivial envs permL)
      · refine wl_makeMap rfl (fun v12 => ?_); refine wl_nil ?_; refine wq_draw ?_
        refine ddo 3 ?_; refine wl_make1 rfl (by omega) (by omega) (by omega) (by rfl) rfl (fun v7 hl7 hn7 => ?_); obtain ⟨a7, m7, k7, rfl⟩ := hn7; refine wl_nil ?_; refine wq_draw ?_; refine dy 9 ?_; refine ddo 10 ?_; refine walk ?_; intro v14; refine walk ?_; refine dy 11 ?_; (refine walk ?_; refine wq_meet _ _ _ (v14, Value.slice (some a7) m7 k7, Value.slice (some a10) m10 k10, v11, v12) trivial envs permL)
    · refine wl_makeMap rfl (fun v12 => ?_); refine wl_nil ?_; refine wq_draw ?_
      refine fork2 3 6 ?_ ?_
      · refine wl_make1 rfl (by omega) (by omega) (by omega) (by rfl) rfl (fun v7 hl7 hn7 => ?_); obtain ⟨a7, m7, k7, rfl⟩ := hn7; refine wl_nil ?_; refine wq_draw ?_
        refine ddo 6 ?_; refine wl_make1 rfl (by omega) (by omega) (by omega) (by rfl) rfl (fun v10 hl10 hn10 => ?_); obtain ⟨a10, m10, k10, rfl⟩ := hn10; refine wl_nil ?_; refine wq_draw ?_; refine dy 9 ?_; refine ddo 10 ?_; refine walk ?_; intro v14; refine walk ?_; refine dy 11 ?_; (refine walk ?_; refine wq_meet _ _ _ (v14, Value.slice (some a7) m7 k7, Value.slice (some a10) m10 k10, v11, v12) trivial envs permL)
      · refine wl_make1 rfl (by omega) (by omega) (by omega) (by rfl) rfl (fun v10 hl10 hn10 => ?_); obtain ⟨a10, m10, k10, rfl⟩ := hn10; refine wl_nil ?_; refine wq_draw ?_
        refine ddo 3 ?_; refine wl_make1 rfl (by omega) (by omega) (by omega) (by rfl) rfl (fun v7 hl7 hn7 => ?_); obtain ⟨a7, m7, k7, rfl⟩ := hn7; refine wl_nil ?_; refine wq_draw ?_; refine dy 9 ?_; refine ddo 10 ?_; refine walk ?_; intro v14; refine walk ?_; refine dy 11 ?_; (refine walk ?_; refine wq_meet _ _ _ (v14, Value.slice (some a7) m7 k7, Value.slice (some a10) m10 k10, v11, v12) trivial envs permL)
  · refine wl_makeMap rfl (fun v12 => ?_); refine wl_nil ?_; refine wq_draw ?_
    refine fork3 3 6 7 ?_ ?_ ?_
    · refine wl_make1 rfl (by omega) (by omega) (by omega) (by rfl) rfl (fun v7 hl7 hn7 => ?_); obtain ⟨a7, m7, k7, rfl⟩ := hn7; refine wl_nil ?_; refine wq_draw ?_
      refine fork2 6 7 ?_ ?_
      · refine wl_make1 rfl (by omega) (by omega) (by omega) (by rfl) rfl (fun v10 hl10 hn10 => ?_); obtain ⟨a10, m10, k10, rfl⟩ := hn10; refine wl_nil ?_; refine wq_draw ?_
        refine ddo 7 ?_; refine wl_makeMap rfl (fun v11 => ?_); refine wl_nil ?_; refine wq_draw ?_; refine dy 9 ?_; refine ddo 10 ?_; refine walk ?_; intro v14; refine walk ?_; refine dy 11 ?_; (refine walk ?_; refine wq_meet _ _ _ (v14, Value.slice (some a7) m7 k7, Value.slice (some a10) m10 k10, v11, v12) trivial envs permL)
      · refine wl_makeMap rfl (fun v11 => ?_); refine wl_nil ?_; refine wq_draw ?_
        refine ddo 6 ?_; refine wl_make1 rfl (by omega) (by omega) (by omega) (by rfl) rfl (fun v10 hl10 hn10 => ?_); obtain ⟨a10, m10, k10, rfl⟩ := hn10; refine wl_nil ?_; refine wq_draw ?_; refine dy 9 ?_; refine ddo 10 ?_; refine walk ?_; intro v14; refine walk ?_; refine dy 11 ?_; (refine walk ?_; refine wq_meet _ _ _ (v14, Value.slice (some a7) m7 k7, Value.slice (some a10) m10 k10, v11, v12) trivial envs permL)
    · refine wl_make1 rfl (by omega) (by omega) (by omega) (by rfl) rfl (fun v10 hl10 hn10 => ?_); obtain ⟨a10, m10, k10, rfl⟩ := hn10; refine wl_nil ?_; refine wq_draw ?_
      refine fork2 3 7 ?_ ?_
      · refine wl_make1 rfl (by omega) (by omega) (by omega) (by rfl) rfl (fun v7 hl7 hn7 => ?_); obtain ⟨a7, m7, k7, rfl⟩ := hn7; refine wl_nil ?_; refine wq_draw ?_
        refine ddo 7 ?_; refine wl_makeMap rfl (fun v11 => ?_); refine wl_nil ?_; refine wq_draw ?_; refine dy 9 ?_; refine ddo 10 ?_; refine walk ?_; intro v14; refine walk ?_; refine dy 11 ?_; (refine walk ?_; refine wq_meet _ _ _ (v14, Value.slice (some a7) m7 k7, Value.slice (some a10) m10 k10, v11, v12) trivial envs permL)
      · refine wl_makeMap rfl (fun v11 => ?_); refine wl_nil ?_; refine wq_draw ?_
        refine ddo 3 ?_; refine wl_make1 rfl (by omega) (by omega) (by omega) (by rfl) rfl (fun v7 hl7 hn7 => ?_); obtain ⟨a7, m7, k7, rfl⟩ := hn7; refine wl_nil ?_; refine wq_draw ?_; refine dy 9 ?_; refine ddo 10 ?_; refine walk ?_; intro v14; refine walk ?_; refine dy 11 ?_; (refine walk ?_; refine wq_meet _ _ _ (v14, Value.slice (some a7) m7 k7, Value.slice (some a10) m10 k10, v11, v12) trivial envs permL)
    · refine wl_makeMap rfl (fun v11 => ?_); refine wl_nil ?_; refine wq_draw ?_
      refine fork2 3 6 ?_ ?_
      · refine wl_make1 rfl (by omega) (by omega) (by omega) (by rfl) rfl (fun v7 hl7 hn7 => ?_); obtain ⟨a7, m7, k7, rfl⟩ := hn7; refine wl_nil ?_; refine wq_draw ?_
        refine ddo 6 ?_; refine wl_make1 rfl (by omega) (by omega) (by omega) (by rfl) rfl (fun v10 hl10 hn10 => ?_); obtain ⟨a10, m10, k10, rfl⟩ := hn10; refine wl_nil ?_; refine wq_draw ?_; refine dy 9 ?_; refine ddo 10 ?_; refine walk ?_; intro v14; refine walk ?_; refine dy 11 ?_; (refine walk ?_; refine wq_meet _ _ _ (v14, Value.slice (some a7) m7 k7, Value.slice (some a10) m10 k10, v11, v12) trivial envs permL)
      · refine wl_make1 rfl (by omega) (by omega) (by omega) (by rfl) rfl (fun v10 hl10 hn10 => ?_); obtain ⟨a10, m10, k10, rfl⟩ := hn10; refine wl_nil ?_; refine wq_draw ?_
        refine ddo 3 ?_; refine wl_make1 rfl (by omega) (by omega) (by omega) (by rfl) rfl (fun v7 hl7 hn7 => ?_); obtain ⟨a7, m7, k7, rfl⟩ := hn7; refine wl_nil ?_; refine wq_draw ?_; refine dy 9 ?_; refine ddo 10 ?_; refine walk ?_; intro v14; refine walk ?_; refine dy 11 ?_; (refine walk ?_; refine wq_meet _ _ _ (v14, Value.slice (some a7) m7 k7, Value.slice (some a10) m10 k10, v11, v12) trivial envs permL)
  obtain ⟨p, sv, bv, dc, nc⟩ := y
  dsimp only
  obtain ⟨G, hG⟩ : ∃ G, s.segments.toNat = G + 1 := ⟨s.segments.toNat - 1, by omega⟩
  have hset : (List.replicate s.segments.toNat (0 : Int)).set 0 1 = (Bok.empty s).state := rfl
  have hml : (List.replicate s.segments.toNat (vi 0)).length = s.segments.toNat := List.length_replicate
  refine walk ?_
  refine wc_loop (X := Nat × Value) (fun y => [(1, vp c1), (2, .pointer none), (3, vp p), (21, vi s.logical), (22, vi y.1)]) (fun y => Cells p [vi s.members, vi s.block, vi s.segments, vi s.stripes, vi s.nv, vi s.logical, .slice none 0 0, .int .u64 1, .int .u64 0, vi 0, vi 0, sv, bv, y.2, .map (some dc), .map (some nc)] ::
      Sl y.2 1 ((List.replicate y.1 (-1 : Int)).map vi) :: Sl sv 1 ((Bok.empty s).state.map vi) :: Sl bv 1 (List.replicate s.segments.toNat (.int .u64 0)) :: MapI dc [] :: MapI nc [] :: F)
    (fun y => (y.1 : Int) ≤ s.logical) (fun y => s.logical.toNat - y.1) (0, .slice none 0 0) (by dsimp only; omega) envs ?_ (fun y hy => ?_)
  · refine Ent.trans (sl_nil 1) ?_
    rw [← hset, List.map_set]
    simp only [List.replicate_zero, List.map_nil, List.map_replicate]
    rw [show (0 : Int).toNat = 0 from rfl]
    exact permL
  obtain ⟨i, mv⟩ := y
  dsimp only at hy ⊢
  refine walk ?_
  refine wif_dec (fun hlt => ?_) (fun hlt => ?_)
  · refine walk ?_
    intro u _ _
    refine walk ?_
    intro mv' _ _
    refine walk ?_
    refine wq_round (i + 1, mv') (by dsimp only; omega) (by dsimp only; omega) envs ?_
    dsimp only
    rw [List.replicate_succ', List.map_append, List.map_singleton]
    exact permL
  · obtain rfl : i = s.logical.toNat := by omega
    refine walk ?_
    refine wq_ret1 rfl rfl p rfl trivial (Ent.trans ?_ (BkAt.shut ⟨.slice none 0 0, sv, bv, mv, dc, nc, [], [], []⟩ ⟨rfl, (fun e he => by cases he), rfl, (fun e he => by cases he)⟩))
    dsimp only [BParts]
    rw [show (Bok.empty s).born.map (fun i => Value.int .u64 i) = List.replicate s.segments.toNat (.int .u64 0) from List.map_replicate]
    refine Ent.trans (sl_nil 4) ?_
    rw [show (List.flatMap recCells ([] : List (Rec × Value))) = [] from rfl, show (Bok.empty s).map = List.replicate s.logical.toNat (-1) from rfl]
    rw [show Both.vals ([] : Both) = [] from rfl]
    exact permL
end Go.Proofs.YtohienhoifgmaaaGreat
