/- Images of small numbers: one that is found again. -/
import Derived.Test.YtohienhoifgmaaaGreatP24
import Derived.Test.YtohienhoifgmaaaGreatP46
import Derived.Test.YtohienhoifgmaaaGreatP49
import Derived.Test.YtohienhoifgmaaaGreatP22
import Derived.Test.YtohienhoifgmaaaGreatP16
import Derived.Test.YtohienhoifgmaaaGreatP32
import Derived.Test.YtohienhoifgmaaaGreatP17

namespace Go.Proofs.YtohienhoifgmaaaGreat
open Go Go.Sl
attribute [local irreducible] Yl WL WC WQ WD
abbrev s10 : Shp := ⟨3, 32, 4, 2, 1, 1⟩
theorem s00_eq : s00 = s10 := by kernel_rfl
theorem s10_ok : s10.Ok := by rw [← s00_eq]; exact s00_ok
def im0 : Img := ⟨7, 0, 0, List.replicate 4 (0, 0), [3]⟩
set_option maxHeartbeats 4000000 in
theorem make10_spec (mv : Value) :
    Spec0 Tryz.prog 95 [Shp.val s10, .agg #[.int .u64 7, .int .i8 0, .int .u8 0, .slice none 0 0, mv]] (Rd mv 1 [.int .u16 4]) (fun F => F) (fun _ : Value × Value => True) (fun r => Img.val im0 r.1 r.2)
      (fun r F => Sl r.1 2 (im0.segs.flatMap isegCells) :: Sl r.2 1 (im0.map.map vi) :: F) := by
  (refine spec_of Tryz.func95 rfl Tryz.ntmps95 rfl (fun F w0 hrd => ?_))
  haveI : RdIn F mv 1 [.int .u16 4] := ⟨hrd⟩
  have hok := s10_ok
  refine walk ?_
  intro c2
  refine walk ?_
  intro c3
  refine walk ?_
  intro c4
  refine walk ?_
  dsimp only
  (refine draw ?_; refine dy 0 ?_; refine dy 1 ?_; refine dy 2 ?_; refine dy 3 ?_; refine dy 4 ?_; refine dy 5 ?_; refine dy 6 ?_; refine dy 7 ?_; refine dy 8 ?_; refine dy 9 ?_; refine dy 10 ?_; refine dy 11 ?_; refine dy 12 ?_; refine dy 13 ?_; refine dy 14 ?_; refine dy 15 ?_; refine ddx 16 ?_)
  refine walk ?_
  intro c5
  (refine walk ?_; refine ddx 17 ?_)
  rw [show (max (0 : Int) (-1)) % 4 = 0 from by decide, show (0 : Int) % 2 = 0 from by decide]
  refine walk ?_
  refine wc_loop (X := Nat × Value) (fun y => [(2, vp c2), (3, vp c3), (4, vp c4), (5, vp c5), (27, vi 4), (28, vi y.1)])
    (fun y => Sl y.2 2 ((List.replicate y.1 ((0 : Int), (0 : Nat))).flatMap isegCells) :: Cells c5 [.int .u64 7, vi 0, vi 0, y.2, .slice none 0 0] :: Cells c4 [.int .u64 0, vi 0, vi 0, .slice none 0 0, .slice none 0 0] :: Cells c3 [.int .u64 7, .int .i8 0, .int .u8 0, .slice none 0 0, mv] :: Cells c2 [vi 3, vi 32, vi 4, vi 2, vi 1, vi 1] :: F)
    (fun y => y.1 ≤ 4) (fun y => 4 - y.1) (0, .slice none 0 0) (by decide) envs (sl_nil 2) (fun y hy => ?_)
  obtain ⟨i, sv⟩ := y
  dsimp only at hy ⊢
  have hil : ((List.replicate i ((0 : Int), (0 : Nat))).flatMap isegCells).length = 2 * i := by simp [isegCells]; omega
  refine walk ?_
  refine wif_dec (fun hlt => ?_) (fun hlt => ?_)
  · have hlt : i < 4 := by omega
    refine walk ?_
    intro c7
    refine walk ?_
    refine WL.ent (sl_nil 2) ?_
    refine walk ?_
    refine wif_dec (fun hz => absurd hz (by show ¬ (i : Int) < 0; omega)) (fun _ => ?_)
    refine walk ?_
    refine wl_buildOneA (k := 2) rfl rfl (by decide) rfl (fun s1 _ _ => ?_)
    refine walk ?_
    intro sv' _ _
    refine walk ?_
    refine wq_round (i + 1, sv') (by dsimp only; omega) (by dsimp only; omega) envs ?_
    dsimp only
    rw [List.replicate_succ', List.flatMap_append]
    exact permL
  · obtain rfl : i = 4 := by omega
    refine walk ?_
    refine wc_loop (X := Nat × Value) (fun y => [(2, vp c2), (3, vp c3), (4, vp c4), (5, vp c5), (60, vi 1), (61, vi y.1)])
      (fun y => Sl y.2 1 ((List.replicate y.1 (3 : Int)).map vi) :: Sl sv 2 ((List.replicate 4 ((0 : Int), (0 : Nat))).flatMap isegCells) :: Cells c5 [.int .u64 7, vi 0, vi 0, sv, y.2] :: Cells c4 [.int .u64 0, vi 0, vi 0, .slice none 0 0, .slice none 0 0] :: Cells c3 [.int .u64 7, .int .i8 0, .int .u8 0, .slice none 0 0, mv] :: Cells c2 [vi 3, vi 32, vi 4, vi 2, vi 1, vi 1] :: F)
      (fun y => y.1 ≤ 1) (fun y => 1 - y.1) (0, .slice none 0 0) (by decide) envs (sl_nil 1) (fun y hy => ?_)
    obtain ⟨j, pv⟩ := y
    dsimp only at hy ⊢
    refine walk ?_
    refine wif_dec (fun hlt2 => ?_) (fun hlt2 => ?_)
    · obtain rfl : j = 0 := by omega
      obtain ⟨R, hR⟩ : ∃ R, R = (List.replicate 0 (3 : Int)).map vi := ⟨_, rfl⟩
      rw [← hR]
      have hRl : R.length = 0 := by rw [hR]; rfl
      refine walk ?_
      refine wif_dec (fun _ => ?_) (fun hz => absurd (by decide) hz)
      (refine draw ?_; refine dy 0 ?_; refine dy 1 ?_; refine dy 2 ?_)
      refine dy 3 (y := by exact yl_index1 (vs := [.int .u16 4]) rfl rfl (by omega) (by decide)) ?_
      rw [Int.toNat_natCast]
      refine dy 4 (y := by exact yl_loadx (k' := 1) rfl (show ([.int .u16 4] : List Value)[0]? = some (.int .u16 4) from rfl)) ?_
      (refine dy 5 ?_; refine dy 6 ?_; refine dy 8 ?_; refine ddx 7 ?_)
      refine call (all_spec s10 hok) ?_ (hg := frameL)
      intro _ _
      (refine walk ?_; refine ddx 9 ?_)
      refine call (slots_spec s10 hok) ?_ (hg := frameL)
      intro _ _
      rw [show s10.all = 8 from rfl, show s10.slots = 1 from rfl]
      (refine walk ?_; refine dy 10 ?_; refine dy 11 ?_; refine dy 12 ?_; refine dy 13 ?_; refine dy 14 ?_; refine walk ?_)
      rw [show (4 : Int) % (8 * 1 + 1) - 1 = 3 from by decide]
      intro s1 _ _
      refine walk ?_
      intro pv' _ _
      refine walk ?_
      refine wq_round (1, pv') (by dsimp only; omega) (by dsimp only; omega) envs ?_
      dsimp only
      rw [show R ++ [Value.int .i64 3] = (List.replicate 1 (3 : Int)).map vi from by rw [hR]; rfl]
      exact permL
    · obtain rfl : j = 1 := by omega
      refine walk ?_
      refine wq_retc rfl rfl rfl (sv, pv) rfl trivial ?_
      show Ent _ (Sl sv 2 ((List.replicate 4 ((0 : Int), (0 : Nat))).flatMap isegCells) :: Sl pv 1 ((List.replicate 1 (3 : Int)).map vi) :: F)
      exact permL
theorem im0_fits : im0.Fits s10.segments.toNat s10.stripes.toNat s10.logical.toNat (s10.all * s10.slots).toNat := by
  refine ⟨by decide, by decide, by decide, rfl, fun e he => ?_, rfl, fun p hp => ?_⟩
  · rw [(List.mem_replicate.1 he).2]; decide
  · rw [List.mem_singleton.1 hp]; decide
theorem im0_dec : Img.dec s10.block.toNat 3 s10.pages.toNat s10.segments.toNat s10.stripes.toNat s10.logical.toNat (s10.all * s10.slots).toNat (pagesB s10.block.toNat 3 s10.pages.toNat im0.bytes) = .inl im0 := Img.dec_enc im0_fits (by decide) (by decide) (by decide +kernel) (by decide +kernel) (by decide) (by decide) (by decide +kernel)
set_option maxHeartbeats 4000000 in
theorem awake10_spec :
    Spec0 Tryz.prog 46 [] (fun _ => True) (fun F => F) (fun _ : Unit => True) (fun _ => .bool true) (fun _ F => F) := by
  (refine spec_of Tryz.func46 rfl Tryz.ntmps46 rfl (fun F w0 hrd => ?_))
  have hok := s10_ok
  refine walk ?_
  refine call (shape5_spec ⟨0, 0, 0, 0, 0, 0⟩) ?_ (hg := frameL)
  intro _ _
  rw [show shapeOf ⟨0, 0, 0, 0, 0, 0⟩ = s10 from s00_eq]
  refine walk ?_
  intro c1
  refine walk ?_
  refine wc_join (X := Nat × Value × Value) (fun y => [(1, vp c1), (2, vp y.1), (3, vi 0)]) (fun y => Cells y.1 [.int .u64 7, vi 0, vi 0, y.2.1, y.2.2] :: Sl y.2.2 1 ([3].map vi) :: F) (fun _ => True) ?_ (fun y _ => ?_)
  · (refine draw ?_; refine dy 0 ?_; refine dy 1 ?_; refine dy 2 ?_)
    refine fork2 3 11 ?_ ?_
    · skip
      refine walk ?_
      intro mv _ _
      (refine walk ?_; refine dy 4 ?_)
      refine fork2 5 11 ?_ ?_
      · skip
        refine call (make10_spec mv) ?_ (hg := frameL)
        intro y _
        obtain ⟨sv, pv⟩ := y
        dsimp only
        (refine walk ?_)
        refine fork2 6 11 ?_ ?_
        · skip
          refine call (encode_spec s10 hok 3 im0 sv pv im0_fits (by decide)) ?_ (hg := frameL) (hr := fun h hs => ⟨RdIn.rd h hs, RdIn.rd h hs⟩)
          intro y hy
          obtain ⟨ev, rows⟩ := y
          dsimp only at hy ⊢
          haveI : ∀ Γ : List HP, ReadIn (Pool rows :: Γ) (fun h => ∀ r ∈ rows, Rd r.1 1 (r.2.map vb) h) := fun Γ => ⟨fun h hs r hr => (Pool.rdIn' hr : RdIn (Pool rows :: Γ) _ _ _).rd h hs⟩
          have hrl : (rows.length : Int) = s10.pages := by
            have := congrArg List.length hy
            rw [List.length_map] at this
            rw [this]; decide +kernel
          have hrb : ∀ r ∈ rows, r.2.length = s10.block.toNat := fun r hr => by
            have h1 : r.2 ∈ pagesB s10.block.toNat 3 s10.pages.toNat im0.bytes := by rw [← hy]; exact List.mem_map.2 ⟨r, hr, rfl⟩
            have h2 : ∀ b ∈ pagesB s10.block.toNat 3 s10.pages.toNat im0.bytes, b.length = s10.block.toNat := by decide +kernel
            exact h2 _ h1
          have hde := im0_dec
          rw [← hy] at hde
          (refine walk ?_)
          refine fork2 7 11 ?_ ?_
          · skip
            refine call (decode_spec s10 hok 3 ev rows hrl hrb hde.symm) ?_ (hg := frameL) (hr := fun h hs => ⟨RdIn.rd h hs, ReadIn.rd (rd := fun h => ∀ r ∈ rows, Rd r.1 1 (r.2.map vb) h) h hs⟩)
            intro y _
            obtain ⟨sv2, pv2⟩ := y
            dsimp only [decV, decP]
            simp only [show im0.map = [3] from rfl]
            (refine walk ?_; refine dy 8 ?_; refine dy 9 ?_; refine dy 10 ?_)
            (refine ddx 11 ?_)
            refine walk ?_
            intro c2
            (refine walk ?_)
            (refine ddx 12 ?_; refine walk ?_; refine dy 13 ?_; refine walk ?_)
            refine wq_meet _ _ _ (c2, sv2, pv2) trivial envs ?_
            show Ent _ (Cells c2 [.int .u64 7, vi 0, vi 0, sv2, pv2] :: Sl pv2 1 ([3].map vi) :: F)
            change Ent (Cells c2 [.int .u64 7, vi 0, vi 0, sv2, pv2] :: _) _
            exact permL
          · skip
            refine walk ?_
            intro c2
            (refine walk ?_)
            (refine ddx 7 ?_)
            refine call (decode_spec s10 hok 3 ev rows hrl hrb hde.symm) ?_ (hg := frameL) (hr := fun h hs => ⟨RdIn.rd h hs, ReadIn.rd (rd := fun h => ∀ r ∈ rows, Rd r.1 1 (r.2.map vb) h) h hs⟩)
            intro y _
            obtain ⟨sv2, pv2⟩ := y
            dsimp only [decV, decP]
            simp only [show im0.map = [3] from rfl]
            (refine walk ?_; refine dy 8 ?_; refine dy 9 ?_; refine dy 10 ?_)
            (refine ddx 12 ?_; refine walk ?_; refine dy 13 ?_; refine walk ?_)
            refine wq_meet _ _ _ (c2, sv2, pv2) trivial envs ?_
            show Ent _ (Cells c2 [.int .u64 7, vi 0, vi 0, sv2, pv2] :: Sl pv2 1 ([3].map vi) :: F)
            change Ent (Cells c2 [.int .u64 7, vi 0, vi 0, sv2, pv2] :: _) _
            exact permL
        · skip
          refine walk ?_
          intro c2
          (refine walk ?_)
          (refine ddx 6 ?_)
          refine call (encode_spec s10 hok 3 im0 sv pv im0_fits (by decide)) ?_ (hg := frameL) (hr := fun h hs => ⟨RdIn.rd h hs, RdIn.rd h hs⟩)
          intro y hy
          obtain ⟨ev, rows⟩ := y
          dsimp only at hy ⊢
          haveI : ∀ Γ : List HP, ReadIn (Pool rows :: Γ) (fun h => ∀ r ∈ rows, Rd r.1 1 (r.2.map vb) h) := fun Γ => ⟨fun h hs r hr => (Pool.rdIn' hr : RdIn (Pool rows :: Γ) _ _ _).rd h hs⟩
          have hrl : (rows.length : Int) = s10.pages := by
            have := congrArg List.length hy
            rw [List.length_map] at this
            rw [this]; decide +kernel
          have hrb : ∀ r ∈ rows, r.2.length = s10.block.toNat := fun r hr => by
            have h1 : r.2 ∈ pagesB s10.block.toNat 3 s10.pages.toNat im0.bytes := by rw [← hy]; exact List.mem_map.2 ⟨r, hr, rfl⟩
            have h2 : ∀ b ∈ pagesB s10.block.toNat 3 s10.pages.toNat im0.bytes, b.length = s10.block.toNat := by decide +kernel
            exact h2 _ h1
          have hde := im0_dec
          rw [← hy] at hde
          (refine walk ?_)
          (refine ddx 7 ?_)
          refine call (decode_spec s10 hok 3 ev rows hrl hrb hde.symm) ?_ (hg := frameL) (hr := fun h hs => ⟨RdIn.rd h hs, ReadIn.rd (rd := fun h => ∀ r ∈ rows, Rd r.1 1 (r.2.map vb) h) h hs⟩)
          intro y _
          obtain ⟨sv2, pv2⟩ := y
          dsimp only [decV, decP]
          simp only [show im0.map = [3] from rfl]
          (refine walk ?_; refine dy 8 ?_; refine dy 9 ?_; refine dy 10 ?_)
          (refine ddx 12 ?_; refine walk ?_; refine dy 13 ?_; refine walk ?_)
          refine wq_meet _ _ _ (c2, sv2, pv2) trivial envs ?_
          show Ent _ (Cells c2 [.int .u64 7, vi 0, vi 0, sv2, pv2] :: Sl pv2 1 ([3].map vi) :: F)
          change Ent (Cells c2 [.int .u64 7, vi 0, vi 0, sv2, pv2] :: _) _
          exact permL
      · skip
        refine walk ?_
        intro c2
        (refine walk ?_)
        (refine ddx 5 ?_)
        refine call (make10_spec mv) ?_ (hg := frameL)
        intro y _
        obtain ⟨sv, pv⟩ := y
        dsimp only
        (refine walk ?_)
        (refine ddx 6 ?_)
        refine call (encode_spec s10 hok 3 im0 sv pv im0_fits (by decide)) ?_ (hg := frameL) (hr := fun h hs => ⟨RdIn.rd h hs, RdIn.rd h hs⟩)
        intro y hy
        obtain ⟨ev, rows⟩ := y
        dsimp only at hy ⊢
        haveI : ∀ Γ : List HP, ReadIn (Pool rows :: Γ) (fun h => ∀ r ∈ rows, Rd r.1 1 (r.2.map vb) h) := fun Γ => ⟨fun h hs r hr => (Pool.rdIn' hr : RdIn (Pool rows :: Γ) _ _ _).rd h hs⟩
        have hrl : (rows.length : Int) = s10.pages := by
          have := congrArg List.length hy
          rw [List.length_map] at this
          rw [this]; decide +kernel
        have hrb : ∀ r ∈ rows, r.2.length = s10.block.toNat := fun r hr => by
          have h1 : r.2 ∈ pagesB s10.block.toNat 3 s10.pages.toNat im0.bytes := by rw [← hy]; exact List.mem_map.2 ⟨r, hr, rfl⟩
          have h2 : ∀ b ∈ pagesB s10.block.toNat 3 s10.pages.toNat im0.bytes, b.length = s10.block.toNat := by decide +kernel
          exact h2 _ h1
        have hde := im0_dec
        rw [← hy] at hde
        (refine walk ?_)
        (refine ddx 7 ?_)
        refine call (decode_spec s10 hok 3 ev rows hrl hrb hde.symm) ?_ (hg := frameL) (hr := fun h hs => ⟨RdIn.rd h hs, ReadIn.rd (rd := fun h => ∀ r ∈ rows, Rd r.1 1 (r.2.map vb) h) h hs⟩)
        intro y _
        obtain ⟨sv2, pv2⟩ := y
        dsimp only [decV, decP]
        simp only [show im0.map = [3] from rfl]
        (refine walk ?_; refine dy 8 ?_; refine dy 9 ?_; refine dy 10 ?_)
        (refine ddx 12 ?_; refine walk ?_; refine dy 13 ?_; refine walk ?_)
        refine wq_meet _ _ _ (c2, sv2, pv2) trivial envs ?_
        show Ent _ (Cells c2 [.int .u64 7, vi 0, vi 0, sv2, pv2] :: Sl pv2 1 ([3].map vi) :: F)
        change Ent (Cells c2 [.int .u64 7, vi 0, vi 0, sv2, pv2] :: _) _
        exact permL
    · skip
      refine walk ?_
      intro c2
      (refine walk ?_)
      (refine ddx 3 ?_)
      refine walk ?_
      intro mv _ _
      (refine walk ?_; refine dy 4 ?_)
      (refine ddx 5 ?_)
      refine call (make10_spec mv) ?_ (hg := frameL)
      intro y _
      obtain ⟨sv, pv⟩ := y
      dsimp only
      (refine walk ?_)
      (refine ddx 6 ?_)
      refine call (encode_spec s10 hok 3 im0 sv pv im0_fits (by decide)) ?_ (hg := frameL) (hr := fun h hs => ⟨RdIn.rd h hs, RdIn.rd h hs⟩)
      intro y hy
      obtain ⟨ev, rows⟩ := y
      dsimp only at hy ⊢
      haveI : ∀ Γ : List HP, ReadIn (Pool rows :: Γ) (fun h => ∀ r ∈ rows, Rd r.1 1 (r.2.map vb) h) := fun Γ => ⟨fun h hs r hr => (Pool.rdIn' hr : RdIn (Pool rows :: Γ) _ _ _).rd h hs⟩
      have hrl : (rows.length : Int) = s10.pages := by
        have := congrArg List.length hy
        rw [List.length_map] at this
        rw [this]; decide +kernel
      have hrb : ∀ r ∈ rows, r.2.length = s10.block.toNat := fun r hr => by
        have h1 : r.2 ∈ pagesB s10.block.toNat 3 s10.pages.toNat im0.bytes := by rw [← hy]; exact List.mem_map.2 ⟨r, hr, rfl⟩
        have h2 : ∀ b ∈ pagesB s10.block.toNat 3 s10.pages.toNat im0.bytes, b.length = s10.block.toNat := by decide +kernel
        exact h2 _ h1
      have hde := im0_dec
      rw [← hy] at hde
      (refine walk ?_)
      (refine ddx 7 ?_)
      refine call (decode_spec s10 hok 3 ev rows hrl hrb hde.symm) ?_ (hg := frameL) (hr := fun h hs => ⟨RdIn.rd h hs, ReadIn.rd (rd := fun h => ∀ r ∈ rows, Rd r.1 1 (r.2.map vb) h) h hs⟩)
      intro y _
      obtain ⟨sv2, pv2⟩ := y
      dsimp only [decV, decP]
      simp only [show im0.map = [3] from rfl]
      (refine walk ?_; refine dy 8 ?_; refine dy 9 ?_; refine dy 10 ?_)
      (refine ddx 12 ?_; refine walk ?_; refine dy 13 ?_; refine walk ?_)
      refine wq_meet _ _ _ (c2, sv2, pv2) trivial envs ?_
      show Ent _ (Cells c2 [.int .u64 7, vi 0, vi 0, sv2, pv2] :: Sl pv2 1 ([3].map vi) :: F)
      change Ent (Cells c2 [.int .u64 7, vi 0, vi 0, sv2, pv2] :: _) _
      exact permL
  obtain ⟨c2, sv, pv⟩ := y
  dsimp only
  refine walk ?_
  refine wl_y (yl_index1m (f := vi) (xs := [3]) rfl rfl (by decide) (by decide)) rfl ?_
  rw [show (0 : Int).toNat = 0 from rfl]
  refine walk ?_
  refine call awake05_spec ?_ (hg := frameL)
  intro _ _
  refine walk ?_
  exact wq_ret1 rfl rfl () rfl trivial perm
end Go.Proofs.YtohienhoifgmaaaGreat
