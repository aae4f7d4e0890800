/- Blocks, chunks, small shapes: what the statements are made of. -/
import Derived.Test.YtapgejjjgeiihaaRep
import Derived.Test.YtapgejjjgeiihaaArr5
namespace Go.Proofs.Ytapgejjjgeiihaa
open Go Go.Sl
attribute [local irreducible] Yl WL WC WQ WD

/-- a block of one byte -/
def blockOf (s : Shp) (x : UInt8) : Bytes := List.replicate s.block.toNat x
def chunkFill (x : UInt8) (k : Nat) : UInt8 := x + UInt8.ofNat (k * 37)
def chunksOf (s : Shp) (x : UInt8) : List Bytes := (List.range (s.members - 1).toNat).map fun k => blockOf s (chunkFill x k)
theorem blockOf_len (s : Shp) (h : 0 ≤ s.block) (x : UInt8) : ((blockOf s x).length : Int) = s.block := by simp [blockOf]; omega
theorem fill_val (x : UInt8) (k : Nat) : Value.int .u8 (IntKind.u8.wrap ((x.toNat : Int) + IntKind.u8.wrap ((k : Int) * 37))) = vb (chunkFill x k) := by
  unfold vb
  congr 1
theorem block_spec (s : Shp) (h : 1 ≤ s.block ∧ s.block ≤ 1048576) (x : UInt8) :
    Spec0 Try.prog 36 [Shp.val s, vb x] (fun _ => True) (fun F => F) (fun _ : Value => True) (fun r => r) (fun r F => SlB r (blockOf s x) :: F) := by
  (refine spec_of Try.func36 rfl Try.ntmps36 rfl (fun F w0 hrd => ?_))
  obtain ⟨n, hn⟩ : ∃ n : Nat, s.block = n := ⟨s.block.toNat, by omega⟩
  have hb : blockOf s x = List.replicate n x := by unfold blockOf; rw [hn, Int.toNat_natCast]
  rw [hb]
  refine walk ?_
  intro c
  rw [hn]
  refine walk ?_
  intro v _ _
  refine walk ?_
  refine call (repeat_spec v x n (by omega)) ?_
  intro r _
  refine walk ?_
  exact wq_ret1 rfl rfl r rfl trivial perm
theorem chunks_spec (s : Shp) (h : 1 ≤ s.block ∧ s.block ≤ 1048576) (hm : 1 ≤ s.members ∧ s.members ≤ 1024) (x : UInt8) :
    Spec0 Try.prog 25 [Shp.val s, vb x] (fun _ => True) (fun F => F) (fun r : Value × List Row => r.2.map (·.2) = chunksOf s x) (fun r => r.1) (fun r F => Sl r.1 1 (r.2.map (·.1)) :: Pool r.2 :: F) := by
  (refine spec_of Try.func25 rfl Try.ntmps25 rfl (fun F w0 hrd => ?_))
  obtain ⟨n, hn⟩ : ∃ n : Nat, s.members - 1 = n := ⟨(s.members - 1).toNat, by omega⟩
  have hc : chunksOf s x = (List.range n).map fun k => blockOf s (chunkFill x k) := by unfold chunksOf; rw [hn, Int.toNat_natCast]
  refine walk ?_
  intro c
  refine walk ?_
  rw [hn]
  refine wc_loop (X := Nat × Value × List Row) (fun y => [(2, vp c), (1, vb x), (5, y.2.1), (9, vi n), (10, vi y.1)]) (fun y => Sl y.2.1 1 (y.2.2.map (·.1)) :: Pool y.2.2 :: Cells c (Shp.cells s) :: F)
    (fun y => y.1 ≤ n ∧ y.2.2.map (·.2) = (List.range y.1).map fun k => blockOf s (chunkFill x k)) (fun y => n - y.1) (0, .slice none 0 0, []) ⟨by omega, rfl⟩ envs ((sl_nil 1).trans (Ent.skip Pool.nil)) (fun y hy => ?_)
  obtain ⟨i, sv, rows⟩ := y
  dsimp only at hy ⊢
  obtain ⟨hi, hr⟩ := hy
  have hlen : rows.length = i := by simpa using congrArg List.length hr
  refine walk ?_
  refine wif_dec (fun hlt => ?_) (fun hlt => ?_)
  · have hlt : i < n := by omega
    refine walk ?_
    refine wl_y (yl_conv rfl) rfl ?_
    refine walk ?_
    rw [fill_val]
    refine call (block_spec s h (chunkFill x i)) ?_
    intro v _
    refine walk ?_
    intro v' hvl hvn
    refine walk ?_
    intro s' hsl hsn
    refine walk ?_
    refine wq_round (i + 1, s', rows ++ [(v, blockOf s (chunkFill x i))]) ⟨by dsimp only; omega, ?_⟩ (by dsimp only; omega) envs ?_
    · dsimp only
      rw [List.map_append, hr, List.range_succ, List.map_append]; rfl
    · dsimp only
      rw [List.map_append]
      refine Ent.trans (Γ' := SlB v (blockOf s (chunkFill x i)) :: Pool rows :: Sl s' 1 (rows.map (·.1) ++ [v]) :: Cells c (Shp.cells s) :: F) perm (Ent.trans Pool.put (Ent.trans (Pool.sub (rows' := rows ++ [(v, blockOf s (chunkFill x i))]) (fun q hq => ?_)) perm))
      rcases List.mem_append.1 hq with hq | hq
      · exact List.mem_cons_of_mem _ hq
      · rw [List.mem_singleton.1 hq]; exact List.mem_cons_self
  · have hi' : i = n := by omega
    subst hi'
    refine walk ?_
    exact wq_ret1 rfl rfl (sv, rows) rfl (hr.trans hc.symm) perm
end Go.Proofs.Ytapgejjjgeiihaa
