/- The library's Repeat of one byte; a block, a stripe's chunks. -/
import Derived.Test.YtapgejjjgeiihaaCpy
import Derived.Test.YtapgejjjgeiihaaDrw
import Derived.Test.YtapgejjjgeiihaaTab
import Derived.Test.YtapgejjjgeiihaaGeo
namespace Go.Proofs.Ytapgejjjgeiihaa
open Go Go.Sl
attribute [local irreducible] Yl WL WC WQ WD

theorem mul64_spec (c : Nat) (hc : c ≤ 1048576) :
    Spec0 Try.prog 101 [.int .u64 1, .int .u64 c] (fun _ => True) (fun F => F) (fun _ : Unit => True) (fun _ => .tuple #[.int .u64 0, .int .u64 c]) (fun _ F => F) := by
  (refine spec_of Try.func101 rfl Try.ntmps101 rfl (fun F w0 hrd => ?_))
  have e1 : IntKind.u64.wrap ((BitVec.ofInt IntKind.u64.bits 1 &&& BitVec.ofInt IntKind.u64.bits 4294967295).toNat : Int) = 1 := by decide
  have e2 : IntKind.u64.wrap ((BitVec.ofInt IntKind.u64.bits (c : Int) &&& BitVec.ofInt IntKind.u64.bits 4294967295).toNat : Int) = c := by
    have h1 : (BitVec.ofInt IntKind.u64.bits (c : Int) &&& BitVec.ofInt IntKind.u64.bits 4294967295).toNat = c := by
      rw [BitVec.toNat_and]
      have h2 : (BitVec.ofInt IntKind.u64.bits (c : Int)).toNat = c := by
        rw [BitVec.toNat_ofInt]
        show (((c : Int) % ((2 ^ 64 : Nat) : Int))).toNat = c
        omega
      have h3 : (BitVec.ofInt IntKind.u64.bits 4294967295).toNat = 2 ^ 32 - 1 := by decide
      rw [h2, h3, Nat.and_two_pow_sub_one_eq_mod]
      omega
    rw [h1]; exact wrap_u64 (by omega) (by omega)
  have e3 : Int.fdiv 1 (2 ^ min (Int.toNat 32) IntKind.u64.bits) = 0 := by decide
  have e4 : Int.fdiv (c : Int) (2 ^ min (Int.toNat 32) IntKind.u64.bits) = 0 := by
    rw [Int.fdiv_eq_ediv_of_nonneg _ (by decide)]
    show (c : Int) / 4294967296 = 0
    omega
  have e5 : IntKind.u64.wrap (1 * (c : Int)) = c := by rw [Int.one_mul]; exact wrap_u64 (by omega) (by omega)
  have e6 : IntKind.u64.wrap (0 * (c : Int)) = 0 := by rw [Int.zero_mul]; decide
  have e7 : IntKind.u64.wrap (0 + 0) = 0 := by decide
  have e8 : IntKind.u64.wrap (1 * 0) = 0 := by decide
  have e10 : Int.fdiv 0 (2 ^ min (Int.toNat 32) IntKind.u64.bits) = 0 := by decide
  have e11 : IntKind.u64.wrap ((BitVec.ofInt IntKind.u64.bits 0 &&& BitVec.ofInt IntKind.u64.bits 4294967295).toNat : Int) = 0 := by decide
  have e12 : IntKind.u64.wrap (0 * 0) = 0 := by decide
  refine walk ?_
  refine wl_y (yl_mul rfl rfl) rfl ?_
  simp only [e1, e2, e3, e4, e5]
  refine walk ?_
  refine wl_y (yl_mul rfl rfl) rfl ?_
  simp only [e4, e6]
  refine walk ?_
  simp only [e4, e7, e10, e11]
  refine wl_y (yl_mul rfl rfl) rfl ?_
  simp only [e8]
  refine walk ?_
  simp only [e7]
  refine wl_y (yl_mul rfl rfl) rfl ?_
  simp only [e12]
  refine walk ?_
  simp only [e7, e10]
  refine wl_y (yl_mul rfl rfl) rfl ?_
  simp only [e5]
  refine walk ?_
  exact wq_ret2 rfl rfl rfl () rfl trivial perm
theorem mul_spec (c : Nat) (hc : c ≤ 1048576) :
    Spec0 Try.prog 93 [.int .u64 1, .int .u64 c] (fun _ => True) (fun F => F) (fun _ : Unit => True) (fun _ => .tuple #[.int .u64 0, .int .u64 c]) (fun _ F => F) := by
  (refine spec_of Try.func93 rfl Try.ntmps93 rfl (fun F w0 hrd => ?_))
  refine walk ?_
  refine call (mul64_spec c hc) ?_
  intro _ _
  refine walk ?_
  exact wq_ret2 rfl rfl rfl () rfl trivial perm
theorem twice_list {A D : List Value} {a z : Value} {n m k off : Nat} (hA : A.length = off) (hk : k ≤ m) :
    (A ++ (List.replicate n a ++ List.replicate m z) ++ D).take (off + n) ++ List.replicate k a ++ (A ++ (List.replicate n a ++ List.replicate m z) ++ D).drop (off + n + k) = A ++ (List.replicate (n + k) a ++ List.replicate (m - k) z) ++ D := by
  have e : A ++ (List.replicate n a ++ List.replicate m z) ++ D = (A ++ List.replicate n a) ++ (List.replicate m z ++ D) := by simp
  have hl : (A ++ List.replicate n a).length = off + n := by simp [hA]
  rw [e, ← hl, List.take_left', ← List.drop_drop, List.drop_left', List.drop_append_of_le_length (by simpa using hk), List.drop_replicate, List.append_assoc, List.append_assoc A, ← List.append_assoc (List.replicate n a), List.replicate_append_replicate] <;> simp
theorem repeat_spec (v : Value) (x : UInt8) (c : Nat) (hc : 1 ≤ c ∧ c ≤ 1048576) :
    Spec0 Try.prog 76 [v, vi c] (Rd v 1 [vb x]) (fun F => F) (fun _ : Value => True) (fun r => r) (fun r F => SlB r (List.replicate c x) :: F) := by
  (refine spec_of Try.func76 rfl Try.ntmps76 rfl (fun F w0 hrd => ?_))
  haveI : RdIn F v 1 ([x].map vb) := ⟨hrd⟩
  refine walk ?_
  refine wif_dec (fun h => absurd h (by omega)) (fun _ => ?_)
  refine walk ?_
  refine wl_y (yl_conv rfl) rfl ?_
  refine walk ?_
  refine wl_y (yl_conv rfl) rfl ?_
  rw [show IntKind.u64.wrap (List.length [x] : Int) = 1 from rfl, show IntKind.u64.wrap (c : Int) = c from wrap_u64 (by omega) (by omega)]
  refine call (mul_spec c hc.2) ?_
  intro _ _
  refine walk ?_
  refine wif_dec (fun h => absurd h (by omega)) (fun _ => ?_)
  refine walk ?_
  intro o hol hon
  refine walk ?_
  obtain ⟨q, rfl⟩ : ∃ q, c = q + 1 := ⟨c - 1, by omega⟩
  rw [Int.toNat_natCast] at hol ⊢
  rw [show min ([x].map vb).length ((List.replicate (q + 1) (0 : UInt8)).map vb).length = 1 from by simp]
  rw [show (List.take ((List.replicate (q + 1) (0 : UInt8)).map vb).length ([x].map vb) ++ List.drop ([x].map vb).length ((List.replicate (q + 1) (0 : UInt8)).map vb)) = List.replicate 1 (vb x) ++ List.replicate (q + 1 - 1) (vb 0) from by simp [List.replicate_succ]]
  refine WC.ex (fun h hs => Sl.cells hon hs) (fun y hy => ?_)
  obtain ⟨b, off, cap, cs⟩ := y
  dsimp only at hy ⊢
  obtain ⟨rfl, hcap, hcs, hta⟩ := hy
  have hlen : (List.replicate 1 (vb x) ++ List.replicate (q + 1 - 1) (vb 0)).length = q + 1 := by simp
  rw [hlen] at hcap hta ⊢
  have hA : (cs.take off).length = off := by rw [List.length_take]; omega
  have hcs0 : cs = cs.take off ++ (List.replicate 1 (vb x) ++ List.replicate (q + 1 - 1) (vb 0)) ++ cs.drop (off + (q + 1)) := by
    rw [← hta, List.append_assoc, ← List.drop_drop, List.take_append_drop, List.take_append_drop]
  have hD : (cs.drop (off + (q + 1))).length = cs.length - (off + (q + 1)) := List.length_drop
  generalize cs.take off = A at *
  generalize cs.drop (off + (q + 1)) = D at *
  refine wc_loop (X := Nat) (fun n => [(7, .slice (some ⟨b, off, none⟩) (q + 1) cap), (8, vi n)]) (fun n => Cells b (A ++ (List.replicate n (vb x) ++ List.replicate (q + 1 - n) (vb 0)) ++ D) :: F)
    (fun n => 1 ≤ n ∧ n ≤ q + 1) (fun n => q + 1 - n) 1 (by omega) envs (by rw [← hcs0]; exact perm) (fun n hn => ?_)
  have hshut : Ent (Cells b (A ++ (List.replicate n (vb x) ++ List.replicate (q + 1 - n) (vb 0)) ++ D) :: F) (Sl (.slice (some ⟨b, off, none⟩) (q + 1) cap) 1 (List.replicate n (vb x) ++ List.replicate (q + 1 - n) (vb 0)) :: F) := by
    have hl : (List.replicate n (vb x) ++ List.replicate (q + 1 - n) (vb 0)).length = q + 1 := by simp; omega
    have := Sl.ofCells (b := b) (off := off) (cap := cap) (cs := A ++ (List.replicate n (vb x) ++ List.replicate (q + 1 - n) (vb 0)) ++ D) (vs := List.replicate n (vb x) ++ List.replicate (q + 1 - n) (vb 0)) (Γ := F) (by omega) (by simp [hD, hA]; omega)
      (by rw [List.append_assoc, ← hA, List.drop_left', List.take_left'] <;> first | rfl | simp)
    rwa [hl] at this
  refine walk ?_
  refine wl_y (yl_lenS rfl) rfl ?_
  refine walk ?_
  refine wif_dec (fun hlt => ?_) (fun hlt => ?_)
  · have hlt : n < q + 1 := by omega
    have hn1 := hn.1
    obtain ⟨k, hk⟩ : ∃ k, k = min n (q + 1 - n) := ⟨_, rfl⟩
    have htw := twice_list (D := D) (a := vb x) (z := vb 0) (n := n) (m := q + 1 - n) (k := k) hA (by omega)
    refine walk ?_
    refine draw ?_; refine dy 0 ?_; refine dy 1 ?_; refine dy 2 ?_; refine dy 4 ?_; refine dy 5 ?_
    refine dy 3 ?_ (y := yl_sliceFrom rfl rfl (by omega) (by omega) (by omega))
    refine dy 6 ?_ (y := yl_sliceTo rfl rfl (by omega) (by omega))
    refine ddx 7 ?_
    refine wl_copyIn (List.replicate k (vb x)) (b := b) (o := off + n) (dl := q + 1 - n) (dc := cap - n) (sl := n) (sc := cap) (ad := ⟨b, off, none⟩) (cs := A ++ (List.replicate n (vb x) ++ List.replicate (q + 1 - n) (vb 0)) ++ D) (by rw [List.length_replicate]; exact hk) (fun w hs j v hj => ?_) (by simp [hA, hD]; omega) (fun v hv => ?_) rfl rfl rfl ?_
    · obtain ⟨T, hT⟩ := hs.cells
      have hjk : j < k := by simpa using (List.getElem?_eq_some_iff.1 hj).1
      have hv : v = vb x := by
        have := (List.getElem?_eq_some_iff.1 hj).2
        rw [← this, List.getElem_replicate]
      rw [add_pos, cell_of_hp hT, hv]
      rw [List.append_assoc, List.getElem?_append_right (by omega), hA, show off + j - off = j by omega, List.append_assoc, List.getElem?_append_left (by simp; omega), List.getElem?_replicate, if_pos (by omega)]
    · rw [List.eq_of_mem_replicate hv]; rfl
    rw [List.length_replicate, htw]
    refine wl_nil ?_
    refine wq_draw ?_
    refine dy 8 ?_
    refine dy 9 ?_
    refine walk ?_
    exact wq_round (n + k) (by omega) (by omega) envs (by rw [show q + 1 - (n + k) = q + 1 - n - k by omega]; exact perm)
  · have hn' : n = q + 1 := by omega
    subst hn'
    refine walk ?_
    refine wq_ret1 rfl rfl _ rfl trivial ?_
    refine Ent.trans hshut ?_
    rw [show q + 1 - (q + 1) = 0 by omega]
    simp only [List.replicate_zero, List.append_nil, SlB, List.map_replicate]
    exact Ent.refl
end Go.Proofs.Ytapgejjjgeiihaa
