/- several texts, one behind the other -/
import Derived.Test.YtohienhoifgmaaaGreatP10
import Derived.Test.YtohienhoifgmaaaGreatP11
import Derived.Test.YtohienhoifgmaaaGreatP12

section
/- The library's Repeat of one byte; a block, a stripe's chunks. -/
namespace Go.Proofs.YtohienhoifgmaaaGreat
open Go Go.Sl
attribute [local irreducible] Yl WL WC WQ WD

theorem mul64_spec (c : Nat) (hc : c ≤ 1048576) :
    Spec0 Tryz.prog 150 [.int .u64 1, .int .u64 c] (fun _ => True) (fun F => F) (fun _ : Unit => True) (fun _ => .tuple #[.int .u64 0, .int .u64 c]) (fun _ F => F) := by
  (refine spec_of Tryz.func150 rfl Tryz.ntmps150 rfl (fun F w0 hrd => ?_))
  have e1 : IntKind.u64.wrap ((BitVec.ofInt IntKind.u64.bits 1 &&& BitVec.ofInt IntKind.u64.bits 4294967295).toNat : Int) = 1 := by decide
  have e2 : IntKind.u64.wrap ((BitVec.ofInt IntKind.u64.bits (c : Int) &&& BitVec.ofInt IntKind.u64.bits 4294967295).toNat : Int) = c := by
    have h1 : (BitVec.ofInt IntKind.u64.bits (c : Int) &&& BitVec.ofInt IntKind.u64.bits 4294967295).toNat = c := by
      rw [BitVec.toNat_and]
      have h2 : (BitVec.ofInt IntKind.u64.bits (c : Int)).toNat = c := by
        rw [BitVec.toNat_ofInt]
        show (((c : Int) % ((2 ^ 64 : Nat) : Int))).toNat = c
        omega
      have h3 : (BitVec.ofInt IntKind.u64.bits 4294967295).toNat = 2 ^ 32 - 1 := by decide
      rw [h2, h3, Nat.and_two_pow_sub_one_eq_mod]
      omega
    rw [h1]; exact wrap_u64 (by omega) (by omega)
  have e3 : Int.fdiv 1 (2 ^ min (Int.toNat 32) IntKind.u64.bits) = 0 := by decide
  have e4 : Int.fdiv (c : Int) (2 ^ min (Int.toNat 32) IntKind.u64.bits) = 0 := by
    rw [Int.fdiv_eq_ediv_of_nonneg _ (by decide)]
    show (c : Int) / 4294967296 = 0
    omega
  have e5 : IntKind.u64.wrap (1 * (c : Int)) = c := by rw [Int.one_mul]; exact wrap_u64 (by omega) (by omega)
  have e6 : IntKind.u64.wrap (0 * (c : Int)) = 0 := by rw [Int.zero_mul]; decide
  have e7 : IntKind.u64.wrap (0 + 0) = 0 := by decide
  have e8 : IntKind.u64.wrap (1 * 0) = 0 := by decide
  have e10 : Int.fdiv 0 (2 ^ min (Int.toNat 32) IntKind.u64.bits) = 0 := by decide
  have e11 : IntKind.u64.wrap ((BitVec.ofInt IntKind.u64.bits 0 &&& BitVec.ofInt IntKind.u64.bits 4294967295).toNat : Int) = 0 := by decide
  have e12 : IntKind.u64.wrap (0 * 0) = 0 := by decide
  refine walk ?_
  (try simp only [e1, e2, e3, e4]); (try refine wl_y (yl_mul rfl rfl) rfl ?_); (try refine walk ?_)
  (try simp only [e8]); (try refine wl_y (yl_mul rfl rfl) rfl ?_); (try refine walk ?_)
  (try simp only [e1, e2, e3, e4, e5, e6, e7, e8, e10, e11, e12]); (try refine wl_y (yl_mul rfl rfl) rfl ?_); (try refine walk ?_)
  (try simp only [e1, e2, e3, e4, e5, e6, e7, e8, e10, e11, e12]); (try refine wl_y (yl_mul rfl rfl) rfl ?_); (try refine walk ?_)
  (try simp only [e1, e2, e3, e4, e5, e6, e7, e8, e10, e11, e12]); (try refine wl_y (yl_mul rfl rfl) rfl ?_); (try refine walk ?_)
  (try simp only [e1, e2, e3, e4, e5, e6, e7, e8, e10, e11, e12]); (try refine wl_y (yl_mul rfl rfl) rfl ?_); (try refine walk ?_)
  refine wq_ret2 (X := Unit) rfl rfl rfl () ?_ trivial perm
  have hA : (BitVec.ofInt IntKind.u64.bits 1 &&& BitVec.ofInt IntKind.u64.bits 4294967295).toNat = 1 := by decide
  have hB : (2 ^ IntKind.u64.bits : Int).natAbs = 18446744073709551616 := by decide
  have hC : (BitVec.ofInt IntKind.u64.bits (c : Int) &&& BitVec.ofInt IntKind.u64.bits 4294967295).toNat = c := by
    have h2 : (BitVec.ofInt IntKind.u64.bits (c : Int)).toNat = c := by
      rw [BitVec.ofInt_natCast, BitVec.toNat_ofNat]
      show c % 18446744073709551616 = c
      omega
    have h3 : (BitVec.ofInt IntKind.u64.bits 4294967295).toNat = 2 ^ 32 - 1 := by decide
    rw [BitVec.toNat_and, h2, h3, Nat.and_two_pow_sub_one_eq_mod]
    omega
  have hD : Nat.succ 0 / 2 ^ min (Int.toNat 32) (IntKind.bits IntKind.u64) = 0 := by decide
  have hE : (BitVec.ofInt IntKind.u64.bits 0 &&& BitVec.ofInt IntKind.u64.bits 4294967295).toNat = 0 := by decide
  have hG : IntKind.u64.wrap 0 = 0 := by decide
  simp only [hA, hB, hC, hD, hE, hG, show c % 18446744073709551616 = c from by omega, show 1 % 18446744073709551616 = 1 from rfl, Nat.one_mul, Nat.zero_mul, Nat.zero_mod, Nat.mul_zero, Nat.add_zero, show ((0 : Nat) : Int) = 0 from rfl, Int.add_zero, e4, e10]
theorem mul_spec (c : Nat) (hc : c ≤ 1048576) :
    Spec0 Tryz.prog 139 [.int .u64 1, .int .u64 c] (fun _ => True) (fun F => F) (fun _ : Unit => True) (fun _ => .tuple #[.int .u64 0, .int .u64 c]) (fun _ F => F) := by
  (refine spec_of Tryz.func139 rfl Tryz.ntmps139 rfl (fun F w0 hrd => ?_))
  refine walk ?_
  refine call (mul64_spec c hc) ?_
  intro _ _
  refine walk ?_
  exact wq_ret2 rfl rfl rfl () rfl trivial perm
theorem twice_list {A D : List Value} {a z : Value} {n m k off : Nat} (hA : A.length = off) (hk : k ≤ m) :
    (A ++ (List.replicate n a ++ List.replicate m z) ++ D).take (off + n) ++ List.replicate k a ++ (A ++ (List.replicate n a ++ List.replicate m z) ++ D).drop (off + n + k) = A ++ (List.replicate (n + k) a ++ List.replicate (m - k) z) ++ D := by
  have e : A ++ (List.replicate n a ++ List.replicate m z) ++ D = (A ++ List.replicate n a) ++ (List.replicate m z ++ D) := by simp
  have hl : (A ++ List.replicate n a).length = off + n := by simp [hA]
  rw [e, ← hl, List.take_left', ← List.drop_drop, List.drop_left', List.drop_append_of_le_length (by simpa using hk), List.drop_replicate, List.append_assoc, List.append_assoc A, ← List.append_assoc (List.replicate n a), List.replicate_append_replicate] <;> simp
theorem repeat_spec (v : Value) (x : UInt8) (c : Nat) (hc : 1 ≤ c ∧ c ≤ 1048576) :
    Spec0 Tryz.prog 88 [v, vi c] (Rd v 1 [vb x]) (fun F => F) (fun _ : Value => True) (fun r => r) (fun r F => SlB r (List.replicate c x) :: F) := by
  (refine spec_of Tryz.func88 rfl Tryz.ntmps88 rfl (fun F w0 hrd => ?_))
  haveI : RdIn F v 1 ([x].map vb) := ⟨hrd⟩
  refine walk ?_
  refine wif_dec (fun h => absurd h (by omega)) (fun _ => ?_)
  refine walk ?_
  rw [show IntKind.u64.wrap (List.length [x] : Int) = 1 from rfl]
  (try rw [show IntKind.u64.wrap (c : Int) = c from wrap_u64 (by omega) (by omega)])
  refine call (mul_spec c hc.2) ?_
  intro _ _
  refine walk ?_
  refine wif_dec (fun h => absurd h (by omega)) (fun _ => ?_)
  refine walk ?_
  intro o hol hon
  refine walk ?_
  obtain ⟨q, rfl⟩ : ∃ q, c = q + 1 := ⟨c - 1, by omega⟩
  rw [Int.toNat_natCast] at hol ⊢
  rw [show min ([x].map vb).length ((List.replicate (q + 1) (0 : UInt8)).map vb).length = 1 from by simp]
  rw [show (List.take ((List.replicate (q + 1) (0 : UInt8)).map vb).length ([x].map vb) ++ List.drop ([x].map vb).length ((List.replicate (q + 1) (0 : UInt8)).map vb)) = List.replicate 1 (vb x) ++ List.replicate (q + 1 - 1) (vb 0) from by simp [List.replicate_succ]]
  refine WC.ex (fun h hs => Sl.cells hon hs) (fun y hy => ?_)
  obtain ⟨b, off, cap, cs⟩ := y
  dsimp only at hy ⊢
  obtain ⟨rfl, hcap, hcs, hta⟩ := hy
  have hlen : (List.replicate 1 (vb x) ++ List.replicate (q + 1 - 1) (vb 0)).length = q + 1 := by simp
  rw [hlen] at hcap hta ⊢
  have hA : (cs.take off).length = off := by rw [List.length_take]; omega
  have hcs0 : cs = cs.take off ++ (List.replicate 1 (vb x) ++ List.replicate (q + 1 - 1) (vb 0)) ++ cs.drop (off + (q + 1)) := by
    rw [← hta, List.append_assoc, ← List.drop_drop, List.take_append_drop, List.take_append_drop]
  have hD : (cs.drop (off + (q + 1))).length = cs.length - (off + (q + 1)) := List.length_drop
  generalize cs.take off = A at *
  generalize cs.drop (off + (q + 1)) = D at *
  refine wc_loop (X := Nat) (fun n => [(7, .slice (some ⟨b, off, none⟩) (q + 1) cap), (8, vi n)]) (fun n => Cells b (A ++ (List.replicate n (vb x) ++ List.replicate (q + 1 - n) (vb 0)) ++ D) :: F)
    (fun n => 1 ≤ n ∧ n ≤ q + 1) (fun n => q + 1 - n) 1 (by omega) envs (by rw [← hcs0]; exact perm) (fun n hn => ?_)
  have hshut : Ent (Cells b (A ++ (List.replicate n (vb x) ++ List.replicate (q + 1 - n) (vb 0)) ++ D) :: F) (Sl (.slice (some ⟨b, off, none⟩) (q + 1) cap) 1 (List.replicate n (vb x) ++ List.replicate (q + 1 - n) (vb 0)) :: F) := by
    have hl : (List.replicate n (vb x) ++ List.replicate (q + 1 - n) (vb 0)).length = q + 1 := by simp; omega
    have := Sl.ofCells (b := b) (off := off) (cap := cap) (cs := A ++ (List.replicate n (vb x) ++ List.replicate (q + 1 - n) (vb 0)) ++ D) (vs := List.replicate n (vb x) ++ List.replicate (q + 1 - n) (vb 0)) (Γ := F) (by omega) (by simp [hD, hA]; omega)
      (by rw [List.append_assoc, ← hA, List.drop_left', List.take_left'] <;> first | rfl | simp)
    rwa [hl] at this
  refine walk ?_
  refine wl_y (yl_lenS rfl) rfl ?_
  refine walk ?_
  refine wif_dec (fun hlt => ?_) (fun hlt => ?_)
  · have hlt : n < q + 1 := by omega
    have hn1 := hn.1
    obtain ⟨k, hk⟩ : ∃ k, k = min n (q + 1 - n) := ⟨_, rfl⟩
    have htw := twice_list (D := D) (a := vb x) (z := vb 0) (n := n) (m := q + 1 - n) (k := k) hA (by omega)
    refine walk ?_
    refine draw ?_; refine dy 0 ?_; refine dy 1 ?_; refine dy 2 ?_; refine dy 4 ?_; refine dy 5 ?_
    refine dy 3 ?_ (y := yl_sliceFrom rfl rfl (by omega) (by omega) (by omega))
    refine dy 6 ?_ (y := yl_sliceTo rfl rfl (by omega) (by omega))
    refine ddx 7 ?_
    refine wl_copyIn (List.replicate k (vb x)) (b := b) (o := off + n) (dl := q + 1 - n) (dc := cap - n) (sl := n) (sc := cap) (ad := ⟨b, off, none⟩) (cs := A ++ (List.replicate n (vb x) ++ List.replicate (q + 1 - n) (vb 0)) ++ D) (by rw [List.length_replicate]; exact hk) (fun w hs j v hj => ?_) (by simp [hA, hD]; omega) (fun v hv => ?_) rfl rfl rfl ?_
    · obtain ⟨T, hT⟩ := hs.cells
      have hjk : j < k := by simpa using (List.getElem?_eq_some_iff.1 hj).1
      have hv : v = vb x := by
        have := (List.getElem?_eq_some_iff.1 hj).2
        rw [← this, List.getElem_replicate]
      rw [add_pos, cell_of_hp hT, hv]
      rw [List.append_assoc, List.getElem?_append_right (by omega), hA, show off + j - off = j by omega, List.append_assoc, List.getElem?_append_left (by simp; omega), List.getElem?_replicate, if_pos (by omega)]
    · rw [List.eq_of_mem_replicate hv]; rfl
    rw [List.length_replicate, htw]
    refine wl_nil ?_
    refine wq_draw ?_
    refine dy 8 ?_
    refine dy 9 ?_
    refine walk ?_
    exact wq_round (n + k) (by omega) (by omega) envs (by rw [show q + 1 - (n + k) = q + 1 - n - k by omega]; exact perm)
  · have hn' : n = q + 1 := by omega
    subst hn'
    refine walk ?_
    refine wq_ret1 rfl rfl _ rfl trivial ?_
    refine Ent.trans hshut ?_
    rw [show q + 1 - (q + 1) = 0 by omega]
    simp only [List.replicate_zero, List.append_nil, SlB, List.map_replicate]
    exact Ent.refl
end Go.Proofs.YtohienhoifgmaaaGreat
end

section
/- The library's Clone and Equal of bytes, walked. -/
namespace Go.Proofs.YtohienhoifgmaaaGreat
open Go Go.Sl
attribute [local irreducible] Yl WL WC WQ WD

set_option maxHeartbeats 1000000 in
theorem clone_spec (v : Value) (b : Bytes) (hb : b.length ≤ 1099511627776) :
    Spec0 Tryz.prog 138 [v] (Rd v 1 (b.map vb)) (fun F => F) (fun r : Value => isNil r = isNil v) (fun r => r) (fun r F => SlB r b :: F) := by
  (refine spec_of Tryz.func138 rfl Tryz.ntmps138 rfl (fun F w0 hrd => ?_))
  haveI : RdIn F v 1 (b.map vb) := ⟨hrd⟩
  refine walk ?_
  refine WIf.both (fun hc => ?_) (fun hc => ?_)
  · refine walk ?_
    refine WQ.ex (X := Unit) (φ := fun _ => v = .slice none 0 0 ∧ b = []) (Γ' := fun _ => F) (fun h hs => ⟨(), ?_, hs⟩) (fun _ hv => ?_)
    · have h1 := hrd h hs
      have h2 := (isNil_iff h1).1 hc
      have h3 := h1.len
      subst h2
      refine ⟨rfl, ?_⟩
      simp [slLen] at h3
      exact List.eq_nil_of_length_eq_zero h3.symm
    · obtain ⟨rfl, rfl⟩ := hv
      exact wq_ret1 rfl rfl _ rfl rfl (sl_nil 1)
  · refine walk ?_
    intro v' hvl hvn
    refine walk ?_
    intro s' hsl hsn
    refine walk ?_
    refine wq_ret1 rfl rfl _ rfl ?_ Ent.refl
    rw [hsn, hvn, hc]; rfl

set_option maxHeartbeats 2000000 in
theorem equal_spec (v1 v2 : Value) (b1 b2 : Bytes) (hb : b1.length ≤ 1099511627776) :
    Spec0 Tryz.prog 94 [v1, v2] (fun h => Rd v1 1 (b1.map vb) h ∧ Rd v2 1 (b2.map vb) h) (fun F => F) (fun _ : Unit => True) (fun _ => .bool (decide (b1 = b2))) (fun _ F => F) := by
  (refine spec_of Tryz.func94 rfl Tryz.ntmps94 rfl (fun F w0 hrd => ?_))
  haveI : RdIn F v1 1 (b1.map vb) := ⟨fun h hs => (hrd h hs).1⟩
  haveI : RdIn F v2 1 (b2.map vb) := ⟨fun h hs => (hrd h hs).2⟩
  refine walk ?_
  refine wif_dec (fun hc => ?_) (fun hc => ?_) <;> refine walk ?_
  · have : b1 ≠ b2 := by intro e; subst e; exact hc rfl
    exact wq_ret1 rfl rfl () (by simp [this]) trivial Ent.refl
  · have hl : b1.length = b2.length := by omega
    refine wc_loop (X := Nat) (fun k => [(0, v1), (1, v2), (12, vi (b1.length : Int)), (13, vi k)]) (fun _ => F) (fun k => k ≤ b1.length ∧ b1.take k = b2.take k) (fun k => b1.length - k) 0 ⟨by omega, rfl⟩
      ⟨rfl, rfl, by simp [Env.get, Nat.beq], rfl, trivial⟩ Ent.refl (fun k hk => ?_)
    obtain ⟨hk, he⟩ := hk
    refine walk ?_
    refine wif_dec (fun hlt => ?_) (fun hlt => ?_) <;> refine walk ?_
    · have hlt : k < b1.length := by omega
      (refine draw ?_; refine dy 0 ?_; refine dy 1 ?_; refine dy 2 ?_; refine dy 3 ?_; refine dy 4 ?_; refine dy 5 ?_; refine dy 6 ?_; refine dy 7 ?_; refine dy 8 ?_; refine walk ?_)
      refine wif_dec (fun hc => ?_) (fun hc => ?_) <;> refine walk ?_
      · refine wq_ret1 rfl rfl () ?_ trivial Ent.refl
        have : b1 ≠ b2 := by intro e; subst e; exact hc rfl
        simp [this]
      · have h1 : b1[k] = b2[k] := UInt8.toNat_inj.1 (by omega)
        refine wq_round (k + 1) ⟨by omega, ?_⟩ (by omega) ⟨rfl, rfl, rfl, rfl, trivial⟩ Ent.refl
        rw [List.take_succ_eq_append_getElem hlt, List.take_succ_eq_append_getElem (by omega), he, h1]
    · refine wq_ret1 rfl rfl () ?_ trivial Ent.refl
      have e1 : b1.take k = b1 := List.take_of_length_le (by omega)
      have e2 : b2.take k = b2 := List.take_of_length_le (by omega)
      rw [e1, e2] at he
      simp [he]
end Go.Proofs.YtohienhoifgmaaaGreat
end
