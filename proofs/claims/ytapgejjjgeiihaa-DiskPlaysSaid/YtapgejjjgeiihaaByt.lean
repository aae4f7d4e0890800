/- The library's Clone and Equal of bytes, walked. -/
import Derived.Test.YtapgejjjgeiihaaTab
namespace Go.Proofs.Ytapgejjjgeiihaa
open Go Go.Sl
attribute [local irreducible] Yl WL WC WQ WD

set_option maxHeartbeats 1000000 in
theorem clone_spec (v : Value) (b : Bytes) (hb : b.length ≤ 1099511627776) :
    Spec0 Try.prog 55 [v] (Rd v 1 (b.map vb)) (fun F => F) (fun r : Value => isNil r = isNil v) (fun r => r) (fun r F => SlB r b :: F) := by
  (refine spec_of Try.func55 rfl Try.ntmps55 rfl (fun F w0 hrd => ?_))
  haveI : RdIn F v 1 (b.map vb) := ⟨hrd⟩
  refine walk ?_
  refine WIf.both (fun hc => ?_) (fun hc => ?_)
  · refine walk ?_
    refine WQ.ex (X := Unit) (φ := fun _ => v = .slice none 0 0 ∧ b = []) (Γ' := fun _ => F) (fun h hs => ⟨(), ?_, hs⟩) (fun _ hv => ?_)
    · have h1 := hrd h hs
      have h2 := (isNil_iff h1).1 hc
      have h3 := h1.len
      subst h2
      refine ⟨rfl, ?_⟩
      simp [slLen] at h3
      exact List.eq_nil_of_length_eq_zero h3.symm
    · obtain ⟨rfl, rfl⟩ := hv
      exact wq_ret1 rfl rfl _ rfl rfl (sl_nil 1)
  · refine walk ?_
    intro v' hvl hvn
    refine walk ?_
    intro s' hsl hsn
    refine walk ?_
    refine wq_ret1 rfl rfl _ rfl ?_ Ent.refl
    rw [hsn, hvn, hc]; rfl

set_option maxHeartbeats 2000000 in
theorem equal_spec (v1 v2 : Value) (b1 b2 : Bytes) (hb : b1.length ≤ 1099511627776) :
    Spec0 Try.prog 24 [v1, v2] (fun h => Rd v1 1 (b1.map vb) h ∧ Rd v2 1 (b2.map vb) h) (fun F => F) (fun _ : Unit => True) (fun _ => .bool (decide (b1 = b2))) (fun _ F => F) := by
  (refine spec_of Try.func24 rfl Try.ntmps24 rfl (fun F w0 hrd => ?_))
  haveI : RdIn F v1 1 (b1.map vb) := ⟨fun h hs => (hrd h hs).1⟩
  haveI : RdIn F v2 1 (b2.map vb) := ⟨fun h hs => (hrd h hs).2⟩
  refine walk ?_
  refine wif_dec (fun hc => ?_) (fun hc => ?_) <;> refine walk ?_
  · have : b1 ≠ b2 := by intro e; subst e; exact hc rfl
    exact wq_ret1 rfl rfl () (by simp [this]) trivial Ent.refl
  · have hl : b1.length = b2.length := by omega
    refine wc_loop (X := Nat) (fun k => [(0, v1), (1, v2), (12, vi (b1.length : Int)), (13, vi k)]) (fun _ => F) (fun k => k ≤ b1.length ∧ b1.take k = b2.take k) (fun k => b1.length - k) 0 ⟨by omega, rfl⟩
      ⟨rfl, rfl, by simp [Env.get, Nat.beq], rfl, trivial⟩ Ent.refl (fun k hk => ?_)
    obtain ⟨hk, he⟩ := hk
    refine walk ?_
    refine wif_dec (fun hlt => ?_) (fun hlt => ?_) <;> refine walk ?_
    · have hlt : k < b1.length := by omega
      (refine draw ?_; refine dy 0 ?_; refine dy 1 ?_; refine dy 2 ?_; refine dy 3 ?_; refine dy 4 ?_; refine dy 5 ?_; refine dy 6 ?_; refine dy 7 ?_; refine dy 8 ?_; refine walk ?_)
      refine wif_dec (fun hc => ?_) (fun hc => ?_) <;> refine walk ?_
      · refine wq_ret1 rfl rfl () ?_ trivial Ent.refl
        have : b1 ≠ b2 := by intro e; subst e; exact hc rfl
        simp [this]
      · have h1 : b1[k] = b2[k] := UInt8.toNat_inj.1 (by omega)
        refine wq_round (k + 1) ⟨by omega, ?_⟩ (by omega) ⟨rfl, rfl, rfl, rfl, trivial⟩ Ent.refl
        rw [List.take_succ_eq_append_getElem hlt, List.take_succ_eq_append_getElem (by omega), he, h1]
    · refine wq_ret1 rfl rfl () ?_ trivial Ent.refl
      have e1 : b1.take k = b1 := List.take_of_length_le (by omega)
      have e2 : b2.take k = b2 := List.take_of_length_le (by omega)
      rw [e1, e2] at he
      simp [he]
end Go.Proofs.Ytapgejjjgeiihaa
