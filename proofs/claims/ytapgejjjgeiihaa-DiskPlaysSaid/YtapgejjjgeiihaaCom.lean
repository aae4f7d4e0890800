/- Operations of one statement that may be done in any order: one goal for each that may be the next. No program. -/
import Derived.Test.YtapgejjjgeiihaaEng9
namespace Go.Sl
open Go
section fork
variable {P : Program} {Q : Exit → Act → World → Prop} {w0 : World} {n : Nat} {env : Env} {Γ : List HP} {ops : Array Oper} {fuel : Nat} {L : Obl} {listed : Array Bool}
theorem fork {l : List Nat} (hr : Region.ready .any ops listed = l) (hne : l ≠ [])
    (h : ∀ i ∈ l, ∃ o, ops[i]? = some o ∧ WL P ops [o] (DrawQ P ops fuel L (listed.setIfInBounds i true) Q) w0 n env Γ) : WD P ops Q (fuel + 1) L listed w0 n env Γ := fun a w s ho => by
  refine ⟨ho, fun h0 => absurd (hr ▸ h0) hne, fun j hj => ?_⟩
  rw [hr] at hj
  obtain ⟨o, hi, h1⟩ := h j hj
  exact wpOp_mono (fun a' w' h' => wpAnyL_mono _ _ _ _ _ _ (fun q hq => .inl (List.mem_filter.1 hq).1) h') (wpOp_of_list hi (h1 a w s))
theorem fork2 (i j : Nat) {oi oj : Oper} (h1 : WL P ops [oi] (DrawQ P ops fuel L (listed.setIfInBounds i true) Q) w0 n env Γ)
    (h2 : WL P ops [oj] (DrawQ P ops fuel L (listed.setIfInBounds j true) Q) w0 n env Γ) (hr : Region.ready .any ops listed = [i, j] := by kernel_rfl) (hi : ops[i]? = some oi := by rfl) (hj : ops[j]? = some oj := by rfl) : WD P ops Q (fuel + 1) L listed w0 n env Γ :=
  fork hr (by simp) fun q hq => by
    have : q = i ∨ q = j := by simpa using hq
    rcases this with rfl | rfl
    · exact ⟨_, hi, h1⟩
    · exact ⟨_, hj, h2⟩
theorem fork3 (i j k : Nat) {oi oj ok : Oper} (h1 : WL P ops [oi] (DrawQ P ops fuel L (listed.setIfInBounds i true) Q) w0 n env Γ)
    (h2 : WL P ops [oj] (DrawQ P ops fuel L (listed.setIfInBounds j true) Q) w0 n env Γ)
    (h3 : WL P ops [ok] (DrawQ P ops fuel L (listed.setIfInBounds k true) Q) w0 n env Γ) (hr : Region.ready .any ops listed = [i, j, k] := by kernel_rfl) (hi : ops[i]? = some oi := by rfl) (hj : ops[j]? = some oj := by rfl) (hk : ops[k]? = some ok := by rfl) : WD P ops Q (fuel + 1) L listed w0 n env Γ :=
  fork hr (by simp) fun q hq => by
    have : q = i ∨ q = j ∨ q = k := by simpa using hq
    rcases this with rfl | rfl | rfl
    · exact ⟨_, hi, h1⟩
    · exact ⟨_, hj, h2⟩
    · exact ⟨_, hk, h3⟩
/-- all ways through a piece of code meet -/
theorem wc_join {x : Code} {K : Act → World → Prop} {X : Type} (env' : X → Env) (Γ' : X → List HP) (φ : X → Prop)
    (h : WC P x (Exit.then (fun a w => ∃ x, φ x ∧ St w0 n (env' x) (Γ' x) a w) Q) w0 n env Γ)
    (k : ∀ x, φ x → WQ (Exit.then K Q) .normal w0 n (env' x) (Γ' x)) : WC P x (Exit.then K Q) w0 n env Γ := fun a w s =>
  Code.wp_mono (fun e a w q => by
    cases e with
    | normal => obtain ⟨x, hx, hs⟩ := q; exact k x hx a w hs
    | exit i => exact q
    | goto l => exact q
    | ret => exact q
    | panic c => exact q
    | outgrown => exact q) (h a w s)
end fork
end Go.Sl
