/- What arguments read as, where their texts are of a size that there can be. No program. -/
import Derived.Test.YtihkfklpoliilaaDoorEng8
namespace Go.Sl
open Go Go.RowKit Go.ChangeShapes Go.WideShapes
section w
variable {P : Program}
/-- what a type's values read as, as long as no text, no row is longer than the reach -/
def RdrW (P : Program) (t : TypeId) (α : Type) (R : α → List Value → Hp → Prop) : Prop :=
  ∀ {H : Type} (enc : TypeId × Value → H) (W : World) (fuel : Nat) (cs : List Value) (x : DataW H × List MemPlace),
    DataW.trod enc P W 0 (fun _ => true) true fuel t cs = some x → (∀ w ∈ x.1.weights P t, w ≤ reachBytes) → ∃ y : α, R y cs (hpOf W)
theorem mem_weightsAll {H : Type} {e : TypeId} {d : DataW H} {w : Nat} : ∀ {l : List (DataW H)}, d ∈ l → w ∈ d.weights P e → w ∈ DataW.weightsAll P e l
  | [], h, _ => by cases h
  | x :: r, h, hw => by
    unfold DataW.weightsAll
    rcases List.mem_cons.1 h with rfl | h
    · exact List.mem_append.2 (.inl hw)
    · exact List.mem_append.2 (.inr (mem_weightsAll h hw))
theorem rdrW_slice {t e : TypeId} {k : Nat} {α : Type} {R : α → List Value → Hp → Prop} [u : Und P t (.slice e)] (hk : P.cellsOf e = k) (hk0 : 0 < k) (hR : RdrW P e α R) :
    RdrW P t (List α) (fun xs cs h => ∃ v, cs = [v] ∧ ∃ vs, Rd v k vs h ∧ slLen v = xs.length ∧ xs.length ≤ 9223372036854775807 ∧ ∀ i (hi : i < xs.length), R xs[i] ((vs.drop (i * k)).take k) h) := by
  intro H enc W fuel cs x h hwx
  rcases DataW.trod_slice u.fact h with ⟨rfl, _⟩ | ⟨a, len, cap, elems, rest, n, _, rfl, rfl, _, hlc, hcap, hel, hget, _, _⟩
  · exact ⟨[], _, rfl, [], .inl ⟨rfl, rfl⟩, rfl, by simp, fun i hi => by simp at hi⟩
  · rw [hk] at hget
    by_cases hl0 : len = 0
    · subst hl0
      exact ⟨[], _, rfl, [], .inr (.inl ⟨a, cap, rfl, rfl⟩), rfl, by simp, fun i hi => by simp at hi⟩
    · have helem : ∀ i, i < len → ∃ ci y, W.cells? 0 (a.add (i * k)) k = some ci ∧ R y ci (hpOf W) := fun i hi => by
        have hi2 : elems[i]? = some elems[i] := by simp [hel, hi]
        have h1 := hget i hi
        rw [hi2] at h1
        cases hc : W.cells? 0 (a.add (i * k)) k with
        | none => rw [hc] at h1; simp at h1
        | some ci =>
          rw [hc] at h1
          obtain ⟨y, hy⟩ := hR enc W n ci _ h1 (fun w hw => hwx w (by
            unfold DataW.weights
            rw [u.fact]
            exact List.mem_cons_of_mem _ (List.mem_append.2 (.inl (mem_weightsAll (List.mem_map.2 ⟨_, List.getElem_mem (by omega), rfl⟩) hw)))))
          exact ⟨ci, y, rfl, hy⟩
      -- the block
      obtain ⟨c0, y0, hc0, _⟩ := helem 0 (by omega)
      obtain ⟨hl0', hg0⟩ := cells_some hc0
      have h00 := hg0 0 hk0
      rw [Nat.zero_mul] at h00
      have h00' : W.cell? a = some c0[0] := by
        have : (a.add 0).add 0 = a := rfl
        rw [this] at h00
        rw [h00]; simp [hl0', hk0]
      obtain ⟨hspot, row, T, fr, hrow, _⟩ := cell_block h00'
      have ha : a = ⟨a.block, a.off, none⟩ := by cases a; simp_all
      have hcell : ∀ m, m < len * k → row[a.off + m]? ≠ none := fun m hm => by
        have hi : m / k < len := Nat.div_lt_of_lt_mul (by rw [Nat.mul_comm]; exact hm)
        obtain ⟨ci, y, hci, _⟩ := helem (m / k) hi
        obtain ⟨hl1, hg1⟩ := cells_some hci
        have h1 := hg1 (m % k) (Nat.mod_lt _ hk0)
        have h2 : (a.add (m / k * k)).add (m % k) = ⟨a.block, a.off + m, none⟩ := by
          rw [ha, add_pos, add_pos]; simp only [Nat.add_assoc]; rw [Nat.mul_comm, Nat.div_add_mod]
        rw [h2, cell_of_hp hrow] at h1
        rw [h1]; simp [hl1, Nat.mod_lt _ hk0]
      have hlen : a.off + len * k ≤ row.length := by
        have hpos : 0 < len * k := Nat.mul_pos (by omega) hk0
        have := hcell (len * k - 1) (by omega)
        have h2 : a.off + (len * k - 1) < row.length := by
          rcases Nat.lt_or_ge (a.off + (len * k - 1)) row.length with h | h
          · exact h
          · exact absurd (List.getElem?_eq_none h) this
        omega
      let vs := (row.drop a.off).take (len * k)
      have hvl : vs.length = len * k := by simp [vs]; omega
      refine ⟨List.ofFn fun i : Fin len => (helem i.1 i.2).choose_spec.choose, _, rfl, vs, .inr (.inr ⟨a.block, a.off, len, cap, row, T, fr, by rw [← ha], hlc, hvl, rfl, hrow⟩), by simp [slLen], by simp [maxLen] at hcap ⊢; omega, fun i hi => ?_⟩
      have hi' : i < len := by simpa using hi
      have hspec := (helem i hi').choose_spec.choose_spec
      have hx : (List.ofFn fun i : Fin len => (helem i.1 i.2).choose_spec.choose)[i] = (helem i hi').choose_spec.choose := by simp
      rw [hx]
      have hc : (vs.drop (i * k)).take k = (helem i hi').choose := by
        obtain ⟨hl1, hg1⟩ := cells_some hspec.1
        apply List.ext_getElem?
        intro j
        by_cases hj : j < k
        · have h1 := hg1 j hj
          have h2 : (a.add (i * k)).add j = ⟨a.block, a.off + (i * k + j), none⟩ := by rw [ha, add_pos, add_pos]; simp [Nat.add_assoc]
          rw [h2, cell_of_hp hrow] at h1
          have h3 : i * k + j < len * k := by
            have : i * k + k ≤ len * k := by rw [← Nat.succ_mul]; exact Nat.mul_le_mul_right _ hi'
            omega
          rw [List.getElem?_take, if_pos hj, List.getElem?_drop, List.getElem?_take, if_pos h3, List.getElem?_drop, h1]
        · rw [List.getElem?_take, if_neg hj, List.getElem?_eq_none (by omega)]
      rw [hc]
      exact hspec.2

/-- a slice of structs, each a function's cells -/
theorem rdrW_slicef {t e : TypeId} {k : Nat} {α : Type} {f : α → List Value} {ψ : α → Hp → Prop} [u : Und P t (.slice e)] (hk : P.cellsOf e = k) (hk0 : 0 < k) (hR : RdrW P e α (fun x cs h => cs = f x ∧ ψ x h)) :
    RdrW P t (List α) (fun xs cs h => ∃ v, cs = [v] ∧ Rd v k (xs.flatMap f) h ∧ xs.length ≤ 9223372036854775807 ∧ ∀ x ∈ xs, ψ x h) := by
  intro H enc W fuel cs x h hwx
  obtain ⟨xs, v, h1, vs, h2, h3, h4, h5⟩ := rdrW_slice (t := t) (P := P) hk hk0 (@hR) enc W fuel cs x h hwx
  have hl : vs.length = xs.length * k := by have := h2.len; rw [h3] at this; exact this.symm
  have hv : vs = xs.flatMap f := flat_of xs vs hl fun i hi => (h5 i hi).1
  refine ⟨xs, v, h1, hv ▸ h2, h4, fun y hy => ?_⟩
  obtain ⟨i, hi, rfl⟩ := List.getElem_of_mem hy
  exact (h5 i hi).2
/-- a text: as long as it may be -/
theorem rdrW_string {t : TypeId} [u : Und P t .string] : RdrW P t ByteArray (fun s cs _ => cs = [.string s] ∧ s.size ≤ reachBytes) := by
  intro H enc W fuel cs x h hwx
  obtain ⟨s, h1, rfl, _⟩ := DataW.trod_string u.fact h
  refine ⟨s, h1, ?_⟩
  have := hwx s.data.toList.length (by unfold DataW.weights; exact List.mem_singleton.2 rfl)
  simpa using this
theorem mem_weightsEach {H : Type} {w : Nat} : ∀ {ts : List TypeId} {ds : List (DataW H)} {i : Nat} {t : TypeId} {d : DataW H}, ts[i]? = some t → ds[i]? = some d → w ∈ d.weights P t → w ∈ DataW.weightsEach P ts ds
  | [], _, _, _, _, h, _, _ => by simp at h
  | _ :: _, [], _, _, _, _, h, _ => by simp at h
  | t0 :: ts, d0 :: ds, 0, t, d, h1, h2, hw => by
    simp at h1 h2; subst h1 h2
    unfold DataW.weightsEach
    exact List.mem_append.2 (.inl hw)
  | t0 :: ts, d0 :: ds, i + 1, t, d, h1, h2, hw => by
    unfold DataW.weightsEach
    exact List.mem_append.2 (.inr (mem_weightsEach (i := i) (by simpa using h1) (by simpa using h2) hw))
/-- a struct: each field as its type reads -/
theorem rdrW_struct {t : TypeId} {fs : Array Field} (hu : P.underlying t = some (.struct fs)) {H : Type} {enc : TypeId × Value → H} {W : World} {fuel : Nat} {cs : List Value} {x : DataW H × List MemPlace}
    (h : DataW.trod enc P W 0 (fun _ => true) true fuel t cs = some x) (hwx : ∀ w ∈ x.1.weights P t, w ≤ reachBytes) :
    cs.length = P.cellsOf t ∧ ∃ n, ∀ (i : Nat) (f : Field), fs[i]? = some f → ∃ y, DataW.trod enc P W 0 (fun _ => true) true n f.type ((cs.drop f.offset).take (P.cellsOf f.type)) = some y ∧ ∀ w ∈ y.1.weights P f.type, w ≤ reachBytes := by
  obtain ⟨xs, n, _, rfl, h1, h2, h3⟩ := DataW.trod_struct hu h
  refine ⟨h1, n, fun i f hf => ?_⟩
  have hi : i < xs.length := by rw [h2]; exact (Array.getElem?_eq_some_iff.1 hf).1
  refine ⟨xs[i], by rw [h3 i f hf]; simp [hi], fun w hw => hwx w ?_⟩
  unfold DataW.weights
  rw [hu]
  exact mem_weightsEach (i := i) (t := f.type) (d := xs[i].1) (by rw [List.getElem?_map, Array.getElem?_toList, hf]; rfl) (by rw [List.getElem?_map]; simp [hi]) hw
theorem trodAll_splitW {H : Type} {enc : TypeId × Value → H} {t : TypeId} {ts : List TypeId} {W : World} {vs : List Value} {ds : List (DataW H)} {ps : List MemPlace} (h : DataW.TrodAll enc P W 0 (fun _ => true) true (t :: ts) vs ds ps) :
    ∃ v vs' ds' q fuel x, vs = v :: vs' ∧ ds = x.1 :: ds' ∧ DataW.trod enc P W 0 (fun _ => true) true fuel t v.cells.toList = some x ∧ DataW.TrodAll enc P W 0 (fun _ => true) true ts vs' ds' q := by
  cases vs with
  | nil => cases ds <;> exact h.elim
  | cons v vs =>
    cases ds with
    | nil => exact h.elim
    | cons d ds =>
      obtain ⟨p, q, ⟨fuel, h1⟩, h2, _⟩ := h
      exact ⟨v, vs, ds, q, fuel, _, rfl, rfl, h1, h2⟩
theorem wgt_at {H : Type} {ts : List TypeId} {ds : List (DataW H)} (h : (DataW.weightsEach P ts ds).all (· ≤ reachBytes) = true) {i : Nat} {t : TypeId} {d : DataW H} (ht : ts[i]? = some t) (hd : ds[i]? = some d) : ∀ w ∈ d.weights P t, w ≤ reachBytes := fun w hw => by
  have := List.all_eq_true.1 h w (mem_weightsEach ht hd hw)
  simpa using this
theorem argW_slice {H : Type} {enc : TypeId × Value → H} {W : World} {r : Reach} {b0 : Nat} {t : TypeId} {v : Value} {fuel : Nat} {x : DataW H × List MemPlace} {e : TypeId} {α : Type} {R : α → List Value → Hp → Prop} [u : Und P t (.slice e)] (hR : RdrW P t α R) (hok : Value.okWide P W r b0 t v) (h : DataW.trod enc P W 0 (fun _ => true) true fuel t v.cells.toList = some x)
    (hwx : ∀ w ∈ x.1.weights P t, w ≤ reachBytes) : ∃ y : α, R y [v] (hpOf W) := by
  obtain ⟨a, l, c, rfl⟩ := okWide_slice u.fact hok
  exact hR enc W fuel _ x h hwx
theorem argW_struct {H : Type} {enc : TypeId × Value → H} {W : World} {r : Reach} {b0 : Nat} {t : TypeId} {v : Value} {fuel : Nat} {x : DataW H × List MemPlace} {fs : Array Field} {α : Type} {R : α → List Value → Hp → Prop} (u : P.underlying t = some (.struct fs)) (hR : RdrW P t α R) (hok : Value.okWide P W r b0 t v) (h : DataW.trod enc P W 0 (fun _ => true) true fuel t v.cells.toList = some x)
    (hwx : ∀ w ∈ x.1.weights P t, w ≤ reachBytes) : ∃ (y : α) (cs : List Value), v = .agg cs.toArray ∧ R y cs (hpOf W) := by
  obtain ⟨a, rfl, _⟩ := okWide_struct u hok
  obtain ⟨y, hy⟩ := hR enc W fuel _ x h hwx
  exact ⟨y, a.toList, rfl, hy⟩
end w
end Go.Sl
