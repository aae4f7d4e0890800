/- Segments, as the program has them. -/
import Derived.Test.YtohienhoifgmaaaGreatP11
import Derived.Test.YtohienhoifgmaaaGreatP29
import Derived.Test.YtohienhoifgmaaaGreatP31
import Derived.Test.YtohienhoifgmaaaGreatP17

namespace Go.Proofs.YtohienhoifgmaaaGreat
open Go Go.Sl
attribute [local irreducible] Yl WL WC WQ WD
abbrev tsegCells (s : Seg) : List Value := [vi s.state, vi s.live, .int .u64 s.born]
instance : FLen tsegCells 3 := ⟨fun _ => rfl⟩
def TblAt (p : Nat) (t : Tbl) : HP := fun h => ∃ v, Sat (Cells p [v] :: Sl v 3 (t.flatMap tsegCells) :: []) h
theorem TblAt.opened {p : Nat} {t : Tbl} {Γ : List HP} {h : Hp} (hs : Sat (TblAt p t :: Γ) h) : ∃ v : Value, True ∧ Sat (Cells p [v] :: Sl v 3 (t.flatMap tsegCells) :: Γ) h := by
  obtain ⟨v, hv⟩ := Sat.ex.1 hs
  exact ⟨v, trivial, Sat.flat.1 hv⟩
theorem TblAt.shut {p : Nat} {t : Tbl} {Γ : List HP} (v : Value) : Ent (Cells p [v] :: Sl v 3 (t.flatMap tsegCells) :: Γ) (TblAt p t :: Γ) := fun _ hs => Sat.ex.2 ⟨v, Sat.flat.2 hs⟩
theorem tflat_len (t : Tbl) : (t.flatMap tsegCells).length = 3 * t.length := by
  induction t with
  | nil => rfl
  | cons s t ih => rw [List.flatMap_cons, List.length_append, ih]; simp; omega
theorem thas_spec (p : Nat) (t : Tbl) (i : Int) (_ht : t.length ≤ 65536) :
    Spec0 Tryz.prog 104 [vp p, vi i] (fun _ => True) (fun F => TblAt p t :: F) (fun _ : Unit => True) (fun _ => .bool (t.has i)) (fun _ F => TblAt p t :: F) := by
  (refine spec_of Tryz.func104 rfl Tryz.ntmps104 rfl (fun F w0 hrd => ?_))
  (first | refine WC.ex (fun y => TblAt.opened) (fun v hv => ?_) | refine WL.ex (fun y => TblAt.opened) (fun v hv => ?_) | refine WQ.ex (fun y => TblAt.opened) (fun v hv => ?_))
  have hl := tflat_len t
  refine walk ?_
  (first | (refine wif_cut 8 15 (.bool (decide (0 ≤ i ∧ i < t.length))) (fun K => ?_) ?_; refine wif_dec (fun hc => ?_) (fun hc => ?_); (iterate 8 ((first | (refine wl_guard_yes rfl rfl rfl ?_; refine wl_ya ?_) | (refine wl_guard_no rfl rfl rfl rfl rfl ?_) | (refine wl_ya ?_)))); exact K true _ _ rfl (by (repeat (first | exact trivial | refine And.intro (by first | exact trivial | rfl) ?_))) (by simp [hc]) (by first | rfl | (simp; done) | (simp [hc]; done) | (simp [hc]; omega) | (simp; omega)); (iterate 8 ((first | (refine wl_guard_yes rfl rfl rfl ?_; refine wl_ya ?_) | (refine wl_guard_no rfl rfl rfl rfl rfl ?_) | (refine wl_ya ?_)))); exact K false _ _ rfl (by (repeat (first | exact trivial | refine And.intro (by first | exact trivial | rfl) ?_))) (by simp [hc]) (by first | rfl | (simp; done) | (simp [hc]; done) | (simp [hc]; omega) | (simp; omega)); try (refine wl_nil ?_)) | (refine wif_cutn 8 15 (.bool (decide (0 ≤ i ∧ i < t.length))) (fun K => ?_) ?_; refine wif_dec (fun hc => ?_) (fun hc => ?_); (iterate 8 ((first | (refine wl_guard_yes rfl rfl rfl ?_; refine wl_ya ?_) | (refine wl_guard_no rfl rfl rfl rfl rfl ?_) | (refine wl_ya ?_)))); exact K false _ _ rfl (by (repeat (first | exact trivial | refine And.intro (by first | exact trivial | rfl) ?_))) (by simp [hc]) (by first | rfl | (simp; done) | (simp [hc]; done) | (simp [hc]; omega) | (simp; omega)); (iterate 8 ((first | (refine wl_guard_yes rfl rfl rfl ?_; refine wl_ya ?_) | (refine wl_guard_no rfl rfl rfl rfl rfl ?_) | (refine wl_ya ?_)))); exact K true _ _ rfl (by (repeat (first | exact trivial | refine And.intro (by first | exact trivial | rfl) ?_))) (by simp [hc]) (by first | rfl | (simp; done) | (simp [hc]; done) | (simp [hc]; omega) | (simp; omega)); try (refine wl_nil ?_)))
  refine walk ?_
  exact wq_ret1 rfl rfl () rfl trivial (TblAt.shut v)
theorem tlen_spec (p : Nat) (t : Tbl) :
    Spec0 Tryz.prog 54 [vp p] (fun _ => True) (fun F => TblAt p t :: F) (fun _ : Unit => True) (fun _ => vi t.length) (fun _ F => TblAt p t :: F) := by
  (refine spec_of Tryz.func54 rfl Tryz.ntmps54 rfl (fun F w0 hrd => ?_))
  (first | refine WC.ex (fun y => TblAt.opened) (fun v hv => ?_) | refine WL.ex (fun y => TblAt.opened) (fun v hv => ?_) | refine WQ.ex (fun y => TblAt.opened) (fun v hv => ?_))
  have hl := tflat_len t
  refine walk ?_
  exact wq_ret1 rfl rfl () rfl trivial (TblAt.shut v)
theorem has_nat {t : Tbl} {i : Int} (h : t.has i = true) : ∃ n : Nat, i = n ∧ n < t.length := by
  have h1 : 0 ≤ i ∧ i < t.length := by simpa [Tbl.has] using h
  exact ⟨i.toNat, by omega, by omega⟩
theorem upd_nat {t : Tbl} {n : Nat} (h : n < t.length) (f : Seg → Seg) : t.upd (n : Int) f = t.set n (f t[n]) := by
  unfold Tbl.upd
  rw [if_pos (by unfold Tbl.has; simp; omega)]
  simp [List.getD, h]
theorem upd_none {t : Tbl} {i : Int} (h : t.has i = false) (f : Seg → Seg) : t.upd i f = t := by
  unfold Tbl.upd
  rw [h]; rfl
theorem tset_flat {t : Tbl} {n : Nat} (h : n < t.length) (s : Seg) : (t.flatMap tsegCells).take (n * 3) ++ tsegCells s ++ (t.flatMap tsegCells).drop (n * 3 + 3) = (t.set n s).flatMap tsegCells := by
  induction t generalizing n with
  | nil => simp at h
  | cons a t ih =>
    cases n with
    | zero => rfl
    | succ n =>
      rw [List.set_cons_succ]
      show _ = tsegCells a ++ (t.set n s).flatMap tsegCells
      rw [← ih (by simpa using h), List.flatMap_cons, show (n + 1) * 3 = n * 3 + 3 by omega]
      rfl
theorem tflat_get {t : Tbl} {n j : Nat} (h : n < t.length) (hj : j < 3) : (t.flatMap tsegCells)[n * 3 + j]? = (tsegCells t[n])[j]? := by
  induction t generalizing n with
  | nil => simp at h
  | cons a t ih =>
    rw [List.flatMap_cons]
    cases n with
    | zero => rw [Nat.zero_mul, Nat.zero_add, List.getElem?_append_left (by show j < 3; omega)]; rfl
    | succ n =>
      rw [List.getElem?_append_right (by show 3 ≤ _; omega), show (n + 1) * 3 + j - (tsegCells a).length = n * 3 + j by show (n + 1) * 3 + j - 3 = _; omega, ih (by simpa using h)]
      rfl
theorem tset_one {t : Tbl} {n j : Nat} (h : n < t.length) (hj : j < 3) {u : Value} {s : Seg} (hs : (tsegCells t[n]).set j u = tsegCells s) : (t.flatMap tsegCells).set (n * 3 + j) u = (t.set n s).flatMap tsegCells := by
  induction t generalizing n with
  | nil => simp at h
  | cons a t ih =>
    rw [List.flatMap_cons]
    cases n with
    | zero =>
      have hs : (tsegCells a).set j u = tsegCells s := hs
      rw [Nat.zero_mul, Nat.zero_add, List.set_append_left _ _ (by show j < 3; omega), hs, List.set_cons_zero, List.flatMap_cons]
    | succ n =>
      rw [List.set_append_right _ _ (by show 3 ≤ _; omega), show (n + 1) * 3 + j - (tsegCells a).length = n * 3 + j by show (n + 1) * 3 + j - 3 = _; omega, ih (by simpa using h) hs, List.set_cons_succ, List.flatMap_cons]
theorem tat_spec' (p : Nat) (t : Tbl) (i : Int) (ht : t.length ≤ 65536) :
    Spec0 Tryz.prog 53 [vp p, vi i] (fun _ => True) (fun F => TblAt p t :: F) (fun _ : Unit => True) (fun _ => .agg (tsegCells (t.see i)).toArray) (fun _ F => TblAt p t :: F) := by
  (refine spec_of Tryz.func53 rfl Tryz.ntmps53 rfl (fun F w0 hrd => ?_))
  refine walk ?_
  intro c
  refine walk ?_
  refine call (thas_spec p t i ht) ?_
  intro _ _
  refine walk ?_
  refine WIf.both (fun hh => ?_) (fun hh => ?_)
  · obtain ⟨n, rfl, hn⟩ := has_nat hh
    (first | refine WC.ex (fun y => TblAt.opened) (fun v hv => ?_) | refine WL.ex (fun y => TblAt.opened) (fun v hv => ?_) | refine WQ.ex (fun y => TblAt.opened) (fun v hv => ?_))
    have hl := tflat_len t
    refine walk ?_
    refine wq_retc rfl rfl rfl () (by rw [Tbl.see_get hn]) trivial ?_
    exact TblAt.shut v
  · have hz : t.see i = Seg.zero := by unfold Tbl.see; rw [hh]; rfl
    rw [hz]
    refine walk ?_
    refine wq_retc rfl rfl rfl () rfl trivial ?_
    exact perm
theorem tset_spec (p : Nat) (t : Tbl) (i : Int) (s : Seg) (ht : t.length ≤ 65536) :
    Spec0 Tryz.prog 112 [vp p, vi i, .agg (tsegCells s).toArray] (fun _ => True) (fun F => TblAt p t :: F) (fun _ : Unit => True) (fun _ => .tuple #[]) (fun _ F => TblAt p (t.put i s) :: F) := by
  (refine spec_of Tryz.func112 rfl Tryz.ntmps112 rfl (fun F w0 hrd => ?_))
  refine walk ?_
  intro c
  refine walk ?_
  refine call (thas_spec p t i ht) ?_
  intro _ _
  refine walk ?_
  refine WIf.both (fun hh => ?_) (fun hh => ?_)
  · obtain ⟨n, rfl, hn⟩ := has_nat hh
    (first | refine WC.ex (fun y => TblAt.opened) (fun v hv => ?_) | refine WL.ex (fun y => TblAt.opened) (fun v hv => ?_) | refine WQ.ex (fun y => TblAt.opened) (fun v hv => ?_))
    have hl := tflat_len t
    (refine draw ?_; refine dy 0 ?_; refine dy 1 ?_; refine dy 2 ?_; refine dy 3 ?_; refine dy 4 ?_; refine dy 5 ?_; refine dy 6 ?_; refine ddx 7 ?_)
    refine wl_storesSl (us := tsegCells s) (m' := 3) rfl rfl rfl (by decide) (by omega) ?_
    rw [show (tsegCells s).length = 3 from rfl, tset_flat hn]
    refine walk ?_
    refine wq_end0 rfl () rfl trivial ?_
    unfold Tbl.put
    rw [upd_nat hn]
    refine Ent.trans (Γ' := Cells p [v] :: Sl v 3 ((t.set n s).flatMap tsegCells) :: F) perm (TblAt.shut v)
  · unfold Tbl.put
    rw [upd_none hh]
    refine walk ?_
    exact wq_end0 rfl () rfl trivial perm
theorem tlive_spec (p : Nat) (t : Tbl) (i more : Int) (ht : t.length ≤ 65536) :
    Spec0 Tryz.prog 119 [vp p, vi i, vi more] (fun _ => True) (fun F => TblAt p t :: F) (fun _ : Unit => True) (fun _ => .tuple #[]) (fun _ F => TblAt p (t.live i more) :: F) := by
  (refine spec_of Tryz.func119 rfl Tryz.ntmps119 rfl (fun F w0 hrd => ?_))
  refine walk ?_
  refine call (thas_spec p t i ht) ?_
  intro _ _
  refine walk ?_
  refine WIf.both (fun hh => ?_) (fun hh => ?_)
  · obtain ⟨n, rfl, hn⟩ := has_nat hh
    (first | refine WC.ex (fun y => TblAt.opened) (fun v hv => ?_) | refine WL.ex (fun y => TblAt.opened) (fun v hv => ?_) | refine WQ.ex (fun y => TblAt.opened) (fun v hv => ?_))
    have hl := tflat_len t
    refine walk ?_
    refine wl_y (yl_loadx (u := vi t[n].live) rfl (by rw [tflat_get hn (by decide)]; rfl)) rfl ?_
    refine walk ?_
    rw [tset_one (j := 1) (s := { t[n] with live := w64 (t[n].live + more) }) hn (by decide) rfl]
    refine wq_end0 rfl () rfl trivial ?_
    unfold Tbl.live
    rw [upd_nat hn]
    exact Ent.trans perm (TblAt.shut v)
  · unfold Tbl.live
    rw [upd_none hh]
    refine walk ?_
    exact wq_end0 rfl () rfl trivial perm
theorem topen_spec (p : Nat) (t : Tbl) (i : Int) (ht : t.length ≤ 65536) :
    Spec0 Tryz.prog 102 [vp p, vi i] (fun _ => True) (fun F => TblAt p t :: F) (fun _ : Unit => True) (fun _ => .tuple #[]) (fun _ F => TblAt p (t.open_ i) :: F) := by
  (refine spec_of Tryz.func102 rfl Tryz.ntmps102 rfl (fun F w0 hrd => ?_))
  refine walk ?_
  refine call (thas_spec p t i ht) ?_
  intro _ _
  refine walk ?_
  refine WIf.both (fun hh => ?_) (fun hh => ?_)
  · obtain ⟨n, rfl, hn⟩ := has_nat hh
    (first | refine WC.ex (fun y => TblAt.opened) (fun v hv => ?_) | refine WL.ex (fun y => TblAt.opened) (fun v hv => ?_) | refine WQ.ex (fun y => TblAt.opened) (fun v hv => ?_))
    have hl := tflat_len t
    refine walk ?_
    rw [tset_one (j := 0) (s := { t[n] with state := 1 }) hn (by decide) rfl]
    refine wq_end0 rfl () rfl trivial ?_
    unfold Tbl.open_
    rw [upd_nat hn]
    exact Ent.trans perm (TblAt.shut v)
  · unfold Tbl.open_
    rw [upd_none hh]
    refine walk ?_
    exact wq_end0 rfl () rfl trivial perm
theorem tseal_spec (p : Nat) (t : Tbl) (i born : Int) (ht : t.length ≤ 65536) :
    Spec0 Tryz.prog 137 [vp p, vi i, .int .u64 born] (fun _ => True) (fun F => TblAt p t :: F) (fun _ : Unit => True) (fun _ => .tuple #[]) (fun _ F => TblAt p (t.seal_ i born) :: F) := by
  (refine spec_of Tryz.func137 rfl Tryz.ntmps137 rfl (fun F w0 hrd => ?_))
  refine walk ?_
  refine call (thas_spec p t i ht) ?_
  intro _ _
  refine walk ?_
  refine WIf.both (fun hh => ?_) (fun hh => ?_)
  · obtain ⟨n, rfl, hn⟩ := has_nat hh
    (first | refine WC.ex (fun y => TblAt.opened) (fun v hv => ?_) | refine WL.ex (fun y => TblAt.opened) (fun v hv => ?_) | refine WQ.ex (fun y => TblAt.opened) (fun v hv => ?_))
    have hl := tflat_len t
    (refine draw ?_; refine dy 0 ?_; refine dy 1 ?_; refine dy 2 ?_; refine dy 3 ?_; refine dy 4 ?_; refine dy 5 ?_; refine dy 6 ?_; refine dy 7 ?_; refine dy 8 ?_; refine dy 9 ?_; refine dy 10 ?_; refine dy 11 ?_; refine dy 12 ?_; refine ddx 13 ?_)
    refine walk ?_
    rw [tset_one (j := 0) (s := { t[n] with state := 2 }) hn (by decide) rfl]
    have hl2 := tflat_len (t.set n { t[n] with state := 2 })
    have hn2 : n < (t.set n { t[n] with state := 2 }).length := by rw [List.length_set]; exact hn
    rw [List.length_set] at hl2
    (refine walk ?_; refine dy 14 ?_; refine dy 15 ?_; refine ddx 16 ?_)
    refine walk ?_
    rw [tset_one (j := 2) (s := { t[n] with state := 2, born := born }) hn2 (by decide) (by rw [List.getElem_set_self]; rfl), List.set_set]
    refine wq_end0 rfl () rfl trivial ?_
    unfold Tbl.seal_
    rw [upd_nat hn]
    exact Ent.trans perm (TblAt.shut v)
  · unfold Tbl.seal_
    rw [upd_none hh]
    refine walk ?_
    exact wq_end0 rfl () rfl trivial perm
theorem tseg_one {t : Tbl} {Γ : List HP} : OneIn Γ (t.flatMap tsegCells) := ⟨fun _ _ u hu => by
  obtain ⟨s, _, hs⟩ := List.mem_flatMap.1 hu
  simp only [tsegCells, List.mem_cons, List.mem_nil_iff, or_false] at hs
  rcases hs with rfl | rfl | rfl <;> rfl⟩
set_option maxHeartbeats 1000000 in
theorem cloneSeg_spec (v : Value) (vs : List Value) (hb : vs.length ≤ 1099511627776) (ho : ∀ Γ : List HP, OneIn Γ vs) :
    Spec0 Tryz.prog 105 [v] (Rd v 3 vs) (fun F => F) (fun _ : Value => True) (fun r => r) (fun r F => Sl r 3 vs :: F) := by
  (refine spec_of Tryz.func105 rfl Tryz.ntmps105 rfl (fun F w0 hrd => ?_))
  haveI : RdIn F v 3 vs := ⟨hrd⟩
  refine walk ?_
  refine WIf.both (fun hc => ?_) (fun hc => ?_)
  · refine walk ?_
    refine WQ.ex (X := Unit) (φ := fun _ => v = .slice none 0 0 ∧ vs = []) (Γ' := fun _ => F) (fun h hs => ⟨(), ?_, hs⟩) (fun _ hv => ?_)
    · have h1 := hrd h hs
      have h2 := (isNil_iff h1).1 hc
      have h3 := h1.len
      subst h2
      refine ⟨rfl, ?_⟩
      simp [slLen] at h3
      exact List.eq_nil_of_length_eq_zero h3.symm
    · obtain ⟨rfl, rfl⟩ := hv
      exact wq_ret1 rfl rfl (Value.slice none 0 0) rfl trivial (sl_nil 3)
  · refine walk ?_
    refine wl_buildNil (k := 3) rfl (fun v' hvl hvn => ?_)
    haveI := ho
    refine walk ?_
    intro s' hsl hsn
    refine walk ?_
    exact wq_ret1 rfl rfl s' rfl trivial Ent.refl
theorem tall_spec (p : Nat) (t : Tbl) (ht : t.length ≤ 65536) :
    Spec0 Tryz.prog 55 [vp p] (fun _ => True) (fun F => TblAt p t :: F) (fun _ : Value => True) (fun r => r) (fun r F => Sl r 3 (t.flatMap tsegCells) :: TblAt p t :: F) := by
  (refine spec_of Tryz.func55 rfl Tryz.ntmps55 rfl (fun F w0 hrd => ?_))
  (first | refine WC.ex (fun y => TblAt.opened) (fun v hv => ?_) | refine WL.ex (fun y => TblAt.opened) (fun v hv => ?_) | refine WQ.ex (fun y => TblAt.opened) (fun v hv => ?_))
  have hl := tflat_len t
  refine walk ?_
  refine call (cloneSeg_spec v (t.flatMap tsegCells) (by omega) (fun Γ => tseg_one)) ?_
  intro r _
  refine walk ?_
  refine wq_ret1 rfl rfl r rfl trivial ?_
  refine Ent.trans (Γ' := Cells p [v] :: Sl v 3 (t.flatMap tsegCells) :: Sl r 3 (t.flatMap tsegCells) :: F) perm ((TblAt.shut v).trans perm)
theorem tnew_spec (n : Nat) (hn : n ≤ 65536) :
    Spec0 Tryz.prog 101 [vi n] (fun _ => True) (fun F => F) (fun _ : Nat => True) (fun p => vp p) (fun p F => TblAt p (List.replicate n Seg.zero) :: F) := by
  (refine spec_of Tryz.func101 rfl Tryz.ntmps101 rfl (fun F w0 hrd => ?_))
  refine walk ?_
  intro v _ _
  rw [show (min (max (n : Int) 0) 65536).toNat = n by omega]
  have hz : (List.replicate n (Array.toList (Value.cells (Value.agg #[Value.int IntKind.i64 0, Value.int IntKind.i64 0, Value.int IntKind.u64 0])))).flatten = (List.replicate n Seg.zero).flatMap tsegCells := by
    rw [List.flatMap_def, List.map_replicate]; rfl
  rw [hz]
  refine walk ?_
  intro p
  refine walk ?_
  refine wq_ret1 rfl rfl p rfl trivial ?_
  exact Ent.trans perm (TblAt.shut v)
set_option maxHeartbeats 1000000 in
theorem tmany_spec (p : Nat) (t : Tbl) (x : Int) (ht : t.length ≤ 65536) :
    Spec0 Tryz.prog 76 [vp p, vi x] (fun _ => True) (fun F => TblAt p t :: F) (fun _ : Unit => True) (fun _ => vi (t.many x)) (fun _ F => TblAt p t :: F) := by
  (refine spec_of Tryz.func76 rfl Tryz.ntmps76 rfl (fun F w0 hrd => ?_))
  (first | refine WC.ex (fun y => TblAt.opened) (fun v hv => ?_) | refine WL.ex (fun y => TblAt.opened) (fun v hv => ?_) | refine WQ.ex (fun y => TblAt.opened) (fun v hv => ?_))
  have hl := tflat_len t
  refine walk ?_
  refine wc_loop (X := Nat) (fun k => [(1, vi x), (5, vi (Tbl.many (t.take k) x)), (11, v), (12, vi t.length), (13, vi k)]) (fun _ => Cells p [v] :: Sl v 3 (t.flatMap tsegCells) :: F) (fun k => k ≤ t.length) (fun k => t.length - k) 0 (Nat.zero_le _) envs perm (fun k hk => ?_)
  have hm0 : 0 ≤ Tbl.many (t.take k) x ∧ Tbl.many (t.take k) x ≤ k := by
    unfold Tbl.many
    have := List.length_filter_le (fun s : Seg => decide (s.state = x)) (t.take k)
    rw [List.length_take] at this
    omega
  refine walk ?_
  refine wif_dec (fun hlt => ?_) (fun hlt => ?_)
  · have hlt : k < t.length := by omega
    have hms : Tbl.many (t.take (k + 1)) x = Tbl.many (t.take k) x + if t[k].state = x then 1 else 0 := by
      unfold Tbl.many
      rw [List.take_add_one, List.getElem?_eq_getElem hlt, Option.toList_some, List.filter_append, List.length_append]
      by_cases h : t[k].state = x <;> simp [h]
    refine walk ?_
    intro c
    refine walk ?_
    dsimp only [tsegCells]
    refine walk ?_
    refine wif_dec (fun he => ?_) (fun he => ?_)
    · rw [if_pos he] at hms
      refine walk ?_
      refine wq_round (k + 1) (by omega) (by omega) ?_ perm
      rw [hms]
      exact envs
    · rw [if_neg he, Int.add_zero] at hms
      refine walk ?_
      refine wq_round (k + 1) (by omega) (by omega) ?_ perm
      rw [hms]
      exact envs
  · obtain rfl : k = t.length := by omega
    rw [List.take_length]
    refine walk ?_
    exact wq_ret1 rfl rfl () rfl trivial (TblAt.shut v)
theorem first1_spec (s : Seg) :
    Spec0 Tryz.prog 127 [.agg (tsegCells s).toArray] (fun _ => True) (fun F => F) (fun _ : Unit => True) (fun _ => .bool (decide (s.state = 0))) (fun _ F => F) := by
  (refine spec_of Tryz.func127 rfl Tryz.ntmps127 rfl (fun F w0 hrd => ?_))
  refine walk ?_
  intro c
  refine walk ?_
  exact wq_ret1 rfl rfl () rfl trivial perm
theorem tfirst_take (t : Tbl) {k : Nat} (h : ∀ (j : Nat) (hj : j < t.length), j < k → t[j].state ≠ 0) : (k < t.length → ∀ hk : k < t.length, t[k].state = 0 → t.first = k) ∧ (t.length ≤ k → t.first = -1) := by
  unfold Tbl.first
  refine ⟨fun _ hk h0 => ?_, fun hk => ?_⟩
  · have : t.findIdx? (fun s => decide (s.state = 0)) = some k := by
      rw [List.findIdx?_eq_some_iff_getElem]
      exact ⟨hk, by simpa using h0, fun j hj => by simpa using h j (by omega) hj⟩
    rw [this]
  · have : t.findIdx? (fun s => decide (s.state = 0)) = none := by
      rw [List.findIdx?_eq_none_iff]
      intro x hx
      obtain ⟨j, hj, rfl⟩ := List.mem_iff_getElem.1 hx
      simpa using h j hj (by omega)
    rw [this]
set_option maxHeartbeats 1000000 in
theorem tindex_spec (v : Value) (t : Tbl) (ht : t.length ≤ 65536) :
    Spec0 Tryz.prog 126 [v, .func (.func 127) #[] #[]] (Rd v 3 (t.flatMap tsegCells)) (fun F => F) (fun _ : Unit => True) (fun _ => vi t.first) (fun _ F => F) := by
  (refine spec_of Tryz.func126 rfl Tryz.ntmps126 rfl (fun F w0 hrd => ?_))
  haveI : RdIn F v 3 (t.flatMap tsegCells) := ⟨hrd⟩
  have hl := tflat_len t
  refine walk ?_
  refine wc_loop (X := Nat) (fun k => [(0, v), (1, .func (.func 127) #[] #[]), (7, vi t.length), (8, vi k)]) (fun _ => F) (fun k => k ≤ t.length ∧ ∀ (j : Nat) (hj : j < t.length), j < k → t[j].state ≠ 0) (fun k => t.length - k) 0 ⟨Nat.zero_le _, fun j _ h => by omega⟩ envs perm (fun k hk => ?_)
  obtain ⟨hk, hno⟩ := hk
  obtain ⟨q1, q2⟩ := tfirst_take t hno
  refine walk ?_
  refine wif_dec (fun hlt => ?_) (fun hlt => ?_)
  · have hlt : k < t.length := by omega
    refine walk ?_
    refine call (first1_spec t[k]) ?_
    intro _ _
    refine walk ?_
    refine wif_dec (fun h0 => ?_) (fun h0 => ?_)
    · refine walk ?_
      refine wq_ret1 rfl rfl () ?_ trivial perm
      rw [q1 hlt hlt h0]
    · refine walk ?_
      refine wq_round (k + 1) ⟨by omega, fun j hj hjk => ?_⟩ (by omega) envs perm
      rcases Nat.lt_or_ge j k with h1 | h1
      · exact hno j hj h1
      · obtain rfl : j = k := by omega
        exact h0
  · have hk' : t.length ≤ k := by omega
    refine walk ?_
    refine wq_ret1 rfl rfl () ?_ trivial perm
    rw [q2 hk']
theorem tfirst_spec (p : Nat) (t : Tbl) (ht : t.length ≤ 65536) :
    Spec0 Tryz.prog 82 [vp p] (fun _ => True) (fun F => TblAt p t :: F) (fun _ : Unit => True) (fun _ => vi t.first) (fun _ F => TblAt p t :: F) := by
  (refine spec_of Tryz.func82 rfl Tryz.ntmps82 rfl (fun F w0 hrd => ?_))
  (first | refine WC.ex (fun y => TblAt.opened) (fun v hv => ?_) | refine WL.ex (fun y => TblAt.opened) (fun v hv => ?_) | refine WQ.ex (fun y => TblAt.opened) (fun v hv => ?_))
  have hl := tflat_len t
  refine walk ?_
  refine call (tindex_spec v t ht) ?_
  intro _ _
  refine walk ?_
  exact wq_ret1 rfl rfl () rfl trivial (TblAt.shut v)
theorem dead_take {t : Tbl} {k : Nat} (hk : k < t.length) : Tbl.dead (t.take (k + 1)) = Tbl.dead (t.take k) ++ if t[k].state = 2 ∧ t[k].live = 0 then [(k : Int)] else [] := by
  unfold Tbl.dead
  rw [List.length_take, List.length_take, Nat.min_eq_left (by omega), Nat.min_eq_left (by omega), List.range_succ, List.filter_append, List.map_append]
  have e : ∀ i, i < k → (t.take (k + 1)).getD i Seg.zero = (t.take k).getD i Seg.zero := fun i hi => by
    simp only [List.getD, List.getElem?_take]
    rw [if_pos (by omega), if_pos hi]
  have e2 : (t.take (k + 1)).getD k Seg.zero = t[k] := by
    simp only [List.getD, List.getElem?_take]
    rw [if_pos (by omega), List.getElem?_eq_getElem hk]; rfl
  congr 1
  · congr 1
    apply List.filter_congr
    intro i hi
    rw [e i (List.mem_range.1 hi)]
  · simp only [List.filter_cons, List.filter_nil, e2]
    by_cases h : t[k].state = 2 ∧ t[k].live = 0
    · rw [if_pos (by simpa using h), if_pos h]; rfl
    · rw [if_neg (by simpa using h), if_neg h]; rfl
set_option maxHeartbeats 2000000 in
theorem tdead_spec (p : Nat) (t : Tbl) (ht : t.length ≤ 65536) :
    Spec0 Tryz.prog 32 [vp p] (fun _ => True) (fun F => TblAt p t :: F) (fun _ : Value => True) (fun r => r) (fun r F => Sl r 1 (t.dead.map vi) :: TblAt p t :: F) := by
  (refine spec_of Tryz.func32 rfl Tryz.ntmps32 rfl (fun F w0 hrd => ?_))
  (first | refine WC.ex (fun y => TblAt.opened) (fun v hv => ?_) | refine WL.ex (fun y => TblAt.opened) (fun v hv => ?_) | refine WQ.ex (fun y => TblAt.opened) (fun v hv => ?_))
  have hl := tflat_len t
  refine walk ?_
  refine wc_loop (X := Nat × Value) (fun y => [(3, y.2), (9, v), (10, vi t.length), (11, vi y.1)]) (fun y => Sl y.2 1 ((Tbl.dead (t.take y.1)).map vi) :: Cells p [v] :: Sl v 3 (t.flatMap tsegCells) :: F) (fun y => y.1 ≤ t.length) (fun y => t.length - y.1) (0, .slice none 0 0) (Nat.zero_le _) envs (by dsimp only; rw [List.take_zero]; exact Ent.trans (Γ' := Cells p [v] :: Sl v 3 (t.flatMap tsegCells) :: F) perm (sl_nil 1)) (fun y hk => ?_)
  obtain ⟨k, dv⟩ := y
  dsimp only at hk ⊢
  have hdl : (Tbl.dead (t.take k)).length ≤ k := by
    unfold Tbl.dead
    rw [List.length_map]
    refine Nat.le_trans (List.length_filter_le _ _) ?_
    rw [List.length_range, List.length_take]; omega
  have hdl2 : ((Tbl.dead (t.take k)).map vi).length ≤ k := by rw [List.length_map]; exact hdl
  refine walk ?_
  refine wif_dec (fun hlt => ?_) (fun hlt => ?_)
  · have hlt : k < t.length := by omega
    have hd := dead_take hlt
    refine walk ?_
    intro c
    dsimp only [tsegCells]
    refine walk ?_
    (first | (refine wif_cut 4 23 (.bool (decide (t[k].state = 2 ∧ t[k].live = 0))) (fun K => ?_) ?_; refine wif_dec (fun hc => ?_) (fun hc => ?_); (iterate 4 ((first | (refine wl_guard_yes rfl rfl rfl ?_; refine wl_ya ?_) | (refine wl_guard_no rfl rfl rfl rfl rfl ?_) | (refine wl_ya ?_)))); exact K true _ _ rfl (by (repeat (first | exact trivial | refine And.intro (by first | exact trivial | rfl) ?_))) (by simp [hc]) (by first | rfl | (simp; done) | (simp [hc]; done) | (simp [hc]; omega) | (simp; omega)); (iterate 4 ((first | (refine wl_guard_yes rfl rfl rfl ?_; refine wl_ya ?_) | (refine wl_guard_no rfl rfl rfl rfl rfl ?_) | (refine wl_ya ?_)))); exact K false _ _ rfl (by (repeat (first | exact trivial | refine And.intro (by first | exact trivial | rfl) ?_))) (by simp [hc]) (by first | rfl | (simp; done) | (simp [hc]; done) | (simp [hc]; omega) | (simp; omega)); try (refine wl_nil ?_)) | (refine wif_cutn 4 23 (.bool (decide (t[k].state = 2 ∧ t[k].live = 0))) (fun K => ?_) ?_; refine wif_dec (fun hc => ?_) (fun hc => ?_); (iterate 4 ((first | (refine wl_guard_yes rfl rfl rfl ?_; refine wl_ya ?_) | (refine wl_guard_no rfl rfl rfl rfl rfl ?_) | (refine wl_ya ?_)))); exact K false _ _ rfl (by (repeat (first | exact trivial | refine And.intro (by first | exact trivial | rfl) ?_))) (by simp [hc]) (by first | rfl | (simp; done) | (simp [hc]; done) | (simp [hc]; omega) | (simp; omega)); (iterate 4 ((first | (refine wl_guard_yes rfl rfl rfl ?_; refine wl_ya ?_) | (refine wl_guard_no rfl rfl rfl rfl rfl ?_) | (refine wl_ya ?_)))); exact K true _ _ rfl (by (repeat (first | exact trivial | refine And.intro (by first | exact trivial | rfl) ?_))) (by simp [hc]) (by first | rfl | (simp; done) | (simp [hc]; done) | (simp [hc]; omega) | (simp; omega)); try (refine wl_nil ?_)))
    refine walk ?_
    refine wif_dec (fun he => ?_) (fun he => ?_)
    · rw [if_pos he] at hd
      refine walk ?_
      intro s1 _ _
      refine walk ?_
      intro s2 _ _
      refine walk ?_
      refine wq_round (k + 1, s2) (by dsimp only; omega) (by dsimp only; omega) envs ?_
      dsimp only
      rw [hd, List.map_append, List.map_singleton]
      exact perm
    · rw [if_neg he, List.append_nil] at hd
      refine walk ?_
      refine wq_round (k + 1, dv) (by dsimp only; omega) (by dsimp only; omega) envs ?_
      dsimp only
      rw [hd]
      exact perm
  · obtain rfl : k = t.length := by omega
    rw [List.take_length]
    refine walk ?_
    refine wq_ret1 rfl rfl dv rfl trivial ?_
    refine Ent.trans (Γ' := Cells p [v] :: Sl v 3 (t.flatMap tsegCells) :: Sl dv 1 (t.dead.map vi) :: F) perm ((TblAt.shut v).trans perm)
theorem put_len (t : Tbl) (i : Int) (s : Seg) : (t.put i s).length = t.length := Tbl.upd_length _ _ _
theorem tclear_spec (p : Nat) (t : Tbl) (v : Value) (l : List Int) (ht : t.length ≤ 65536) (hll : l.length ≤ 65536) :
    Spec0 Tryz.prog 59 [vp p, v] (Rd v 1 (l.map vi)) (fun F => TblAt p t :: F) (fun _ : Unit => True) (fun _ => .tuple #[]) (fun _ F => TblAt p (t.clear l) :: F) := by
  (refine spec_of Tryz.func59 rfl Tryz.ntmps59 rfl (fun F w0 hrd => ?_))
  haveI : RdIn F v 1 (l.map vi) := ⟨hrd⟩
  refine walk ?_
  refine wc_loop (X := Nat) (fun k => [(0, vp p), (6, v), (7, vi l.length), (8, vi k)]) (fun k => TblAt p (t.clear (l.take k)) :: F) (fun k => k ≤ l.length) (fun k => l.length - k) 0 (Nat.zero_le _) envs (by rw [List.take_zero]; exact Ent.refl) (fun k hk => ?_)
  have hcl := (Tbl.clear_spec (l.take k) t).1
  refine walk ?_
  refine wif_dec (fun hlt => ?_) (fun hlt => ?_)
  · have hlt : k < l.length := by omega
    have hn : t.clear (l.take (k + 1)) = (t.clear (l.take k)).put l[k] Seg.zero := by
      unfold Tbl.clear
      rw [List.take_add_one, List.getElem?_eq_getElem hlt, Option.toList_some, List.foldl_append]; rfl
    refine walk ?_
    refine call (tset_spec p (t.clear (l.take k)) l[k] Seg.zero (by rw [hcl]; exact ht)) ?_
    intro _ _
    refine walk ?_
    refine wq_round (k + 1) (by omega) (by omega) envs ?_
    rw [hn]
    exact perm
  · obtain rfl : k = l.length := by omega
    rw [List.take_length]
    refine walk ?_
    exact wq_end0 rfl () rfl trivial perm
end Go.Proofs.YtohienhoifgmaaaGreat
