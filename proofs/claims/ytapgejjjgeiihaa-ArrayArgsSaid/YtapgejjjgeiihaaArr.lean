/- An array over disks: each function does what the plain text says. -/
import Derived.Test.YtapgejjjgeiihaaRig
import Derived.Test.YtapgejjjgeiihaaXor
namespace Go.Proofs.Ytapgejjjgeiihaa
open Go Go.Sl
attribute [local irreducible] Yl WL WC WQ WD

theorem RigAt.opened {k : Keys} {r : Rig} {F : List HP} {h : Hp} (hs : Sat (RigAt k r F) h) : ∃ _ : Unit, r.ds.length = k.ps.length ∧ Sat (RigAt k r F) h :=
  ⟨(), Dks.len hs.tail.tail.tail.tail, hs⟩
theorem each_step {f : Nat → Rig → Out Rig Int} {n i : Nat} {r : Rig} (hi : i < n) : each f ((List.range n).drop i) r = (f i r).bind fun e r => if e = 0 then each f ((List.range n).drop (i + 1)) r else .ok e r := by
  rw [List.drop_eq_getElem_cons (by simpa using hi)]
  simp [each]
theorem each_end {f : Nat → Rig → Out Rig Int} {n : Nat} {r : Rig} : each f ((List.range n).drop n) r = .ok 0 r := by
  rw [List.drop_of_length_le (by simp)]; rfl
theorem aflush_spec (k : Keys) (hk : k.Ok) (r : Rig) :
    SpecG Try.prog outage 46 [vp k.a] (fun _ => True) (RigAt k) (aflush r) r (fun (_ : Unit) _ => True) (fun _ e => vi e) (fun _ _ F => F) := by
  (refine spec_of Try.func46 rfl Try.ntmps46 rfl (fun F w0 hrd => ?_))
  (first | refine WC.ex (fun y => RigAt.opened) (fun _ hlen => ?_) | refine WL.ex (fun y => RigAt.opened) (fun _ hlen => ?_) | refine WQ.ex (fun y => RigAt.opened) (fun _ hlen => ?_))
  have hm : aflush r = if r.broken then .ok 3 r else each aflush1 (List.range r.ds.length) r := rfl
  have hmem := hk.mem
  have hmm := hk.sh.members
  rw [hlen] at hm
  refine walk ?_
  refine WIf.both (fun hb => ?_) (fun hb => ?_) <;> refine walk ?_
  · exact wq_ret1 rfl rfl ((), 3, r) rfl ⟨by rw [hm, if_pos hb], trivial⟩ perm
  rw [if_neg (by simp [hb])] at hm
  refine wc_loop (X := Nat × Rig) (fun y => [(0, vp k.a), (13, k.lv), (14, vi k.ps.length), (15, vi y.1)]) (fun y => RigAt k y.2 F)
    (fun y => y.1 ≤ k.ps.length ∧ aflush r = each aflush1 ((List.range k.ps.length).drop y.1) y.2) (fun y => k.ps.length - y.1) (0, r) ⟨by omega, hm⟩ envs perm (fun y hy => ?_)
  obtain ⟨i, r'⟩ := y
  dsimp only at hy ⊢
  obtain ⟨hi, hm'⟩ := hy
  clear hm
  refine walk ?_
  refine wif_dec (fun hlt => ?_) (fun hlt => ?_)
  · have hlt : i < k.ps.length := by omega
    rw [each_step hlt] at hm'
    have hf : aflush1 i r' = (r'.dev i dflush).bind fun e r => if e ≠ 0 ∧ (i : Int) ≠ r.stale then alost i r else .ok 0 r := rfl
    rw [hf] at hm'
    refine walk ?_
    (refine gicall (rflush_spec k r' i hlt) (fun s' hg => ⟨s', ?_, ?_⟩) (fun x e r1 h1 _ => ?_); (rw [hm', hg] <;> rfl); (first | (exact perm) | (exact permL)); (rw [h1] at hm'); (try rw [Out.bind_ok] at hm'))
    refine walk ?_
    refine wif_dec (fun h0 => ?_) (fun h0 => ?_) <;> refine walk ?_
    · refine call (stale_spec k r1) ?_
      intro _ _
      refine walk ?_
      refine wif_dec (fun h2 => ?_) (fun h2 => ?_) <;> refine walk ?_
      · rw [if_pos ⟨h0, h2⟩] at hm'
        (refine gcall (lost_spec k r1 i) (fun s' hg => ⟨s', ?_, ?_⟩) (fun x e2 r2 h2 _ => ?_); (rw [hm', hg] <;> rfl); (first | (exact perm) | (exact permL)); (rw [h2] at hm'); (try rw [Out.bind_ok] at hm'))
        refine walk ?_
        refine wif_dec (fun h3 => ?_) (fun h3 => ?_) <;> refine walk ?_
        · exact wq_ret1 rfl rfl ((), e2, r2) rfl ⟨by rw [hm', if_neg h3], trivial⟩ perm
        · exact wq_round (i + 1, r2) ⟨by dsimp only; omega, by rw [hm', if_pos (by omega)]⟩ (by dsimp only; omega) envs perm
      · rw [if_neg (fun h => h2 h.2), Out.bind_ok, if_pos rfl] at hm'
        exact wq_round (i + 1, r1) ⟨by dsimp only; omega, hm'⟩ (by dsimp only; omega) envs perm
    · rw [if_neg (fun h => h0 h.1), Out.bind_ok, if_pos rfl] at hm'
      exact wq_round (i + 1, r1) ⟨by dsimp only; omega, hm'⟩ (by dsimp only; omega) envs perm
  · have hi' : i = k.ps.length := by omega
    subst hi'
    rw [each_end] at hm'
    refine walk ?_
    exact wq_ret1 rfl rfl ((), 0, r') rfl ⟨hm', trivial⟩ perm

theorem ahas_spec (k : Keys) (hk : k.Ok) (r : Rig) (t : Int) :
    Spec0 Try.prog 71 [vp k.a, vi t] (fun _ => True) (fun F => RigAt k r F) (fun _ : Unit => True) (fun _ => .bool (decide (0 ≤ t ∧ t < k.sh.all))) (fun _ F => RigAt k r F) := by
  (refine spec_of Try.func71 rfl Try.ntmps71 rfl (fun F w0 hrd => ?_))
  refine walk ?_
  refine wif_dec (fun hc => ?_) (fun hc => ?_) <;> refine walk ?_
  · refine call (all_spec k.sh hk.sh) ?_
    intro _ _
    refine walk ?_
    exact wq_ret1 rfl rfl () (by simp [hc]) trivial perm
  · exact wq_ret1 rfl rfl () (by simp [hc]) trivial perm
theorem knows {p : Prop} {Γ : List HP} {h : Hp} (hp : p) (hs : Sat Γ h) : ∃ _ : Unit, p ∧ Sat Γ h := ⟨(), hp, hs⟩
theorem Disks.ok {pp : Nat} : ∀ {ps : List Nat} {ds : List Dsk} {Γ : List HP} {h : Hp}, ds.length = ps.length → Sat (Disks pp ps ds ++ Γ) h → ∀ d ∈ ds, d.Ok
  | [], [], _, _, _, _ => fun _ h => by cases h
  | [], _ :: _, _, _, hl, _ => by cases hl
  | _ :: _, [], _, _, _, _ => fun _ h => by cases h
  | p :: ps, d :: ds, Γ, h, hl, hs => fun x hx => by
    have hs' : Sat (DiskAt p pp d :: (Disks pp ps ds ++ Γ)) h := hs
    rcases List.mem_cons.1 hx with rfl | hx
    · obtain ⟨y, hy, _⟩ := DiskAt.opened hs'
      exact hy.ok
    · exact Disks.ok (by simpa using hl) hs'.tail x hx
theorem RigAt.opened' {k : Keys} {r : Rig} {F : List HP} {h : Hp} (hs : Sat (RigAt k r F) h) : ∃ _ : Unit, (r.ds.length = k.ps.length ∧ ∀ d ∈ r.ds, d.Ok) ∧ Sat (RigAt k r F) h := by
  obtain ⟨hl, h1⟩ := Sat.pur.1 hs.tail.tail.tail.tail
  exact ⟨(), ⟨hl, Disks.ok hl (Sat.flat.1 h1)⟩, hs⟩
theorem rig_ok (k : Keys) (r : Rig) {F : List HP} {h : Hp} (hs : Sat (RigAt k r F) h) : r.ds.length = k.ps.length ∧ ∀ d ∈ r.ds, d.Ok := by
  obtain ⟨_, h1, _⟩ := RigAt.opened' hs
  exact h1
theorem Dsk.Ok.see {d : Dsk} (h : d.Ok) {i : Int} (hi : d.has i = true) : ((d.see i).length : Int) = d.size := by
  unfold Dsk.see
  have hi : 0 ≤ i ∧ i < d.on.length := by simpa [Dsk.has] using hi
  cases hg : mget d.cache i with
  | some b => exact (h.cache (i, b) (mget_mem hg)).2
  | none =>
    have h1 : i.toNat < d.on.length := by omega
    simp only [Option.getD_none, List.getD, List.getElem?_eq_getElem h1, Option.getD_some]
    exact h.on _ (List.getElem_mem h1)
theorem dread_len {s s' : DP} {i : Int} {a : Bytes × Int} (h : s.1.Ok) (hr : dread i s = .ok a s') : (a.1.length : Int) ≤ s.1.size ∧ (a.2 = 0 → (a.1.length : Int) = s.1.size) := by
  have h0 := h.size0
  unfold dread at hr
  split at hr
  · rename_i hh
    cases hs : dstep s with
    | gone s1 => rw [hs] at hr; cases hr
    | ok e s1 =>
      rw [hs, Out.bind_ok] at hr
      split at hr
      · cases hr
        obtain ⟨p, _, rfl, _⟩ := dstep_ok hs
        have := Dsk.Ok.see h hh
        exact ⟨Int.le_of_eq this, fun _ => this⟩
      · cases hr
        rename_i he
        exact ⟨by simpa using h0, fun h => absurd h he⟩
  · cases hr; exact ⟨by simpa using h0, fun h => by cases h⟩
theorem rread_len {k : Keys} {r r' : Rig} {m : Nat} {i : Int} {a : Bytes × Int} (hm : m < k.ps.length) (h : r.ds.length = k.ps.length ∧ ∀ d ∈ r.ds, d.Ok) (hr : r.dev m (dread i) = .ok a r') : a.1.length ≤ 1099511627776 := by
  have h1 : m < r.ds.length := by omega
  have h2 : (r.at m).Ok := h.2 _ (by unfold Rig.at; simp [List.getD, h1])
  rw [Rig.dev_up] at hr
  cases hs : dread i (r.at m, r.pow) with
  | gone s => rw [hs] at hr; cases hr
  | ok a' s =>
    rw [hs] at hr
    cases hr
    have := (dread_len h2 hs).1
    have := h2.size
    dsimp only at *
    omega

theorem gather_skip {m sector : Int} {n i : Nat} {acc : List Bytes} {r : Rig} (hi : i < n) (h : (i : Int) = m) : gather m sector ((List.range n).drop i) acc r = gather m sector ((List.range n).drop (i + 1)) acc r := by
  rw [List.drop_eq_getElem_cons (by simpa using hi)]
  simp [gather, h]
theorem gather_step {m sector : Int} {n i : Nat} {acc : List Bytes} {r : Rig} (hi : i < n) (h : ¬ (i : Int) = m) : gather m sector ((List.range n).drop i) acc r =
    (r.dev i (dread sector)).bind fun x r => if x.2 ≠ 0 then (alost i r).bind fun e r => .ok (.inr e) r else gather m sector ((List.range n).drop (i + 1)) (acc ++ [x.1]) r := by
  rw [List.drop_eq_getElem_cons (by simpa using hi)]
  simp [gather, h]
theorem gather_end {m sector : Int} {n : Nat} {acc : List Bytes} {r : Rig} : gather m sector ((List.range n).drop n) acc r = .ok (.inl acc) r := by
  rw [List.drop_of_length_le (by simp)]; rfl
/-- what comes of what was read -/
def gathered : List Bytes ⊕ Int → Rig → Out Rig (Bytes × Int)
  | .inl acc, r => .ok (xorOf acc, 0) r
  | .inr e, r => .ok ([], e) r

theorem aothers_spec (k : Keys) (hk : k.Ok) (r : Rig) (m sector : Int) :
    SpecG Try.prog outage 80 [vp k.a, vi m, vi sector] (fun _ => True) (RigAt k) (aothers m sector r) r (fun (_ : Value) _ => True) (fun v a => .tuple #[v, vi a.2]) (fun v a F => SlB v a.1 :: F) := by
  (refine spec_of Try.func80 rfl Try.ntmps80 rfl (fun F w0 hrd => ?_))
  (first | refine WC.ex (fun y => RigAt.opened) (fun _ hlen => ?_) | refine WL.ex (fun y => RigAt.opened) (fun _ hlen => ?_) | refine WQ.ex (fun y => RigAt.opened) (fun _ hlen => ?_))
  have hm : aothers m sector r = (gather m sector (List.range r.ds.length) [] r).bind gathered := by unfold aothers; congr 1; funext x r; cases x <;> rfl
  have hmem := hk.mem
  have hmm := hk.sh.members
  rw [hlen] at hm
  refine walk ?_
  refine wc_loop (X := Nat × Rig × Value × List Row) (fun y => [(0, vp k.a), (1, vi m), (2, vi sector), (8, y.2.2.1), (16, k.lv), (17, vi k.ps.length), (18, vi y.1)]) (fun y => Sl y.2.2.1 1 (y.2.2.2.map (·.1)) :: Pool y.2.2.2 :: RigAt k y.2.1 F)
    (fun y => y.1 ≤ k.ps.length ∧ aothers m sector r = (gather m sector ((List.range k.ps.length).drop y.1) (y.2.2.2.map (·.2)) y.2.1).bind gathered ∧ y.2.2.2.length ≤ y.1 ∧ ∀ q ∈ y.2.2.2, q.2.length ≤ 1099511627776)
    (fun y => k.ps.length - y.1) (0, r, .slice none 0 0, []) ⟨by omega, hm, by simp, by simp⟩ envs ((sl_nil 1).trans (Ent.skip Pool.nil)) (fun y hy => ?_)
  obtain ⟨i, r', sv, rows⟩ := y
  dsimp only at hy ⊢
  obtain ⟨hi, hm', hrl, hrb⟩ := hy
  clear hm
  refine walk ?_
  refine wif_dec (fun hlt => ?_) (fun hlt => ?_)
  · have hlt : i < k.ps.length := by omega
    refine walk ?_
    refine wif_dec (fun hc => ?_) (fun hc => ?_)
    · rw [gather_skip hlt hc] at hm'
      refine walk ?_
      exact wq_round (i + 1, r', sv, rows) ⟨by dsimp only; omega, hm', by dsimp only; omega, hrb⟩ (by dsimp only; omega) envs perm
    · rw [gather_step hlt hc] at hm'
      refine walk ?_
      (first | refine WL.ex (fun _ hs => knows (rig_ok k r' ((frame : Ent _ _) _ hs)) hs) (fun _ hl2 => ?_) | refine WC.ex (fun _ hs => knows (rig_ok k r' ((frame : Ent _ _) _ hs)) hs) (fun _ hl2 => ?_) | refine WQ.ex (fun _ hs => knows (rig_ok k r' ((frame : Ent _ _) _ hs)) hs) (fun _ hl2 => ?_))
      (refine gicall (rread_spec k r' i hlt sector) (fun s' hg => ⟨s', ?_, ?_⟩) (fun v x r1 h1 _ => ?_); (rw [hm', hg] <;> rfl); (first | (exact perm) | (exact permL)); (rw [h1] at hm'); (try rw [Out.bind_ok] at hm'))
      have hxl := rread_len hlt hl2 h1
      refine walk ?_
      refine wif_dec (fun h0 => ?_) (fun h0 => ?_) <;> refine walk ?_
      · rw [if_pos h0] at hm'
        (refine gcall (lost_spec k r1 i) (fun s' hg => ⟨s', ?_, ?_⟩) (fun x2 e2 r2 h2 _ => ?_); (rw [hm', hg] <;> rfl); (first | (exact perm) | (exact permL)); (rw [h2] at hm'); (try rw [Out.bind_ok] at hm'))
        refine walk ?_
        exact wq_ret2 rfl rfl rfl (_, ([], e2), r2) rfl ⟨hm', trivial⟩ (Ent.trans (perm : Ent _ (RigAt k r2 F)) (sl_nil 1))
      · rw [if_neg h0] at hm'
        intro v' hvl hvn
        refine walk ?_
        intro s' hsl hsn
        refine walk ?_
        refine wq_round (i + 1, r1, s', rows ++ [(v, x.1)]) ⟨by dsimp only; omega, ?_, ?_, ?_⟩ (by dsimp only; omega) envs ?_
        · dsimp only
          rw [hm', List.map_append]; rfl
        · dsimp only
          rw [List.length_append]; simp; omega
        · intro q hq
          rcases List.mem_append.1 hq with hq | hq
          · exact hrb q hq
          · rw [List.mem_singleton.1 hq]; exact hxl
        · dsimp only
          rw [List.map_append]
          refine Ent.trans (Γ' := SlB v x.1 :: Pool rows :: Sl s' 1 (rows.map (·.1) ++ [v]) :: RigAt k r1 F) perm (Ent.trans Pool.put (Ent.trans (Pool.sub (rows' := rows ++ [(v, x.1)]) (fun q hq => ?_)) perm))
          rcases List.mem_append.1 hq with hq | hq
          · exact List.mem_cons_of_mem _ hq
          · rw [List.mem_singleton.1 hq]; exact List.mem_cons_self
  · have hi' : i = k.ps.length := by omega
    subst hi'
    rw [gather_end] at hm'
    haveI : ReadIn (Sl sv 1 (rows.map (·.1)) :: Pool rows :: RigAt k r' F) (fun h => Rd sv 1 (rows.map (·.1)) h ∧ ∀ r ∈ rows, Rd r.1 1 (r.2.map vb) h) :=
      ⟨fun h hs => ⟨(inferInstance : RdIn (Sl sv 1 (rows.map (·.1)) :: Pool rows :: RigAt k r' F) sv 1 (rows.map (·.1))).rd h hs, fun q hq => (Pool.rdIn hq).rd h hs.tail⟩⟩
    refine walk ?_
    refine call (xorOf_spec sv rows (by omega) hrb) ?_
    intro v _
    refine walk ?_
    exact wq_ret2 rfl rfl rfl (v, (xorOf (rows.map fun q : Row => q.2), 0), r') rfl ⟨hm', trivial⟩ perm
end Go.Proofs.Ytapgejjjgeiihaa
