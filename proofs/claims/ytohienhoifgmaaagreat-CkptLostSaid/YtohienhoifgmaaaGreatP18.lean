/- several texts, one behind the other -/
import Derived.Test.YtohienhoifgmaaaGreatP17

section
/- An array over disks: each function does what the plain text says. -/
namespace Go.Proofs.YtohienhoifgmaaaGreat
open Go Go.Sl
attribute [local irreducible] Yl WL WC WQ WD

theorem RigAt.opened {k : Keys} {r : Rig} {F : List HP} {h : Hp} (hs : Sat (RigAt k r F) h) : ∃ _ : Unit, r.ds.length = k.ps.length ∧ Sat (RigAt k r F) h :=
  ⟨(), Dks.len hs.tail.tail.tail.tail, hs⟩
theorem each_step {f : Nat → Rig → Out Rig Int} {n i : Nat} {r : Rig} (hi : i < n) : each f ((List.range n).drop i) r = (f i r).bind fun e r => if e = 0 then each f ((List.range n).drop (i + 1)) r else .ok e r := by
  rw [List.drop_eq_getElem_cons (by simpa using hi)]
  simp [each]
theorem each_end {f : Nat → Rig → Out Rig Int} {n : Nat} {r : Rig} : each f ((List.range n).drop n) r = .ok 0 r := by
  rw [List.drop_of_length_le (by simp)]; rfl
theorem aflush_spec (k : Keys) (hk : k.Ok) (r : Rig) :
    SpecG Tryz.prog outage 58 [vp k.a] (fun _ => True) (RigAt k) (aflush r) r (fun (_ : Unit) _ => True) (fun _ e => vi e) (fun _ _ F => F) := by
  (refine spec_of Tryz.func58 rfl Tryz.ntmps58 rfl (fun F w0 hrd => ?_))
  (first | refine WC.ex (fun y => RigAt.opened) (fun _ hlen => ?_) | refine WL.ex (fun y => RigAt.opened) (fun _ hlen => ?_) | refine WQ.ex (fun y => RigAt.opened) (fun _ hlen => ?_))
  have hm : aflush r = if r.broken then .ok 3 r else each aflush1 (List.range r.ds.length) r := rfl
  have hmem := hk.mem
  have hmm := hk.sh.members
  rw [hlen] at hm
  refine walk ?_
  refine WIf.both (fun hb => ?_) (fun hb => ?_) <;> refine walk ?_
  · exact wq_ret1 rfl rfl ((), 3, r) rfl ⟨by rw [hm, if_pos hb], trivial⟩ perm
  rw [if_neg (by simp [hb])] at hm
  refine wc_loop (X := Nat × Rig) (fun y => [(0, vp k.a), (13, k.lv), (14, vi k.ps.length), (15, vi y.1)]) (fun y => RigAt k y.2 F)
    (fun y => y.1 ≤ k.ps.length ∧ aflush r = each aflush1 ((List.range k.ps.length).drop y.1) y.2) (fun y => k.ps.length - y.1) (0, r) ⟨by omega, hm⟩ envs perm (fun y hy => ?_)
  obtain ⟨i, r'⟩ := y
  dsimp only at hy ⊢
  obtain ⟨hi, hm'⟩ := hy
  clear hm
  refine walk ?_
  refine wif_dec (fun hlt => ?_) (fun hlt => ?_)
  · have hlt : i < k.ps.length := by omega
    rw [each_step hlt] at hm'
    have hf : aflush1 i r' = (r'.dev i dflush).bind fun e r => if e ≠ 0 ∧ (i : Int) ≠ r.stale then alost i r else .ok 0 r := rfl
    rw [hf] at hm'
    refine walk ?_
    (refine gicall (rflush_spec k r' i hlt) (fun s' hg => ⟨s', ?_, ?_⟩) (fun x e r1 h1 _ => ?_); (rw [hm', hg] <;> rfl); (first | (exact perm) | (exact permL)); (rw [h1] at hm'); (try rw [Out.bind_ok] at hm'))
    refine walk ?_
    refine wif_dec (fun h0 => ?_) (fun h0 => ?_) <;> refine walk ?_
    · refine call (stale_spec k r1) ?_
      intro _ _
      refine walk ?_
      refine wif_dec (fun h2 => ?_) (fun h2 => ?_) <;> refine walk ?_
      · rw [if_pos ⟨h0, h2⟩] at hm'
        (refine gcall (lost_spec k r1 i) (fun s' hg => ⟨s', ?_, ?_⟩) (fun x e2 r2 h2 _ => ?_); (rw [hm', hg] <;> rfl); (first | (exact perm) | (exact permL)); (rw [h2] at hm'); (try rw [Out.bind_ok] at hm'))
        refine walk ?_
        refine wif_dec (fun h3 => ?_) (fun h3 => ?_) <;> refine walk ?_
        · exact wq_ret1 rfl rfl ((), e2, r2) rfl ⟨by rw [hm', if_neg h3], trivial⟩ perm
        · exact wq_round (i + 1, r2) ⟨by dsimp only; omega, by rw [hm', if_pos (by omega)]⟩ (by dsimp only; omega) envs perm
      · rw [if_neg (fun h => h2 h.2), Out.bind_ok, if_pos rfl] at hm'
        exact wq_round (i + 1, r1) ⟨by dsimp only; omega, hm'⟩ (by dsimp only; omega) envs perm
    · rw [if_neg (fun h => h0 h.1), Out.bind_ok, if_pos rfl] at hm'
      exact wq_round (i + 1, r1) ⟨by dsimp only; omega, hm'⟩ (by dsimp only; omega) envs perm
  · have hi' : i = k.ps.length := by omega
    subst hi'
    rw [each_end] at hm'
    refine walk ?_
    exact wq_ret1 rfl rfl ((), 0, r') rfl ⟨hm', trivial⟩ perm

theorem ahas_spec (k : Keys) (hk : k.Ok) (r : Rig) (t : Int) :
    Spec0 Tryz.prog 128 [vp k.a, vi t] (fun _ => True) (fun F => RigAt k r F) (fun _ : Unit => True) (fun _ => .bool (decide (0 ≤ t ∧ t < k.sh.all))) (fun _ F => RigAt k r F) := by
  (refine spec_of Tryz.func128 rfl Tryz.ntmps128 rfl (fun F w0 hrd => ?_))
  refine walk ?_
  refine wif_dec (fun hc => ?_) (fun hc => ?_) <;> refine walk ?_
  · refine call (all_spec k.sh hk.sh) ?_
    intro _ _
    refine walk ?_
    exact wq_ret1 rfl rfl () (by simp [hc]) trivial perm
  · exact wq_ret1 rfl rfl () (by simp [hc]) trivial perm
theorem knows {p : Prop} {Γ : List HP} {h : Hp} (hp : p) (hs : Sat Γ h) : ∃ _ : Unit, p ∧ Sat Γ h := ⟨(), hp, hs⟩
theorem Disks.ok {pp : Nat} : ∀ {ps : List Nat} {ds : List Dsk} {Γ : List HP} {h : Hp}, ds.length = ps.length → Sat (Disks pp ps ds ++ Γ) h → ∀ d ∈ ds, d.Ok
  | [], [], _, _, _, _ => fun _ h => by cases h
  | [], _ :: _, _, _, hl, _ => by cases hl
  | _ :: _, [], _, _, _, _ => fun _ h => by cases h
  | p :: ps, d :: ds, Γ, h, hl, hs => fun x hx => by
    have hs' : Sat (DiskAt p pp d :: (Disks pp ps ds ++ Γ)) h := hs
    rcases List.mem_cons.1 hx with rfl | hx
    · obtain ⟨y, hy, _⟩ := DiskAt.opened hs'
      exact hy.ok
    · exact Disks.ok (by simpa using hl) hs'.tail x hx
theorem RigAt.opened' {k : Keys} {r : Rig} {F : List HP} {h : Hp} (hs : Sat (RigAt k r F) h) : ∃ _ : Unit, (r.ds.length = k.ps.length ∧ ∀ d ∈ r.ds, d.Ok) ∧ Sat (RigAt k r F) h := by
  obtain ⟨hl, h1⟩ := Sat.pur.1 hs.tail.tail.tail.tail
  exact ⟨(), ⟨hl, Disks.ok hl (Sat.flat.1 h1)⟩, hs⟩
theorem rig_ok (k : Keys) (r : Rig) {F : List HP} {h : Hp} (hs : Sat (RigAt k r F) h) : r.ds.length = k.ps.length ∧ ∀ d ∈ r.ds, d.Ok := by
  obtain ⟨_, h1, _⟩ := RigAt.opened' hs
  exact h1
theorem Dsk.Ok.see {d : Dsk} (h : d.Ok) {i : Int} (hi : d.has i = true) : ((d.see i).length : Int) = d.size := by
  unfold Dsk.see
  have hi : 0 ≤ i ∧ i < d.on.length := by simpa [Dsk.has] using hi
  cases hg : mget d.cache i with
  | some b => exact (h.cache (i, b) (mget_mem hg)).2
  | none =>
    have h1 : i.toNat < d.on.length := by omega
    simp only [Option.getD_none, List.getD, List.getElem?_eq_getElem h1, Option.getD_some]
    exact h.on _ (List.getElem_mem h1)
theorem dread_len {s s' : DP} {i : Int} {a : Bytes × Int} (h : s.1.Ok) (hr : dread i s = .ok a s') : (a.1.length : Int) ≤ s.1.size ∧ (a.2 = 0 → (a.1.length : Int) = s.1.size) := by
  have h0 := h.size0
  unfold dread at hr
  split at hr
  · rename_i hh
    cases hs : dstep s with
    | gone s1 => rw [hs] at hr; cases hr
    | ok e s1 =>
      rw [hs, Out.bind_ok] at hr
      split at hr
      · cases hr
        obtain ⟨p, _, rfl, _⟩ := dstep_ok hs
        have := Dsk.Ok.see h hh
        exact ⟨Int.le_of_eq this, fun _ => this⟩
      · cases hr
        rename_i he
        exact ⟨by simpa using h0, fun h => absurd h he⟩
  · cases hr; exact ⟨by simpa using h0, fun h => by cases h⟩
theorem rread_len {k : Keys} {r r' : Rig} {m : Nat} {i : Int} {a : Bytes × Int} (hm : m < k.ps.length) (h : r.ds.length = k.ps.length ∧ ∀ d ∈ r.ds, d.Ok) (hr : r.dev m (dread i) = .ok a r') : a.1.length ≤ 1099511627776 := by
  have h1 : m < r.ds.length := by omega
  have h2 : (r.at m).Ok := h.2 _ (by unfold Rig.at; simp [List.getD, h1])
  rw [Rig.dev_up] at hr
  cases hs : dread i (r.at m, r.pow) with
  | gone s => rw [hs] at hr; cases hr
  | ok a' s =>
    rw [hs] at hr
    cases hr
    have := (dread_len h2 hs).1
    have := h2.size
    dsimp only at *
    omega

theorem gather_skip {m sector : Int} {n i : Nat} {acc : List Bytes} {r : Rig} (hi : i < n) (h : (i : Int) = m) : gather m sector ((List.range n).drop i) acc r = gather m sector ((List.range n).drop (i + 1)) acc r := by
  rw [List.drop_eq_getElem_cons (by simpa using hi)]
  simp [gather, h]
theorem gather_step {m sector : Int} {n i : Nat} {acc : List Bytes} {r : Rig} (hi : i < n) (h : ¬ (i : Int) = m) : gather m sector ((List.range n).drop i) acc r =
    (r.dev i (dread sector)).bind fun x r => if x.2 ≠ 0 then (alost i r).bind fun e r => .ok (.inr e) r else gather m sector ((List.range n).drop (i + 1)) (acc ++ [x.1]) r := by
  rw [List.drop_eq_getElem_cons (by simpa using hi)]
  simp [gather, h]
theorem gather_end {m sector : Int} {n : Nat} {acc : List Bytes} {r : Rig} : gather m sector ((List.range n).drop n) acc r = .ok (.inl acc) r := by
  rw [List.drop_of_length_le (by simp)]; rfl
/-- what comes of what was read -/
def gathered : List Bytes ⊕ Int → Rig → Out Rig (Bytes × Int)
  | .inl acc, r => .ok (xorOf acc, 0) r
  | .inr e, r => .ok ([], e) r

theorem aothers_spec (k : Keys) (hk : k.Ok) (r : Rig) (m sector : Int) :
    SpecG Tryz.prog outage 154 [vp k.a, vi m, vi sector] (fun _ => True) (RigAt k) (aothers m sector r) r (fun (_ : Value) _ => True) (fun v a => .tuple #[v, vi a.2]) (fun v a F => SlB v a.1 :: F) := by
  (refine spec_of Tryz.func154 rfl Tryz.ntmps154 rfl (fun F w0 hrd => ?_))
  (first | refine WC.ex (fun y => RigAt.opened) (fun _ hlen => ?_) | refine WL.ex (fun y => RigAt.opened) (fun _ hlen => ?_) | refine WQ.ex (fun y => RigAt.opened) (fun _ hlen => ?_))
  have hm : aothers m sector r = (gather m sector (List.range r.ds.length) [] r).bind gathered := by unfold aothers; congr 1; funext x r; cases x <;> rfl
  have hmem := hk.mem
  have hmm := hk.sh.members
  rw [hlen] at hm
  refine walk ?_
  refine wc_loop (X := Nat × Rig × Value × List Row) (fun y => [(0, vp k.a), (1, vi m), (2, vi sector), (8, y.2.2.1), (16, k.lv), (17, vi k.ps.length), (18, vi y.1)]) (fun y => Sl y.2.2.1 1 (y.2.2.2.map (·.1)) :: Pool y.2.2.2 :: RigAt k y.2.1 F)
    (fun y => y.1 ≤ k.ps.length ∧ aothers m sector r = (gather m sector ((List.range k.ps.length).drop y.1) (y.2.2.2.map (·.2)) y.2.1).bind gathered ∧ y.2.2.2.length ≤ y.1 ∧ ∀ q ∈ y.2.2.2, q.2.length ≤ 1099511627776)
    (fun y => k.ps.length - y.1) (0, r, .slice none 0 0, []) ⟨by omega, hm, by simp, by simp⟩ envs ((sl_nil 1).trans (Ent.skip Pool.nil)) (fun y hy => ?_)
  obtain ⟨i, r', sv, rows⟩ := y
  dsimp only at hy ⊢
  obtain ⟨hi, hm', hrl, hrb⟩ := hy
  clear hm
  refine walk ?_
  refine wif_dec (fun hlt => ?_) (fun hlt => ?_)
  · have hlt : i < k.ps.length := by omega
    refine walk ?_
    refine wif_dec (fun hc => ?_) (fun hc => ?_)
    · rw [gather_skip hlt hc] at hm'
      refine walk ?_
      exact wq_round (i + 1, r', sv, rows) ⟨by dsimp only; omega, hm', by dsimp only; omega, hrb⟩ (by dsimp only; omega) envs perm
    · rw [gather_step hlt hc] at hm'
      refine walk ?_
      (first | refine WL.ex (fun _ hs => knows (rig_ok k r' ((frame : Ent _ _) _ hs)) hs) (fun _ hl2 => ?_) | refine WC.ex (fun _ hs => knows (rig_ok k r' ((frame : Ent _ _) _ hs)) hs) (fun _ hl2 => ?_) | refine WQ.ex (fun _ hs => knows (rig_ok k r' ((frame : Ent _ _) _ hs)) hs) (fun _ hl2 => ?_))
      (refine gicall (rread_spec k r' i hlt sector) (fun s' hg => ⟨s', ?_, ?_⟩) (fun v x r1 h1 _ => ?_); (rw [hm', hg] <;> rfl); (first | (exact perm) | (exact permL)); (rw [h1] at hm'); (try rw [Out.bind_ok] at hm'))
      have hxl := rread_len hlt hl2 h1
      refine walk ?_
      refine wif_dec (fun h0 => ?_) (fun h0 => ?_) <;> refine walk ?_
      · rw [if_pos h0] at hm'
        (refine gcall (lost_spec k r1 i) (fun s' hg => ⟨s', ?_, ?_⟩) (fun x2 e2 r2 h2 _ => ?_); (rw [hm', hg] <;> rfl); (first | (exact perm) | (exact permL)); (rw [h2] at hm'); (try rw [Out.bind_ok] at hm'))
        refine walk ?_
        exact wq_ret2 rfl rfl rfl (_, ([], e2), r2) rfl ⟨hm', trivial⟩ (Ent.trans (perm : Ent _ (RigAt k r2 F)) (sl_nil 1))
      · rw [if_neg h0] at hm'
        intro v' hvl hvn
        refine walk ?_
        intro s' hsl hsn
        refine walk ?_
        refine wq_round (i + 1, r1, s', rows ++ [(v, x.1)]) ⟨by dsimp only; omega, ?_, ?_, ?_⟩ (by dsimp only; omega) envs ?_
        · dsimp only
          rw [hm', List.map_append]; rfl
        · dsimp only
          rw [List.length_append]; simp; omega
        · intro q hq
          rcases List.mem_append.1 hq with hq | hq
          · exact hrb q hq
          · rw [List.mem_singleton.1 hq]; exact hxl
        · dsimp only
          rw [List.map_append]
          refine Ent.trans (Γ' := SlB v x.1 :: Pool rows :: Sl s' 1 (rows.map (·.1) ++ [v]) :: RigAt k r1 F) perm (Ent.trans Pool.put (Ent.trans (Pool.sub (rows' := rows ++ [(v, x.1)]) (fun q hq => ?_)) perm))
          rcases List.mem_append.1 hq with hq | hq
          · exact List.mem_cons_of_mem _ hq
          · rw [List.mem_singleton.1 hq]; exact List.mem_cons_self
  · have hi' : i = k.ps.length := by omega
    subst hi'
    rw [gather_end] at hm'
    haveI : ReadIn (Sl sv 1 (rows.map (·.1)) :: Pool rows :: RigAt k r' F) (fun h => Rd sv 1 (rows.map (·.1)) h ∧ ∀ r ∈ rows, Rd r.1 1 (r.2.map vb) h) :=
      ⟨fun h hs => ⟨(inferInstance : RdIn (Sl sv 1 (rows.map (·.1)) :: Pool rows :: RigAt k r' F) sv 1 (rows.map (·.1))).rd h hs, fun q hq => (Pool.rdIn hq).rd h hs.tail⟩⟩
    refine walk ?_
    refine call (xorOf_spec sv rows (by omega) hrb) ?_
    intro v _
    refine walk ?_
    exact wq_ret2 rfl rfl rfl (v, (xorOf (rows.map fun q : Row => q.2), 0), r') rfl ⟨hm', trivial⟩ perm
end Go.Proofs.YtohienhoifgmaaaGreat
end

section
/- An array over disks: chunks, stripes. -/
namespace Go.Proofs.YtohienhoifgmaaaGreat
open Go Go.Sl
attribute [local irreducible] Yl WL WC WQ WD

theorem member_nat (k : Keys) (hk : k.Ok) (t c : Int) : ∃ m : Nat, k.sh.member t c = m ∧ m < k.ps.length := by
  have hmem := hk.mem
  have hmm := hk.sh.members
  have h1 := Int.emod_nonneg (t + 1 + c) (show k.sh.members ≠ 0 by omega)
  have h2 := Int.emod_lt_of_pos (t + 1 + c) (show 0 < k.sh.members by omega)
  exact ⟨(k.sh.member t c).toNat, by unfold Shp.member; omega, by unfold Shp.member; omega⟩
theorem parity_nat (k : Keys) (hk : k.Ok) (t : Int) : ∃ m : Nat, k.sh.parity t = m ∧ m < k.ps.length := by
  have hmem := hk.mem
  have hmm := hk.sh.members
  have h1 := Int.emod_nonneg t (show k.sh.members ≠ 0 by omega)
  have h2 := Int.emod_lt_of_pos t (show 0 < k.sh.members by omega)
  exact ⟨(k.sh.parity t).toNat, by unfold Shp.parity; omega, by unfold Shp.parity; omega⟩
theorem achunk_spec (k : Keys) (hk : k.Ok) (r : Rig) (t c : Int) :
    SpecG Tryz.prog outage 143 [vp k.a, vi t, vi c] (fun _ => True) (RigAt k) (achunk k.sh t c r) r (fun (_ : Value) _ => True) (fun v a => .tuple #[v, vi a.2]) (fun v a F => SlB v a.1 :: F) := by
  (refine spec_of Tryz.func143 rfl Tryz.ntmps143 rfl (fun F w0 hrd => ?_))
  have hmem := hk.mem
  have hmm := hk.sh.members
  have hsl := (bounds hk.sh).slots
  refine walk ?_
  refine call (ahas_spec k hk r t) ?_
  intro _ _
  by_cases ht : 0 ≤ t ∧ t < k.sh.all
  · rw [show decide (0 ≤ t ∧ t < k.sh.all) = true from by simpa using ht]
    refine walk ?_
    refine wif_dec (fun h1 => ?_) (fun h1 => ?_)
    · refine walk ?_
      exact wq_ret2 rfl rfl rfl (_, ([], 1), r) rfl ⟨by unfold achunk; rw [if_pos (.inr (.inl h1))], trivial⟩ (Ent.trans (perm : Ent _ (RigAt k r F)) (sl_nil 1))
    refine walk ?_
    refine call (slots_spec k.sh hk.sh) ?_
    intro _ _
    refine walk ?_
    refine wif_dec (fun h2 => ?_) (fun h2 => ?_)
    · refine walk ?_
      exact wq_ret2 rfl rfl rfl (_, ([], 1), r) rfl ⟨by unfold achunk; rw [if_pos (.inr (.inr h2))], trivial⟩ (Ent.trans (perm : Ent _ (RigAt k r F)) (sl_nil 1))
    have hno : ¬ (¬ (0 ≤ t ∧ t < k.sh.all) ∨ c < 0 ∨ c > k.sh.slots) := by omega
    refine walk ?_
    refine WIf.both (fun hb => ?_) (fun hb => ?_)
    · refine walk ?_
      exact wq_ret2 rfl rfl rfl (_, ([], 3), r) rfl ⟨by unfold achunk; rw [if_neg hno, if_pos hb], trivial⟩ (Ent.trans (perm : Ent _ (RigAt k r F)) (sl_nil 1))
    have hall := (bounds hk.sh).all
    have hall' : k.sh.all ≤ 1024 := hall.2
    obtain ⟨m, hm, hmlt⟩ := member_nat k hk t c
    have hr : achunk k.sh t c r = if (m : Int) ≠ r.stale then
        (r.dev m (dread (k.sh.stripeAt t))).bind fun x r => if x.2 = 0 then .ok (x.1, 0) r else (alost m r).bind fun e r => if e ≠ 0 then .ok ([], e) r else aothers m (k.sh.stripeAt t) r
        else aothers m (k.sh.stripeAt t) r := by
      unfold achunk
      rw [if_neg hno, if_neg (by simp [hb]), hm]
      simp only [Int.toNat_natCast]
    refine walk ?_
    (refine draw ?_; refine dy 0 ?_; refine dy 1 ?_; refine dy 2 ?_; refine dy 3 ?_; refine dy 4 ?_; refine dy 5 ?_; refine dy 7 ?_; refine dy 8 ?_; refine dy 9 ?_; refine dy 10 ?_; refine dy 11 ?_; refine ddx 6 ?_)
    refine call (member_spec k.sh hk.sh t c (by omega) (by omega)) ?_
    intro _ _
    (refine walk ?_; refine ddx 12 ?_)
    refine call (stripeAt_spec k.sh hk.sh t (by omega)) ?_
    intro _ _
    rw [hm]
    (refine walk ?_; refine dy 13 ?_; refine dy 14 ?_; refine walk ?_)
    refine call (stale_spec k r) ?_
    intro _ _
    refine walk ?_
    refine wif_dec (fun h3 => ?_) (fun h3 => ?_)
    · rw [if_pos h3] at hr
      refine walk ?_
      (refine gicall (rread_spec k r m hmlt (k.sh.stripeAt t)) (fun s' hg => ⟨s', ?_, ?_⟩) (fun v x r1 h1 _ => ?_); (rw [hr, hg] <;> rfl); (first | (exact perm) | (exact permL)); (rw [h1] at hr); (try rw [Out.bind_ok] at hr))
      refine walk ?_
      refine wif_dec (fun h4 => ?_) (fun h4 => ?_)
      · rw [if_pos h4] at hr
        refine walk ?_
        exact wq_ret2 rfl rfl rfl (v, (x.1, 0), r1) rfl ⟨hr, trivial⟩ perm
      rw [if_neg h4] at hr
      refine walk ?_
      (refine gcall (lost_spec k r1 m) (fun s' hg => ⟨s', ?_, ?_⟩) (fun x2 e2 r2 h2 _ => ?_); (rw [hr, hg] <;> rfl); (first | (exact perm) | (exact permL)); (rw [h2] at hr); (try rw [Out.bind_ok] at hr))
      refine walk ?_
      refine wif_dec (fun h5 => ?_) (fun h5 => ?_)
      · rw [if_pos h5] at hr
        refine walk ?_
        exact wq_ret2 rfl rfl rfl (_, ([], e2), r2) rfl ⟨hr, trivial⟩ (Ent.trans (perm : Ent _ (RigAt k r2 F)) (sl_nil 1))
      rw [if_neg h5] at hr
      refine walk ?_
      (refine gcall (aothers_spec k hk r2 m (k.sh.stripeAt t)) (fun s' hg => ⟨s', ?_, ?_⟩) (fun v3 x3 r3 h6 _ => ?_); (rw [hr, hg] <;> rfl); (first | (exact perm) | (exact permL)); (rw [h6] at hr); (try rw [Out.bind_ok] at hr))
      refine walk ?_
      exact wq_ret2 rfl rfl rfl (v3, x3, r3) rfl ⟨hr, trivial⟩ perm
    · rw [if_neg h3] at hr
      refine walk ?_
      (refine gcall (aothers_spec k hk r m (k.sh.stripeAt t)) (fun s' hg => ⟨s', ?_, ?_⟩) (fun v3 x3 r3 h6 _ => ?_); (rw [hr, hg] <;> rfl); (first | (exact perm) | (exact permL)); (rw [h6] at hr); (try rw [Out.bind_ok] at hr))
      refine walk ?_
      exact wq_ret2 rfl rfl rfl (v3, x3, r3) rfl ⟨hr, trivial⟩ perm
  · rw [show decide (0 ≤ t ∧ t < k.sh.all) = false from by simpa using ht]
    refine walk ?_
    exact wq_ret2 rfl rfl rfl (_, ([], 1), r) rfl ⟨by unfold achunk; rw [if_pos (.inl ht)], trivial⟩ (Ent.trans (perm : Ent _ (RigAt k r F)) (sl_nil 1))
end Go.Proofs.YtohienhoifgmaaaGreat
end

section
/- An array over disks: Put. -/
namespace Go.Proofs.YtohienhoifgmaaaGreat
open Go Go.Sl
attribute [local irreducible] Yl WL WC WQ WD

theorem aputs_step {s : Shp} {t : Int} {l : List Bytes} {i : Nat} {r : Rig} (hi : i < l.length) :
    each (fun x : Bytes × Nat => awrite (s.member t x.2) (s.stripeAt t) x.1) (l.zipIdx.drop i) r = (awrite (s.member t i) (s.stripeAt t) l[i] r).bind fun e r => if e = 0 then each (fun x : Bytes × Nat => awrite (s.member t x.2) (s.stripeAt t) x.1) (l.zipIdx.drop (i + 1)) r else .ok e r := by
  rw [List.drop_eq_getElem_cons (by simpa using hi)]
  simp [each]
theorem aputs_end {s : Shp} {t : Int} {l : List Bytes} {r : Rig} : each (fun x : Bytes × Nat => awrite (s.member t x.2) (s.stripeAt t) x.1) (l.zipIdx.drop l.length) r = .ok 0 r := by
  rw [List.drop_of_length_le (by simp)]; rfl

set_option maxHeartbeats 1000000 in
theorem aput_spec (k : Keys) (hk : k.Ok) (r : Rig) (t : Int) (cv : Value) (rows : List Row) (hn : rows.length ≤ 1048576) (hb : ∀ q ∈ rows, q.2.length ≤ 1099511627776) :
    SpecG Tryz.prog outage 83 [vp k.a, vi t, cv] (fun h => Rd cv 1 (rows.map (·.1)) h ∧ ∀ r ∈ rows, Rd r.1 1 (r.2.map vb) h) (RigAt k) (aput k.sh t (rows.map (·.2)) r) r (fun (_ : Unit) _ => True) (fun _ e => vi e) (fun _ _ F => F) := by
  (refine spec_of Tryz.func83 rfl Tryz.ntmps83 rfl (fun F w0 hrd => ?_))
  haveI : RdIn F cv 1 (rows.map (·.1)) := ⟨fun h hs => (hrd h hs).1⟩
  haveI : ReadIn F (fun h => Rd cv 1 (rows.map (·.1)) h ∧ ∀ r ∈ rows, Rd r.1 1 (r.2.map vb) h) := ⟨hrd⟩
  have hrow : ∀ q ∈ rows, RdIn F q.1 1 (q.2.map vb) := fun q hq => ⟨fun h hs => (hrd h hs).2 q hq⟩
  have hmem := hk.mem
  have hmm := hk.sh.members
  have hl : (rows.map (·.2)).length = rows.length := by simp
  have hall := (bounds hk.sh).all
  have hall' : k.sh.all ≤ 1024 := hall.2
  obtain ⟨A, hA⟩ : ∃ A : Prop, A = ((rows.length : Int) = k.sh.members - 1 ∧ (0 ≤ t ∧ t < k.sh.all)) := ⟨_, rfl⟩
  haveI : Decidable A := by rw [hA]; infer_instance
  refine walk ?_
  refine wif_cut 4 28 (.bool (decide A)) (fun K => ?_) ?_
  · refine wif_dec (fun hc => ?_) (fun hc => ?_)
    · iterate 2 (first | (refine wl_guard_yes rfl rfl rfl ?_; refine wl_ya ?_) | (refine wl_guard_no rfl rfl rfl rfl rfl ?_) | (refine wl_ya ?_))
      refine wl_guard_yes rfl rfl rfl ?_
      refine call (ahas_spec k hk r t) ?_
      intro _ _
      (first | (refine wl_guard_yes rfl rfl rfl ?_; refine wl_ya ?_) | (refine wl_guard_no rfl rfl rfl rfl rfl ?_) | (refine wl_ya ?_))
      exact K true _ _ rfl (by (repeat (first | exact trivial | refine And.intro (by first | exact trivial | rfl) ?_))) (by simp [hc]) (by simp [hA, hc])
    · iterate 4 (first | (refine wl_guard_yes rfl rfl rfl ?_; refine wl_ya ?_) | (refine wl_guard_no rfl rfl rfl rfl rfl ?_) | (refine wl_ya ?_))
      exact K false _ _ rfl (by (repeat (first | exact trivial | refine And.intro (by first | exact trivial | rfl) ?_))) (by simp [hc]) (by simp [hA, hc])
  refine walk ?_
  refine wc_loop (X := Nat) (fun i => [(0, vp k.a), (1, vi t), (2, cv), (7, .bool (decide (A ∧ ∀ b ∈ (rows.take i).map (·.2), (b.length : Int) = k.sh.block))), (29, cv), (30, vi rows.length), (31, vi i)]) (fun _ => RigAt k r F)
    (fun i => i ≤ rows.length) (fun i => rows.length - i) 0 (by omega) (by simp only [List.take_zero, List.map_nil, List.not_mem_nil, false_imp_iff, implies_true, and_true]; exact envs) perm (fun i hi => ?_)
  have htk : ∀ i (hlt : i < rows.length), (A ∧ ∀ b ∈ (rows.take (i + 1)).map (·.2), (b.length : Int) = k.sh.block) ↔ ((A ∧ ∀ b ∈ (rows.take i).map (·.2), (b.length : Int) = k.sh.block) ∧ (rows[i].2.length : Int) = k.sh.block) := fun i hlt => by
    rw [List.take_succ_eq_append_getElem hlt, List.map_append]
    constructor
    · intro h
      exact ⟨⟨h.1, fun b hb => h.2 b (List.mem_append_left _ hb)⟩, h.2 _ (List.mem_append_right _ (by simp))⟩
    · intro h
      refine ⟨h.1.1, fun b hb => ?_⟩
      rcases List.mem_append.1 hb with hb | hb
      · exact h.1.2 b hb
      · rw [List.map_singleton, List.mem_singleton] at hb; rw [hb]; exact h.2
  refine walk ?_
  refine wif_dec (fun hlt => ?_) (fun hlt => ?_)
  · have hlt : i < rows.length := by omega
    have hr := List.getElem_mem hlt
    have hb1 := hb _ hr
    have htk := htk i hlt
    refine walk ?_
    generalize rows[i] = q at *
    haveI := hrow q hr
    refine walk ?_
    refine wif_cut 9 45 (.bool (decide (A ∧ ∀ b ∈ (rows.take (i + 1)).map (·.2), (b.length : Int) = k.sh.block))) (fun K => ?_) ?_
    · refine wif_dec (fun hc => ?_) (fun hc => ?_)
      · iterate 9 (first | (refine wl_guard_yes rfl rfl rfl ?_; refine wl_ya ?_) | (refine wl_guard_no rfl rfl rfl rfl rfl ?_) | (refine wl_ya ?_))
        exact K true _ _ rfl (by (repeat (first | exact trivial | refine And.intro (by first | exact trivial | rfl) ?_))) (decide_eq_true hc).symm (congrArg Value.bool (decide_eq_decide.2 (htk.trans (and_iff_right hc)).symm))
      · iterate 9 (first | (refine wl_guard_yes rfl rfl rfl ?_; refine wl_ya ?_) | (refine wl_guard_no rfl rfl rfl rfl rfl ?_) | (refine wl_ya ?_))
        exact K false _ _ rfl (by (repeat (first | exact trivial | refine And.intro (by first | exact trivial | rfl) ?_))) (decide_eq_false hc).symm (congrArg Value.bool (decide_eq_false (fun h => hc (htk.1 h).1)).symm)
    refine walk ?_
    exact wq_round (i + 1) (by omega) (by omega) envs perm
  have hi' : i = rows.length := by omega
  subst hi'
  rw [List.take_length]
  clear htk
  refine walk ?_
  have hAll : (A ∧ ∀ b ∈ rows.map (·.2), (b.length : Int) = k.sh.block) ↔ (((rows.map (·.2)).length : Int) = k.sh.members - 1 ∧ (0 ≤ t ∧ t < k.sh.all) ∧ ∀ b ∈ rows.map (·.2), (b.length : Int) = k.sh.block) := by rw [hA, hl, and_assoc]
  refine wif_dec (fun hc => ?_) (fun hc => ?_)
  rotate_left
  · refine walk ?_
    exact wq_ret1 rfl rfl ((), 1, r) rfl ⟨by unfold aput; rw [if_pos (by rw [← hAll]; exact hc)], trivial⟩ perm
  refine walk ?_
  refine WIf.both (fun hbr => ?_) (fun hbr => ?_)
  · refine walk ?_
    exact wq_ret1 rfl rfl ((), 3, r) rfl ⟨by unfold aput; rw [if_neg (by rw [← hAll]; exact not_not_intro hc), if_pos hbr], trivial⟩ perm
  have hok := hc
  have hok' := hok.1
  rw [hA] at hok'
  have hm : aput k.sh t (rows.map (·.2)) r = (aputs k.sh t (rows.map (·.2)) r).bind fun e r => if e ≠ 0 then .ok e r
    else (awrite (k.sh.parity t) (k.sh.stripeAt t) (xorOf (rows.map (·.2))) r).bind fun e r => if e ≠ 0 then .ok e r else aflush r := by
    unfold aput
    rw [if_neg (by rw [← hAll]; exact not_not_intro hc), if_neg (by simp [hbr])]
  refine walk ?_
  refine call (stripeAt_spec k.sh hk.sh t (by omega)) ?_
  intro _ _
  refine walk ?_
  refine wc_loop (X := Nat × Rig) (fun y => [(0, vp k.a), (1, vi t), (2, cv), (10, vi (k.sh.stripeAt t)), (61, cv), (62, vi rows.length), (63, vi y.1)]) (fun y => RigAt k y.2 F)
    (fun y => y.1 ≤ rows.length ∧ aputs k.sh t (rows.map (·.2)) r = each (fun x : Bytes × Nat => awrite (k.sh.member t x.2) (k.sh.stripeAt t) x.1) ((rows.map (·.2)).zipIdx.drop y.1) y.2) (fun y => rows.length - y.1) (0, r) ⟨by omega, rfl⟩ envs perm (fun y hy => ?_)
  obtain ⟨i, r'⟩ := y
  dsimp only at hy ⊢
  obtain ⟨hi, hs⟩ := hy
  refine walk ?_
  refine wif_dec (fun hlt => ?_) (fun hlt => ?_)
  · have hlt : i < rows.length := by omega
    have hr := List.getElem_mem hlt
    rw [aputs_step (by omega), List.getElem_map] at hs
    refine walk ?_
    generalize rows[i] = q at *
    haveI := hrow q hr
    obtain ⟨m, hme, hmlt⟩ := member_nat k hk t i
    rw [hme] at hs
    rw [hs] at hm
    refine walk ?_
    refine call (member_spec k.sh hk.sh t i (by omega) (by omega)) ?_
    intro _ _
    rw [hme]
    refine walk ?_
    (refine gcall (awrite_spec k r' m hmlt (k.sh.stripeAt t) q.1 q.2) (fun s' hg => ⟨s', ?_, ?_⟩) (fun x e r1 h1 _ => ?_); (rw [hm, hg] <;> rfl); (first | (exact perm) | (exact permL)); (rw [h1] at hm); (try rw [Out.bind_ok] at hm))
    rw [h1, Out.bind_ok] at hs
    refine walk ?_
    refine wif_dec (fun h2 => ?_) (fun h2 => ?_)
    · rw [if_neg h2] at hm
      refine walk ?_
      exact wq_ret1 rfl rfl ((), e, r1) rfl ⟨by rw [hm, Out.bind_ok, if_pos h2], trivial⟩ perm
    rw [if_pos (Decidable.not_not.1 h2)] at hs
    refine walk ?_
    exact wq_round (i + 1, r1) ⟨by dsimp only; omega, hs⟩ (by dsimp only; omega) envs perm
  have hi' : i = (rows.map (·.2)).length := by omega
  rw [hi', aputs_end] at hs
  rw [hs, Out.bind_ok, if_neg (by simp)] at hm
  obtain ⟨m, hme, hmlt⟩ := parity_nat k hk t
  rw [hme] at hm
  refine walk ?_
  refine call (parity_spec k.sh hk.sh t (by omega)) ?_
  intro _ _
  rw [hme]
  refine walk ?_
  refine call (xorOf_spec cv rows hn hb) ?_
  intro v _
  refine walk ?_
  (refine gcall (awrite_spec k r' m hmlt (k.sh.stripeAt t) v (xorOf (rows.map fun q : Row => q.2))) (fun s' hg => ⟨s', ?_, ?_⟩) (fun x e r1 h1 _ => ?_); (rw [hm, hg] <;> rfl); (first | (exact perm) | (exact permL)); (rw [h1] at hm); (try rw [Out.bind_ok] at hm))
  refine walk ?_
  refine wif_dec (fun h2 => ?_) (fun h2 => ?_)
  · rw [if_pos h2] at hm
    refine walk ?_
    exact wq_ret1 rfl rfl ((), e, r1) rfl ⟨hm, trivial⟩ perm
  rw [if_neg h2] at hm
  refine walk ?_
  (refine gcall (aflush_spec k hk r1) (fun s' hg => ⟨s', ?_, ?_⟩) (fun x3 e3 r3 h3 _ => ?_); (rw [hm, hg] <;> rfl); (first | (exact perm) | (exact permL)); (rw [h3] at hm); (try rw [Out.bind_ok] at hm))
  refine walk ?_
  exact wq_ret1 rfl rfl ((), e3, r3) rfl ⟨hm, trivial⟩ perm
end Go.Proofs.YtohienhoifgmaaaGreat
end
