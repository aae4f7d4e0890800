/- several texts, one behind the other -/
import Derived.Test.YtohienhoifgmaaaGreatP35
import Derived.Test.YtohienhoifgmaaaGreatP31

section
/- A part of one's own slice is one's own. No program. -/
namespace Go.Sl
open Go
theorem Sl.sub {v : Value} {k : Nat} {vs : List Value} {h : Hp} (hk : 0 < k) (r : Sl v k vs h) {lo hi : Nat} (h1 : lo ≤ hi) (h2 : hi * k ≤ vs.length) : Sl (slSub v k lo hi) k ((vs.drop (lo * k)).take ((hi - lo) * k)) h := by
  rcases r with ⟨rfl, rfl⟩ | ⟨b, off, len, cap, cs, rfl, c, c2, d, e, f⟩
  · have hh : hi = 0 := by
      rcases Nat.eq_zero_or_pos hi with h | h
      · exact h
      · have := Nat.mul_pos h hk
        simp only [List.length_nil] at h2
        omega
    subst hh
    obtain rfl : lo = 0 := by omega
    exact .inl ⟨rfl, by simp⟩
  · have h3 : hi ≤ len := by rw [d] at h2; exact Nat.le_of_mul_le_mul_right h2 hk
    by_cases hc : cap = lo
    · refine .inr ⟨b, off, 0, 0, cs, ?_, Nat.le_refl _, ?_, ?_, ?_, f⟩
      · simp only [slSub, if_pos hc]
        rw [show hi - lo = 0 by omega, show cap - lo = 0 by omega]
      · rw [Nat.zero_mul, Nat.add_zero]
        exact Nat.le_trans (Nat.le_add_right _ _) c2
      · rw [show hi - lo = 0 by omega, Nat.zero_mul, List.take_zero]; rfl
      · rw [show hi - lo = 0 by omega, Nat.zero_mul, List.take_zero, List.take_zero]
    · refine .inr ⟨b, off + lo * k, hi - lo, cap - lo, cs, ?_, by omega, ?_, ?_, ?_, f⟩
      · simp only [slSub, if_neg hc, Option.map_some, addr_add]
      · have h4 : lo ≤ cap := by omega
        have := Nat.mul_le_mul_right k h4
        rw [Nat.sub_mul]; omega
      · rw [List.length_take, List.length_drop, d, ← Nat.sub_mul]
        exact Nat.min_eq_left (Nat.mul_le_mul_right k (by omega))
      · rw [← e, List.drop_take, List.drop_drop, List.take_take, ← Nat.sub_mul, Nat.min_eq_left (Nat.mul_le_mul_right k (by omega))]
theorem Sl.drop1 {v : Value} {b : Bytes} {Γ : List HP} {i : Nat} (hi : i ≤ b.length) : Ent (SlB v b :: Γ) (SlB (slSub v 1 i b.length) (b.drop i) :: Γ) := fun _ hs => by
  refine hs.imp fun h r => ?_
  have := Sl.sub (by omega) r hi (by simp)
  rw [Nat.mul_one, Nat.mul_one, ← List.map_drop, ← List.map_take, List.take_of_length_le (by simp)] at this
  exact this
end Go.Sl
end

section
/- The end of a slice of one's own is cleared. No program. -/
namespace Go.Sl
open Go
section
variable {P : Program} {w0 : World} {n : Nat} {env : Env} {Γ : List HP}
theorem zero_cells {z : Array Value} {k j : Nat} (hz : z.size = k) (hk : 0 < k) (h1 : ∀ q ∈ z.toList, q.oneCell' = true) : (Builtin.zeroCells z j).toList.length = j * k ∧ ∀ q ∈ (Builtin.zeroCells z j).toList, q.oneCell' = true := by
  refine ⟨by rw [Array.length_toList, size_zeroCells', hz], fun q hq => ?_⟩
  unfold Builtin.zeroCells at hq
  simp only [Array.toList_map, List.mem_map] at hq
  obtain ⟨i, _, rfl⟩ := hq
  have hi : i % z.size < z.size := Nat.mod_lt _ (by omega)
  apply h1
  rw [getElem!_pos z (i % z.size) hi]
  exact Array.getElem_mem_toList hi
theorem wl_clearSl {Q : Exit → Act → World → Prop} {ops : Array Oper} {rest : List Oper} {ty : TypeId} {pos : String} {after : Array Edge} {t e : TypeId} {k by' : Nat} {z : Value} {x : Operand} {v : Value} {vs : List Value} {lo m : Nat} {Γ' : List HP} [u : Und P t (.slice e)] [el : ElemT P e k by' z]
    (hx : evl env x = some (slSub v k lo m)) [p : PickS Γ v k vs Γ'] (hm : m * k = vs.length) (hk : 0 < k) (hlo : lo ≤ m) (hz : z.cells.size = k) (h1 : ∀ q ∈ z.cells.toList, q.oneCell' = true)
    (kk : ∀ vs' : List Value, vs'.length = vs.length → vs'.take (lo * k) = vs.take (lo * k) → WL P ops rest Q w0 n env (Sl v k vs' :: Γ')) :
    WL P ops (⟨none, .call ⟨.builtin .clear, #[x], #[t]⟩, ty, pos, after, none⟩ :: rest) Q w0 n env Γ := fun a w s => by
  refine wpList_plain rfl fun K hK => ?_
  have hs := p.pick _ s.sat
  obtain ⟨i, hi, hik, hib, hiz⟩ := el.info
  have hzv : ∀ w, (zeroValue e).run P w = .ok z w := fun w => by simp [zeroValue, typeInfo, hi, hiz]
  have key : ∃ w' vs', (execOp a.eval ⟨none, .call ⟨.builtin .clear, #[x], #[t]⟩, ty, pos, after, none⟩).run P w = .ok (.value (.tuple #[])) w' ∧ Evo w w' ∧ vs'.length = vs.length ∧ vs'.take (lo * k) = vs.take (lo * k) ∧ Sat (Sl v k vs' :: Γ') (hpOf w') := by
    obtain ⟨h1', h2', c1, c2, c3, hA, e'⟩ := hs
    rcases hA with ⟨rfl, rfl⟩ | ⟨bk, off, len, cap, cs, rfl, q1, q2, q3, q4, q5⟩
    · refine ⟨w, [], ?_, Evo.refl w, rfl, rfl, ⟨h1', h2', c1, c2, c3, .inl ⟨rfl, rfl⟩, e'⟩⟩
      have hm0 : m = 0 := by
        rcases Nat.eq_zero_or_pos m with h | h
        · exact h
        · have := Nat.mul_pos h hk; simp at hm; omega
      have hl0 : lo = 0 := by omega
      subst hm0 hl0
      simp [execOp, resolve, invoke, builtin, s.env.evl hx, Builtin.clear_, slSub, u.run]
    · have hml : m = len := Nat.eq_of_mul_eq_mul_right hk (by rw [hm, q3])
      subst hml
      have hs' : Sat (Cells bk cs :: Γ') (hpOf w) := ⟨h1', h2', c1, c2, c3, q5, e'⟩
      have hlk : m * k ≤ cap * k := Nat.mul_le_mul_right k q1
      rcases Nat.lt_or_ge lo m with hlt | hge
      · obtain ⟨j, hj⟩ : ∃ j, m - lo = j + 1 := ⟨m - lo - 1, by omega⟩
        obtain ⟨z1, z2⟩ := zero_cells (j := j + 1) hz hk h1
        have hsum : lo * k + (j + 1) * k = m * k := by rw [← Nat.add_mul]; congr 1; omega
        obtain ⟨r1, r2⟩ := sl_write (P := P) (o := lo * k) (news := (Builtin.zeroCells z.cells (j + 1)).toList) q2 hs' z2 (by rw [z1]; omega)
        have hne : ¬ cap = lo := by omega
        refine ⟨_, vs.take (lo * k) ++ (Builtin.zeroCells z.cells (j + 1)).toList ++ vs.drop (lo * k + (Builtin.zeroCells z.cells (j + 1)).toList.length), ?_, evo_setRow w bk (cs.take (off + lo * k) ++ (Builtin.zeroCells z.cells (j + 1)).toList ++ cs.drop (off + lo * k + (Builtin.zeroCells z.cells (j + 1)).toList.length)).toArray, ?_, ?_, ?_⟩
        · have hsl : slSub (.slice (some ⟨bk, off, none⟩) m cap) k lo m = .slice (some ⟨bk, off + lo * k, none⟩) (j + 1) (cap - lo) := by
            simp only [slSub, if_neg hne, Option.map_some, addr_add, hj]
          rw [hsl] at hx
          simp [execOp, resolve, invoke, builtin, s.env.evl hx, Builtin.clear_, u.run, hzv, r1]
        · simp only [List.length_append, List.length_take, List.length_drop, z1]; omega
        · rw [List.append_assoc, List.take_left']
          rw [List.length_take]; omega
        · refine r2.imp fun hh hc => .inr ⟨bk, off, m, cap, _, rfl, q1, ?_, ?_, ?_, hc⟩
          · simp only [List.length_append, List.length_take, List.length_drop, z1]; omega
          · simp only [List.length_append, List.length_take, List.length_drop, z1]; omega
          · have hcs : cs = cs.take off ++ vs ++ cs.drop (off + m * k) := by
              rw [← q4, ← List.drop_drop, List.append_assoc, List.take_append_drop, List.take_append_drop]
            have hl : (cs.take off).length = off := by rw [List.length_take]; omega
            have := lay_mid (A := cs.take off) (vs := vs) (B := cs.drop (off + m * k)) (us := (Builtin.zeroCells z.cells (j + 1)).toList) (m := lo * k) hl (by rw [z1]; omega)
            rw [← hcs, q3] at this
            exact this
      · have hlm : lo = m := by omega
        subst hlm
        refine ⟨w, vs, ?_, Evo.refl w, rfl, rfl, ⟨h1', h2', c1, c2, c3, .inr ⟨bk, off, lo, cap, cs, rfl, q1, q2, q3, q4, q5⟩, e'⟩⟩
        have hsl : ∃ o, slSub (.slice (some ⟨bk, off, none⟩) lo cap) k lo lo = .slice o 0 (cap - lo) := by
          simp only [slSub, Nat.sub_self]; exact ⟨_, rfl⟩
        obtain ⟨o, hsl⟩ := hsl
        rw [hsl] at hx
        cases o <;> simp [execOp, resolve, invoke, builtin, s.env.evl hx, Builtin.clear_, u.run]
  obtain ⟨w', vs', hr, he, g1, g2, g3⟩ := key
  unfold Oper.wp
  rw [hr]
  exact kk vs' g1 g2 _ _ ⟨s.env, s.defers, s.evo.trans he, g3⟩ |> hK _ _
end
end Go.Sl
end

section
/- The small memory: records that are done with go, as the program has it. -/
namespace Go.Proofs.YtohienhoifgmaaaGreat
open Go Go.Sl
attribute [local irreducible] Yl WL WC WQ WD
theorem rset_flat {t : List (Rec × Value)} {n : Nat} (h : n < t.length) (s : Rec × Value) : (t.flatMap recCells).take (n * 4) ++ recCells s ++ (t.flatMap recCells).drop (n * 4 + 4) = (t.set n s).flatMap recCells := by
  induction t generalizing n with
  | nil => simp at h
  | cons a t ih =>
    cases n with
    | zero => rfl
    | succ n =>
      rw [List.set_cons_succ]
      show _ = recCells a ++ (t.set n s).flatMap recCells
      rw [← ih (by simpa using h), List.flatMap_cons, show (n + 1) * 4 = n * 4 + 4 by omega]
      rfl
theorem rtake_flat (t : List (Rec × Value)) (n : Nat) : (t.flatMap recCells).take (n * 4) = (t.take n).flatMap recCells := by
  induction t generalizing n with
  | nil => simp
  | cons a t ih =>
    cases n with
    | zero => rfl
    | succ n =>
      rw [List.flatMap_cons, List.take_succ_cons, List.flatMap_cons, ← ih, show (n + 1) * 4 = n * 4 + 4 by omega]
      rfl
theorem commit1_spec (e : Rec × Value) (c : Nat) (upTo : Int) :
    Spec0 Tryz.prog 134 [.agg (recCells e).toArray, vp c] (Rd e.2 1 (e.1.data.map vb)) (fun F => Cells c [.int .u64 upTo] :: F) (fun _ : Unit => True) (fun _ => .bool (decide (e.1.seq ≤ upTo))) (fun _ F => Cells c [.int .u64 upTo] :: F) := by
  (refine spec_of Tryz.func134 rfl Tryz.ntmps134 rfl (fun F w0 hrd => ?_))
  obtain ⟨r, v⟩ := e
  dsimp only [recCells] at hrd ⊢
  haveI : RdIn F v 1 (r.data.map vb) := ⟨hrd⟩
  refine walk ?_
  intro c2
  refine walk ?_
  exact wq_ret1 rfl rfl () rfl trivial perm
/-- a function that tells whether a record is done with -/
abbrev DoneF (f : FuncId) : Prop := ∀ (e : Rec × Value) (c : Nat) (upTo : Int), Spec0 Tryz.prog f [.agg (recCells e).toArray, vp c] (Rd e.2 1 (e.1.data.map vb)) (fun F => Cells c [.int .u64 upTo] :: F) (fun _ : Unit => True) (fun _ => .bool (decide (e.1.seq ≤ upTo))) (fun _ F => Cells c [.int .u64 upTo] :: F)
/-- the first record that is done with -/
def doneAt (upTo : Int) (rs : List (Rec × Value)) : Int := match rs.findIdx? (fun e => decide (e.1.seq ≤ upTo)) with
  | none => -1
  | some i => i
theorem doneAt_take (upTo : Int) (t : List (Rec × Value)) {k : Nat} (h : ∀ (j : Nat) (hj : j < t.length), j < k → ¬ t[j].1.seq ≤ upTo) : (∀ hk : k < t.length, t[k].1.seq ≤ upTo → doneAt upTo t = k) ∧ (t.length ≤ k → doneAt upTo t = -1) := by
  unfold doneAt
  refine ⟨fun hk h0 => ?_, fun hk => ?_⟩
  · have : t.findIdx? (fun e => decide (e.1.seq ≤ upTo)) = some k := by
      rw [List.findIdx?_eq_some_iff_getElem]
      exact ⟨hk, by simpa using h0, fun j hj => by simpa using h j (by omega) hj⟩
    rw [this]
  · have : t.findIdx? (fun e => decide (e.1.seq ≤ upTo)) = none := by
      rw [List.findIdx?_eq_none_iff]
      intro x hx
      obtain ⟨j, hj, rfl⟩ := List.mem_iff_getElem.1 hx
      simpa using h j hj (by omega)
    rw [this]
theorem doneAt_spec (upTo : Int) (rs : List (Rec × Value)) : (doneAt upTo rs = -1 ∧ ∀ e ∈ rs, ¬ e.1.seq ≤ upTo) ∨ ∃ i : Nat, doneAt upTo rs = i ∧ ∃ h : i < rs.length, rs[i].1.seq ≤ upTo ∧ ∀ e ∈ rs.take i, ¬ e.1.seq ≤ upTo := by
  unfold doneAt
  cases hf : rs.findIdx? (fun e => decide (e.1.seq ≤ upTo)) with
  | none =>
    refine .inl ⟨rfl, fun e he => ?_⟩
    have := List.findIdx?_eq_none_iff.1 hf e he
    simpa using this
  | some i =>
    obtain ⟨hi, hp, hno⟩ := List.findIdx?_eq_some_iff_getElem.1 hf
    refine .inr ⟨i, rfl, hi, by simpa using hp, fun e he => ?_⟩
    obtain ⟨j, hj, rfl⟩ := List.mem_iff_getElem.1 he
    rw [List.length_take] at hj
    rw [List.getElem_take]
    simpa using hno j (by omega)
set_option maxHeartbeats 1000000 in
theorem nindex_spec {f : FuncId} [CallT Tryz.prog f] (hc : DoneF f) (v : Value) (rs : List (Rec × Value)) (c : Nat) (upTo : Int) (hn : rs.length ≤ 1048576) :
    Spec0 Tryz.prog 148 [v, .func (.func f) #[] #[vp c]] (fun h => Rd v 4 (rs.flatMap recCells) h ∧ ∀ e ∈ rs, Rd e.2 1 (e.1.data.map vb) h) (fun F => Cells c [.int .u64 upTo] :: F) (fun _ : Unit => True) (fun _ => vi (doneAt upTo rs)) (fun _ F => Cells c [.int .u64 upTo] :: F) := by
  (refine spec_of Tryz.func148 rfl Tryz.ntmps148 rfl (fun F w0 hrd => ?_))
  haveI : RdIn F v 4 (rs.flatMap recCells) := ⟨fun h hs => (hrd h hs).1⟩
  have hrow : ∀ e ∈ rs, RdIn F e.2 1 (e.1.data.map vb) := fun e he => ⟨fun h hs => (hrd h hs).2 e he⟩
  have hl := rec_len rs
  refine walk ?_
  refine wc_loop (X := Nat) (fun k => [(0, v), (1, .func (.func f) #[] #[vp c]), (7, vi rs.length), (8, vi k)]) (fun _ => Cells c [.int .u64 upTo] :: F) (fun k => k ≤ rs.length ∧ ∀ (j : Nat) (hj : j < rs.length), j < k → ¬ rs[j].1.seq ≤ upTo) (fun k => rs.length - k) 0 ⟨Nat.zero_le _, fun j _ h => by omega⟩ envs perm (fun k hk => ?_)
  obtain ⟨hk, hno⟩ := hk
  obtain ⟨q1, q2⟩ := doneAt_take upTo rs hno
  refine walk ?_
  refine wif_dec (fun hlt => ?_) (fun hlt => ?_)
  · have hlt : k < rs.length := by omega
    haveI := hrow _ (List.getElem_mem hlt)
    refine walk ?_
    refine call (hc rs[k] c upTo) ?_
    intro _ _
    refine walk ?_
    refine wif_dec (fun h0 => ?_) (fun h0 => ?_)
    · refine walk ?_
      refine wq_ret1 rfl rfl () ?_ trivial perm
      rw [q1 hlt h0]
    · refine walk ?_
      refine wq_round (k + 1) ⟨by omega, fun j hj hjk => ?_⟩ (by omega) envs perm
      rcases Nat.lt_or_ge j k with h1 | h1
      · exact hno j hj h1
      · obtain rfl : j = k := by omega
        exact h0
  · have hk' : rs.length ≤ k := by omega
    refine walk ?_
    refine wq_ret1 rfl rfl () ?_ trivial perm
    rw [q2 hk']
set_option maxHeartbeats 4000000 in
theorem ndelete_spec {f : FuncId} [CallT Tryz.prog f] (hc : DoneF f) (v : Value) (rs : List (Rec × Value)) (c : Nat) (upTo : Int) (hn : rs.length ≤ 1048576) :
    Spec0 Tryz.prog 123 [v, .func (.func f) #[] #[vp c]] (fun h => ∀ e ∈ rs, Rd e.2 1 (e.1.data.map vb) h) (fun F => Sl v 4 (rs.flatMap recCells) :: Cells c [.int .u64 upTo] :: F) (fun _ : Value => True) (fun r => r) (fun r F => Sl r 4 ((rs.filter fun e => decide (¬ e.1.seq ≤ upTo)).flatMap recCells) :: Cells c [.int .u64 upTo] :: F) := by
  (refine spec_of Tryz.func123 rfl Tryz.ntmps123 rfl (fun F w0 hrd => ?_))
  have hrow : ∀ e ∈ rs, RdIn F e.2 1 (e.1.data.map vb) := fun e he => ⟨fun h hs => hrd h hs e he⟩
  have hl := rec_len rs
  haveI : ReadIn (Sl v 4 (rs.flatMap recCells) :: F) (fun h => Rd v 4 (rs.flatMap recCells) h ∧ ∀ e ∈ rs, Rd e.2 1 (e.1.data.map vb) h) := ⟨fun h hs => ⟨(inferInstance : RdIn (Sl v 4 (rs.flatMap recCells) :: F) v 4 (rs.flatMap recCells)).rd h hs, fun e he => (hrow e he).rd h hs.tail⟩⟩
  refine walk ?_
  refine call (nindex_spec hc v rs c upTo hn) ?_
  intro _ _
  refine walk ?_
  rcases doneAt_spec upTo rs with ⟨hd, hall⟩ | ⟨i, hd, hi, hdone, hbef⟩
  · rw [hd]
    refine walk ?_
    refine wif_dec (fun _ => ?_) (fun hz => absurd rfl hz)
    refine walk ?_
    refine wq_ret1 rfl rfl v rfl trivial ?_
    rw [show rs.filter (fun e => decide (¬ e.1.seq ≤ upTo)) = rs from List.filter_eq_self.2 (fun e he => by simpa using hall e he)]
    exact perm
  · rw [hd]
    refine wif_dec (fun hz => absurd hz (by omega)) (fun _ => ?_)
    refine walk ?_
    refine wc_loop (X := Nat × Nat × List (Rec × Value)) (fun y => [(0, v), (1, .func (.func f) #[] #[vp c]), (5, vi y.2.1), (6, vi y.1)])
      (fun y => Sl v 4 (y.2.2.flatMap recCells) :: Cells c [.int .u64 upTo] :: F)
      (fun y => y.1 ≤ rs.length ∧ y.2.1 < y.1 ∧ y.2.2.length = rs.length ∧ y.2.2.take y.2.1 = (rs.take y.1).filter (fun e => decide (¬ e.1.seq ≤ upTo)) ∧ y.2.2.drop y.1 = rs.drop y.1) (fun y => rs.length - y.1) (i + 1, i, rs)
      ⟨hi, Nat.lt_succ_self i, rfl, ?_, rfl⟩ envs perm (fun y hy => ?_)
    · dsimp only
      rw [List.take_add_one, List.getElem?_eq_getElem hi, List.filter_append, Option.toList_some, List.filter_cons_of_neg (by simpa using hdone), List.filter_nil, List.append_nil]
      exact (List.filter_eq_self.2 (fun e he => by simpa using hbef e he)).symm
    · obtain ⟨j, i', R⟩ := y
      dsimp only at hy ⊢
      obtain ⟨hj, hij, hR, htk, hdr⟩ := hy
      have hlR := rec_len R
      rw [hR] at hlR
      refine walk ?_
      refine wif_dec (fun hlt => ?_) (fun hlt => ?_)
      · have hlt : j < rs.length := by omega
        have hRj : R[j]'(by omega) = rs[j] := by
          have := congrArg (fun l => l[0]?) hdr
          simp only [List.getElem?_drop, Nat.add_zero] at this
          rw [List.getElem?_eq_getElem (by omega), List.getElem?_eq_getElem hlt] at this
          exact Option.some.inj this
        haveI := hrow _ (List.getElem_mem hlt)
        refine walk ?_
        intro c7
        rw [hRj]
        obtain ⟨X, hX⟩ : ∃ X, X = R.flatMap recCells := ⟨_, rfl⟩
        rw [← hX] at hlR ⊢
        have htk1 : rs.take (j + 1) = rs.take j ++ [rs[j]] := by
          rw [List.take_add_one, List.getElem?_eq_getElem hlt, Option.toList_some]
        have hdr1 : R.drop (j + 1) = rs.drop (j + 1) := by
          have := congrArg (List.drop 1) hdr
          simpa only [List.drop_drop] using this
        generalize hee : rs[j] = e at *
        obtain ⟨r0, v0⟩ := e
        dsimp only [recCells]
        refine walk ?_
        refine call (hc (r0, v0) c upTo) ?_
        intro _ _
        refine walk ?_
        refine WIf.both (fun h0 => ?_) (fun h0 => ?_)
        · have h0 : r0.seq ≤ upTo := by simpa using h0
          refine walk ?_
          refine wq_round (j + 1, i', R) ⟨by dsimp only; omega, by dsimp only; omega, hR, ?_, hdr1⟩ (by dsimp only; omega) envs ?_
          · dsimp only
            rw [htk, htk1, List.filter_append, List.filter_cons_of_neg (by simpa using h0), List.filter_nil, List.append_nil]
          · dsimp only
            rw [← hX]
            exact perm
        · have h0 : ¬ r0.seq ≤ upTo := by simpa using h0
          have hi4 : i' < R.length := by omega
          rw [hX]
          rw [hX] at hlR
          refine walk ?_
          refine wl_storesSl (us := recCells (r0, v0)) (m' := 4) rfl rfl rfl (by decide) ?_ ?_
          · omega
          rw [show (recCells (r0, v0)).length = 4 from rfl, rset_flat (by omega)]
          refine walk ?_
          refine wq_round (j + 1, i' + 1, R.set i' (r0, v0)) ⟨by dsimp only; omega, by dsimp only; omega, by dsimp only; rw [List.length_set]; exact hR, ?_, ?_⟩ (by dsimp only; omega) envs perm
          · dsimp only
            rw [htk1, List.filter_append, List.filter_cons_of_pos (by simpa using h0), List.filter_nil, ← htk, List.take_add_one, List.getElem?_set_self (by omega), Option.toList_some, List.take_set_of_le (Nat.le_refl _)]
          · dsimp only
            rw [List.drop_set_of_lt (by omega)]
            exact hdr1
      · obtain rfl : j = rs.length := by omega
        rw [List.take_length] at htk
        refine walk ?_
        refine wl_y (yl_sliceL (m := rs.length) (vs := R.flatMap recCells) rfl rfl (by omega) (by omega) (by omega) (by omega)) rfl ?_
        refine wl_clearSl (k := 4) (vs := R.flatMap recCells) (z := .agg #[.int .u64 0, vi 0, vi 0, .slice none 0 0]) (by' := 48) rfl (by omega) (by decide) (by omega) rfl (fun q hq => by simp [Value.cells] at hq; rcases hq with rfl | rfl | rfl <;> rfl) (fun vs' h1 h2 => ?_)
        have hl' : vs'.length = 4 * rs.length := by omega
        simp only [Int.toNat_natCast] at h2 ⊢
        rw [rtake_flat, htk] at h2
        refine walk ?_
        refine wl_y (yl_sliceH (vs := vs') rfl rfl (by omega) (by omega) (by omega)) rfl ?_
        refine walk ?_
        simp only [Int.toNat_natCast]
        refine wq_ret1 rfl rfl (slSub v 4 0 i') rfl trivial ?_
        rw [← h2]
        refine Ent.imp fun h r => ?_
        have := Sl.sub (lo := 0) (hi := i') (by decide) r (Nat.zero_le _) (by omega)
        simpa using this
end Go.Proofs.YtohienhoifgmaaaGreat
end
