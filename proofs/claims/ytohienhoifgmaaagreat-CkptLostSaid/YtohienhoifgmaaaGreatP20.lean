/- several texts, one behind the other -/
import Derived.Test.YtohienhoifgmaaaGreatP19
import Derived.Test.YtohienhoifgmaaaGreatP13
import Derived.Test.YtohienhoifgmaaaGreatP12

section
/- An array over disks: Mend, Finish, a new one. -/
namespace Go.Proofs.YtohienhoifgmaaaGreat
open Go Go.Sl
attribute [local irreducible] Yl WL WC WQ WD

theorem anewErr_spec (n pp : Nat) (s : Nvm) (hok : s.root.shape.Ok) (lv : Value) (vs : List Value) (hvs : (vs.length : Int) ≠ s.root.shape.members) :
    Spec0 Tryz.prog 74 [lv, vp n] (Rd lv 1 vs) (fun F => NvAt n pp s :: F) (fun _ : Unit => True) (fun _ => .tuple #[.pointer none, vi 1]) (fun _ F => NvAt n pp s :: F) := by
  (refine spec_of Tryz.func74 rfl Tryz.ntmps74 rfl (fun F w0 hrd => ?_))
  haveI : RdIn F lv 1 vs := ⟨hrd⟩
  refine walk ?_
  refine call (nroot_spec n pp s) ?_
  intro _ _
  refine walk ?_
  intro c
  refine walk ?_
  refine call (check_spec s.root.shape hok) ?_
  intro _ _
  refine walk ?_
  refine wif_dec (fun h => ?_) (fun h => ?_)
  · refine walk ?_
    exact wq_ret2 rfl rfl rfl () rfl trivial perm
  · exact absurd (Decidable.not_not.1 h) hvs
theorem sl_form {v : Value} {vs : List Value} {k : Nat} {F : List HP} {h : Hp} (hs : Sat (Sl v k vs :: F) h) : ∃ a n c, v = .slice a n c := by
  obtain ⟨h1, _, hA⟩ := hs.one
  rcases hA with ⟨rfl, _⟩ | ⟨bk, off, len, cap, cs, rfl, _⟩
  · exact ⟨_, _, _, rfl⟩
  · exact ⟨_, _, _, rfl⟩
theorem anew_spec (n pp : Nat) (s : Nvm) (hok : s.root.shape.Ok) (lv : Value) (vs : List Value) (ho : ∀ Γ, OneIn Γ vs) (hvs : (vs.length : Int) = s.root.shape.members) :
    Spec0 Tryz.prog 74 [lv, vp n] (Rd lv 1 vs) (fun F => NvAt n pp s :: F) (fun _x : Nat × Value => True) (fun x => .tuple #[vp x.1, vi 0])
      (fun x F => Cells x.1 [vi s.root.shape.members, vi s.root.shape.block, vi s.root.shape.segments, vi s.root.shape.stripes, vi s.root.shape.nv, vi s.root.shape.logical, x.2, vp n, .bool false] :: Sl x.2 1 vs :: NvAt n pp s :: F) := by
  (refine spec_of Tryz.func74 rfl Tryz.ntmps74 rfl (fun F w0 hrd => ?_))
  haveI : RdIn F lv 1 vs := ⟨hrd⟩
  have hmm := hok.members
  refine walk ?_
  refine call (nroot_spec n pp s) ?_
  intro _ _
  refine walk ?_
  intro c
  refine walk ?_
  refine call (check_spec s.root.shape hok) ?_
  intro _ _
  refine walk ?_
  refine wif_dec (fun h => ?_) (fun h => ?_)
  · exact absurd hvs h
  · refine walk ?_
    (refine draw ?_; refine dy 0 ?_; refine dy 2 ?_; refine dy 4 ?_; refine ddx 1 ?_)
    refine walk ?_
    intro v1 hvl hvn
    haveI := ho
    (refine walk ?_; refine ddx 3 ?_)
    refine walk ?_
    intro v2 hsl hsn
    (first | refine WL.ex (fun _ hs => knows (sl_form ((frame : Ent _ _) _ hs)) hs) (fun _ hv => ?_) | refine WC.ex (fun _ hs => knows (sl_form ((frame : Ent _ _) _ hs)) hs) (fun _ hv => ?_) | refine WQ.ex (fun _ hs => knows (sl_form ((frame : Ent _ _) _ hs)) hs) (fun _ hv => ?_))
    obtain ⟨a, m, cap, rfl⟩ := hv
    (refine walk ?_; refine dy 5 ?_; refine ddx 6 ?_)
    refine walk ?_
    intro b
    (refine walk ?_; refine dy 7 ?_; refine dy 8 ?_; refine walk ?_)
    refine wq_ret2 rfl rfl rfl (b, .slice a m cap) rfl trivial ?_
    show Ent _ (Cells b [vi s.root.shape.members, vi s.root.shape.block, vi s.root.shape.segments, vi s.root.shape.stripes, vi s.root.shape.nv, vi s.root.shape.logical, .slice a m cap, vp n, .bool false] :: Sl (.slice a m cap) 1 ([] ++ vs) :: NvAt n pp s :: F)
    exact perm
end Go.Proofs.YtohienhoifgmaaaGreat
end

section
/- Blocks, chunks, small shapes: what the statements are made of. -/
namespace Go.Proofs.YtohienhoifgmaaaGreat
open Go Go.Sl
attribute [local irreducible] Yl WL WC WQ WD

/-- a block of one byte -/
def blockOf (s : Shp) (x : UInt8) : Bytes := List.replicate s.block.toNat x
def chunkFill (x : UInt8) (k : Nat) : UInt8 := x + UInt8.ofNat (k * 37)
def chunksOf (s : Shp) (x : UInt8) : List Bytes := (List.range (s.members - 1).toNat).map fun k => blockOf s (chunkFill x k)
theorem blockOf_len (s : Shp) (h : 0 ≤ s.block) (x : UInt8) : ((blockOf s x).length : Int) = s.block := by simp [blockOf]; omega
theorem fill_val (x : UInt8) (k : Nat) : Value.int .u8 (IntKind.u8.wrap ((x.toNat : Int) + IntKind.u8.wrap ((k : Int) * 37))) = vb (chunkFill x k) := by
  unfold vb
  congr 1
theorem fill_val' (x : UInt8) (k : Nat) : Value.int .u8 (IntKind.u8.wrap ((x.toNat : Int) + ((k * 37 % 256 : Nat) : Int))) = vb (chunkFill x k) := by
  rw [← fill_val, show ((k : Int) * 37) = ((k * 37 : Nat) : Int) by omega, wrap_byte]
theorem block_spec (s : Shp) (h : 1 ≤ s.block ∧ s.block ≤ 1048576) (x : UInt8) :
    Spec0 Tryz.prog 36 [Shp.val s, vb x] (fun _ => True) (fun F => F) (fun _ : Value => True) (fun r => r) (fun r F => SlB r (blockOf s x) :: F) := by
  (refine spec_of Tryz.func36 rfl Tryz.ntmps36 rfl (fun F w0 hrd => ?_))
  obtain ⟨n, hn⟩ : ∃ n : Nat, s.block = n := ⟨s.block.toNat, by omega⟩
  have hb : blockOf s x = List.replicate n x := by unfold blockOf; rw [hn, Int.toNat_natCast]
  rw [hb]
  refine walk ?_
  intro c
  rw [hn]
  refine walk ?_
  intro v _ _
  refine walk ?_
  refine call (repeat_spec v x n (by omega)) ?_
  intro r _
  refine walk ?_
  exact wq_ret1 rfl rfl r rfl trivial perm
theorem chunks_spec (s : Shp) (h : 1 ≤ s.block ∧ s.block ≤ 1048576) (hm : 1 ≤ s.members ∧ s.members ≤ 1024) (x : UInt8) :
    Spec0 Tryz.prog 142 [Shp.val s, vb x] (fun _ => True) (fun F => F) (fun r : Value × List Row => r.2.map (·.2) = chunksOf s x) (fun r => r.1) (fun r F => Sl r.1 1 (r.2.map (·.1)) :: Pool r.2 :: F) := by
  (refine spec_of Tryz.func142 rfl Tryz.ntmps142 rfl (fun F w0 hrd => ?_))
  obtain ⟨n, hn⟩ : ∃ n : Nat, s.members - 1 = n := ⟨(s.members - 1).toNat, by omega⟩
  have hc : chunksOf s x = (List.range n).map fun k => blockOf s (chunkFill x k) := by unfold chunksOf; rw [hn, Int.toNat_natCast]
  refine walk ?_
  intro c
  refine walk ?_
  rw [hn]
  refine wc_loop (X := Nat × Value × List Row) (fun y => [(2, vp c), (1, vb x), (5, y.2.1), (9, vi n), (10, vi y.1)]) (fun y => Sl y.2.1 1 (y.2.2.map (·.1)) :: Pool y.2.2 :: Cells c (Shp.cells s) :: F)
    (fun y => y.1 ≤ n ∧ y.2.2.map (·.2) = (List.range y.1).map fun k => blockOf s (chunkFill x k)) (fun y => n - y.1) (0, .slice none 0 0, []) ⟨by omega, rfl⟩ envs ((sl_nil 1).trans (Ent.skip Pool.nil)) (fun y hy => ?_)
  obtain ⟨i, sv, rows⟩ := y
  dsimp only at hy ⊢
  obtain ⟨hi, hr⟩ := hy
  have hlen : rows.length = i := by simpa using congrArg List.length hr
  refine walk ?_
  refine wif_dec (fun hlt => ?_) (fun hlt => ?_)
  · have hlt : i < n := by omega
    refine walk ?_
    (try rw [fill_val])
    (try rw [fill_val'])
    refine call (block_spec s h (chunkFill x i)) ?_
    intro v _
    refine walk ?_
    intro v' hvl hvn
    refine walk ?_
    intro s' hsl hsn
    refine walk ?_
    refine wq_round (i + 1, s', rows ++ [(v, blockOf s (chunkFill x i))]) ⟨by dsimp only; omega, ?_⟩ (by dsimp only; omega) envs ?_
    · dsimp only
      rw [List.map_append, hr, List.range_succ, List.map_append]; rfl
    · dsimp only
      rw [List.map_append]
      refine Ent.trans (Γ' := SlB v (blockOf s (chunkFill x i)) :: Pool rows :: Sl s' 1 (rows.map (·.1) ++ [v]) :: Cells c (Shp.cells s) :: F) perm (Ent.trans Pool.put (Ent.trans (Pool.sub (rows' := rows ++ [(v, blockOf s (chunkFill x i))]) (fun q hq => ?_)) perm))
      rcases List.mem_append.1 hq with hq | hq
      · exact List.mem_cons_of_mem _ hq
      · rw [List.mem_singleton.1 hq]; exact List.mem_cons_self
  · have hi' : i = n := by omega
    subst hi'
    refine walk ?_
    exact wq_ret1 rfl rfl (sv, rows) rfl (hr.trans hc.symm) perm
end Go.Proofs.YtohienhoifgmaaaGreat
end

section
/- Arrays in plain Lean: what each operation keeps, and what it reads; one or more members failing. No program. -/
namespace Go.Sl
open Go

/-- what holds of a run's end -/
def Out.Sat {σ α : Type} (m : Out σ α) (Q : α → σ → Prop) (G : σ → Prop) : Prop := match m with | .ok a s => Q a s | .gone s => G s
theorem Out.Sat.bind {σ α β : Type} {m : Out σ α} {f : α → σ → Out σ β} {Q' : α → σ → Prop} {Q : β → σ → Prop} {G : σ → Prop} (h : m.Sat Q' G) (k : ∀ a s, Q' a s → (f a s).Sat Q G) : (m.bind f).Sat Q G := by
  cases m with
  | ok a s => exact k a s h
  | gone s => exact h
theorem Out.Sat.mono {σ α : Type} {m : Out σ α} {Q Q' : α → σ → Prop} {G G' : σ → Prop} (h : m.Sat Q G) (hq : ∀ a s, Q a s → Q' a s) (hg : ∀ s, G s → G' s) : m.Sat Q' G' := by
  cases m with
  | ok a s => exact hq a s h
  | gone s => exact hg s h

/-- a sector that has these bytes, whatever the power does -/
def Firm (d : Dsk) (q : Int) (b : Bytes) : Prop := 0 ≤ q ∧ d.on.getD q.toNat [] = b ∧ (mget d.cache q).getD b = b
theorem Firm.see {d : Dsk} {q : Int} {b : Bytes} (h : Firm d q b) : d.see q = b := by
  unfold Dsk.see; rw [h.2.1]; exact h.2.2
/-- a member that doesn't fail -/
def Live (d : Dsk) : Prop := d.dead = false ∧ d.failAt < 0
theorem Firm.settle {d : Dsk} {q : Int} {b : Bytes} (h : Firm d q b) (keep : Int → Bool) : Firm (d.settle keep) q b := by
  obtain ⟨h0, h1, h2⟩ := h
  refine ⟨h0, ?_, rfl⟩
  unfold Dsk.settle
  dsimp only
  by_cases hq : q.toNat < d.on.length
  · simp only [List.getD, List.getElem?_mapIdx, List.getElem?_eq_getElem hq, Option.map_some, Option.getD_some] at h1 ⊢
    rw [h1, show ((q.toNat : Nat) : Int) = q by omega]
    split
    · exact h2
    · rfl
  · simp only [List.getD, List.getElem?_mapIdx, List.getElem?_eq_none (Nat.le_of_not_lt hq), Option.map_none, Option.getD_none] at h1 ⊢
    exact h1
theorem see_settle {d : Dsk} {q : Int} (h0 : 0 ≤ q) (hq : q < d.on.length) : Firm (d.settle (fun _ => true)) q (d.see q) := by
  refine ⟨h0, ?_, rfl⟩
  have hq : q.toNat < d.on.length := by omega
  unfold Dsk.settle Dsk.see
  simp only [List.getD, List.getElem?_mapIdx, List.getElem?_eq_getElem hq, Option.map_some, Option.getD_some, if_true]
  rw [show ((q.toNat : Nat) : Int) = q by omega]
theorem see_settle' {d : Dsk} {q : Int} (h0 : 0 ≤ q) (hq : q < d.on.length) : (d.settle (fun _ => true)).see q = d.see q := (see_settle h0 hq).see
theorem Firm.put {d : Dsk} {q q' : Int} {b : Bytes} (h : Firm d q b) (hq : q ≠ q') (b' : Bytes) : Firm (d.put q' b') q b := by
  refine ⟨h.1, h.2.1, ?_⟩
  show (mget (mset d.cache q' b') q).getD b = b
  rw [mget_mset, if_neg hq]; exact h.2.2
theorem see_put {d : Dsk} {q q' : Int} (hq : q ≠ q') (b' : Bytes) : (d.put q' b').see q = d.see q := by
  show (mget (mset d.cache q' b') q).getD _ = _
  rw [mget_mset, if_neg hq]; rfl
theorem see_put_same {d : Dsk} {q : Int} (b' : Bytes) : (d.put q b').see q = b' := by
  show (mget (mset d.cache q b') q).getD _ = _
  rw [mget_mset, if_pos rfl]; rfl

theorem begun_on (d : Dsk) (p : Pow) : (d.begun p).on = d.on := rfl
theorem begun_live {d : Dsk} (h : Live d) (p : Pow) : (d.begun p).dead = false := by
  unfold Dsk.begun
  have h2 := h.2
  simp [h.1]
  intro h0; omega
theorem tick_limit {p q : Pow} (h : p.tick = some q) : q.limit = p.limit := by
  unfold Pow.tick at h
  split at h
  · cases h
  · cases h; rfl

theorem Rig.at_put {r : Rig} {m : Nat} {s : DP} (hm : m < r.ds.length) (i : Nat) : (r.put m s).at i = if i = m then s.1 else r.at i := by
  unfold Rig.at Rig.put
  simp only [List.getD, List.getElem?_set]
  by_cases h : m = i
  · subst h; simp [hm]
  · rw [if_neg h, if_neg (fun e => h e.symm)]
theorem Rig.at_congr {r r' : Rig} (h : r'.ds = r.ds) (i : Nat) : r'.at i = r.at i := by unfold Rig.at; rw [h]

/-- how a rig may turn, but for some sectors of some members -/
structure Tr0 (S : Nat → Int → Prop) (r r' : Rig) : Prop where
  len : r'.ds.length = r.ds.length
  size : ∀ i, (r'.at i).size = (r.at i).size ∧ (r'.at i).on.length = (r.at i).on.length
  firm : ∀ i q b, ¬ S i q → Firm (r.at i) q b → Firm (r'.at i) q b
  see : ∀ i q, ¬ S i q → 0 ≤ q → q < (r.at i).on.length → (r'.at i).see q = (r.at i).see q
  live : ∀ i, Live (r.at i) → Live (r'.at i)
  dead : ∀ i, (r.at i).dead = true → (r'.at i).dead = true
  stale : r'.stale = r.stale ∨ (r.stale = -1 ∧ ∃ m : Nat, m < r.ds.length ∧ r'.stale = m ∧ ¬ Live (r.at m))
  broken : r'.broken = true → r.broken = true ∨ ∃ m : Nat, m < r.ds.length ∧ ¬ Live (r.at m) ∧ (m : Int) ≠ r'.stale ∧ r'.stale ≠ -1
  broke : r.broken = true → r'.broken = true
  nv : r'.nv = { r.nv with root := { r.nv.root with stale := r'.stale } }
  limit : r'.pow.limit = r.pow.limit
theorem Tr0.refl {S : Nat → Int → Prop} (r : Rig) : Tr0 S r r := ⟨rfl, fun _ => ⟨rfl, rfl⟩, fun _ _ _ _ h => h, fun _ _ _ _ _ => rfl, fun _ h => h, fun _ h => h, .inl rfl, .inl, id, rfl, rfl⟩
theorem Tr0.trans {S S' T : Nat → Int → Prop} {a b c : Rig} (h : Tr0 S a b) (h' : Tr0 S' b c) (hs : ∀ i q, S i q → T i q) (hs' : ∀ i q, S' i q → T i q) : Tr0 T a c where
  len := h'.len.trans h.len
  size i := ⟨(h'.size i).1.trans (h.size i).1, (h'.size i).2.trans (h.size i).2⟩
  firm i q b hn hf := h'.firm i q b (fun x => hn (hs' _ _ x)) (h.firm i q b (fun x => hn (hs _ _ x)) hf)
  see i q hn h0 h1 := (h'.see i q (fun x => hn (hs' _ _ x)) h0 (by rw [(h.size i).2]; exact h1)).trans (h.see i q (fun x => hn (hs _ _ x)) h0 h1)
  live i hl := h'.live i (h.live i hl)
  dead i hl := h'.dead i (h.dead i hl)
  stale := by
    rcases h'.stale with h1 | ⟨h1, m, hm, h2, h3⟩
    · rcases h.stale with h4 | ⟨h4, m, hm, h5, h6⟩
      · exact .inl (h1.trans h4)
      · exact .inr ⟨h4, m, hm, h1.trans h5, h6⟩
    · rcases h.stale with h4 | ⟨h4, m', hm', h5, h6⟩
      · exact .inr ⟨by rw [← h4]; exact h1, m, by rw [← h.len]; exact hm, h2, fun hl => h3 (h.live m hl)⟩
      · rw [h1] at h5; omega
  broken hb := by
    rcases h'.broken hb with h1 | ⟨m, hm, h1, h2, h3⟩
    · rcases h.broken h1 with h4 | ⟨m, hm, h4, h5, h6⟩
      · exact .inl h4
      · refine .inr ⟨m, hm, h4, ?_⟩
        rcases h'.stale with h7 | ⟨h7, _⟩
        · rw [h7]; exact ⟨h5, h6⟩
        · exact absurd h7 h6
    · exact .inr ⟨m, by rw [← h.len]; exact hm, fun hl => h1 (h.live m hl), h2, h3⟩
  broke hb := h'.broke (h.broke hb)
  nv := by rw [h'.nv, h.nv]
  limit := h'.limit.trans h.limit
theorem Tr0.stale_ne {S : Nat → Int → Prop} {a b : Rig} (h : Tr0 S a b) {i : Nat} (hi : (i : Int) ≠ b.stale) : (i : Int) ≠ a.stale := by
  rcases h.stale with h1 | ⟨h1, _⟩
  · rw [← h1]; exact hi
  · rw [h1]; omega
theorem Tr0.stale_is {S : Nat → Int → Prop} {a b : Rig} (h : Tr0 S a b) (hi : a.stale ≠ -1) : b.stale = a.stale := by
  rcases h.stale with h1 | ⟨h1, _⟩
  · exact h1
  · exact absurd h1 hi
/-- .. and each member that failed meanwhile is known of -/
structure Tr (S : Nat → Int → Prop) (r r' : Rig) : Prop extends Tr0 S r r' where
  told : ∀ i, (r'.at i).dead = true → (r.at i).dead = true ∨ (i : Int) = r'.stale ∨ r'.broken = true
theorem Tr.refl {S : Nat → Int → Prop} (r : Rig) : Tr S r r := ⟨Tr0.refl r, fun _ h => .inl h⟩
theorem Tr.trans {S S' T : Nat → Int → Prop} {a b c : Rig} (h : Tr S a b) (h' : Tr S' b c) (hs : ∀ i q, S i q → T i q) (hs' : ∀ i q, S' i q → T i q) : Tr T a c :=
  ⟨h.toTr0.trans h'.toTr0 hs hs', fun i hd => by
    rcases h'.told i hd with h1 | h1
    · rcases h.told i h1 with h2 | h2 | h2
      · exact .inl h2
      · exact .inr (.inl (by rw [h2]; exact (h'.stale_is (by rw [← h2]; omega)).symm))
      · exact .inr (.inr (h'.broke h2))
    · exact .inr h1⟩
theorem Tr.weak {S T : Nat → Int → Prop} {a b : Rig} (h : Tr S a b) (hs : ∀ i q, S i q → T i q) : Tr T a b := h.trans (Tr.refl (S := T) b) hs (fun _ _ x => x)

/-- one operation of one member -/
theorem dev_tr {r : Rig} {m : Nat} (hm : m < r.ds.length) {S : Nat → Int → Prop} {d : Dsk} {p : Pow}
    (hl : p.limit = r.pow.limit) (hsz : d.size = (r.at m).size ∧ d.on.length = (r.at m).on.length)
    (hf : ∀ q b, ¬ S m q → Firm (r.at m) q b → Firm d q b) (hse : ∀ q, ¬ S m q → 0 ≤ q → q < (r.at m).on.length → d.see q = (r.at m).see q)
    (hv : Live (r.at m) → Live d) (hd : (r.at m).dead = true → d.dead = true) : Tr0 S r (r.put m (d, p)) where
  len := by simp [Rig.put]
  size i := by rw [Rig.at_put hm]; split
               · rename_i h; subst h; exact hsz
               · exact ⟨rfl, rfl⟩
  firm i q b := by rw [Rig.at_put hm]; split
                   · rename_i h; subst h; exact hf q b
                   · exact fun _ h => h
  see i q := by rw [Rig.at_put hm]; split
                · rename_i h; subst h; exact hse q
                · exact fun _ _ _ => rfl
  live i := by rw [Rig.at_put hm]; split
               · rename_i h; subst h; exact hv
               · exact id
  dead i := by rw [Rig.at_put hm]; split
               · rename_i h; subst h; exact hd
               · exact id
  stale := .inl rfl
  broken := .inl
  broke := id
  nv := rfl
  limit := hl
/-- no sector -/
def S0 : Nat → Int → Prop := fun _ _ => False
/-- a sector of a member -/
def S1 (m : Nat) (q : Int) : Nat → Int → Prop := fun i x => i = m ∧ x = q
/-- a sector of all members -/
def SA (q : Int) : Nat → Int → Prop := fun _ x => x = q
/-- the others are as they were -/
def Apart (m : Nat) (r r' : Rig) : Prop := ∀ i, i ≠ m → r'.at i = r.at i
theorem Tr0.tell {S : Nat → Int → Prop} {m : Nat} {r r' : Rig} (t : Tr0 S r r') (a : Apart m r r') (h : (r'.at m).dead = false ∨ (m : Int) = r'.stale ∨ r'.broken = true) : Tr S r r' :=
  ⟨t, fun i hd => by
    by_cases hi : i = m
    · subst hi; rcases h with h | h
      · rw [h] at hd; cases hd
      · exact .inr h
    · rw [a i hi] at hd; exact .inl hd⟩
theorem Apart.refl {m : Nat} (r : Rig) : Apart m r r := fun _ _ => rfl
theorem Apart.trans {m : Nat} {a b c : Rig} (h : Apart m a b) (h' : Apart m b c) : Apart m a c := fun i hi => (h' i hi).trans (h i hi)

theorem dstep_sat (s : DP) : (dstep s).Sat (fun e s' => s'.1.on = s.1.on ∧ s'.1.cache = s.1.cache ∧ s'.1.size = s.1.size ∧ s'.1.failAt = s.1.failAt ∧ s'.2.limit = s.2.limit ∧ (s.1.dead = true → s'.1.dead = true) ∧
    ((e = 0 ∧ s'.1.dead = false) ∨ (e = 8 ∧ s'.1.dead = true ∧ ¬ Live s.1))) (fun s' => s' = s ∧ 0 ≤ s.2.limit) := by
  unfold dstep
  cases h : s.2.tick with
  | none =>
    refine ⟨rfl, ?_⟩
    unfold Pow.tick at h
    split at h
    · omega
    · cases h
  | some p =>
    dsimp only [Out.Sat]
    refine ⟨rfl, rfl, rfl, rfl, tick_limit h, fun hd => by simp [Dsk.begun, hd], ?_⟩
    cases hb : (s.1.begun p).dead with
    | true => exact .inr ⟨by simp, rfl, fun hl => by rw [begun_live hl] at hb; cases hb⟩
    | false => exact .inl ⟨by simp, rfl⟩
theorem live_of {d d' : Dsk} (h1 : d'.failAt = d.failAt) (h2 : (d'.dead = false) ∨ (d'.dead = true ∧ ¬ Live d)) (h : Live d) : Live d' := by
  rcases h2 with h2 | h2
  · exact ⟨h2, by rw [h1]; exact h.2⟩
  · exact absurd h h2.2
theorem firm_congr {d d' : Dsk} (h1 : d'.on = d.on) (h2 : d'.cache = d.cache) {q : Int} {b : Bytes} : Firm d q b ↔ Firm d' q b := by
  unfold Firm; rw [h1, h2]
theorem see_congr {d d' : Dsk} (h1 : d'.on = d.on) (h2 : d'.cache = d.cache) (q : Int) : d'.see q = d.see q := by
  unfold Dsk.see; rw [h1, h2]
theorem put_self (r : Rig) (m : Nat) (hm : m < r.ds.length) : r.put m (r.at m, r.pow) = r := by
  unfold Rig.put Rig.at
  simp [List.getD, hm]

theorem read_sat {r : Rig} {m : Nat} (hm : m < r.ds.length) {q : Int} (hq : 0 ≤ q ∧ q < (r.at m).on.length) :
    (r.dev m (dread q)).Sat (fun x r' => Tr0 S0 r r' ∧ Apart m r r' ∧ r'.nv = r.nv ∧ r'.broken = r.broken ∧ ((x.2 = 0 ∧ x.1 = (r.at m).see q ∧ (r'.at m).dead = false) ∨ (x = ([], 8) ∧ ¬ Live (r.at m) ∧ (r'.at m).dead = true))) (fun r' => r' = r ∧ 0 ≤ r.pow.limit) := by
  unfold Rig.dev dread
  rw [if_pos (by simpa [Dsk.has] using hq)]
  have h := dstep_sat (r.at m, r.pow)
  cases hs : dstep (r.at m, r.pow) with
  | gone s => rw [hs] at h; obtain ⟨rfl, h2⟩ := h; exact ⟨put_self r m hm, h2⟩
  | ok e s =>
    rw [hs] at h
    obtain ⟨h1, h2, h3, h4, h5, h6, h7⟩ := h
    dsimp only at *
    have key : Tr0 S0 r (r.put m s) := dev_tr hm h5 ⟨h3, by rw [h1]⟩ (fun q b _ => (firm_congr h1 h2).1) (fun q _ _ _ => see_congr h1 h2 q) (live_of h4 (h7.imp (·.2) (·.2))) h6
    have ap : Apart m r (r.put m s) := fun i hi => by rw [Rig.at_put hm, if_neg hi]
    rcases h7 with ⟨rfl, h8⟩ | ⟨rfl, h8, h9⟩
    · exact ⟨key, ap, rfl, rfl, .inl ⟨rfl, see_congr h1 h2 q, by rw [Rig.at_put hm, if_pos rfl]; exact h8⟩⟩
    · exact ⟨key, ap, rfl, rfl, .inr ⟨rfl, h9, by rw [Rig.at_put hm, if_pos rfl]; exact h8⟩⟩
theorem write_sat {r : Rig} {m : Nat} (hm : m < r.ds.length) {q : Int} {b : Bytes} (hq : 0 ≤ q ∧ q < (r.at m).on.length) (hb : (b.length : Int) = (r.at m).size) :
    (r.dev m (dwrite q b)).Sat (fun e r' => Tr0 (S1 m q) r r' ∧ Apart m r r' ∧ r'.nv = r.nv ∧ r'.broken = r.broken ∧ ((e = 0 ∧ (r'.at m).see q = b ∧ (r'.at m).dead = false) ∨ (e = 8 ∧ ¬ Live (r.at m) ∧ (r'.at m).dead = true))) (fun r' => r' = r ∧ 0 ≤ r.pow.limit) := by
  unfold Rig.dev dwrite
  rw [if_pos ⟨by simpa [Dsk.has] using hq, hb⟩]
  have h := dstep_sat (r.at m, r.pow)
  cases hs : dstep (r.at m, r.pow) with
  | gone s => rw [hs] at h; obtain ⟨rfl, h2⟩ := h; exact ⟨put_self r m hm, h2⟩
  | ok e s =>
    rw [hs] at h
    obtain ⟨h1, h2, h3, h4, h5, h6, h7⟩ := h
    dsimp only at *
    rcases h7 with ⟨rfl, h8⟩ | ⟨rfl, h8, h9⟩
    · rw [Out.bind_ok, if_pos rfl]
      refine ⟨dev_tr hm h5 ⟨h3, by show s.1.on.length = _; rw [h1]⟩ (fun q' b' hn hf => Firm.put ((firm_congr h1 h2).1 hf) (fun e => hn ⟨rfl, e⟩) b) (fun q' hn _ _ => by rw [see_put (fun e => hn ⟨rfl, e⟩)]; exact see_congr h1 h2 q') (fun hl => ⟨h8, by show s.1.failAt < 0; rw [h4]; exact hl.2⟩) (fun hd => by have := h6 hd; rw [h8] at this; cases this), fun i hi => by rw [Rig.at_put hm, if_neg hi], rfl, rfl, .inl ⟨rfl, ?_, by rw [Rig.at_put hm, if_pos rfl]; exact h8⟩⟩
      rw [Rig.at_put hm, if_pos rfl]; exact see_put_same b
    · rw [Out.bind_ok, if_neg (by decide)]
      exact ⟨dev_tr hm h5 ⟨h3, by rw [h1]⟩ (fun q b _ => (firm_congr h1 h2).1) (fun q _ _ _ => see_congr h1 h2 q) (live_of h4 (.inr ⟨h8, h9⟩)) h6, fun i hi => by rw [Rig.at_put hm, if_neg hi], rfl, rfl, .inr ⟨rfl, h9, by rw [Rig.at_put hm, if_pos rfl]; exact h8⟩⟩
theorem flush_sat {r : Rig} {m : Nat} (hm : m < r.ds.length) :
    (r.dev m dflush).Sat (fun e r' => Tr0 S0 r r' ∧ Apart m r r' ∧ r'.nv = r.nv ∧ r'.broken = r.broken ∧ ((e = 0 ∧ (∀ q : Int, 0 ≤ q → q < (r.at m).on.length → Firm (r'.at m) q ((r.at m).see q)) ∧ (r'.at m).dead = false) ∨ (e = 8 ∧ ¬ Live (r.at m) ∧ (r'.at m).dead = true))) (fun r' => r' = r ∧ 0 ≤ r.pow.limit) := by
  unfold Rig.dev dflush
  have h := dstep_sat (r.at m, r.pow)
  cases hs : dstep (r.at m, r.pow) with
  | gone s => rw [hs] at h; obtain ⟨rfl, h2⟩ := h; exact ⟨put_self r m hm, h2⟩
  | ok e s =>
    rw [hs] at h
    obtain ⟨h1, h2, h3, h4, h5, h6, h7⟩ := h
    dsimp only at *
    rcases h7 with ⟨rfl, h8⟩ | ⟨rfl, h8, h9⟩
    · rw [Out.bind_ok, if_pos rfl]
      refine ⟨dev_tr hm h5 ⟨h3, by simp [Dsk.settle, h1]⟩ (fun q' b' hn hf => Firm.settle ((firm_congr h1 h2).1 hf) _) (fun q' hn h0 hlt => by rw [see_settle' h0 (by rw [h1]; exact hlt)]; exact see_congr h1 h2 q') (fun hl => ⟨h8, by show s.1.failAt < 0; rw [h4]; exact hl.2⟩) (fun hd => by have := h6 hd; rw [h8] at this; cases this), fun i hi => by rw [Rig.at_put hm, if_neg hi], rfl, rfl, .inl ⟨rfl, fun q h0 hlt => ?_, by rw [Rig.at_put hm, if_pos rfl]; exact h8⟩⟩
      rw [Rig.at_put hm, if_pos rfl]
      have := see_settle (d := s.1) (q := q) h0 (by rw [h1]; exact hlt)
      rwa [see_congr h1 h2] at this
    · rw [Out.bind_ok, if_neg (by decide)]
      exact ⟨dev_tr hm h5 ⟨h3, by rw [h1]⟩ (fun q b _ => (firm_congr h1 h2).1) (fun q _ _ _ => see_congr h1 h2 q) (live_of h4 (.inr ⟨h8, h9⟩)) h6, fun i hi => by rw [Rig.at_put hm, if_neg hi], rfl, rfl, .inr ⟨rfl, h9, by rw [Rig.at_put hm, if_pos rfl]; exact h8⟩⟩

theorem set_sat (r : Rig) (x : Root) : (r.set x).Sat (fun _ r' => r'.ds = r.ds ∧ r'.broken = r.broken ∧ r'.nv = { r.nv with root := x } ∧ r'.pow.limit = r.pow.limit) (fun r' => r' = r ∧ 0 ≤ r.pow.limit) := by
  unfold Rig.set
  cases h : r.pow.tick with
  | none =>
    refine ⟨rfl, ?_⟩
    unfold Pow.tick at h
    split at h
    · omega
    · cases h
  | some p => exact ⟨rfl, rfl, rfl, tick_limit h⟩

/-- a member that failed is known of: it is the one that isn't current, or all is broken -/
theorem lost_sat {r : Rig} {m : Nat} (hm : m < r.ds.length) (hl : ¬ Live (r.at m)) :
    (alost m r).Sat (fun e r' => Tr0 S0 r r' ∧ (∀ i, r'.at i = r.at i) ∧ ((e = 0 ∧ r'.stale = m ∧ r'.broken = r.broken) ∨ (e = 3 ∧ r'.broken = true ∧ r.stale ≠ -1 ∧ r.stale ≠ m))) (fun r' => r' = r ∧ 0 ≤ r.pow.limit) := by
  unfold alost
  by_cases h1 : r.stale = m
  · rw [if_pos h1]; exact ⟨Tr0.refl r, fun _ => rfl, .inl ⟨rfl, h1, rfl⟩⟩
  rw [if_neg h1]
  by_cases h2 : r.stale = -1
  · rw [if_pos h2]
    have h := set_sat r { r.nv.root with stale := m }
    cases hs : r.set { r.nv.root with stale := m } with
    | gone s => rw [hs] at h; exact h
    | ok u s =>
      rw [hs] at h
      obtain ⟨a1, a2, a3, a4⟩ := h
      have hat := fun i => Rig.at_congr a1 i
      have hst : s.stale = m := by unfold Rig.stale; rw [a3]
      refine ⟨⟨by rw [a1], fun i => by rw [hat]; exact ⟨rfl, rfl⟩, fun i q b _ h => by rw [hat]; exact h, fun i q _ _ _ => by rw [hat], fun i h => by rw [hat]; exact h, fun i h => by rw [hat]; exact h, .inr ⟨h2, m, hm, hst, hl⟩, fun h => .inl (by rw [← a2]; exact h), fun h => by rw [a2]; exact h, by rw [a3, hst], a4⟩, hat, .inl ⟨rfl, hst, a2⟩⟩
  · rw [if_neg h2]
    refine ⟨⟨rfl, fun _ => ⟨rfl, rfl⟩, fun _ _ _ _ h => h, fun _ _ _ _ _ => rfl, fun _ h => h, fun _ h => h, .inl rfl, fun _ => .inr ⟨m, hm, hl, fun h => h1 h.symm, h2⟩, fun _ => rfl, rfl, rfl⟩, fun _ => rfl, .inr ⟨rfl, rfl, h2, h1⟩⟩
end Go.Sl
end
