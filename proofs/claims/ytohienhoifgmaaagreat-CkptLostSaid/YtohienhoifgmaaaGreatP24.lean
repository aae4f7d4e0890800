/- several texts, one behind the other -/
import Derived.Test.YtohienhoifgmaaaGreatP23
import Derived.Test.YtohienhoifgmaaaGreatP10
import Derived.Test.YtohienhoifgmaaaGreatP22

section
/- The arrays' laws: the fixed fact. -/
namespace Go.Proofs.YtohienhoifgmaaaGreat
open Go Go.Sl
attribute [local irreducible] Yl WL WC WQ WD

def _root_.Go.Sl.Out.last {σ α : Type} : Out σ α → σ | .ok _ s => s | .gone s => s
def _root_.Go.Sl.Out.ans {σ α : Type} : Out σ α → Option α | .ok a _ => some a | .gone _ => none
theorem ans_ok {σ α : Type} {m : Out σ α} {a : α} (h : m.ans = some a) : m = .ok a m.last := by
  cases m with
  | ok b s => cases h; rfl
  | gone s => cases h

def s00 : Shp := shapeOf ⟨0, 0, 0, 0, 0, 0⟩
theorem s00_ok : s00.Ok := shapeOf_ok _
def rigA1 : Rig := (aput s00 0 (chunksOf s00 1) (Rig.fresh s00)).last
def rigA2 : Rig := { rigA1 with ds := rigA1.ds.set 2 (rigA1.at 2).fail }
def rigA3 : Rig := (achunk s00 0 1 rigA2).last
set_option maxRecDepth 100000 in
theorem putA1 : aput s00 0 (chunksOf s00 1) (Rig.fresh s00) = .ok 0 rigA1 := ans_ok (by decide +kernel)
set_option maxRecDepth 100000 in
theorem chunkA3 : achunk s00 0 1 rigA2 = .ok (blockOf s00 38, 0) rigA3 := ans_ok (by decide +kernel)
set_option maxRecDepth 100000 in
theorem staleA3 : rigA3.stale = 2 := by decide +kernel
set_option maxRecDepth 100000 in
theorem lenA1 : rigA1.ds.length = 3 := by decide +kernel

theorem rfail_spec (k : Keys) (r : Rig) (m : Nat) (hm : m < k.ps.length) :
    Spec0 Tryz.prog 37 [vp k.ps[m]] (fun _ => True) (fun F => RigAt k r F) (fun _ : Unit => True) (fun _ => .tuple #[]) (fun _ F => RigAt k { r with ds := r.ds.set m (r.at m).fail } F) := by
  intro F w hr hs
  refine (fail_spec k.ps[m] k.pp (r.at m) (PowAt k.pp r.pow :: RigBut k r m F) w (fun _ _ => trivial) (RigAt.take hm _ hs)).mono fun e w' he => ?_
  obtain ⟨hev, he | he⟩ := he
  · obtain ⟨x, hx, rfl, hsat⟩ := he
    exact ⟨hev, .inl ⟨x, hx, rfl, RigAt.give (r := r) hm ((r.at m).fail, r.pow) _ hsat⟩⟩
  · obtain ⟨y, hy, _⟩ := he
    exact hy.elim
theorem rfailAt_spec (k : Keys) (r : Rig) (m : Nat) (hm : m < k.ps.length) (ops : Int) :
    Spec0 Tryz.prog 38 [vp k.ps[m], vi ops] (fun _ => True) (fun F => RigAt k r F) (fun _ : Unit => True) (fun _ => .tuple #[]) (fun _ F => RigAt k { r with ds := r.ds.set m ((r.at m).failing ops) } F) := by
  intro F w hr hs
  refine (failAt_spec k.ps[m] k.pp (r.at m) ops (PowAt k.pp r.pow :: RigBut k r m F) w (fun _ _ => trivial) (RigAt.take hm _ hs)).mono fun e w' he => ?_
  obtain ⟨hev, he | he⟩ := he
  · obtain ⟨x, hx, rfl, hsat⟩ := he
    exact ⟨hev, .inl ⟨x, hx, rfl, RigAt.give (r := r) hm ((r.at m).failing ops, r.pow) _ hsat⟩⟩
  · obtain ⟨y, hy, _⟩ := he
    exact hy.elim
set_option maxHeartbeats 2000000 in
theorem awake11_spec :
    Spec0 Tryz.prog 92 [] (fun _ => True) (fun F => F) (fun _ : Unit => True) (fun _ => .bool true) (fun _ F => F) := by
  (refine spec_of Tryz.func92 rfl Tryz.ntmps92 rfl (fun F w0 hrd => ?_))
  have h := s00_ok
  have hmm := h.members
  have hbl := h.block
  refine walk ?_
  refine call (shape5_spec ⟨0, 0, 0, 0, 0, 0⟩) ?_
  intro _ _
  rw [show shapeOf ⟨0, 0, 0, 0, 0, 0⟩ = s00 from rfl]
  refine walk ?_
  intro c
  refine walk ?_
  refine call (new11_spec s00 h) ?_
  intro l hl
  obtain ⟨g, dv, ⟨a, nv, pp, ps, lv, sh⟩⟩ := l
  obtain ⟨hk, hsh⟩ := hl
  dsimp only at hk hsh
  subst hsh
  have hps : ps.length = 3 := by have h1 := hk.mem; have h2 : s00.members = 3 := by decide +kernel
                                 dsimp only at h1; omega
  refine walk ?_
  refine call (awake05_spec) ?_
  intro _ _
  refine walk ?_
  (refine draw ?_; refine dy 0 ?_; refine dy 1 ?_; refine dy 2 ?_; refine dy 3 ?_; refine dy 4 ?_; refine ddx 5 ?_)
  refine call (chunks_spec s00 (by omega) (by omega) 1) ?_
  intro y hy
  obtain ⟨cv, rows⟩ := y
  dsimp only at hy ⊢
  (refine walk ?_; refine ddx 6 ?_)
  have hrl : rows.length ≤ 1048576 := by have := congrArg List.length hy; simp [chunksOf] at this; omega
  have hrb : ∀ q ∈ rows, q.2.length ≤ 1099511627776 := fun q hq => by
    have h1 : q.2 ∈ chunksOf s00 1 := by rw [← hy]; exact List.mem_map.2 ⟨q, hq, rfl⟩
    have := (chunksOf_chunks h 1).each _ h1
    omega
  refine call ((aput_spec _ hk (Rig.fresh s00) 0 cv rows hrl hrb).sure 0 rigA1 (by rw [← putA1, ← hy])) ?_
  intro _ _
  dsimp only
  (refine walk ?_; refine dy 7 ?_; refine walk ?_)
  (refine draw ?_; refine dy 0 ?_; refine dy 1 ?_; refine dy 2 ?_; refine dy 3 ?_; refine dy 4 ?_; refine ddx 5 ?_)
  refine call (member_spec s00 h 0 1 (by omega) (by omega)) ?_
  intro _ _
  rw [show s00.member 0 1 = 2 from by decide +kernel]
  (refine walk ?_; refine dy 6 ?_; refine dy 7 ?_; refine ddx 8 ?_)
  refine call (rfail_spec ⟨a, nv, pp, ps, lv, s00⟩ rigA1 2 (by dsimp only; omega)) ?_
  intro _ _
  rw [show ({ rigA1 with ds := rigA1.ds.set 2 (rigA1.at 2).fail } : Rig) = rigA2 from rfl]
  refine walk ?_
  refine call ((achunk_spec _ hk rigA2 0 1).sure (blockOf s00 38, 0) rigA3 chunkA3) ?_
  intro v _
  refine walk ?_
  (refine draw ?_; refine dy 0 ?_; refine dy 1 ?_; refine dy 2 ?_; refine dg 3 ?_; refine dg 4 ?_; refine dy 5 ?_; refine dy 6 ?_; refine dg 7 ?_; refine dg 8 ?_; refine ddx 9 ?_)
  refine walk ?_
  refine call (block_spec s00 (by omega) 38) ?_
  intro w _
  (refine walk ?_; refine ddx 10 ?_)
  refine walk ?_
  refine call (equal_spec v w (blockOf s00 38) (blockOf s00 38) (by have := blockOf_len s00 (by omega) 38; omega)) ?_
  intro _ _
  rw [decide_eq_true rfl]
  (refine walk ?_; refine dy 11 ?_; refine dy 12 ?_; refine dg 13 ?_; refine dg 14 ?_; refine dg 15 ?_; refine dg 16 ?_; refine dg 18 ?_; refine ddx 17 ?_)
  refine walk ?_
  refine call (stale_spec ⟨a, nv, pp, ps, lv, s00⟩ rigA3) ?_
  intro _ _
  rw [staleA3]
  (refine walk ?_; refine ddx 19 ?_)
  refine walk ?_
  refine call (member_spec s00 h 0 1 (by omega) (by omega)) ?_
  intro _ _
  rw [show s00.member 0 1 = 2 from by decide +kernel]
  (refine walk ?_; refine dg 20 ?_; refine dy 21 ?_; refine dy 22 ?_; refine walk ?_)
  refine walk ?_
  exact wq_ret1 rfl rfl () rfl trivial perm
end Go.Proofs.YtohienhoifgmaaaGreat
end

section
/- Arrays in plain Lean: what all members have; a member made anew. No program. -/
namespace Go.Sl
open Go

/-- a sector that all have is written -/
theorem aputSame_sat {s : Shp} {r : Rig} (hf : Fits s r) {q : Int} (hq : 0 ≤ q ∧ q < s.sectors) {b : Bytes} (hb : (b.length : Int) = s.block) :
    (aputSame s q b r).Sat (fun e r' => Tr (SA q) r r' ∧ ((e = 0 ∧ r'.broken = r.broken ∧ ∀ i, i < r.ds.length → ((i : Int) = r'.stale ∨ (r'.at i).see q = b) ∧ (Live (r.at i) → (r'.at i).see q = b)) ∨ (e = 3 ∧ r'.broken = true))) (fun r' => Tr0 (SA q) r r' ∧ 0 ≤ r.pow.limit) := by
  unfold aputSame
  rw [if_neg (by omega)]
  cases hbr : r.broken with
  | true => rw [if_pos rfl]; exact ⟨Tr.refl r, .inr ⟨rfl, hbr⟩⟩
  | false =>
    rw [if_neg (by decide)]
    have key := each_sat (f := fun m : Nat => awrite m q b) (l := List.range r.ds.length)
      (fun n r' => Tr (SA q) r r' ∧ r'.broken = false ∧ ∀ i, i < n → ((i : Int) = r'.stale ∨ (r'.at i).see q = b) ∧ (Live (r.at i) → (r'.at i).see q = b))
      (fun r' => Tr (SA q) r r' ∧ r'.broken = true) (fun r' => Tr0 (SA q) r r' ∧ 0 ≤ r.pow.limit) 0 r ⟨Tr.refl r, hbr, fun i hi => by omega⟩ ?_ (by omega)
    · rw [List.drop_zero] at key
      refine key.mono ?_ (fun _ h => h)
      rintro e r1 (⟨rfl, t1, b1, h1⟩ | ⟨rfl, t1, h1⟩)
      · rw [List.length_range] at h1
        exact ⟨t1, .inl ⟨rfl, b1, h1⟩⟩
      · exact ⟨t1, .inr ⟨rfl, h1⟩⟩
    · rintro i r1 _ hi ⟨t1, b1, h1⟩
      rw [List.getElem_range]
      have hi' : i < r.ds.length := by simpa using hi
      refine (awrite_sat (hf.tr t1.toTr0) (by rw [t1.len]; exact hi') hq hb).mono ?_ (fun r2 h => ⟨t1.toTr0.trans h.1 (fun _ _ x => x) SA_of, by rw [← t1.limit]; exact h.2.2⟩)
      rintro e r2 ⟨t2, a2, h2⟩
      have t12 := t1.trans (T := SA q) t2 (fun _ _ x => x) SA_of
      rcases h2 with ⟨rfl, b2, h2, h3⟩ | ⟨rfl, b2⟩
      · refine .inl ⟨rfl, t12, b2.trans b1, fun k hk => ?_⟩
        by_cases hki : k = i
        · subst hki; exact ⟨h2, fun hl => h3 (t1.live k hl)⟩
        · obtain ⟨h4, h5⟩ := h1 k (by omega)
          refine ⟨h4.imp (fun e => ?_) (fun e => ?_), fun hl => ?_⟩
          · rw [e]; exact (t2.stale_is (by rw [← e]; omega)).symm
          · rw [a2 k hki]; exact e
          · rw [a2 k hki]; exact h5 hl
      · exact .inr ⟨by decide, rfl, t12, b2⟩

theorem sameL_sat {r0 : Rig} {q : Int} {b : Bytes} (hq : 0 ≤ q) : ∀ (l : List Nat) (r : Rig), Tr S0 r0 r → r.broken = r0.broken → (∀ i, i ∈ l → i < r.ds.length ∧ q < (r.at i).on.length ∧ ((i : Int) ≠ r.stale → (r.at i).see q = b)) →
    (∀ i, i < r.ds.length → i ∉ l → (i : Int) = r.stale) →
    (sameL q l r).Sat (fun x r' => Tr S0 r0 r' ∧ (x = (b, 0) ∧ r'.broken = r0.broken ∨ x = ([], 3) ∧ (r'.broken = true ∨ ∀ i, i < r0.ds.length → (i : Int) = r'.stale))) (fun r' => Tr0 S0 r0 r' ∧ 0 ≤ r0.pow.limit)
  | [], r, t, hbr, _, hn => by
    unfold sameL
    exact ⟨t, .inr ⟨rfl, .inr fun i hi => hn i (by rw [t.len]; exact hi) (by simp)⟩⟩
  | i :: l, r, t, hbr, h, hn => by
    unfold sameL
    by_cases hi : (i : Int) = r.stale
    · rw [if_pos hi]
      exact sameL_sat hq l r t hbr (fun j hj => h j (List.mem_cons_of_mem _ hj)) (fun j hj hnj => by
        by_cases hji : j = i
        · rw [hji]; exact hi
        · exact hn j hj (by simp [hji, hnj]))
    · rw [if_neg hi]
      obtain ⟨h1, h2, h3⟩ := h i List.mem_cons_self
      refine Out.Sat.bind ((read_sat h1 ⟨hq, h2⟩).mono (fun _ _ h => h) (fun r' h => by rw [h.1]; exact ⟨t.toTr0, by rw [← t.limit]; exact h.2⟩)) ?_
      rintro x r1 ⟨t1, a1, n1, b1, h4⟩
      rcases h4 with ⟨h5, h6, hv⟩ | ⟨rfl, h5, h6⟩
      · rw [if_pos h5]
        exact ⟨t.trans (T := S0) (t1.tell a1 (.inl hv)) (fun _ _ x => x) (fun _ _ x => x), .inl ⟨by rw [h6, h3 hi], b1.trans hbr⟩⟩
      · rw [if_neg (by decide)]
        refine Out.Sat.bind ((lost_sat (by rw [t1.len]; exact h1) (not_live h6)).mono (fun _ _ h => h) (fun r' h => by rw [h.1]; exact ⟨t.toTr0.trans (T := S0) t1 (fun _ _ x => x) (fun _ _ x => x), by rw [← t.limit, ← t1.limit]; exact h.2⟩)) ?_
        rintro e r2 ⟨t2, a2, h7⟩
        have t12 := (t1.trans (T := S0) t2 (fun _ _ x => x) (fun _ _ x => x)).tell (a1.trans (fun i _ => a2 i)) (.inr (h7.imp (fun h => h.2.1.symm) (fun h => h.2.1)))
        have t02 := t.trans (T := S0) t12 (fun _ _ x => x) (fun _ _ x => x)
        rcases h7 with ⟨rfl, h8, b2⟩ | ⟨rfl, h8, _⟩
        · rw [if_neg (by decide)]
          refine sameL_sat hq l r2 t02 ((b2.trans b1).trans hbr) (fun j hj => ?_) (fun j hj hnj => ?_)
          · obtain ⟨g1, g2, g3⟩ := h j (List.mem_cons_of_mem _ hj)
            refine ⟨by rw [t12.len]; exact g1, by rw [(t12.size j).2]; exact g2, fun hne => ?_⟩
            rw [t12.see j q (fun x => x) hq g2]
            exact g3 (t12.stale_ne hne)
          · by_cases hji : j = i
            · rw [hji]; exact h8.symm
            · have := hn j (by rw [← t12.len]; exact hj) (by simp [hji, hnj])
              rw [this]; exact (t12.stale_is (by rw [← this]; omega)).symm
        · rw [if_pos (by decide)]
          exact ⟨t02, .inr ⟨rfl, .inl h8⟩⟩
/-- a sector that all have is read -/
theorem asame_sat {s : Shp} {r : Rig} (hf : Fits s r) {q : Int} (hq : 0 ≤ q ∧ q < s.sectors) {b : Bytes} (h : ∀ i, i < r.ds.length → (i : Int) ≠ r.stale → (r.at i).see q = b) :
    (asame s q r).Sat (fun x r' => Tr S0 r r' ∧ (x = (b, 0) ∧ r'.broken = r.broken ∨ x = ([], 3) ∧ (r'.broken = true ∨ ∀ i, i < r.ds.length → (i : Int) = r'.stale))) (fun r' => Tr0 S0 r r' ∧ 0 ≤ r.pow.limit) := by
  unfold asame
  rw [if_neg (by omega)]
  cases hbr : r.broken with
  | true => rw [if_pos rfl]; exact ⟨Tr.refl r, .inr ⟨rfl, .inl hbr⟩⟩
  | false =>
    rw [if_neg (by decide)]
    have := sameL_sat (b := b) hq.1 (List.range r.ds.length) r (Tr.refl r) rfl (fun i hi => ?_) (fun i hi hn => absurd (List.mem_range.2 hi) hn)
    · rwa [hbr] at this
    · have hi := List.mem_range.1 hi
      exact ⟨hi, by rw [hf.on i hi]; exact hq.2, h i hi⟩
/-- .. from the first member, if that is current and doesn't fail -/
theorem asame_first {s : Shp} {r : Rig} (hf : Fits s r) (hl : r.pow.limit = -1) {q : Int} (hq : 0 ≤ q ∧ q < s.sectors) (h0 : 0 < r.ds.length) (hs : r.stale ≠ 0) (hv : Live (r.at 0)) (hb : r.broken = false) :
    (asame s q r).Sat (fun x r' => x = ((r.at 0).see q, 0) ∧ r'.nv = r.nv ∧ Tr0 S0 r r') (fun _ => False) := by
  unfold asame
  rw [if_neg (by omega), if_neg (by simp [hb])]
  obtain ⟨n, hn⟩ : ∃ n, r.ds.length = n + 1 := ⟨r.ds.length - 1, by omega⟩
  rw [hn, List.range_succ_eq_map]
  unfold sameL
  rw [if_neg (by intro e; exact hs e.symm)]
  refine Out.Sat.bind ((read_sat h0 ⟨hq.1, by rw [hf.on 0 h0]; exact hq.2⟩).mono (fun _ _ h => h) (fun r' h => by have := h.2; omega)) ?_
  rintro x r1 ⟨t1, a1, n1, b1, ⟨h5, h6, _⟩ | ⟨_, h5, _⟩⟩
  · rw [if_pos h5]; exact ⟨by rw [h6], n1, t1⟩
  · exact absurd hv h5

/-- .. where the first one has failed, from another one -/
theorem asame_dead0 {s : Shp} {r : Rig} (hf : Fits s r) (hl : r.pow.limit = -1) {q : Int} (hq : 0 ≤ q ∧ q < s.sectors) (h0 : 0 < r.ds.length) (hs : r.stale = -1) (hd : (r.at 0).dead = true) (hb : r.broken = false) {b : Bytes} (h : ∀ i, i < r.ds.length → i ≠ 0 → (r.at i).see q = b) :
    (asame s q r).Sat (fun x r' => Tr0 S0 r r' ∧ r'.stale = 0 ∧ (x = (b, 0) ∨ r'.broken = true ∨ ∀ i : Nat, i < r.ds.length → (i : Int) = 0)) (fun _ => False) := by
  unfold asame
  rw [if_neg (by omega), if_neg (by simp [hb])]
  obtain ⟨n, hn⟩ : ∃ n, r.ds.length = n + 1 := ⟨r.ds.length - 1, by omega⟩
  rw [hn, List.range_succ_eq_map]
  unfold sameL
  rw [if_neg (by rw [hs]; decide)]
  refine Out.Sat.bind ((read_sat h0 ⟨hq.1, by rw [hf.on 0 h0]; exact hq.2⟩).mono (fun _ _ h => h) (fun r' h => by have := h.2; omega)) ?_
  rintro x r1 ⟨t1, a1, n1, b1, ⟨_, _, h5⟩ | ⟨rfl, _, h6⟩⟩
  · rw [t1.dead 0 hd] at h5; cases h5
  rw [if_neg (by decide)]
  refine Out.Sat.bind ((lost_sat (m := 0) (by rw [t1.len]; exact h0) (not_live h6)).mono (fun _ _ h => h) (fun r' h => by have := h.2; rw [t1.limit] at this; omega)) ?_
  rintro e r2 ⟨t2, a2, h7⟩
  have t02 := t1.trans (T := S0) t2 (fun _ _ x => x) (fun _ _ x => x)
  have hs1 : r1.stale = -1 := by unfold Rig.stale at hs ⊢; rw [n1]; exact hs
  rcases h7 with ⟨rfl, h8, b2⟩ | ⟨_, _, h8, _⟩
  rotate_left
  · exact absurd hs1 h8
  have h8' : r2.stale = 0 := h8
  rw [if_neg (by decide)]
  refine (sameL_sat (r0 := r2) (b := b) hq.1 _ r2 (Tr.refl r2) rfl (fun i hi => ?_) (fun i hi hni => ?_)).mono ?_ (fun r' h => by have := h.2; rw [t02.limit] at this; omega)
  · obtain ⟨j, hj, rfl⟩ := List.mem_map.1 hi
    have hj := List.mem_range.1 hj
    have hjl : j.succ < r.ds.length := by omega
    refine ⟨by rw [t02.len]; exact hjl, by rw [(t02.size _).2, hf.on _ hjl]; exact hq.2, fun _ => ?_⟩
    rw [t02.see _ q (fun x => x) hq.1 (by rw [hf.on _ hjl]; exact hq.2)]
    exact h _ hjl (by omega)
  · by_cases hi0 : i = 0
    · rw [hi0, h8']; rfl
    · exact absurd (List.mem_map.2 ⟨i - 1, List.mem_range.2 (by rw [t02.len] at hi; omega), by omega⟩) hni
  · rintro x r3 ⟨t3, h9⟩
    have h10 : r3.stale = 0 := by rw [t3.stale_is (by rw [h8']; decide), h8']
    refine ⟨t02.trans (T := S0) t3.toTr0 (fun _ _ x => x) (fun _ _ x => x), h10, ?_⟩
    rcases h9 with ⟨h9, _⟩ | ⟨_, h9 | h9⟩
    · exact .inl h9
    · exact .inr (.inl h9)
    · exact .inr (.inr (fun i hi => by rw [h9 i (by rw [t02.len]; omega), h10]))

/-- a stripe's cell of the member that isn't current is made anew -/
theorem amend_sat {s : Shp} (hs : s.Ok) {r : Rig} (hf : Fits s r) {m : Nat} (hm : m < r.ds.length) (hst : r.stale = m) (hb : r.broken = false) {t : Int} (ht : 0 ≤ t ∧ t < s.all) {L : List Bytes} (hL : Chunks s L) (h : Holds s r t L) :
    (amend s t r).Sat (fun e r' => Tr (S1 m (s.stripeAt t)) r r' ∧ ((e = 0 ∧ r'.broken = false ∧ (r'.at m).see (s.stripeAt t) = cellOf s t L m ∧ (r'.at m).dead = false) ∨ (e = 8 ∧ r'.broken = false ∧ ¬ Live (r.at m)) ∨ (e = 3 ∧ r'.broken = true))) (fun r' => Tr0 (S1 m (s.stripeAt t)) r r' ∧ 0 ≤ r.pow.limit) := by
  have hq := hs.at_ ht
  unfold amend
  rw [if_neg (not_not_intro ht), if_neg (by simp [hb]), if_neg (by omega), hst]
  unfold acopied
  refine Out.Sat.bind ((aothers_sat hs hf hm hst hq hL (fun i hi hne => (h i hi (by omega)).see)).mono (fun _ _ h => h) (fun r' h => ⟨h.1.trans (Tr0.refl (S := S0) r') S0_of S0_of, h.2⟩)) ?_
  rintro x r1 ⟨t1, ⟨rfl, b1⟩ | ⟨rfl, b1⟩⟩
  · rw [if_neg (by simp), Int.toNat_natCast]
    have f1 := hf.tr t1.toTr0
    have hm1 : m < r1.ds.length := by rw [t1.len]; exact hm
    refine (write_sat hm1 (by rw [f1.on m hm1]; exact hq : 0 ≤ s.stripeAt t ∧ s.stripeAt t < (r1.at m).on.length) (by rw [f1.size m hm1]; exact cellOf_len (by have := hs.members; omega) hL m)).mono ?_ (fun r' h => by rw [h.1]; exact ⟨t1.toTr0.trans (Tr0.refl (S := S0) r1) S0_of S0_of, by rw [← t1.limit]; exact h.2⟩)
    rintro e r2 ⟨t2, a2, n2, b2, ⟨rfl, h2, h3⟩ | ⟨rfl, h2, h3⟩⟩
    · exact ⟨t1.trans (t2.tell a2 (.inl h3)) S0_of (fun _ _ x => x), .inl ⟨rfl, by rw [b2, b1, hb], h2, h3⟩⟩
    · have hst2 : r2.stale = m := by rw [t2.stale_is (by rw [t1.stale_is (by omega)]; omega), t1.stale_is (by omega), hst]
      exact ⟨t1.trans (t2.tell a2 (.inr (.inl hst2.symm))) S0_of (fun _ _ x => x), .inr (.inl ⟨rfl, by rw [b2, b1, hb], fun hl => h2 (t1.live m hl)⟩)⟩
  · rw [if_pos (by decide)]
    exact ⟨t1.weak S0_of, .inr (.inr ⟨rfl, b1⟩)⟩

theorem each_satE {α : Type} {f : α → Rig → Out Rig Int} (I : Nat → Rig → Prop) (B : Int → Rig → Prop) (G : Rig → Prop) (l : List α) :
    ∀ (n : Nat) (r : Rig), I n r → (∀ i r, n ≤ i → (hi : i < l.length) → I i r → (f l[i] r).Sat (fun e r' => (e = 0 ∧ I (i + 1) r') ∨ (e ≠ 0 ∧ B e r')) G) → n ≤ l.length →
    (each f (l.drop n) r).Sat (fun e r' => (e = 0 ∧ I l.length r') ∨ (e ≠ 0 ∧ B e r')) G := by
  intro n r hI hstep hn
  obtain ⟨k, hk⟩ : ∃ k, k = l.length - n := ⟨_, rfl⟩
  induction k generalizing n r with
  | zero =>
    have : n = l.length := by omega
    subst this
    rw [List.drop_of_length_le (by simp)]
    exact .inl ⟨rfl, hI⟩
  | succ k ih =>
    have hlt : n < l.length := by omega
    rw [List.drop_eq_getElem_cons hlt]
    unfold each
    refine Out.Sat.bind (hstep n r (Nat.le_refl _) hlt hI) ?_
    rintro e r1 (⟨rfl, h1⟩ | ⟨h0, h1⟩)
    · rw [if_pos rfl]
      exact ih (n + 1) r1 h1 (fun i r hi hl hI => hstep i r (by omega) hl hI) (by omega) (by omega)
    · rw [if_neg h0]
      exact .inr ⟨h0, h1⟩

/-- the sectors ahead of the stripes, of one member -/
def SB (s : Shp) (m : Nat) : Nat → Int → Prop := fun i q => i = m ∧ q < s.stripeAt 0
/-- the member that isn't current is current again -/
theorem afinish_sat {s : Shp} (hs : s.Ok) {r : Rig} (hf : Fits s r) {m : Nat} (hm : m < r.ds.length) (hst : r.stale = m) (hb : r.broken = false) {first : Bytes} (hfi : (first.length : Int) = s.block) {C : Int → Bytes}
    (hC : ∀ q, 1 ≤ q → q < s.stripeAt 0 → (C q).length = s.block ∧ ∀ i, i < r.ds.length → i ≠ m → (r.at i).see q = C q) :
    (afinish s first r).Sat (fun e r' => (e = 0 ∧ r'.broken = false ∧ r'.stale = -1 ∧ ∃ r2, Tr (SB s m) r r2 ∧ r2.stale = m ∧ r'.ds = r2.ds ∧ r'.pow.limit = r2.pow.limit ∧ r'.nv = { r2.nv with root := { r2.nv.root with stale := -1 } } ∧
        Firm (r2.at m) 0 first ∧ (∀ q, 1 ≤ q → q < s.stripeAt 0 → Firm (r2.at m) q (C q)) ∧ (∀ q, s.stripeAt 0 ≤ q → q < s.sectors → Firm (r2.at m) q ((r.at m).see q)) ∧ (r2.at m).dead = false)
      ∨ (Tr (SB s m) r r' ∧ ((e = 8 ∧ r'.broken = false ∧ ¬ Live (r.at m)) ∨ (e = 3 ∧ (r'.broken = true ∨ ∀ i, i < r.ds.length → (i : Int) = r'.stale))))) (fun r' => Tr0 (SB s m) r r' ∧ 0 ≤ r.pow.limit) := by
  have hp := hs.pages0
  have hall : 0 < s.all := by have := hs.segments; have := hs.stripes; unfold Shp.all; exact Int.mul_pos (by omega) (by omega)
  have hsa : s.stripeAt 0 = 1 + 2 * s.pages + 0 := rfl
  have hse : s.sectors = 1 + 2 * s.pages + s.all := rfl
  have hmm := hs.members
  unfold afinish
  rw [if_neg (by simp [hfi]), if_neg (by simp [hb]), if_neg (by omega), hst]
  have hS1 : ∀ k : Int, k < s.stripeAt 0 → ∀ i q, S1 m k i q → SB s m i q := fun k hk i q h => ⟨h.1, by rw [h.2]; exact hk⟩
  have key := each_satE (f := fun i : Nat => acopied m (i + 1 : Nat) (asame s)) (l := List.range (s.stripeAt 0 - 1).toNat)
    (fun n r' => Tr (SB s m) r r' ∧ r'.stale = m ∧ r'.broken = false ∧ ∀ q : Int, 1 ≤ q → q < (n : Int) + 1 → (r'.at m).see q = C q)
    (fun e r' => Tr (SB s m) r r' ∧ ((e = 8 ∧ r'.broken = false ∧ ¬ Live (r.at m)) ∨ (e = 3 ∧ (r'.broken = true ∨ ∀ i, i < r.ds.length → (i : Int) = r'.stale))))
    (fun r' => Tr0 (SB s m) r r' ∧ 0 ≤ r.pow.limit) 0 r ⟨Tr.refl r, hst, hb, fun q h1 h2 => by omega⟩ ?_ (by omega)
  rotate_left
  · rintro i r1 _ hi ⟨t1, s1, b1, h1⟩
    rw [List.getElem_range]
    have hi' : i < (s.stripeAt 0 - 1).toNat := by simpa using hi
    have hq : (0 : Int) ≤ (i + 1 : Nat) ∧ ((i + 1 : Nat) : Int) < s.sectors := by omega
    obtain ⟨hCl, hCi⟩ := hC (i + 1 : Nat) (by omega) (by omega)
    unfold acopied
    have f1 := hf.tr t1.toTr0
    refine Out.Sat.bind ((asame_sat f1 hq (b := C (i + 1 : Nat)) (fun j hj hne => ?_)).mono (fun _ _ h => h) (fun r' h => ⟨t1.toTr0.trans h.1 (fun _ _ x => x) S0_of, by rw [← t1.limit]; exact h.2⟩)) ?_
    · have hjm : j ≠ m := by intro e; rw [e, s1] at hne; exact hne rfl
      have hjr : j < r.ds.length := by rw [← t1.len]; exact hj
      rw [t1.see j _ (fun x => hjm x.1) hq.1 (by rw [hf.on j hjr]; exact hq.2)]; exact hCi j hjr hjm
    rintro x r2 ⟨t2, h2⟩
    have t12 := t1.trans (T := SB s m) t2 (fun _ _ x => x) S0_of
    have s2 : r2.stale = m := by rw [t2.stale_is (by rw [s1]; omega), s1]
    rcases h2 with ⟨rfl, b2⟩ | ⟨rfl, b2⟩
    rotate_left
    · rw [if_pos (by decide)]
      exact .inr ⟨by decide, t12, .inr ⟨rfl, by rw [t1.len] at b2; exact b2⟩⟩
    rw [if_neg (by simp), Int.toNat_natCast]
    have f2 := hf.tr t12.toTr0
    have hm2 : m < r2.ds.length := by rw [t12.len]; exact hm
    refine (write_sat hm2 (by rw [f2.on m hm2]; exact hq : (0 : Int) ≤ (i + 1 : Nat) ∧ ((i + 1 : Nat) : Int) < (r2.at m).on.length) (by rw [f2.size m hm2, ← hCl])).mono ?_ (fun r' h => by rw [h.1]; exact ⟨t12.toTr0, by rw [← t12.limit]; exact h.2⟩)
    rintro e r3 ⟨t3, a3, n3, b3, ⟨rfl, h3, h4⟩ | ⟨rfl, h3, h4⟩⟩
    · have s3 : r3.stale = m := by rw [t3.stale_is (by rw [s2]; omega), s2]
      refine .inl ⟨rfl, t12.trans (t3.tell a3 (.inl h4)) (fun _ _ x => x) (hS1 _ (by omega)), s3, by rw [b3, b2, b1], fun q q1 q2 => ?_⟩
      by_cases hqi : q = (i + 1 : Nat)
      · rw [hqi]; exact h3
      · rw [t3.see m q (fun x => hqi x.2) (by omega) (by rw [f2.on m hm2]; omega), t2.see m q (fun x => x) (by omega) (by rw [f1.on m (by rw [t1.len]; exact hm)]; omega)]
        exact h1 q q1 (by omega)
    · have s3 : r3.stale = m := by rw [t3.stale_is (by rw [s2]; omega), s2]
      exact .inr ⟨by decide, t12.trans (t3.tell a3 (.inr (.inl s3.symm))) (fun _ _ x => x) (hS1 _ (by omega)), .inl ⟨rfl, by rw [b3, b2, b1], fun hl => h3 (t12.live m hl)⟩⟩
  rw [List.drop_zero] at key
  refine Out.Sat.bind key ?_
  rintro e r1 (⟨rfl, t1, s1, b1, h1⟩ | ⟨h0, h1⟩)
  rotate_left
  · rw [if_pos h0]; exact .inr h1
  rw [if_neg (by decide), Int.toNat_natCast]
  rw [List.length_range] at h1
  have f1 := hf.tr t1.toTr0
  have hm1 : m < r1.ds.length := by rw [t1.len]; exact hm
  refine Out.Sat.bind ((write_sat hm1 (by rw [f1.on m hm1]; omega : (0 : Int) ≤ 0 ∧ (0 : Int) < (r1.at m).on.length) (by rw [f1.size m hm1, hfi])).mono (fun _ _ h => h) (fun r' h => by rw [h.1]; exact ⟨t1.toTr0, by rw [← t1.limit]; exact h.2⟩)) ?_
  rintro e r2 ⟨t2, a2, n2, b2, ⟨rfl, h3, h4⟩ | ⟨rfl, h3, h4⟩⟩
  rotate_left
  · rw [if_pos (by decide)]
    have s2 : r2.stale = m := by rw [t2.stale_is (by rw [s1]; omega), s1]
    exact .inr ⟨t1.trans (t2.tell a2 (.inr (.inl s2.symm))) (fun _ _ x => x) (hS1 _ (by omega)), .inl ⟨rfl, by rw [b2, b1], fun hl => h3 (t1.live m hl)⟩⟩
  rw [if_neg (by decide)]
  have s2 : r2.stale = m := by rw [t2.stale_is (by rw [s1]; omega), s1]
  have t12 := t1.trans (T := SB s m) (t2.tell a2 (.inl h4)) (fun _ _ x => x) (hS1 _ (by omega))
  have f2 := hf.tr t12.toTr0
  have hm2 : m < r2.ds.length := by rw [t12.len]; exact hm
  refine Out.Sat.bind ((flush_sat hm2).mono (fun _ _ h => h) (fun r' h => by rw [h.1]; exact ⟨t12.toTr0, by rw [← t12.limit]; exact h.2⟩)) ?_
  rintro e r3 ⟨t3, a3, n3, b3, ⟨rfl, h5, h6⟩ | ⟨rfl, h5, h6⟩⟩
  rotate_left
  · rw [if_pos (by decide)]
    have s3 : r3.stale = m := by rw [t3.stale_is (by rw [s2]; omega), s2]
    exact .inr ⟨t12.trans (t3.tell a3 (.inr (.inl s3.symm))) (fun _ _ x => x) S0_of, .inl ⟨rfl, by rw [b3, b2, b1], fun hl => h5 (t12.live m hl)⟩⟩
  rw [if_neg (by decide)]
  have s3 : r3.stale = m := by rw [t3.stale_is (by rw [s2]; omega), s2]
  have t13 := t12.trans (T := SB s m) (t3.tell a3 (.inl h6)) (fun _ _ x => x) S0_of
  have hon2 : ((r2.at m).on.length : Int) = s.sectors := f2.on m hm2
  have hon1 : ((r1.at m).on.length : Int) = s.sectors := f1.on m hm1
  refine Out.Sat.bind ((set_sat r3 { r3.nv.root with stale := -1 }).mono (fun _ _ h => h) (fun r' h => by rw [h.1]; exact ⟨t13.toTr0, by rw [← t13.limit]; exact h.2⟩)) ?_
  rintro u r4 ⟨d4, b4, n4, l4⟩
  refine .inl ⟨rfl, by rw [b4, b3, b2, b1], by unfold Rig.stale; rw [n4], r3, t13, s3, d4, l4, n4, ?_, fun q q1 q2 => ?_, fun q q1 q2 => ?_, h6⟩
  · have := h5 0 (by omega) (by omega)
    rwa [h3] at this
  · have := h5 q (by omega) (by omega)
    rwa [t2.see m q (fun x => by have := x.2; omega) (by omega) (by omega), h1 q q1 (by omega)] at this
  · have := h5 q (by omega) (by omega)
    rw [t2.see m q (fun x => by have := x.2; omega) (by omega) (by omega), t1.see m q (fun x => by have := x.2; omega) (by omega) (by rw [hf.on m hm]; omega)] at this
    exact this
end Go.Sl
end
