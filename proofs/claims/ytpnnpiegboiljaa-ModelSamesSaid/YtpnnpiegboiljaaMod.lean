/- The package model, function by function: what each does to a model in memory. -/
import Derived.Test.YtpnnpiegboiljaaByt
namespace Go.Proofs.Ytpnnpiegboiljaa
open Go Go.Sl
attribute [local irreducible] Yl WL WC WQ WD

/-- a model in memory: so many blocks of so many bytes; those that were written -/
def ModAt (p : Nat) (n size : Int) (m : IMap Bytes) : HP := fun h => ∃ c, Sat [Cells p [vi n, vi size, .map (some c)], MB c m] h

theorem ModAt.opened {p : Nat} {n size : Int} {m : IMap Bytes} {Γ : List HP} {h : Hp} :
    Sat (ModAt p n size m :: Γ) h ↔ ∃ x : Nat × IMap Value, x.2.map (·.1) = m.map (·.1) ∧ Sat (Cells p [vi n, vi size, .map (some x.1)] :: MapI x.1 x.2 :: (Ow x.2 m ++ Γ)) h := by
  unfold ModAt
  rw [Sat.ex]
  constructor
  · rintro ⟨c, hs⟩
    have h1 := Sat.swap (Sat.flat.1 hs)
    obtain ⟨vs, hk, h2⟩ := MB.opened.1 h1
    refine ⟨(c, vs), hk, ?_⟩
    exact (Ent.skip (Ent.rise (Γ := Ow vs m))).trans Ent.swap _ h2
  · rintro ⟨⟨c, vs⟩, hk, hs⟩
    refine ⟨c, Sat.flat.2 (Sat.swap (MB.opened.2 ⟨vs, hk, ?_⟩))⟩
    exact (Ent.swap.trans (Ent.skip (Ent.sink (Γ := Ow vs m)))) _ hs
theorem ModAt.shut {p : Nat} {n size : Int} {m : IMap Bytes} {Γ : List HP} {c : Nat} {vs : IMap Value} (hk : vs.map (·.1) = m.map (·.1)) :
    Ent (Cells p [vi n, vi size, .map (some c)] :: MapI c vs :: (Ow vs m ++ Γ)) (ModAt p n size m :: Γ) := fun _ hs => ModAt.opened.2 ⟨(c, vs), hk, hs⟩
theorem ModAt.shut' {p : Nat} {n size : Int} {m : IMap Bytes} {Γ : List HP} {c : Nat} {vs : IMap Value} (hk : vs.map (·.1) = m.map (·.1)) :
    Ent (MapI c vs :: Cells p [vi n, vi size, .map (some c)] :: (Ow vs m ++ Γ)) (ModAt p n size m :: Γ) := Ent.swap.trans (ModAt.shut hk)

theorem mlen_spec (p : Nat) (n size : Int) (m : IMap Bytes) :
    Spec0 Try.prog 13 [vp p] (fun _ => True) (fun F => ModAt p n size m :: F) (fun _ : Unit => True) (fun _ => vi n) (fun _ F => ModAt p n size m :: F) := by
  (refine spec_of Try.func13 rfl Try.ntmps13 rfl (fun F w0 hrd => ?_))
  refine WC.ex (fun y => ModAt.opened.1) (fun x hk => ?_); obtain ⟨c, vs⟩ := x; dsimp only at hk ⊢
  refine walk ?_
  exact wq_ret1 rfl rfl () rfl trivial (ModAt.shut hk)

theorem mapped_spec (p : Nat) (n size : Int) (m : IMap Bytes) :
    Spec0 Try.prog 12 [vp p] (fun _ => True) (fun F => ModAt p n size m :: F) (fun _ : Unit => True) (fun _ => vi m.length) (fun _ F => ModAt p n size m :: F) := by
  (refine spec_of Try.func12 rfl Try.ntmps12 rfl (fun F w0 hrd => ?_))
  refine WC.ex (fun y => ModAt.opened.1) (fun x hk => ?_); obtain ⟨c, vs⟩ := x; dsimp only at hk ⊢
  refine walk ?_
  have hl : vs.length = m.length := by simpa using congrArg List.length hk
  exact wq_ret1 rfl rfl () (by simp [hl]) trivial (ModAt.shut hk)

/-- what Trim answers, and leaves -/
def mtrim (n : Int) (m : IMap Bytes) (i : Int) : IMap Bytes := if 0 ≤ i ∧ i < n then mdel m i else m
set_option maxHeartbeats 1000000 in
theorem trim_spec (p : Nat) (n size : Int) (m : IMap Bytes) (i : Int) :
    Spec0 Try.prog 8 [vp p, vi i] (fun _ => True) (fun F => ModAt p n size m :: F) (fun _ : Unit => True) (fun _ => .bool (decide (0 ≤ i ∧ i < n))) (fun _ F => ModAt p n size (mtrim n m i) :: F) := by
  (refine spec_of Try.func8 rfl Try.ntmps8 rfl (fun F w0 hrd => ?_))
  refine WC.ex (fun y => ModAt.opened.1) (fun x hk => ?_); obtain ⟨c, vs⟩ := x; dsimp only at hk ⊢
  refine walk ?_
  refine wif_dec (fun h0 => ?_) (fun h0 => ?_) <;> refine walk ?_
  · refine wq_ret1 rfl rfl () (by simp; omega) trivial ?_
    have : mtrim n m i = m := if_neg (by omega)
    rw [this]; exact ModAt.shut hk
  refine wif_dec (fun h1 => ?_) (fun h1 => ?_) <;> refine walk ?_
  · refine wq_ret1 rfl rfl () (by simp; omega) trivial ?_
    have : mtrim n m i = m := if_neg (by omega)
    rw [this]; exact ModAt.shut hk
  · refine wq_ret1 rfl rfl () (by simp; omega) trivial ?_
    have : mtrim n m i = mdel m i := if_pos (by omega)
    rw [this]; exact (Ent.skip (Ent.skip (Ow.del (F := F) hk i).1)).trans (ModAt.shut' (Ow.del (F := F) hk i).2)

/-- what Write leaves -/
def mwrite (n size : Int) (m : IMap Bytes) (i : Int) (b : Bytes) : IMap Bytes := if 0 ≤ i ∧ i < n ∧ b.length = size then mset m i b else m
set_option maxHeartbeats 1000000 in
theorem write_spec (p : Nat) (n size : Int) (m : IMap Bytes) (i : Int) (v : Value) (b : Bytes) (hb : (b.length : Int) = size → b.length ≤ 1099511627776) :
    Spec0 Try.prog 9 [vp p, vi i, v] (Rd v 1 (b.map vb)) (fun F => ModAt p n size m :: F) (fun _ : Unit => True) (fun _ => .bool (decide (0 ≤ i ∧ i < n ∧ b.length = size))) (fun _ F => ModAt p n size (mwrite n size m i b) :: F) := by
  (refine spec_of Try.func9 rfl Try.ntmps9 rfl (fun F w0 hrd => ?_))
  haveI : RdIn F v 1 (b.map vb) := ⟨hrd⟩
  refine WC.ex (fun y => ModAt.opened.1) (fun x hk => ?_); obtain ⟨c, vs⟩ := x; dsimp only at hk ⊢
  have hno : ¬ (0 ≤ i ∧ i < n ∧ b.length = size) → mwrite n size m i b = m := fun h => if_neg h
  refine walk ?_
  refine wif_dec (fun h0 => ?_) (fun h0 => ?_) <;> refine walk ?_
  · exact wq_ret1 rfl rfl () (by simp; omega) trivial (by rw [hno (by omega)]; exact ModAt.shut hk)
  refine wif_dec (fun h1 => ?_) (fun h1 => ?_) <;> refine walk ?_
  · exact wq_ret1 rfl rfl () (by simp; omega) trivial (by rw [hno (by omega)]; exact ModAt.shut hk)
  refine wif_dec (fun h2 => ?_) (fun h2 => ?_) <;> refine walk ?_
  · exact wq_ret1 rfl rfl () (by simp; omega) trivial (by rw [hno (by omega)]; exact ModAt.shut hk)
  (refine draw ?_; refine dy 0 ?_; refine dy 1 ?_; refine dy 2 ?_; refine dy 3 ?_; refine dy 4 ?_; refine dy 5 ?_; refine ddo 6 ?_)
  refine call (clone_spec v b (hb (by omega))) ?_
  intro x hx
  (refine walk ?_; refine dlast 7 ?_; refine walk ?_)
  refine wq_ret1 rfl rfl () (by simp; omega) trivial ?_
  have : mwrite n size m i b = mset m i b := if_pos (by omega)
  rw [this]
  exact (Ent.skip (((Ent.skip (Ent.sink (Γ := []))).trans (Ent.swap.trans (Ent.skip (Ow.put (F := F) hk i x b).1))))).trans (ModAt.shut' (Ow.put (F := F) hk i x b).2)

/-- what Read answers -/
def mread (n size : Int) (m : IMap Bytes) (i : Int) : Bytes := if 0 ≤ i ∧ i < n then (mget m i).getD (List.replicate size.toNat 0) else []
set_option maxHeartbeats 1000000 in
theorem read_spec (p : Nat) (n size : Int) (m : IMap Bytes) (i : Int) (hs : 0 ≤ size ∧ size ≤ 65536) (hm : ∀ k b, mget m k = some b → b.length ≤ 1099511627776) :
    Spec0 Try.prog 11 [vp p, vi i] (fun _ => True) (fun F => ModAt p n size m :: F) (fun _ : Value => True) (fun r => r) (fun r F => SlB r (mread n size m i) :: ModAt p n size m :: F) := by
  (refine spec_of Try.func11 rfl Try.ntmps11 rfl (fun F w0 hrd => ?_))
  refine WC.ex (fun y => ModAt.opened.1) (fun x hk => ?_); obtain ⟨c, vs⟩ := x; dsimp only at hk ⊢
  have hno : ¬ (0 ≤ i ∧ i < n) → mread n size m i = [] := fun h => if_neg h
  refine walk ?_
  refine wif_dec (fun h0 => ?_) (fun h0 => ?_) <;> refine walk ?_
  · exact wq_ret1 rfl rfl _ rfl trivial (by rw [hno (by omega)]; exact (ModAt.shut hk).trans (sl_nil 1))
  refine wif_dec (fun h1 => ?_) (fun h1 => ?_) <;> refine walk ?_
  · exact wq_ret1 rfl rfl _ rfl trivial (by rw [hno (by omega)]; exact (ModAt.shut hk).trans (sl_nil 1))
  refine WIf.both (fun hc => ?_) (fun hc => ?_) <;> refine walk ?_
  · obtain ⟨b, hb⟩ : ∃ b, mget m i = some b := by
      rw [keys_get hk] at hc
      exact Option.isSome_iff_exists.1 hc
    obtain ⟨v, hv, hr⟩ := Ow.look hk hb
    have hv' : (mget vs i).getD (.slice none 0 0) = v := by rw [hv]; rfl
    haveI : RdIn (Ow vs m ++ F) v 1 (b.map vb) := ⟨fun h hs => by
      obtain ⟨h1, x, y⟩ := (Sat.app.1 hs).one; exact (hr _ y).mono x⟩
    rw [hv']
    refine call (clone_spec v b (hm _ _ hb)) ?_
    intro x hx
    refine walk ?_
    refine wq_ret1 rfl rfl _ rfl trivial ?_
    have : mread n size m i = b := by unfold mread; rw [if_pos (by omega), hb]; rfl
    rw [this]; exact Ent.skip (ModAt.shut hk)
  · intro v hvl hvn
    refine walk ?_
    have hb : mget m i = none := by
      rw [keys_get hk] at hc
      simpa using hc
    refine wq_ret1 rfl rfl _ rfl trivial ?_
    have : mread n size m i = List.replicate size.toNat 0 := by unfold mread; rw [if_pos (by omega), hb]; rfl
    rw [this]; exact Ent.skip (ModAt.shut hk)

set_option maxHeartbeats 1000000 in
theorem new_spec (n size : Int) :
    Spec0 Try.prog 7 [vi n, vi size] (fun _ => True) (fun F => F) (fun _ : Nat => True) (fun p => vp p) (fun p F => ModAt p (max n 0) (min (max size 0) 65536) [] :: F) := by
  (refine spec_of Try.func7 rfl Try.ntmps7 rfl (fun F w0 hrd => ?_))
  refine walk ?_
  intro c
  refine walk ?_
  intro p
  refine walk ?_
  refine wq_ret1 rfl rfl _ rfl trivial ?_
  exact ModAt.shut (m := []) (vs := []) rfl
end Go.Proofs.Ytpnnpiegboiljaa
