/- ModelSames: two models: are they the same? A clone is, and shares nothing. -/
import Derived.Test.YtpnnpiegboiljaaLawPlays
import Derived.Test.YtpnnpiegboiljaaMod2
namespace Go.Proofs.Ytpnnpiegboiljaa
open Go Go.Sl
attribute [local irreducible] Yl WL WC WQ WD

def act1 (n : Int) (m : IMap Bytes) (a : Act20) : IMap Bytes := if a.trim then mtrim n m a.lba else mwrite n 1 m a.lba a.data
def acts1 (n : Int) (m : IMap Bytes) (l : List Act20) : IMap Bytes := l.foldl (act1 n) m
/-- acts as they lie in memory -/
def ActsAt (l : Value) (acts : List Act20) : Hp → Prop := fun h => Rd l 3 (acts.flatMap Act20.cells) h ∧ ∀ a ∈ acts, Rd a.dv 1 (a.data.map vb) h

set_option maxHeartbeats 4000000 in
theorem play_spec (p : Nat) (n : Int) (m : IMap Bytes) (l : Value) (acts : List Act20) (hl : acts.length ≤ 9223372036854775807) (hlba : ∀ a ∈ acts, -128 ≤ a.lba ∧ a.lba ≤ 127) :
    Spec0 Try.prog 15 [vp p, l] (ActsAt l acts) (fun F => ModAt p n 1 m :: F) (fun _ : Unit => True) (fun _ => .tuple #[]) (fun _ F => ModAt p n 1 (acts1 n m acts) :: F) := by
  (refine spec_of Try.func15 rfl Try.ntmps15 rfl (fun F w0 hrd => ?_))
  haveI : RdIn F l 3 (acts.flatMap Act20.cells) := ⟨fun h hs => (hrd h hs).1⟩
  refine walk ?_
  refine wc_loop (X := Nat) (fun y => [(0, vp p), (6, l), (7, vi acts.length), (8, vi y)])
    (fun y => ModAt p n 1 (acts1 n m (acts.take y)) :: F) (fun y => y ≤ acts.length) (fun y => acts.length - y) 0 (by omega) envs Ent.refl (fun k hk => ?_)
  refine walk ?_
  refine wif_dec (fun hlt => ?_) (fun hlt => ?_)
  · have hlt : k < acts.length := by omega
    refine walk ?_
    intro av
    have hma := List.getElem_mem hlt
    have hb := hlba _ hma
    have e1 : acts1 n m (acts.take (k + 1)) = act1 n (acts1 n m (acts.take k)) acts[k] := by
      unfold acts1
      rw [List.take_succ_eq_append_getElem hlt, List.foldl_append]; rfl
    haveI : RdIn F acts[k].dv 1 (acts[k].data.map vb) := ⟨fun h hs => (hrd h hs).2 _ hma⟩
    generalize acts[k] = a at *
    refine walk ?_
    refine WIf.both (fun ht => ?_) (fun ht => ?_)
    · refine walk ?_
      refine call (trim_spec p n 1 (acts1 n m (acts.take k)) a.lba) ?_
      intro _ _
      refine walk ?_
      refine wq_round (k + 1) (by omega) (by omega) envs ?_
      rw [e1, show act1 n (acts1 n m (acts.take k)) a = mtrim n (acts1 n m (acts.take k)) a.lba from if_pos ht]
      exact perm
    · refine walk ?_
      refine call (write_spec p n 1 (acts1 n m (acts.take k)) a.lba a.dv a.data (fun _ => by omega)) ?_
      intro _ _
      refine walk ?_
      refine wq_round (k + 1) (by omega) (by omega) envs ?_
      rw [e1, show act1 n (acts1 n m (acts.take k)) a = mwrite n 1 (acts1 n m (acts.take k)) a.lba a.data from if_neg (by rw [ht]; simp)]
      exact perm
  · refine walk ?_
    have : acts.take k = acts := List.take_of_length_le (by omega)
    rw [this]
    exact wq_end0 rfl () rfl trivial ent

/-- blocks within the number, of one byte -/
def Fit1 (n : Int) (m : IMap Bytes) : Prop := ∀ e ∈ m, (0 ≤ e.1 ∧ e.1 < n) ∧ (e.2.length : Int) = 1
theorem Fit1.act {n : Int} {m : IMap Bytes} (h : Fit1 n m) (a : Act20) : Fit1 n (act1 n m a) := by
  unfold act1 mtrim mwrite
  split
  · split
    · exact fun e he => h e ((mdel_sub m a.lba).subset he)
    · exact h
  · split
    · rename_i hc
      intro e he
      rcases mset_in he with rfl | he
      · exact ⟨⟨hc.1, hc.2.1⟩, hc.2.2⟩
      · exact h e he
    · exact h
theorem Fit1.acts {n : Int} (l : List Act20) : ∀ {m : IMap Bytes}, Fit1 n m → Fit1 n (acts1 n m l) := by
  induction l with
  | nil => exact fun h => h
  | cons a l ih => exact fun h => ih (h.act a)
theorem Fit1.get {n : Int} {m : IMap Bytes} (h : Fit1 n m) : ∀ k b, mget m k = some b → (0 ≤ k ∧ k < n) ∧ (b.length : Int) = 1 := fun _ _ e => h _ (mget_mem e)

theorem mread_none {n : Int} {m : IMap Bytes} {i : Int} (h : 0 ≤ i ∧ i < n) (hm : mget m i = none) : mread n 1 m i = [0] := by
  unfold mread; rw [if_pos h, hm]; rfl
theorem alike_iff {N O : Int} {A B : IMap Bytes} (fA : Fit1 N A) (fB : Fit1 O B) : alike N 1 A O 1 B ↔ (N = O ∧ ∀ i : Nat, (i : Int) < N → mread N 1 A i = mread O 1 B i) := by
  constructor
  · rintro ⟨h1, _, hA, hB⟩
    refine ⟨h1, fun i hi => ?_⟩
    cases ha : mget A (i : Int) with
    | some b => exact hA _ (mget_mem ha)
    | none =>
      cases hb : mget B (i : Int) with
      | some b => exact hB _ (mget_mem hb)
      | none => rw [mread_none (by omega) ha, mread_none (by omega) hb]
  · rintro ⟨h1, h2⟩
    refine ⟨h1, rfl, fun e he => ?_, fun e he => ?_⟩
    · have := (fA e he).1
      have h3 := h2 e.1.toNat (by omega)
      rwa [Int.toNat_of_nonneg this.1] at h3
    · have := (fB e he).1
      have h3 := h2 e.1.toNat (by omega)
      rwa [Int.toNat_of_nonneg this.1] at h3
theorem mread_eqv {n s : Int} {A C : IMap Bytes} (h : ∀ k, mget C k = mget A k) (i : Int) : mread n s C i = mread n s A i := by
  unfold mread; rw [h]
theorem alike_eqv {N : Int} {A C : IMap Bytes} (h : ∀ k, mget C k = mget A k) : alike N 1 A N 1 C :=
  ⟨rfl, rfl, fun e _ => (mread_eqv h _).symm, fun e _ => (mread_eqv h _).symm⟩

set_option maxHeartbeats 4000000 in
theorem sames_spec (n o : UInt8) (l l' : Value) (acts more : List Act20) (hl : acts.length ≤ 9223372036854775807) (hl' : more.length ≤ 9223372036854775807)
    (hlba : ∀ a ∈ acts, -128 ≤ a.lba ∧ a.lba ≤ 127) (hlba' : ∀ a ∈ more, -128 ≤ a.lba ∧ a.lba ≤ 127) :
    Spec0 Try.prog 5 [vb n, vb o, l, l'] (fun h => ActsAt l acts h ∧ ActsAt l' more h) (fun F => F) (fun _ : Unit => True) (fun _ => .bool true) (fun _ F => F) := by
  (refine spec_of Try.func5 rfl Try.ntmps5 rfl (fun F w0 hrd => ?_))
  haveI : RdIn F l 3 (acts.flatMap Act20.cells) := ⟨fun h hs => (hrd h hs).1.1⟩
  haveI : RdIn F l' 3 (more.flatMap Act20.cells) := ⟨fun h hs => (hrd h hs).2.1⟩
  haveI : ReadIn F (ActsAt l acts) := ⟨fun h hs => (hrd h hs).1⟩
  haveI : ReadIn F (ActsAt l' more) := ⟨fun h hs => (hrd h hs).2⟩
  have hn : (n.toNat : Int) < 256 := by have := n.toNat_lt; omega
  have ho : (o.toNat : Int) < 256 := by have := o.toNat_lt; omega
  refine walk ?_
  refine call (awake_spec) ?_
  intro _ _
  refine walk ?_
  (refine wif_cut 4 25 (.bool (decide ((acts.length : Int) > 30 ∨ (more.length : Int) > 30))) (fun K => ?_) ?_; refine wif_dec (fun hc => ?_) (fun hc => ?_); (iterate 4 ((first | (refine wl_guard_yes rfl rfl rfl ?_; refine wl_ya ?_) | (refine wl_guard_no rfl rfl rfl rfl rfl ?_) | (refine wl_ya ?_)))); exact K true _ _ rfl (by (repeat (first | exact trivial | refine And.intro (by first | exact trivial | rfl) ?_))) (by simp [hc]) (by first | rfl | (simp; done) | (simp; omega) | (simp [*]; done) | (simp [*]; omega)); (iterate 4 ((first | (refine wl_guard_yes rfl rfl rfl ?_; refine wl_ya ?_) | (refine wl_guard_no rfl rfl rfl rfl rfl ?_) | (refine wl_ya ?_)))); exact K false _ _ rfl (by (repeat (first | exact trivial | refine And.intro (by first | exact trivial | rfl) ?_))) (by simp [hc]) (by first | rfl | (simp; done) | (simp; omega) | (simp [*]; done) | (simp [*]; omega)); try (refine wl_nil ?_))
  refine walk ?_
  refine wif_dec (fun _ => ?_) (fun hc => ?_) <;> refine walk ?_
  · exact wq_ret1 rfl rfl () rfl trivial ent
  refine call (new_spec _ 1) ?_
  intro p _
  refine walk ?_
  refine call (new_spec _ 1) ?_
  intro q _
  obtain ⟨N, hN⟩ : ∃ N : Int, N = (n.toNat : Int) % 10 := ⟨_, rfl⟩
  obtain ⟨O, hO⟩ : ∃ O : Int, O = (o.toNat : Int) % 10 := ⟨_, rfl⟩
  rw [← hN, ← hO]
  have hN1 : 0 ≤ N ∧ N < 10 := by omega
  have hO1 : 0 ≤ O ∧ O < 10 := by omega
  rw [show max N 0 = N from by omega, show max O 0 = O from by omega, show min (max 1 0) 65536 = (1 : Int) from by decide]
  refine walk ?_
  refine call (play_spec p N [] l acts hl hlba) ?_
  intro _ _
  refine walk ?_
  refine call (play_spec q O [] l' more hl' hlba') ?_
  intro _ _
  have fA : Fit1 N (acts1 N [] acts) := Fit1.acts acts (fun e h => by cases h)
  have fB : Fit1 O (acts1 O [] more) := Fit1.acts more (fun e h => by cases h)
  generalize hA : acts1 N [] acts = A at *
  generalize hB : acts1 O [] more = B at *
  refine walk ?_
  refine call (mclone_spec p N 1 A hN1.1 (by omega) fA.get) ?_
  intro cl hcl
  obtain ⟨r, C⟩ := cl
  dsimp only at hcl ⊢
  have fC : ∀ k b, mget C k = some b → (0 ≤ k ∧ k < N) ∧ (b.length : Int) = 1 := fun k b h => fA.get k b (by rw [← hcl]; exact h)
  have hbA : ∀ k b, mget A k = some b → b.length ≤ 65536 := fun k b h => by have := fA.get k b h; omega
  have hbB : ∀ k b, mget B k = some b → b.length ≤ 65536 := fun k b h => by have := fB.get k b h; omega
  have hbC : ∀ k b, mget C k = some b → b.length ≤ 65536 := fun k b h => by have := fC k b h; omega
  have hrA : ∀ k, (mread N 1 A k).length ≤ 1099511627776 := fun k => by
    unfold mread
    split
    · cases hg : mget A k with
      | none => simp
      | some b => have := hbA _ _ hg; simp; omega
    · simp
  refine walk ?_
  rw [← hN, ← hO]
  refine wc_loop (X := Nat × Bool) (fun y => [(2, l), (3, l'), (0, vb n), (9, .func (.func 15) #[] #[]), (10, vp p), (11, vp q), (12, vp r), (13, .bool y.2), (51, vi N), (52, vi y.1)])
    (fun _ => ModAt r N 1 C :: ModAt p N 1 A :: ModAt q O 1 B :: F)
    (fun y => (y.1 : Int) ≤ N ∧ (y.2 = true ↔ (N = O ∧ ∀ i : Nat, i < y.1 → mread N 1 A i = mread O 1 B i))) (fun y => N.toNat - y.1) (0, decide (N = O)) ⟨by dsimp only; omega, by simp⟩ envs Ent.refl (fun y hy => ?_)
  obtain ⟨k, s⟩ := y
  dsimp only at hy ⊢
  obtain ⟨hk, hs⟩ := hy
  refine walk ?_
  refine wif_dec (fun hlt => ?_) (fun hlt => ?_)
  · refine walk ?_
    refine WIf.both (fun hst => ?_) (fun hst => ?_)
    · refine walk ?_
      refine call (read_spec p N 1 A k (by omega) (fun j u h => by have := hbA j u h; omega)) ?_
      intro x1 _
      refine walk ?_
      refine call (read_spec q O 1 B k (by omega) (fun j u h => by have := hbB j u h; omega)) ?_
      intro x2 _
      refine walk ?_
      refine call (equal_spec x1 x2 (mread N 1 A k) (mread O 1 B k) (hrA _)) ?_
      intro _ _
      refine walk ?_
      refine wq_round (k + 1, decide (mread N 1 A k = mread O 1 B k)) ⟨by dsimp only; omega, ?_⟩ (by dsimp only; omega) envs perm
      have hs' := hs.1 hst
      rw [decide_eq_true_iff]
      exact ⟨fun h => ⟨hs'.1, fun i hi => by
        rcases Nat.lt_succ_iff_lt_or_eq.1 hi with hi | rfl
        · exact hs'.2 i hi
        · exact h⟩, fun h => h.2 k (by dsimp only; omega)⟩
    · refine walk ?_
      refine wq_round (k + 1, false) ⟨by dsimp only; omega, ?_⟩ (by dsimp only; omega) envs perm
      refine ⟨fun h => (by cases h), fun h => ?_⟩
      have := hs.2 ⟨h.1, fun i hi => h.2 i (by dsimp only; omega)⟩
      rw [hst] at this; cases this
  · have hk2 : (k : Int) = N := by omega
    have hs2 : s = true ↔ (N = O ∧ ∀ i : Nat, (i : Int) < N → mread N 1 A i = mread O 1 B i) :=
      hs.trans ⟨fun h => ⟨h.1, fun i hi => h.2 i (by omega)⟩, fun h => ⟨h.1, fun i hi => h.2 i (by omega)⟩⟩
    refine walk ?_
    refine call (same_spec p q N 1 A O 1 B (by omega) (by omega) hbA hbB) ?_
    intro b1 hb1
    obtain rfl : b1 = s := Bool.eq_iff_iff.2 (hb1.trans ((alike_iff fA fB).trans hs2.symm))
    refine walk ?_
    refine wif_bne (fun h => (h rfl).elim) (fun _ => ?_)
    refine walk ?_
    refine call (same_spec q p O 1 B N 1 A (by omega) (by omega) hbB hbA) ?_
    intro b2 hb2
    have e2 : b2 = b1 := by
      refine Bool.eq_iff_iff.2 (hb2.trans ((alike_iff fB fA).trans (Iff.trans ?_ hs2.symm)))
      exact ⟨fun h => ⟨h.1.symm, fun i hi => (h.2 i (by omega)).symm⟩, fun h => ⟨h.1.symm, fun i hi => (h.2 i (by omega)).symm⟩⟩
    subst e2
    refine walk ?_
    refine wif_bne (fun h => (h rfl).elim) (fun _ => ?_)
    refine walk ?_
    refine call (same_spec p r N 1 A N 1 C (by omega) (by omega) hbA hbC) ?_
    intro b3 hb3
    obtain rfl : b3 = true := hb3.2 (alike_eqv hcl)
    refine walk ?_
    refine call (play_spec r N C l' more hl' hlba') ?_
    intro _ _
    refine walk ?_
    rw [← hN]
    refine call (new_spec N 1) ?_
    intro d _
    rw [show max N 0 = N from by omega, show min (max 1 0) 65536 = (1 : Int) from by decide]
    refine walk ?_
    refine call (play_spec d N [] l acts hl hlba) ?_
    rw [hA]
    intro _ _
    refine walk ?_
    refine call (same_spec p d N 1 A N 1 A (by omega) (by omega) hbA hbA) ?_
    intro b4 hb4
    obtain rfl : b4 = true := hb4.2 (alike_eqv fun _ => rfl)
    refine walk ?_
    exact wq_ret1 rfl rfl () rfl trivial perm

open Go.RowKit Go.ChangeShapes Go.WideShapes in
theorem modelSames_lifted (os : Os) (started : os.Started) (H : Type) (enc : TypeId × Value → H) :
    ReturnsInHanded {} Try.checked os 5 .any (Rows.modelSamesSpec.pre6 enc Try.prog Try.f5 Rows.modelSamesRow.domain false) (Rows.modelSamesSpec.post enc Try.prog Try.f5 false true false false) := by
  refine returnsInHanded_of_change (C := Try.checked) Try.own started (by kernel_rfl) Try.func5
    (ChangeSpec.witness6 (enc := enc) (C := Try.checked) false ⟨#[], #[.int .u8 0, .int .u8 0, .slice none 0 0, .slice none 0 0], []⟩ 8 (by kernel_rfl) (by kernel_rfl) (by kernel_rfl) (by kernel_rfl)) ?_
  intro W base args ds gs before hval0 hW hcnd _
  have hval : ∀ (j : Nat) t v, Try.f5.params[j]? = some t → args[j]? = some v → Value.okWide Try.prog W .any base t v := hval0
  have hW' := hW
  obtain ⟨p, q, hA, hV, rfl, hfz, hnd⟩ := hW
  have hA : DataW.TrodAll enc Try.prog W 0 (fun _ => true) true [5, 5, 22, 22] args.toList ds p := hA
  obtain ⟨v0, vs0, d0, ds0, q0, n0, x0, e0, rfl, t0, h0⟩ := trodAll_split1 hA
  obtain ⟨v1, vs1, d1, ds1, q1, n1, x1, e1, rfl, t1, h1⟩ := trodAll_split1 h0
  obtain ⟨v2, vs2, d2, ds2, q2, n2, x2, e2, rfl, t2, h2⟩ := trodAll_split1 h1
  obtain ⟨v3, vs3, d3, ds3, q3, n3, x3, e3, rfl, t3, h3⟩ := trodAll_split1 h2
  obtain ⟨e4, rfl⟩ := trodAll_split0 h3
  have ea : args = [v0, v1, v2, v3].toArray := by apply Array.toList_inj.1; rw [e0, e1, e2, e3, e4]
  subst ea
  obtain ⟨n, rfl⟩ := arg_u8 (hval 0 5 v0 rfl rfl) t0
  obtain ⟨s, rfl⟩ := arg_u8 (hval 1 5 v1 rfl rfl) t1
  obtain ⟨acts, w2, e4, hr, hb, hx⟩ := arg_slice (@rdr_slicef Try.prog 22 30 3 Act20 Act20.cells _ _ (by kernel_rfl) (by decide) @rdr_act20) (hval 2 22 v2 rfl rfl) t2
  obtain rfl : v2 = w2 := by simpa using e4
  obtain ⟨more, w3, e5, hr', hb', hx'⟩ := arg_slice (@rdr_slicef Try.prog 22 30 3 Act20 Act20.cells _ _ (by kernel_rfl) (by decide) @rdr_act20) (hval 3 22 v3 rfl rfl) t3
  obtain rfl : v3 = w3 := by simpa using e5
  refine (sames_spec n s v2 v3 acts more hb hb' (fun a ha => (hx a ha).1) (fun a ha => (hx' a ha).1) [Old W] W
    (fun h hs => ⟨⟨(Old.rd hr).rd h hs, fun a ha => (Old.rd (hx a ha).2.1).rd h hs⟩, ⟨(Old.rd hr').rd h hs, fun a ha => (Old.rd (hx' a ha).2.1).rd h hs⟩⟩) (sat_old W)).mono fun e W' he => ?_
  obtain ⟨hev, ⟨_, _, rfl, hs⟩ | ⟨_, hf, _⟩⟩ := he
  · exact ⟨_, rfl, law_post Try.laidOut rfl hW' rfl Try.underlying4 (by decide +kernel) (by cases gs <;> first | rfl | exact False.elim hV) (Sat.below hev hs)⟩
  · exact hf.elim

theorem modelSames_holds : Rows.ModelSamesSaid :=
  OpenClaim.holds_of_wide 5 Try.f5 rfl rfl rfl rfl rfl rfl rfl ⟨rfl, rfl, rfl, rfl, rfl⟩ rfl rfl rfl rfl rfl (by kernel_rfl) Try.func5 (by kernel_rfl)
    (of_decide_eq_true (by kernel_rfl)) (by unfold Func.isWrapper; first | (rw [if_pos (by decide +kernel)]; kernel_rfl) | (rw [if_neg (by decide +kernel)]; exact ⟨rfl, rfl⟩))
    (fun os started H enc _ => modelSames_lifted os started H enc)
#print axioms modelSames_holds
end Go.Proofs.Ytpnnpiegboiljaa
