/- ModelPlays: whatever is written and trimmed: what each block is, and how many were written and not trimmed. -/
import Derived.Test.YtpnnpiegboiljaaLawOwn
namespace Go.Proofs.Ytpnnpiegboiljaa
open Go Go.Sl
attribute [local irreducible] Yl WL WC WQ WD

/-- a block that is written, or trimmed, as it came in -/
structure Act20 where
  trim : Bool
  lba : Int
  dv : Value
  data : Bytes
def Act20.cells (a : Act20) : List Value := [.bool a.trim, .int .i8 a.lba, a.dv]
instance : FLen Act20.cells 3 := ⟨fun _ => rfl⟩

instance {Γ : List HP} {a : Act20} {k : Nat} {us : List Value} [r : RdIn Γ a.dv k us] : OneIn Γ (Act20.cells a) :=
  inferInstanceAs (OneIn Γ [.bool a.trim, .int .i8 a.lba, a.dv])

/-- what is kept beside the model: each block's slice, and its bytes -/
abbrev Both := IMap (Value × Bytes)
def Both.vals (m : Both) : IMap Value := m.map fun p => (p.1, p.2.1)
def Both.data (m : Both) : IMap Bytes := m.map fun p => (p.1, p.2.2)
theorem mset_map {α β : Type} (f : α → β) (m : IMap α) (k : Int) (v : α) : mset (m.map fun p => (p.1, f p.2)) k (f v) = (mset m k v).map fun p => (p.1, f p.2) := by
  induction m with
  | nil => rfl
  | cons p r ih => obtain ⟨a, u⟩ := p; simp only [List.map_cons, mset]; split <;> simp [ih]
theorem mdel_map {α β : Type} (f : α → β) (m : IMap α) (k : Int) : mdel (m.map fun p => (p.1, f p.2)) k = (mdel m k).map fun p => (p.1, f p.2) := by
  induction m with
  | nil => rfl
  | cons p r ih => obtain ⟨a, u⟩ := p; simp only [List.map_cons, mdel]; split <;> simp [ih]
theorem mget_map {α β : Type} (f : α → β) (m : IMap α) (k : Int) : mget (m.map fun p => (p.1, f p.2)) k = (mget m k).map f := by
  induction m with
  | nil => rfl
  | cons p r ih => obtain ⟨a, u⟩ := p; simp only [List.map_cons, mget]; split <;> simp [ih]

/-- one act, on what is kept -/
def play1 (many long : Int) (m : Both) (a : Act20) : Both :=
  if a.trim then mdel m a.lba else if 0 ≤ a.lba ∧ a.lba < many ∧ a.data.length = long then mset m a.lba (a.dv, a.data) else m

theorem play1_vals (many long : Int) (m : Both) (a : Act20) : (play1 many long m a).vals = if a.trim then mdel m.vals a.lba else if 0 ≤ a.lba ∧ a.lba < many ∧ a.data.length = long then mset m.vals a.lba a.dv else m.vals := by
  unfold play1 Both.vals
  have h1 := mdel_map (fun q : Value × Bytes => q.1) m a.lba
  have h2 := mset_map (fun q : Value × Bytes => q.1) m a.lba (a.dv, a.data)
  split
  · exact h1.symm
  split
  · exact h2.symm
  · rfl
theorem play1_data (many long : Int) (m : Both) (a : Act20) : (play1 many long m a).data = if a.trim then mdel m.data a.lba else if 0 ≤ a.lba ∧ a.lba < many ∧ a.data.length = long then mset m.data a.lba a.data else m.data := by
  unfold play1 Both.data
  have h1 := mdel_map (fun q : Value × Bytes => q.2) m a.lba
  have h2 := mset_map (fun q : Value × Bytes => q.2) m a.lba (a.dv, a.data)
  split
  · exact h1.symm
  split
  · exact h2.symm
  · rfl
/-- what is kept is of the acts, and fits -/
def Kept (acts : List Act20) (many long : Int) (m : Both) : Prop := ∀ e ∈ m, (0 ≤ e.1 ∧ e.1 < many) ∧ (e.2.2.length : Int) = long ∧ ∃ a ∈ acts, a.dv = e.2.1 ∧ a.data = e.2.2
theorem mset_in {α : Type} {m : IMap α} {k : Int} {v : α} {e : Int × α} (h : e ∈ mset m k v) : e = (k, v) ∨ e ∈ m := by
  induction m with
  | nil => simp only [mset, List.mem_singleton] at h; exact .inl h
  | cons p r ih =>
    obtain ⟨a, u⟩ := p
    unfold mset at h
    split at h
    · rcases List.mem_cons.1 h with h | h
      · rename_i hk; left; rw [h]; simp_all
      · exact .inr (List.mem_cons_of_mem _ h)
    · rcases List.mem_cons.1 h with h | h
      · exact .inr (h ▸ List.mem_cons_self)
      · rcases ih h with h | h
        · exact .inl h
        · exact .inr (List.mem_cons_of_mem _ h)
theorem Kept.play {acts : List Act20} {many long : Int} {m : Both} (h : Kept acts many long m) {a : Act20} (ha : a ∈ acts) : Kept acts many long (play1 many long m a) := by
  unfold play1
  split
  · exact fun e he => h e ((mdel_sub m a.lba).subset he)
  split
  · rename_i hc
    intro e he
    rcases mset_in he with rfl | he
    · exact ⟨⟨hc.1, hc.2.1⟩, hc.2.2, a, ha, rfl, rfl⟩
    · exact h e he
  · exact h

set_option maxHeartbeats 4000000 in
theorem plays_spec (n size : UInt8) (l : Value) (acts : List Act20) (hl : acts.length ≤ 9223372036854775807) (hlba : ∀ a ∈ acts, -128 ≤ a.lba ∧ a.lba ≤ 127) :
    Spec0 Try.prog 3 [vb n, vb size, l] (fun h => Rd l 3 (acts.flatMap Act20.cells) h ∧ ∀ a ∈ acts, Rd a.dv 1 (a.data.map vb) h ∧ a.data.length ≤ 9223372036854775807) (fun F => F) (fun _ : Unit => True) (fun _ => .bool true) (fun _ F => F) := by
  (refine spec_of Try.func3 rfl Try.ntmps3 rfl (fun F w0 hrd => ?_))
  haveI : RdIn F l 3 (acts.flatMap Act20.cells) := ⟨fun h hs => (hrd h hs).1⟩
  have hn : (n.toNat : Int) < 256 := by have := n.toNat_lt; omega
  have hs : (size.toNat : Int) < 256 := by have := size.toNat_lt; omega
  refine walk ?_
  refine call (awake_spec) ?_
  intro _ _
  refine walk ?_
  refine wif_dec (fun hc => ?_) (fun hc => ?_) <;> refine walk ?_
  · exact wq_ret1 rfl rfl () rfl trivial ent
  obtain ⟨many, hmany⟩ : ∃ many : Int, many = (n.toNat : Int) % 10 := ⟨_, rfl⟩
  obtain ⟨long, hlong⟩ : ∃ long : Int, long = (size.toNat : Int) % 5 := ⟨_, rfl⟩
  rw [← hmany, ← hlong]
  have hm1 : 0 ≤ many ∧ many < 10 := by omega
  have hl1 : 0 ≤ long ∧ long < 5 := by omega
  clear hmany hlong
  refine call (new_spec many long) ?_
  intro p _
  rw [show max many 0 = many from by omega, show min (max long 0) 65536 = long from by omega]
  refine walk ?_
  intro c
  refine walk ?_
  refine wc_loop (X := Nat × Both) (fun y => [(7, vi many), (8, vi long), (9, vp p), (10, .map (some c)), (33, l), (34, vi acts.length), (35, vi y.1)])
    (fun y => MapI c y.2.vals :: ModAt p many long y.2.data :: F)
    (fun y => y.1 ≤ acts.length ∧ Kept acts many long y.2) (fun y => acts.length - y.1) (0, []) ⟨by simp, fun _ h => by cases h⟩ envs ent (fun y hy => ?_)
  obtain ⟨k, hm⟩ := y
  dsimp only at hy ⊢
  obtain ⟨hk, hin⟩ := hy
  refine walk ?_
  refine wif_dec (fun hlt => ?_) (fun hlt => ?_)
  rotate_left
  · refine walk ?_
    refine call (mlen_spec p many long hm.data) ?_
    intro _ _
    refine walk ?_
    exact wq_ret1 rfl rfl () (by simp) trivial ent
  have hlt : k < acts.length := by omega
  refine walk ?_
  intro av
  have hma := List.getElem_mem hlt
  have hb := hlba _ hma
  haveI : RdIn F acts[k].dv 1 (acts[k].data.map vb) := ⟨fun h hs => ((hrd h hs).2 _ hma).1⟩
  generalize acts[k] = a at *
  refine walk ?_
  (refine wif_cut 4 48 (.bool (decide (0 ≤ a.lba ∧ a.lba < many))) (fun K => ?_) ?_; refine wif_dec (fun hc => ?_) (fun hc => ?_); (iterate 4 ((first | (refine wl_guard_yes rfl rfl rfl ?_; refine wl_ya ?_) | (refine wl_guard_no rfl rfl rfl rfl rfl ?_) | (refine wl_ya ?_)))); exact K true _ _ rfl (by (repeat (first | exact trivial | refine And.intro (by first | exact trivial | rfl) ?_))) (by simp [hc]) (by first | rfl | (simp; done) | (simp; omega) | (simp [*]; done) | (simp [*]; omega)); (iterate 4 ((first | (refine wl_guard_yes rfl rfl rfl ?_; refine wl_ya ?_) | (refine wl_guard_no rfl rfl rfl rfl rfl ?_) | (refine wl_ya ?_)))); exact K false _ _ rfl (by (repeat (first | exact trivial | refine And.intro (by first | exact trivial | rfl) ?_))) (by simp [hc]) (by first | rfl | (simp; done) | (simp; omega) | (simp [*]; done) | (simp [*]; omega)); try (refine wl_nil ?_))
  refine walk ?_
  refine wif_meet (X := Unit) (fun _ => [(7, vi many), (8, vi long), (9, vp p), (10, .map (some c)), (33, l), (34, vi acts.length), (35, vi k)])
    (fun _ => MapI c (play1 many long hm a).vals :: ModAt p many long (play1 many long hm a).data :: F) (fun _ => True) (WIf.both (fun ht => ?_) (fun ht => ?_)) (fun _ _ => ?_)
  · refine walk ?_
    refine call (trim_spec p many long hm.data a.lba) ?_
    intro _ _
    refine walk ?_
    refine wif_bne (fun h => (h rfl).elim) (fun _ => ?_)
    refine walk ?_
    refine wq_meet _ _ _ () trivial envs ?_
    rw [play1_vals, play1_data, if_pos ht, if_pos ht]
    have : mtrim many hm.data a.lba = mdel hm.data a.lba := by
      unfold mtrim
      split
      · rfl
      · rename_i hx
        refine (mdel_none (mget_none.2 fun hmem => hx ?_)).symm
        obtain ⟨e, he, hek⟩ := List.mem_map.1 hmem
        obtain ⟨e', he', rfl⟩ := List.mem_map.1 he
        have := (hin e' he').1
        rw [← hek]; exact this
    rw [this]
    exact ent
  · refine walk ?_
    (refine wif_cut 6 65 (.bool (decide (0 ≤ a.lba ∧ a.lba < many ∧ a.data.length = long))) (fun K => ?_) ?_; refine wif_dec (fun hc => ?_) (fun hc => ?_); (iterate 6 ((first | (refine wl_guard_yes rfl rfl rfl ?_; refine wl_ya ?_) | (refine wl_guard_no rfl rfl rfl rfl rfl ?_) | (refine wl_ya ?_)))); exact K true _ _ rfl (by (repeat (first | exact trivial | refine And.intro (by first | exact trivial | rfl) ?_))) (by simp [hc]) (by first | rfl | (simp; done) | (simp; omega) | (simp [*]; done) | (simp [*]; omega)); (iterate 6 ((first | (refine wl_guard_yes rfl rfl rfl ?_; refine wl_ya ?_) | (refine wl_guard_no rfl rfl rfl rfl rfl ?_) | (refine wl_ya ?_)))); exact K false _ _ rfl (by (repeat (first | exact trivial | refine And.intro (by first | exact trivial | rfl) ?_))) (by simp [hc]) (by first | rfl | (simp; done) | (simp; omega) | (simp [*]; done) | (simp [*]; omega)); try (refine wl_nil ?_))
    refine walk ?_
    refine call (write_spec p many long hm.data a.lba a.dv a.data (fun _ => by omega)) ?_
    intro _ _
    refine walk ?_
    refine wif_bne (fun h => (h rfl).elim) (fun _ => ?_)
    refine walk ?_
    have ht' : ¬ a.trim = true := by rw [ht]; simp
    refine wif_dec (fun hc => ?_) (fun hc => ?_) <;> refine walk ?_
    · refine wq_meet _ _ _ () trivial envs ?_
      rw [play1_vals, play1_data, if_neg ht', if_neg ht', if_pos hc, if_pos hc]
      rw [show mwrite many long hm.data a.lba a.data = mset hm.data a.lba a.data from if_pos hc]
      exact ent
    · refine wq_meet _ _ _ () trivial envs ?_
      rw [play1_vals, play1_data, if_neg ht', if_neg ht', if_neg hc, if_neg hc]
      rw [show mwrite many long hm.data a.lba a.data = hm.data from if_neg hc]
      refine Ent.trans ?_ Ent.swap
      refine Ent.skip ?_
      exact ent
  have hin2 : Kept acts many long (play1 many long hm a) := Kept.play hin hma
  generalize play1 many long hm a = m2 at *
  have hm2 : ∀ j u, mget m2.data j = some u → u.length ≤ 1099511627776 := by
    intro j u hu
    obtain ⟨e, he, hee⟩ := List.mem_map.1 (mget_mem hu)
    have := (hin2 e he).2.1
    cases hee
    omega
  refine walk ?_
  refine wc_loop (X := Nat) (fun y => [(7, vi many), (8, vi long), (9, vp p), (10, .map (some c)), (33, l), (34, vi acts.length), (35, vi k), (78, vi many), (79, vi y)])
    (fun _ => MapI c m2.vals :: ModAt p many long m2.data :: F) (fun y => (y : Int) ≤ many) (fun y => many.toNat - y) 0 (by omega) envs ent (fun i hi => ?_)
  refine walk ?_
  refine wif_dec (fun hlt => ?_) (fun hlt => ?_)
  · haveI : RdIn F ((mget m2.vals (i : Int)).getD (.slice none 0 0)) 1 (((mget m2.data (i : Int)).getD []).map vb) := by
      refine ⟨fun h hs => ?_⟩
      have e1 : mget m2.vals (i : Int) = (mget m2 (i : Int)).map (·.1) := mget_map (fun q : Value × Bytes => q.1) m2 i
      have e2 : mget m2.data (i : Int) = (mget m2 (i : Int)).map (·.2) := mget_map (fun q : Value × Bytes => q.2) m2 i
      rw [e1, e2]
      cases hg : mget m2 (i : Int) with
      | none => exact .inl ⟨rfl, rfl⟩
      | some q =>
        obtain ⟨_, _, a', ha', hx, hy⟩ := hin2 _ (mget_mem hg)
        have := ((hrd h hs).2 a' ha').1
        rw [hx, hy] at this
        exact this
    have e3 : (((mget m2.data (i : Int)).getD []).map vb).take ((List.replicate long.toNat (0 : UInt8)).map vb).length ++ ((List.replicate long.toNat (0 : UInt8)).map vb).drop (((mget m2.data (i : Int)).getD []).map vb).length = (mread many long m2.data i).map vb := by
      rw [show mread many long m2.data i = (mget m2.data i).getD (List.replicate long.toNat 0) from if_pos (by omega)]
      cases hg : mget m2.data (i : Int) with
      | none => simp
      | some u =>
        have hu : u.length = long.toNat := by
          obtain ⟨e, he, hee⟩ := List.mem_map.1 (mget_mem hg)
          have h1 := (hin2 e he).2.1
          have h2 : e.2.2 = u := congrArg Prod.snd hee
          rw [h2] at h1
          omega
        simp [hu, List.take_of_length_le]
    refine walk ?_
    intro want hvl hvn
    refine walk ?_
    rw [e3]
    refine call (read_spec p many long m2.data i (by omega) hm2) ?_
    intro got _
    refine walk ?_
    refine call (equal_spec got want (mread many long m2.data i) (mread many long m2.data i) (by
      rw [show mread many long m2.data i = (mget m2.data i).getD (List.replicate long.toNat 0) from if_pos (by omega)]
      cases hg : mget m2.data (i : Int) with
      | none => simp; omega
      | some u => exact hm2 _ _ hg)) ?_
    intro _ _
    refine walk ?_
    refine wif_dec (fun _ => ?_) (fun h => (h rfl).elim)
    refine walk ?_
    exact wq_round (i + 1) (by omega) (by omega) envs ent
  · refine walk ?_
    refine call (mapped_spec p many long m2.data) ?_
    intro _ _
    refine walk ?_
    refine wif_dec (fun h => (h (by simp [Both.data, Both.vals])).elim) (fun _ => ?_)
    refine walk ?_
    refine call (read_spec p many long m2.data (-1) (by omega) hm2) ?_
    rw [show mread many long m2.data (-1) = [] from if_neg (by omega)]
    intro r1 _
    refine walk ?_
    refine call (read_spec p many long m2.data many (by omega) hm2) ?_
    rw [show mread many long m2.data many = [] from if_neg (by omega)]
    intro r2 _
    refine walk ?_
    simp only [List.length_nil]
    refine walk ?_
    refine wif_dec (fun h => by exfalso; omega) (fun _ => ?_)
    refine walk ?_
    exact wq_round (k + 1, m2) ⟨by dsimp only; omega, hin2⟩ (by dsimp only; omega) envs ent

theorem rdr_act20 : Rdr Try.prog 30 Act20 (fun a cs h => cs = a.cells ∧ ((-128 ≤ a.lba ∧ a.lba ≤ 127) ∧ Rd a.dv 1 (a.data.map vb) h ∧ a.data.length ≤ 9223372036854775807)) := by
  intro H enc W fuel cs x h
  obtain ⟨hl, n, hf⟩ := rdr_struct (P := Try.prog) Try.underlying30 h
  have hl : cs.length = 3 := hl.trans (by kernel_rfl)
  obtain ⟨c0, c1, c2, rfl⟩ : ∃ a b c, cs = [a, b, c] := by
    match cs, hl with
    | [a, b, c], _ => exact ⟨a, b, c, rfl⟩
  obtain ⟨y0, h0⟩ := hf 0 _ rfl
  obtain ⟨y1, h1⟩ := hf 1 _ rfl
  obtain ⟨y2, h2⟩ := hf 2 _ rfl
  obtain ⟨b, hb⟩ := rdr_bool (P := Try.prog) (t := 4) enc W n [c0] y0 h0
  obtain ⟨i, hi, hi2⟩ := rdr_int (P := Try.prog) (t := 27) enc W n [c1] y1 h1
  obtain ⟨d, v, hd, hr, hdl⟩ := rdr_bytes (P := Try.prog) (t := 28) (e := 5) (by kernel_rfl) enc W n [c2] y2 h2
  simp only [List.cons.injEq, and_true] at hb hi hd
  subst hb; subst hi; subst hd
  exact ⟨⟨b, i, c2, d⟩, rfl, hi2, hr, hdl⟩

open Go.RowKit Go.ChangeShapes Go.WideShapes in
theorem modelPlays_lifted (os : Os) (started : os.Started) (H : Type) (enc : TypeId × Value → H) :
    ReturnsInHanded {} Try.checked os 3 .any (Rows.modelPlaysSpec.pre6 enc Try.prog Try.f3 Rows.modelPlaysRow.domain false) (Rows.modelPlaysSpec.post enc Try.prog Try.f3 false true false false) := by
  refine returnsInHanded_of_change (C := Try.checked) Try.own started (by kernel_rfl) Try.func3
    (ChangeSpec.witness6 (enc := enc) (C := Try.checked) false ⟨#[], #[.int .u8 0, .int .u8 0, .slice none 0 0], []⟩ 8 (by kernel_rfl) (by kernel_rfl) (by kernel_rfl) (by kernel_rfl)) ?_
  intro W base args ds gs before hval0 hW hcnd _
  have hval : ∀ (j : Nat) t v, Try.f3.params[j]? = some t → args[j]? = some v → Value.okWide Try.prog W .any base t v := hval0
  have hW' := hW
  obtain ⟨p, q, hA, hV, rfl, hfz, hnd⟩ := hW
  have hA : DataW.TrodAll enc Try.prog W 0 (fun _ => true) true [5, 5, 22] args.toList ds p := hA
  obtain ⟨v0, vs0, d0, ds0, q0, n0, x0, e0, rfl, t0, h0⟩ := trodAll_split1 hA
  obtain ⟨v1, vs1, d1, ds1, q1, n1, x1, e1, rfl, t1, h1⟩ := trodAll_split1 h0
  obtain ⟨v2, vs2, d2, ds2, q2, n2, x2, e2, rfl, t2, h2⟩ := trodAll_split1 h1
  obtain ⟨e3, rfl⟩ := trodAll_split0 h2
  have ea : args = [v0, v1, v2].toArray := by apply Array.toList_inj.1; rw [e0, e1, e2, e3]
  subst ea
  obtain ⟨n, rfl⟩ := arg_u8 (hval 0 5 v0 rfl rfl) t0
  obtain ⟨s, rfl⟩ := arg_u8 (hval 1 5 v1 rfl rfl) t1
  obtain ⟨acts, w2, e4, hr, hb, hx⟩ := arg_slice (@rdr_slicef Try.prog 22 30 3 Act20 Act20.cells _ _ (by kernel_rfl) (by decide) @rdr_act20) (hval 2 22 v2 rfl rfl) t2
  obtain rfl : v2 = w2 := by simpa using e4
  refine (plays_spec n s v2 acts hb (fun a ha => (hx a ha).1) [Old W] W (fun h hs => ⟨(Old.rd hr).rd h hs, fun a ha => ⟨(Old.rd (hx a ha).2.1).rd h hs, (hx a ha).2.2⟩⟩) (sat_old W)).mono fun e W' he => ?_
  obtain ⟨hev, ⟨_, _, rfl, hs⟩ | ⟨_, hf, _⟩⟩ := he
  · exact ⟨_, rfl, law_post Try.laidOut rfl hW' rfl Try.underlying4 (by decide +kernel) (by cases gs <;> first | rfl | exact False.elim hV) (Sat.below hev hs)⟩
  · exact hf.elim

theorem modelPlays_holds : Rows.ModelPlaysSaid :=
  OpenClaim.holds_of_wide 3 Try.f3 rfl rfl rfl rfl rfl rfl rfl ⟨rfl, rfl, rfl, rfl, rfl⟩ rfl rfl rfl rfl rfl (by kernel_rfl) Try.func3 (by kernel_rfl)
    (of_decide_eq_true (by kernel_rfl)) (by unfold Func.isWrapper; first | (rw [if_pos (by decide +kernel)]; kernel_rfl) | (rw [if_neg (by decide +kernel)]; exact ⟨rfl, rfl⟩))
    (fun os started H enc _ => modelPlays_lifted os started H enc)
#print axioms modelPlays_holds
end Go.Proofs.Ytpnnpiegboiljaa
