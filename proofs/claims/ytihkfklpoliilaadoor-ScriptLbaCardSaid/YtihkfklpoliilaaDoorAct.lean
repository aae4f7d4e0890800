/- The law's steps by small numbers. -/
import Derived.Test.YtihkfklpoliilaaDoorSlb
import Derived.Test.YtihkfklpoliilaaDoorLin2
import Derived.Test.YtihkfklpoliilaaDoorWgt
namespace Go.Proofs.YtihkfklpoliilaaDoor
open Go Go.Sl
attribute [local irreducible] Yl WL WC WQ WD
structure Act21 where
  d : UInt8
  a : Nat
  b : Nat
  k : Nat
  t : Bytes
def Act21.cells (x : Act21) : List Value := [vb x.d, .int .u16 x.a, .int .u16 x.b, .int .u64 x.k, vs x.t]
instance : FLen Act21.cells 5 := ⟨fun _ => rfl⟩
def Act21.Ok (x : Act21) : Prop := x.a < 65536 ∧ x.b < 65536 ∧ x.k < 18446744073709551616 ∧ x.t.length ≤ 140737488351232
set_option maxRecDepth 100000 in
theorem rdr_act21 : RdrW Tryd.prog 40 Act21 (fun a cs _ => cs = a.cells ∧ a.Ok) := by
  intro H enc W fuel cs x h hwx
  obtain ⟨hl, n, hf⟩ := rdrW_struct (P := Tryd.prog) Tryd.underlying40 h hwx
  have hl : cs.length = 5 := hl.trans (by kernel_rfl)
  obtain ⟨c0, c1, c2, c3, c4, rfl⟩ : ∃ a b c d e, cs = [a, b, c, d, e] := by
    match cs, hl with
    | [a, b, c, d, e], _ => exact ⟨a, b, c, d, e, rfl⟩
  obtain ⟨y0, h0, _⟩ := hf 0 _ rfl
  obtain ⟨y1, h1, _⟩ := hf 1 _ rfl
  obtain ⟨y2, h2, _⟩ := hf 2 _ rfl
  obtain ⟨y3, h3, _⟩ := hf 3 _ rfl
  obtain ⟨y4, h4, w4⟩ := hf 4 _ rfl
  obtain ⟨b0, hb0, _⟩ := rdr_u8 (P := Tryd.prog) (t := 5) enc W n [c0] y0 h0
  obtain ⟨b1, hb1, i1, j1⟩ := rdr_int (P := Tryd.prog) (t := 32) enc W n [c1] y1 h1
  obtain ⟨b2, hb2, i2, j2⟩ := rdr_int (P := Tryd.prog) (t := 32) enc W n [c2] y2 h2
  obtain ⟨b3, hb3, i3, j3⟩ := rdr_int (P := Tryd.prog) (t := 38) enc W n [c3] y3 h3
  obtain ⟨b4, hb4, hk⟩ := rdrW_string (P := Tryd.prog) (t := 9) enc W n [c4] y4 h4 w4
  simp only [List.cons.injEq, and_true] at hb0 hb1 hb2 hb3 hb4
  subst hb0 hb1 hb2 hb3 hb4
  have i1 : 0 ≤ b1 := i1
  have i2 : 0 ≤ b2 := i2
  have i3 : 0 ≤ b3 := i3
  have j1 : b1 ≤ 65535 := j1
  have j2 : b2 ≤ 65535 := j2
  have j3 : b3 ≤ 18446744073709551615 := j3
  obtain ⟨n1, rfl⟩ : ∃ n : Nat, b1 = n := ⟨b1.toNat, by omega⟩
  obtain ⟨n2, rfl⟩ : ∃ n : Nat, b2 = n := ⟨b2.toNat, by omega⟩
  obtain ⟨n3, rfl⟩ : ∃ n : Nat, b3 = n := ⟨b3.toNat, by omega⟩
  obtain ⟨l, rfl⟩ : ∃ l : Bytes, b4 = ⟨l.toArray⟩ := ⟨b4.data.toList, by cases b4; simp⟩
  rw [ba_size] at hk
  exact ⟨⟨b0, n1, n2, n3, l⟩, rfl, by dsimp only; omega, by dsimp only; omega, by dsimp only; omega, hk⟩
/-- the step -/
def Act21.stp (x : Act21) : Stp :=
  match x.d.toNat % 12 with
  | 0 | 1 | 2 => .write x.a x.t
  | 3 => .read x.a
  | 4 => .trim x.a
  | 5 => .plain (match x.b % 4 with | 0 => wFlush | 1 => wCkpt | 2 => wRebuild | _ => wCheck)
  | 6 => .clean true x.a
  | 7 => .clean false x.a
  | 8 => .member wFail x.a
  | 9 => .member wReplace x.a
  | 10 => .failat x.a x.b
  | _ => .crash x.a x.k
set_option maxHeartbeats 8000000 in
theorem step_act_spec (x : Act21) (hx : x.Ok) :
    Spec0 Tryd.prog 16 [.agg x.cells.toArray] (fun _ => True) (fun F => F) (fun _ : Unit => True) (fun _ => stv x.stp) (fun _ F => F) := by
  obtain ⟨h1, h2, h3, h4⟩ := hx
  (refine spec_of Tryd.func16 rfl Tryd.ntmps16 rfl (fun F w0 hrd => ?_))
  unfold Act21.cells
  refine walk ?_
  intro c
  refine walk ?_
  (refine draw ?_; refine dy 0 ?_; refine dy 1 ?_; refine dy 2 ?_; refine dy 3 ?_; refine dy 4 ?_; refine dy 5 ?_; refine dy 6 ?_; refine dy 7 ?_; refine walk ?_)
  refine walk ?_
  have hs : ∀ r, x.d.toNat % 12 = r → x.stp = Act21.stp ⟨UInt8.ofNat r, x.a, x.b, x.k, x.t⟩ ∨ 12 ≤ r := fun r hr => by
    by_cases h : 12 ≤ r
    · exact .inr h
    · left
      unfold Act21.stp
      dsimp only
      rw [UInt8.toNat_ofNat', Nat.mod_eq_of_lt (show r < 2 ^ 8 by omega), Nat.mod_eq_of_lt (show r < 12 by omega), hr]
  rcases (by omega : x.d.toNat % 12 = 0 ∨ x.d.toNat % 12 = 1 ∨ x.d.toNat % 12 = 2 ∨ x.d.toNat % 12 = 3 ∨ x.d.toNat % 12 = 4 ∨ x.d.toNat % 12 = 5 ∨ x.d.toNat % 12 = 6 ∨ x.d.toNat % 12 = 7 ∨ x.d.toNat % 12 = 8 ∨ x.d.toNat % 12 = 9 ∨ x.d.toNat % 12 = 10 ∨ x.d.toNat % 12 = 11) with h | h | h | h | h | h | h | h | h | h | h | h
  · rcases hs _ h with e | e
    · rw [e]
      (repeat (first | (refine wif_dec (fun _ => ?_) (fun hz => by exfalso; omega); refine walk ?_) | (refine wif_dec (fun hz => by exfalso; omega) (fun _ => ?_); refine walk ?_)))
      exact wq_ret1 rfl rfl () rfl trivial perm
    · omega
  · rcases hs _ h with e | e
    · rw [e]
      (repeat (first | (refine wif_dec (fun _ => ?_) (fun hz => by exfalso; omega); refine walk ?_) | (refine wif_dec (fun hz => by exfalso; omega) (fun _ => ?_); refine walk ?_)))
      exact wq_ret1 rfl rfl () rfl trivial perm
    · omega
  · rcases hs _ h with e | e
    · rw [e]
      (repeat (first | (refine wif_dec (fun _ => ?_) (fun hz => by exfalso; omega); refine walk ?_) | (refine wif_dec (fun hz => by exfalso; omega) (fun _ => ?_); refine walk ?_)))
      exact wq_ret1 rfl rfl () rfl trivial perm
    · omega
  · rcases hs _ h with e | e
    · rw [e]
      (repeat (first | (refine wif_dec (fun _ => ?_) (fun hz => by exfalso; omega); refine walk ?_) | (refine wif_dec (fun hz => by exfalso; omega) (fun _ => ?_); refine walk ?_)))
      exact wq_ret1 rfl rfl () rfl trivial perm
    · omega
  · rcases hs _ h with e | e
    · rw [e]
      (repeat (first | (refine wif_dec (fun _ => ?_) (fun hz => by exfalso; omega); refine walk ?_) | (refine wif_dec (fun hz => by exfalso; omega) (fun _ => ?_); refine walk ?_)))
      exact wq_ret1 rfl rfl () rfl trivial perm
    · omega
  · rcases hs _ h with e | e
    · rw [e]
      rcases (by omega : x.b % 4 = 0 ∨ x.b % 4 = 1 ∨ x.b % 4 = 2 ∨ x.b % 4 = 3) with hb | hb | hb | hb
      · have e4 : (x.b : Int) % 4 = 0 := by omega
        (repeat (first | (refine wif_dec (fun _ => ?_) (fun hz => by exfalso; omega); refine walk ?_) | (refine wif_dec (fun hz => by exfalso; omega) (fun _ => ?_); refine walk ?_)))
        intro v _ _
        refine walk ?_
        rw [e4]
        refine wl_y (yl_index1 rfl rfl (by decide) (by decide)) rfl ?_
        refine walk ?_
        refine wq_ret1 (X := Unit) rfl rfl () ?_ trivial perm
        unfold Act21.stp
        dsimp only
        rw [hb]
        rfl
      · have e4 : (x.b : Int) % 4 = 1 := by omega
        (repeat (first | (refine wif_dec (fun _ => ?_) (fun hz => by exfalso; omega); refine walk ?_) | (refine wif_dec (fun hz => by exfalso; omega) (fun _ => ?_); refine walk ?_)))
        intro v _ _
        refine walk ?_
        rw [e4]
        refine wl_y (yl_index1 rfl rfl (by decide) (by decide)) rfl ?_
        refine walk ?_
        refine wq_ret1 (X := Unit) rfl rfl () ?_ trivial perm
        unfold Act21.stp
        dsimp only
        rw [hb]
        rfl
      · have e4 : (x.b : Int) % 4 = 2 := by omega
        (repeat (first | (refine wif_dec (fun _ => ?_) (fun hz => by exfalso; omega); refine walk ?_) | (refine wif_dec (fun hz => by exfalso; omega) (fun _ => ?_); refine walk ?_)))
        intro v _ _
        refine walk ?_
        rw [e4]
        refine wl_y (yl_index1 rfl rfl (by decide) (by decide)) rfl ?_
        refine walk ?_
        refine wq_ret1 (X := Unit) rfl rfl () ?_ trivial perm
        unfold Act21.stp
        dsimp only
        rw [hb]
        rfl
      · have e4 : (x.b : Int) % 4 = 3 := by omega
        (repeat (first | (refine wif_dec (fun _ => ?_) (fun hz => by exfalso; omega); refine walk ?_) | (refine wif_dec (fun hz => by exfalso; omega) (fun _ => ?_); refine walk ?_)))
        intro v _ _
        refine walk ?_
        rw [e4]
        refine wl_y (yl_index1 rfl rfl (by decide) (by decide)) rfl ?_
        refine walk ?_
        refine wq_ret1 (X := Unit) rfl rfl () ?_ trivial perm
        unfold Act21.stp
        dsimp only
        rw [hb]
        rfl
    · omega
  · rcases hs _ h with e | e
    · rw [e]
      (repeat (first | (refine wif_dec (fun _ => ?_) (fun hz => by exfalso; omega); refine walk ?_) | (refine wif_dec (fun hz => by exfalso; omega) (fun _ => ?_); refine walk ?_)))
      refine wq_ret1 rfl rfl () ?_ trivial perm
      rw [decide_eq_true (by omega)]; rfl
    · omega
  · rcases hs _ h with e | e
    · rw [e]
      (repeat (first | (refine wif_dec (fun _ => ?_) (fun hz => by exfalso; omega); refine walk ?_) | (refine wif_dec (fun hz => by exfalso; omega) (fun _ => ?_); refine walk ?_)))
      refine wq_ret1 rfl rfl () ?_ trivial perm
      rw [decide_eq_false (by omega)]; rfl
    · omega
  · rcases hs _ h with e | e
    · rw [e]
      (repeat (first | (refine wif_dec (fun _ => ?_) (fun hz => by exfalso; omega); refine walk ?_) | (refine wif_dec (fun hz => by exfalso; omega) (fun _ => ?_); refine walk ?_)))
      exact wq_ret1 rfl rfl () rfl trivial perm
    · omega
  · rcases hs _ h with e | e
    · rw [e]
      (repeat (first | (refine wif_dec (fun _ => ?_) (fun hz => by exfalso; omega); refine walk ?_) | (refine wif_dec (fun hz => by exfalso; omega) (fun _ => ?_); refine walk ?_)))
      exact wq_ret1 rfl rfl () rfl trivial perm
    · omega
  · rcases hs _ h with e | e
    · rw [e]
      (repeat (first | (refine wif_dec (fun _ => ?_) (fun hz => by exfalso; omega); refine walk ?_) | (refine wif_dec (fun hz => by exfalso; omega) (fun _ => ?_); refine walk ?_)))
      exact wq_ret1 rfl rfl () rfl trivial perm
    · omega
  · rcases hs _ h with e | e
    · rw [e]
      (repeat (first | (refine wif_dec (fun _ => ?_) (fun hz => by exfalso; omega); refine walk ?_) | (refine wif_dec (fun hz => by exfalso; omega) (fun _ => ?_); refine walk ?_)))
      exact wq_ret1 rfl rfl () rfl trivial perm
    · omega
set_option maxHeartbeats 2000000 in
theorem steps_spec (v0 : Value) (xs : List Act21) (hl : xs.length ≤ 1099511627776) (hok : ∀ a ∈ xs, a.Ok) :
    Spec0 Tryd.prog 14 [v0] (Rd v0 5 (xs.flatMap Act21.cells)) (fun F => F) (fun _ : Value => True) (fun x => x) (fun x F => Sl x 1 ((xs.map Act21.stp).map stv) :: F) := by
  (refine spec_of Tryd.func14 rfl Tryd.ntmps14 rfl (fun F w0 hrd => ?_))
  haveI : RdIn F v0 5 (xs.flatMap Act21.cells) := ⟨hrd⟩
  refine walk ?_
  refine WC.ent (sl_nil 1) ?_
  refine wc_loop (X := Nat × Value) (fun y => [(0, v0), (6, v0), (7, vi xs.length), (8, vi y.1), (3, y.2)]) (fun y => Sl y.2 1 (((xs.take y.1).map Act21.stp).map stv) :: F)
    (fun y => y.1 ≤ xs.length) (fun y => xs.length - y.1) (0, .slice none 0 0) (Nat.zero_le _) envs Ent.refl (fun y hk => ?_)
  obtain ⟨k, v⟩ := y
  dsimp only at hk ⊢
  have hkl : (((xs.take k).map Act21.stp).map stv).length = k := by simp; omega
  refine walk ?_
  refine wif_dec (fun hlt => ?_) (fun hlt => ?_)
  · have hlt : k < xs.length := by omega
    refine walk ?_
    intro c
    refine walk ?_
    dsimp only [Act21.cells]
    refine walk ?_
    refine call (step_act_spec xs[k] (hok _ (List.getElem_mem hlt))) ?_
    intro _ _
    obtain ⟨T, u, hTu⟩ := stv_iface xs[k].stp
    haveI hone : ∀ Γ : List HP, OneIn Γ [stv xs[k].stp] := fun Γ => OneIn.mk' (by rw [hTu]; rfl)
    refine walk ?_
    intro s1 _ _
    refine walk ?_
    intro s2 _ _
    refine walk ?_
    refine wq_round (k + 1, s2) hlt (by dsimp only; omega) envs ?_
    dsimp only
    rw [List.take_add_one, List.getElem?_eq_getElem hlt, Option.toList_some, List.map_append, List.map_append, List.map_cons, List.map_nil, List.map_cons, List.map_nil]
    exact perm
  · obtain rfl : k = xs.length := by omega
    rw [List.take_length]
    refine walk ?_
    exact wq_ret1 rfl rfl v rfl trivial perm
theorem act_fit {x : Act21} (h : x.Ok) : SFit x.stp := by
  obtain ⟨h1, h2, h3, h4⟩ := h
  unfold Act21.stp
  split
  · exact ⟨by omega, by omega⟩
  · exact ⟨by omega, by omega⟩
  · exact ⟨by omega, by omega⟩
  · show _ ≤ 1073741824; omega
  · show _ ≤ 1073741824; omega
  · show List.length _ ≤ 65536
    split <;> decide
  · show _ ≤ 1073741824; omega
  · show _ ≤ 1073741824; omega
  · exact ⟨by omega, by decide⟩
  · exact ⟨by omega, by decide⟩
  · exact ⟨by omega, by omega⟩
  · exact ⟨by omega, by omega⟩
/-- steps' lines -/
def linesB (l : List Stp) : Bytes := l.flatMap lineB
theorem line_len {x : Act21} (h : x.Ok) : (lineB x.stp).length ≤ x.t.length + 60 := by
  obtain ⟨h1, h2, h3, h4⟩ := h
  have ha := numB_len (n := x.a) (by omega)
  have hb := numB_len (n := x.b) (by omega)
  have hk := dig_len h3
  unfold Act21.stp
  split <;> simp only [lineB, List.length_append, List.length_cons, List.length_nil, wWrite, wRead, wTrim, wFail, wReplace, wFailat, wCrash, wGreedy, wWorth] <;> (try omega)
  split <;> simp [wFlush, wCkpt, wRebuild, wCheck] <;> omega
theorem lines_len {xs : List Act21} (h : ∀ x ∈ xs, x.Ok) : (linesB (xs.map Act21.stp)).length ≤ xs.length * 140737488351292 := by
  induction xs with
  | nil => exact Nat.zero_le _
  | cons x xs ih =>
    have h1 := line_len (h x (List.mem_cons_self ..))
    have h2 := (h x (List.mem_cons_self ..)).2.2.2
    have h3 := ih (fun y hy => h y (List.mem_cons_of_mem _ hy))
    unfold linesB at h3 ⊢
    rw [List.map_cons, List.flatMap_cons, List.length_append, List.length_cons, Nat.succ_mul]; omega
end Go.Proofs.YtihkfklpoliilaaDoor
