/- several texts, one behind the other -/
import Derived.Test.YtohienhoifgmaaaGreatP48
import Derived.Test.YtohienhoifgmaaaGreatP25
import Derived.Test.YtohienhoifgmaaaGreatP11

section
/- A log's acts, as arguments. -/
namespace Go.Proofs.YtohienhoifgmaaaGreat
open Go Go.Sl
instance : FLen a15Cells 3 := ⟨fun _ => rfl⟩
instance : FLen a16Cells 4 := ⟨fun _ => rfl⟩
set_option maxRecDepth 100000 in
theorem rdr_a15 : Rdr Tryz.prog 37 A15 (fun a cs _ => cs = a15Cells a ∧ True) := by
  intro H enc W fuel cs x h
  obtain ⟨hl, n, hf⟩ := rdr_struct (P := Tryz.prog) Tryz.underlying37 h
  have hl : cs.length = 3 := hl.trans (by kernel_rfl)
  obtain ⟨c0, c1, c2, rfl⟩ : ∃ a b c, cs = [a, b, c] := by
    match cs, hl with
    | [a, b, c], _ => exact ⟨a, b, c, rfl⟩
  obtain ⟨y0, h0⟩ := hf 0 _ rfl
  obtain ⟨y1, h1⟩ := hf 1 _ rfl
  obtain ⟨y2, h2⟩ := hf 2 _ rfl
  obtain ⟨b0, hb0, _⟩ := rdr_u8 (P := Tryz.prog) (t := 5) enc W n [c0] y0 h0
  obtain ⟨b1, hb1, _⟩ := rdr_u8 (P := Tryz.prog) (t := 5) enc W n [c1] y1 h1
  obtain ⟨b2, hb2, _⟩ := rdr_u8 (P := Tryz.prog) (t := 5) enc W n [c2] y2 h2
  simp only [List.cons.injEq, and_true] at hb0 hb1 hb2
  subst hb0 hb1 hb2
  exact ⟨⟨b0, b1, b2⟩, rfl, trivial⟩
set_option maxRecDepth 100000 in
theorem rdr_a16 : Rdr Tryz.prog 39 (A15 × UInt8) (fun a cs _ => cs = a16Cells a ∧ True) := by
  intro H enc W fuel cs x h
  obtain ⟨hl, n, hf⟩ := rdr_struct (P := Tryz.prog) Tryz.underlying39 h
  have hl : cs.length = 4 := hl.trans (by kernel_rfl)
  obtain ⟨c0, c1, c2, c3, rfl⟩ : ∃ a b c d, cs = [a, b, c, d] := by
    match cs, hl with
    | [a, b, c, d], _ => exact ⟨a, b, c, d, rfl⟩
  obtain ⟨y0, h0⟩ := hf 0 _ rfl
  obtain ⟨y1, h1⟩ := hf 1 _ rfl
  obtain ⟨b0, hb0, _⟩ := rdr_a15 enc W n [c0, c1, c2] y0 h0
  obtain ⟨b1, hb1, _⟩ := rdr_u8 (P := Tryz.prog) (t := 5) enc W n [c3] y1 h1
  simp only [List.cons.injEq, and_true] at hb0 hb1
  obtain ⟨rfl, rfl, rfl⟩ := hb0
  subst hb1
  exact ⟨(b0, b1), rfl, trivial⟩
end Go.Proofs.YtohienhoifgmaaaGreat
end

section
/- Structs that are told apart by what they hold. -/
namespace Go.Sl
open Go
abbrev bT : Bool := true
abbrev bF : Bool := false
/-- a struct is the same as itself -/
class SameA (P : Program) (t : TypeId) (cs : List Value) : Prop where
  guard : P.eqGuardType P.depth t = false
  run : ∀ w, (Op.equal t (.agg cs.toArray) (.agg cs.toArray)).run P w = .ok true w
section
variable {P : Program} {w0 : World} {n : Nat} {env : Env} {Γ : List HP} {ty : TypeId}
theorem yl_neqA {t yt : TypeId} {x y : Operand} {cs : List Value} [u : SameA P t cs] (hx : evl env x = some (.agg cs.toArray)) (hy : evl env y = some (.agg cs.toArray)) :
    Yl P (.binOp .neq t x y yt) ty w0 n env Γ (.bool false) Tt :=
  fun _ _ _ _ _ _ s => ⟨trivial, fun w' _ => by simp [execOp, s.env.evl hx, s.env.evl hy, eqGuard, binOp, u.guard, u.run]⟩
end
/-- which operations are done, told anew -/
theorem wd_listed {P : Program} {ops : Array Oper} {Q : Exit → Act → World → Prop} {fuel : Nat} {L : Obl} {listed : Array Bool} (l : Array Bool) {w0 : World} {n : Nat} {env : Env} {Γ : List HP} (h : listed = l) (k : WD P ops Q fuel L l w0 n env Γ) : WD P ops Q fuel L listed w0 n env Γ := h ▸ k
theorem ready_one {ops : Array Oper} {listed : Array Bool} {i : Nat} (h : (match ops[i]? with | some o => !listed.getD i true && o.after.all (fun e => !Region.binds .any e || listed.getD e.on false) | none => false) = true) : (Region.ready .any ops listed).contains i = true := by
  cases ho : ops[i]? with
  | none => rw [ho] at h; cases h
  | some o =>
    rw [ho] at h
    have hi : i < ops.size := (Array.getElem?_eq_some_iff.1 ho).1
    rw [List.contains_iff_mem]
    unfold Region.ready
    rw [List.mem_filter]
    refine ⟨List.mem_range.2 hi, ?_⟩
    rw [ho]
    exact h
theorem wd_sel {P : Program} {ops : Array Oper} {Q : Exit → Act → World → Prop} {fuel : Nat} {L : Obl} {listed : Array Bool} {w0 : World} {n : Nat} {env : Env} {Γ : List HP} (h : Region.noSelect ops = true) (k : Region.noSelect ops = true → WD P ops Q fuel L listed w0 n env Γ) : WD P ops Q fuel L listed w0 n env Γ := k h
section
variable {P : Program} {ops : Array Oper} {Q : Exit → Act → World → Prop} {fuel : Nat} {L : Obl} {listed : Array Bool} {w0 : World} {n : Nat} {env : Env} {Γ : List HP}
theorem dz [pq : PutQ Q] (i : Nat) {d : Nat} {op : Op} {ty : TypeId} {pos : String} {after : Array Edge} {v : Value} {I : World → Prop} (k : WD P ops Q fuel ((i, I) :: L) (listed.setIfInBounds i true) w0 n ((d, v) :: env) Γ) (hi : ops[i]? = some ⟨some d, op, ty, pos, after, none⟩ := by rfl)
    (hsel : Region.noSelect ops = true := by assumption) (hf : Region.free .any ops listed i = true := by decide +kernel) (hr : (match ops[i]? with | some o => !listed.getD i true && o.after.all (fun e => !Region.binds .any e || listed.getD e.on false) | none => false) = true := by decide +kernel)
    (y : Yl P op ty w0 n env Γ v I := by (first | ((with_reducible apply yi_move); first | exact yl_pure rfl) | ((with_reducible apply yi_assign); first | exact yl_pure rfl) | ((with_reducible apply yi_nilCheck); first | exact yl_pure rfl) | ((with_reducible apply yi_pick); first | exact yl_pure rfl) | ((with_reducible apply yi_extract); first | exact yl_pure rfl) | ((with_reducible apply yi_fieldAddr); first | exact yl_field0 rfl | exact yl_fieldx rfl) | ((with_reducible apply yi_load); first | exact yl_load rfl (by rfl) | exact yl_loadm rfl (by omega) | exact yl_loadx rfl (by rfl) | exact yl_loadsf rfl (by omega) | exact yl_loads rfl (by first | (simp only [List.drop_succ_cons, List.drop_zero, List.take_succ_cons, List.take_zero] <;> rfl) | rfl) (by rfl)) | ((with_reducible apply yi_binOp); first | exact yl_cmp rfl rfl rfl | exact yl_addi rfl rfl (by omega) (by omega) | exact yl_subi rfl rfl (by omega) (by omega) | exact yl_muli rfl rfl (by omega) (by omega) | exact yl_rem rfl rfl (by omega) (by omega) | exact yl_quoi rfl rfl (by omega) (by omega) (by omega) | exact yl_beq rfl rfl | exact yl_bne rfl rfl | exact yl_eqpnil rfl rfl | exact yl_nepnil rfl rfl | exact yl_eqnil rfl rfl | exact yl_nenil rfl rfl | exact yl_nefnil rfl rfl | exact yl_neiface rfl rfl | exact yl_eqifn rfl rfl | exact yl_nenone rfl | exact yl_xorb rfl rfl | exact yl_shr32 rfl rfl (by decide) | exact yl_shr rfl rfl (by omega) | exact yl_or8 rfl rfl (by first | omega | decide | (simp; omega) | exact Nat.lt_of_le_of_lt Nat.and_le_right (by decide)) (by first | omega | decide | (simp; omega) | exact Nat.lt_of_le_of_lt Nat.and_le_right (by decide)) | exact yl_and8 rfl rfl (by first | omega | decide | (simp; omega) | exact Nat.lt_of_le_of_lt Nat.and_le_right (by decide)) (by first | omega | decide | (simp; omega) | exact Nat.lt_of_le_of_lt Nat.and_le_right (by decide)) | exact yl_and rfl rfl | exact yl_eqV rfl rfl | exact yl_neV rfl rfl | exact yl_catV rfl rfl (by first | omega | (simp; omega)) | exact yl_mul64 rfl rfl | exact yl_add64 rfl rfl | exact yl_add rfl rfl) | ((with_reducible apply yi_unOp); first | exact yl_pure rfl) | ((with_reducible apply yi_builtin); first | exact yl_lenm rfl | exact yl_len rfl | exact yl_mlen rfl | exact yl_lenf rfl (by decide) | exact yl_lenk rfl | exact yl_lenV rfl | exact yl_sliceData rfl | exact yl_max rfl rfl | exact yl_min rfl rfl) | ((with_reducible apply yi_indexAddr); first | exact yl_index1n rfl rfl (by omega) | exact yl_index1m rfl rfl (by omega) (by omega) | exact yl_index1 rfl rfl (by omega) (by omega) | exact yl_indexf rfl rfl (by decide) (by omega)) | ((with_reducible apply yi_convert); first | exact yl_convi rfl (by omega) (by omega) | exact yl_strB rfl | exact yl_strR rfl | exact yl_convk rfl (by first | omega | (simp only [IntKind.min, IntKind.max, IntKind.bits, IntKind.signed]; omega)) (by first | omega | (simp only [IntKind.min, IntKind.max, IntKind.bits, IntKind.signed]; omega)) | exact yl_conv8 rfl | exact yl_conv rfl) | ((with_reducible apply yi_lookup); first | exact yl_lookup2 rfl rfl | exact yl_lookup rfl rfl) | ((with_reducible apply yi_build); first | exact yl_build1 rfl (by simp only [fill1, List.getElem?_cons_zero, List.getElem?_cons_succ, List.set_cons_zero, List.set_cons_succ, List.length_cons, List.length_nil, Nat.reduceAdd, Nat.reduceLT, if_true, ↓reduceIte]; rfl) | exact yl_buildA rfl (by simp only [fillA, partCells, lay, List.toList_toArray, List.getElem?_cons_zero, List.getElem?_cons_succ, List.length_cons, List.length_nil, List.drop_succ_cons, List.drop_zero, List.drop_nil, List.cons_append, List.nil_append, Nat.reduceAdd, Nat.reduceLeDiff, and_self, if_true, ↓reduceIte] <;> rfl) | exact yl_build rfl (by rfl)) | ((with_reducible apply yi_makeInterface); first | exact yl_iface rfl) | ((with_reducible apply yi_entry); first | exact yl_entry rfl (by assumption)) | ((with_reducible apply yi_makeFunc); first | exact yl_pure rfl) | ((with_reducible apply yi_field); first | exact yl_fieldA rfl (by first | (simp only [List.drop_succ_cons, List.drop_zero, List.take_succ_cons, List.take_zero] <;> rfl) | rfl) | exact yl_field1 rfl rfl) | ((with_reducible apply yi_typeAssert); first | exact yl_assertYes rfl | exact yl_assertNo rfl rfl | exact yl_assertM rfl) | ((with_reducible apply yi_index); first | exact yl_idxV rfl rfl (by first | omega | decide | (simp; omega) | (show 0 < _; omega))) | ((with_reducible apply yi_slice); first | exact yl_cutV rfl rfl rfl (by first | omega | decide) (by first | omega | decide) | exact yl_fromV rfl rfl (by omega) | exact yl_toV rfl rfl (by omega) | exact yl_cutR rfl rfl rfl (by omega) (by omega)))) (hd : Nat.blt d n = true := by rfl)  :
    WD P ops Q (fuel + 1) L listed w0 n env Γ := wd_y i hi hsel hf (ready_one hr) y hd k
theorem dgz [pq : PutQ Q] (i : Nat) {d : Nat} {op : Op} {ty : TypeId} {pos : String} {after : Array Edge} {v : Value} {I : World → Prop} {g : Nat} {want : Bool} {og : Oper} {t : Tmp}
    (k : WD P ops Q fuel ((i, I) :: L) (listed.setIfInBounds i true) w0 n ((d, v) :: env) Γ) (hi : ops[i]? = some ⟨some d, op, ty, pos, after, some (g, want)⟩ := by rfl)
    (hg : ops[g]? = some og := by rfl) (ht : og.dst = some t := by rfl) (hc : env.get t = some (.bool want) := by rfl)
    (hsel : Region.noSelect ops = true := by assumption) (hf : Region.free .any ops listed i = true := by decide +kernel) (hr : (match ops[i]? with | some o => !listed.getD i true && o.after.all (fun e => !Region.binds .any e || listed.getD e.on false) | none => false) = true := by decide +kernel)
    (y : Yl P op ty w0 n env Γ v I := by (first | ((with_reducible apply yi_move); first | exact yl_pure rfl) | ((with_reducible apply yi_assign); first | exact yl_pure rfl) | ((with_reducible apply yi_nilCheck); first | exact yl_pure rfl) | ((with_reducible apply yi_pick); first | exact yl_pure rfl) | ((with_reducible apply yi_extract); first | exact yl_pure rfl) | ((with_reducible apply yi_fieldAddr); first | exact yl_field0 rfl | exact yl_fieldx rfl) | ((with_reducible apply yi_load); first | exact yl_load rfl (by rfl) | exact yl_loadm rfl (by omega) | exact yl_loadx rfl (by rfl) | exact yl_loadsf rfl (by omega) | exact yl_loads rfl (by first | (simp only [List.drop_succ_cons, List.drop_zero, List.take_succ_cons, List.take_zero] <;> rfl) | rfl) (by rfl)) | ((with_reducible apply yi_binOp); first | exact yl_cmp rfl rfl rfl | exact yl_addi rfl rfl (by omega) (by omega) | exact yl_subi rfl rfl (by omega) (by omega) | exact yl_muli rfl rfl (by omega) (by omega) | exact yl_rem rfl rfl (by omega) (by omega) | exact yl_quoi rfl rfl (by omega) (by omega) (by omega) | exact yl_beq rfl rfl | exact yl_bne rfl rfl | exact yl_eqpnil rfl rfl | exact yl_nepnil rfl rfl | exact yl_eqnil rfl rfl | exact yl_nenil rfl rfl | exact yl_nefnil rfl rfl | exact yl_neiface rfl rfl | exact yl_eqifn rfl rfl | exact yl_nenone rfl | exact yl_xorb rfl rfl | exact yl_shr32 rfl rfl (by decide) | exact yl_shr rfl rfl (by omega) | exact yl_or8 rfl rfl (by first | omega | decide | (simp; omega) | exact Nat.lt_of_le_of_lt Nat.and_le_right (by decide)) (by first | omega | decide | (simp; omega) | exact Nat.lt_of_le_of_lt Nat.and_le_right (by decide)) | exact yl_and8 rfl rfl (by first | omega | decide | (simp; omega) | exact Nat.lt_of_le_of_lt Nat.and_le_right (by decide)) (by first | omega | decide | (simp; omega) | exact Nat.lt_of_le_of_lt Nat.and_le_right (by decide)) | exact yl_and rfl rfl | exact yl_eqV rfl rfl | exact yl_neV rfl rfl | exact yl_catV rfl rfl (by first | omega | (simp; omega)) | exact yl_mul64 rfl rfl | exact yl_add64 rfl rfl | exact yl_add rfl rfl) | ((with_reducible apply yi_unOp); first | exact yl_pure rfl) | ((with_reducible apply yi_builtin); first | exact yl_lenm rfl | exact yl_len rfl | exact yl_mlen rfl | exact yl_lenf rfl (by decide) | exact yl_lenk rfl | exact yl_lenV rfl | exact yl_sliceData rfl | exact yl_max rfl rfl | exact yl_min rfl rfl) | ((with_reducible apply yi_indexAddr); first | exact yl_index1n rfl rfl (by omega) | exact yl_index1m rfl rfl (by omega) (by omega) | exact yl_index1 rfl rfl (by omega) (by omega) | exact yl_indexf rfl rfl (by decide) (by omega)) | ((with_reducible apply yi_convert); first | exact yl_convi rfl (by omega) (by omega) | exact yl_strB rfl | exact yl_strR rfl | exact yl_convk rfl (by first | omega | (simp only [IntKind.min, IntKind.max, IntKind.bits, IntKind.signed]; omega)) (by first | omega | (simp only [IntKind.min, IntKind.max, IntKind.bits, IntKind.signed]; omega)) | exact yl_conv8 rfl | exact yl_conv rfl) | ((with_reducible apply yi_lookup); first | exact yl_lookup2 rfl rfl | exact yl_lookup rfl rfl) | ((with_reducible apply yi_build); first | exact yl_build1 rfl (by simp only [fill1, List.getElem?_cons_zero, List.getElem?_cons_succ, List.set_cons_zero, List.set_cons_succ, List.length_cons, List.length_nil, Nat.reduceAdd, Nat.reduceLT, if_true, ↓reduceIte]; rfl) | exact yl_buildA rfl (by simp only [fillA, partCells, lay, List.toList_toArray, List.getElem?_cons_zero, List.getElem?_cons_succ, List.length_cons, List.length_nil, List.drop_succ_cons, List.drop_zero, List.drop_nil, List.cons_append, List.nil_append, Nat.reduceAdd, Nat.reduceLeDiff, and_self, if_true, ↓reduceIte] <;> rfl) | exact yl_build rfl (by rfl)) | ((with_reducible apply yi_makeInterface); first | exact yl_iface rfl) | ((with_reducible apply yi_entry); first | exact yl_entry rfl (by assumption)) | ((with_reducible apply yi_makeFunc); first | exact yl_pure rfl) | ((with_reducible apply yi_field); first | exact yl_fieldA rfl (by first | (simp only [List.drop_succ_cons, List.drop_zero, List.take_succ_cons, List.take_zero] <;> rfl) | rfl) | exact yl_field1 rfl rfl) | ((with_reducible apply yi_typeAssert); first | exact yl_assertYes rfl | exact yl_assertNo rfl rfl | exact yl_assertM rfl) | ((with_reducible apply yi_index); first | exact yl_idxV rfl rfl (by first | omega | decide | (simp; omega) | (show 0 < _; omega))) | ((with_reducible apply yi_slice); first | exact yl_cutV rfl rfl rfl (by first | omega | decide) (by first | omega | decide) | exact yl_fromV rfl rfl (by omega) | exact yl_toV rfl rfl (by omega) | exact yl_cutR rfl rfl rfl (by omega) (by omega)))) (hd : Nat.blt d n = true := by rfl)  :
    WD P ops Q (fuel + 1) L listed w0 n env Γ := wd_gy i hi hg ht hc hsel hf (ready_one hr) y hd k
end
theorem eqIn_int (d : Nat) {P : Program} {t : TypeId} {k : IntKind} (a b : Int) [u : Und P t (.int k)] (w : World) : (Op.equalIn (d + 1) t (.int k a) (.int k b)).run P w = .ok (a == b) w := by
  simp [Op.equalIn, u.run]
end Go.Sl
namespace Go.Proofs.YtohienhoifgmaaaGreat
open Go Go.Sl
instance sameShape (a b c d e f : Int) : SameA Tryz.prog 27 [.int .i64 a, .int .i64 b, .int .i64 c, .int .i64 d, .int .i64 e, .int .i64 f] := ⟨by kernel_rfl, fun w => by
  have h := fun a b w => eqIn_int (P := Tryz.prog) (t := 3) (k := .i64) 9998 a b w
  show (Op.equalIn (9998 + 1 + 1) 27 _ _).run Tryz.prog w = .ok true w
  generalize hE : Op.equalIn (9998 + 1) = E at h
  rw [Op.equalIn]
  simp only [hE]
  simp [Tryz.runUnderlying27, part, Tryz.isAgg3, h]⟩
instance sameSeg (a b c : Int) : SameA Tryz.prog 109 [.int .i64 a, .int .i64 b, .int .u64 c] := ⟨by kernel_rfl, fun w => by
  have h := fun a b w => eqIn_int (P := Tryz.prog) (t := 3) (k := .i64) 9998 a b w
  have h2 := fun a b w => eqIn_int (P := Tryz.prog) (t := 68) (k := .i64) 9998 a b w
  have h3 := fun a b w => eqIn_int (P := Tryz.prog) (t := 35) (k := .u64) 9998 a b w
  show (Op.equalIn (9998 + 1 + 1) 109 _ _).run Tryz.prog w = .ok true w
  generalize hE : Op.equalIn (9998 + 1) = E at h h2 h3
  rw [Op.equalIn]
  simp only [hE]
  simp [Tryz.runUnderlying109, part, Tryz.isAgg3, Tryz.isAgg68, Tryz.isAgg35, h, h2, h3]⟩
instance samePSeg (a c : Int) : SameA Tryz.prog 67 [.int .i64 a, .int .u64 c] := ⟨by kernel_rfl, fun w => by
  have h := fun a b w => eqIn_int (P := Tryz.prog) (t := 3) (k := .i64) 9998 a b w
  have h3 := fun a b w => eqIn_int (P := Tryz.prog) (t := 35) (k := .u64) 9998 a b w
  show (Op.equalIn (9998 + 1 + 1) 67 _ _).run Tryz.prog w = .ok true w
  generalize hE : Op.equalIn (9998 + 1) = E at h h3
  rw [Op.equalIn]
  simp only [hE]
  simp [Tryz.runUnderlying67, part, Tryz.isAgg3, Tryz.isAgg35, h, h3]⟩
end Go.Proofs.YtohienhoifgmaaaGreat
end
