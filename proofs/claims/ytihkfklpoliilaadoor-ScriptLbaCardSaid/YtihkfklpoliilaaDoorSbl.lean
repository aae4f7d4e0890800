/- strings.Builder: what its methods do to one in memory. -/
import Derived.Test.YtihkfklpoliilaaDoorTab
import Derived.Test.YtihkfklpoliilaaDoorStr3
import Derived.Test.YtihkfklpoliilaaDoorPrm
import Derived.Test.YtihkfklpoliilaaDoorUnx
namespace Go.Proofs.YtihkfklpoliilaaDoor
open Go Go.Sl
attribute [local irreducible] Yl WL WC WQ WD
instance : KeepT Tryd.prog 90 := ⟨trivial⟩
instance : CellT Tryd.prog 5 := ⟨by kernel_rfl⟩
instance : Und Tryd.prog 112 .unsafePointer := ⟨Tryd.runUnderlying112, Tryd.underlying112⟩
instance : SizedT Tryd.prog 90 := ⟨Option.map_eq_some_iff.1 (show (Tryd.prog.info? 90).map (·.size) = some 2 by kernel_rfl) |>.elim fun j h => ⟨j, h.1, by rw [h.2]; decide⟩⟩
instance {v u : Value} : LiesT Tryd.prog 90 [v, u].length := ⟨by show liesAt Tryd.prog Tryd.prog.depth 90 (2 / Tryd.prog.cellsOf 90) 0 90 1 = true; kernel_rfl⟩
instance : NoEscT Tryd.prog 56 := ⟨fun x w => by
  rw [run_callFunc_extern Tryd.func56 (by kernel_rfl) (by kernel_rfl) (by kernel_rfl) (e := Extern.AbiNoEscape.same) (by kernel_rfl), Lib.run_noEscape]; rfl⟩
def Bld (b : Nat) (bs : Bytes) : HP := fun h => ∃ x : Value × Value, (x.1 = .pointer none ∨ x.1 = vp b) ∧ Sat [Blk b (.cells [x.1, x.2].toArray 90 (0, 0)), SlT x.2 5 (bs.map vb)] h
theorem Bld.opened {b : Nat} {bs : Bytes} {Γ : List HP} {h : Hp} : Sat (Bld b bs :: Γ) h ↔ ∃ x : Value × Value, (x.1 = .pointer none ∨ x.1 = vp b) ∧ Sat (Blk b (.cells [x.1, x.2].toArray 90 (0, 0)) :: SlT x.2 5 (bs.map vb) :: Γ) h := by
  unfold Bld
  rw [Sat.ex]
  constructor
  · rintro ⟨x, hs⟩
    obtain ⟨h1, h2⟩ := Sat.pur.1 hs
    exact ⟨x, h1, Sat.flat.1 h2⟩
  · rintro ⟨x, h1, hs⟩
    exact ⟨x, Sat.pur.2 ⟨h1, Sat.flat.2 hs⟩⟩
theorem Bld.shut {b : Nat} {bs : Bytes} {v : Value} {Γ : List HP} : Ent (Blk b (.cells [vp b, v].toArray 90 (0, 0)) :: SlT v 5 (bs.map vb) :: Γ) (Bld b bs :: Γ) := fun _ hs => Bld.opened.2 ⟨(vp b, v), .inr rfl, hs⟩
theorem Bld.new {b : Nat} {Γ : List HP} : Ent (Blk b (.cells [.pointer none, .slice none 0 0].toArray 90 (0, 0)) :: Γ) (Bld b [] :: Γ) := fun h hs =>
  Bld.opened.2 ⟨(.pointer none, .slice none 0 0), .inl rfl, (Ent.skip (slt_nil 5)) h hs⟩

theorem copyUsed_spec (b : Nat) (v : Value) :
    Spec0 Tryd.prog 48 [vp b] (fun _ => True) (fun F => Blk b (.cells [vp b, v].toArray 90 (0, 0)) :: F) (fun _ : Unit => True) (fun _ => .tuple #[]) (fun _ F => Blk b (.cells [vp b, v].toArray 90 (0, 0)) :: F) := by
  (refine spec_of Tryd.func48 rfl Tryd.ntmps48 rfl (fun F w0 hrd => ?_))
  refine walk ?_
  refine wl_y (yl_nesame rfl rfl) rfl ?_
  refine walk ?_
  exact wq_end0 rfl () rfl trivial Ent.refl
theorem copyFresh_spec (b : Nat) (v : Value) :
    Spec0 Tryd.prog 48 [vp b] (fun _ => True) (fun F => Blk b (.cells [.pointer none, v].toArray 90 (0, 0)) :: F) (fun _ : Unit => True) (fun _ => .tuple #[]) (fun _ F => Blk b (.cells [vp b, v].toArray 90 (0, 0)) :: F) := by
  (refine spec_of Tryd.func48 rfl Tryd.ntmps48 rfl (fun F w0 hrd => ?_))
  refine walk ?_
  refine wl_y (yl_eqnn rfl rfl) rfl ?_
  refine walk ?_
  refine wl_y (yl_toUns rfl (by simp)) rfl ?_
  refine wl_y (yl_noEsc rfl) rfl ?_
  refine wl_y (yl_ofUns rfl) rfl ?_
  refine walk ?_
  exact wq_end0 rfl () rfl trivial Ent.refl
theorem copy_spec (b : Nat) (p v : Value) (hp : p = .pointer none ∨ p = vp b) :
    Spec0 Tryd.prog 48 [vp b] (fun _ => True) (fun F => Blk b (.cells [p, v].toArray 90 (0, 0)) :: F) (fun _ : Unit => True) (fun _ => .tuple #[]) (fun _ F => Blk b (.cells [vp b, v].toArray 90 (0, 0)) :: F) := by
  rcases hp with rfl | rfl
  · exact copyFresh_spec b v
  · exact copyUsed_spec b v
set_option maxHeartbeats 1000000 in
theorem writeString_spec (b : Nat) (bs l : Bytes) (hl : bs.length + l.length ≤ 140737488355328) :
    Spec0 Tryd.prog 37 [vp b, vs l] (fun _ => True) (fun F => Bld b bs :: F) (fun _ : Unit => True) (fun _ => .tuple #[vi l.length, .nilIface]) (fun _ F => Bld b (bs ++ l) :: F) := by
  (refine spec_of Tryd.func37 rfl Tryd.ntmps37 rfl (fun F w0 hrd => ?_))
  refine WC.ex (fun y => Bld.opened.1) (fun x hp => ?_); obtain ⟨p, v⟩ := x; dsimp only at hp ⊢
  refine walk ?_
  refine call (copy_spec b p v hp) ?_
  intro _ _
  refine walk ?_
  intro s'
  refine walk ?_
  refine wq_ret2 rfl rfl rfl () rfl trivial ?_
  rw [← List.map_append]
  first | exact Ent.swap.trans Bld.shut | exact Bld.shut | exact Ent.swap.trans (Bld.shut (b := b) (v := s'))
/-- is it a rune? -/
abbrev RuneOk (r : Nat) : Prop := Utf8.valid (r : Int) = true
theorem enc_of {r : Nat} (x : Bytes) (hx : Utf8.encode (r : Int) = ⟨x.toArray⟩) : enc r = x := by
  have h : enc r = encB (Utf8.encode (r : Int)) := by delta enc; rfl
  rw [h, hx]; simp [encB]
theorem enc1 {r : Nat} (h : r < 128) : enc r = [UInt8.ofNat r] := enc_of _ (by
  have hv : Utf8.valid (r : Int) = true := by simp [Utf8.valid]; omega
  unfold Utf8.encode
  rw [if_pos hv, if_pos (show (r : Int).toNat < 128 by simp; omega)]; rfl)
theorem enc2 {r : Nat} (h0 : 128 ≤ r) (h : r < 2048) : enc r = [UInt8.ofNat (192 + r / 64), UInt8.ofNat (128 + r % 64)] := enc_of _ (by
  have hv : Utf8.valid (r : Int) = true := by simp [Utf8.valid]; omega
  unfold Utf8.encode
  rw [if_pos hv, if_neg (show ¬ (r : Int).toNat < 128 by simp; omega), if_pos (show (r : Int).toNat < 2048 by simp; omega)]; rfl)
theorem enc3 {r : Nat} (hr : RuneOk r) (h0 : 2048 ≤ r) (h : r < 65536) : enc r = [UInt8.ofNat (224 + r / 4096), UInt8.ofNat (128 + r / 64 % 64), UInt8.ofNat (128 + r % 64)] := enc_of _ (by
  unfold Utf8.encode
  rw [if_pos hr, if_neg (show ¬ (r : Int).toNat < 128 by simp; omega), if_neg (show ¬ (r : Int).toNat < 2048 by simp; omega), if_pos (show (r : Int).toNat < 65536 by simp; omega)]; rfl)
theorem enc4 {r : Nat} (hr : RuneOk r) (h0 : 65536 ≤ r) : enc r = [UInt8.ofNat (240 + r / 262144), UInt8.ofNat (128 + r / 4096 % 64), UInt8.ofNat (128 + r / 64 % 64), UInt8.ofNat (128 + r % 64)] := enc_of _ (by
  unfold Utf8.encode
  rw [if_pos hr, if_neg (show ¬ (r : Int).toNat < 128 by simp; omega), if_neg (show ¬ (r : Int).toNat < 2048 by simp; omega), if_neg (show ¬ (r : Int).toNat < 65536 by simp; omega)]; rfl)
theorem vbN {x : Nat} (h : x < 256) : vb (UInt8.ofNat x) = .int .u8 (x : Int) := by
  show Value.int .u8 ((UInt8.ofNat x).toNat : Int) = _
  rw [UInt8.toNat_ofNat', Nat.mod_eq_of_lt (by omega)]
theorem Ent.of_eq {Γ Γ' : List HP} (h : Γ = Γ') : Ent Γ Γ' := h ▸ Ent.refl
theorem or192 {x : Nat} (h : x < 64) : 192 ||| x = 192 + x := (Nat.two_pow_add_eq_or_of_lt (i := 6) h 3).symm
theorem or128 {x : Nat} (h : x < 64) : 128 ||| x = 128 + x := (Nat.two_pow_add_eq_or_of_lt (i := 6) h 2).symm
theorem or224 {x : Nat} (h : x < 16) : 224 ||| x = 224 + x := (Nat.two_pow_add_eq_or_of_lt (i := 4) h 14).symm
theorem or240 {x : Nat} (h : x < 8) : 240 ||| x = 240 + x := (Nat.two_pow_add_eq_or_of_lt (i := 3) h 30).symm
theorem and63 (x : Nat) : x % 256 &&& 63 = x % 64 := by
  have := Nat.and_two_pow_sub_one_eq_mod (x % 256) 6
  rw [show 2 ^ 6 - 1 = 63 from rfl] at this
  rw [this]; omega
set_option maxHeartbeats 2000000 in
theorem appendRune2_spec (v : Value) (bs : Bytes) (r : Nat) (hr : RuneOk r) (h7 : 128 ≤ r) (hl : bs.length + 4 ≤ 140737488355328) :
    Spec0 Tryd.prog 65 [v, vr r] (fun _ => True) (fun F => SlT v 5 (bs.map vb) :: F) (fun _ : Value => True) (fun x => x) (fun x F => SlT x 5 ((bs ++ enc r).map vb) :: F) := by
  have hv : (r : Int) < 55296 ∨ 57344 ≤ (r : Int) ∧ (r : Int) ≤ 1114111 := by
    simp [RuneOk, Utf8.valid] at hr; omega
  (refine spec_of Tryd.func65 rfl Tryd.ntmps65 rfl (fun F w0 hrd => ?_))
  refine walk ?_
  refine wif_dec (fun hc => ?_) (fun hc => ?_)
  · refine walk ?_
    intro s1 _ _
    refine walk ?_
    intro s'
    refine walk ?_
    refine wq_ret1 rfl rfl _ rfl trivial ?_
    have e1 : 192 ||| r / 2 ^ 6 = 192 + r / 64 := or192 (x := r / 2 ^ 6) (by omega)
    have e2 := or128 (x := r % 64) (by omega)
    rw [List.map_append, enc2 h7 (by omega), e1, and63, e2, List.map_cons, List.map_cons, List.map_nil, vbN (by omega), vbN (by omega)]
    exact perm
  refine walk ?_
  refine wif_dec (fun h1 => ?_) (fun h1 => ?_)
  · refine walk ?_
    (repeat (first | (refine wif_dec (fun _ => ?_) (fun hz => by exfalso; omega); refine walk ?_) | (refine wif_dec (fun hz => by exfalso; omega) (fun _ => ?_); refine walk ?_)))
    intro s1 _ _
    refine walk ?_
    intro s'
    refine walk ?_
    refine wq_ret1 rfl rfl _ rfl trivial ?_
    have e0 : 224 ||| r / 2 ^ 12 = 224 + r / 4096 := or224 (x := r / 2 ^ 12) (by omega)
    have e1 : r / 2 ^ 6 % 256 &&& 63 = r / 64 % 64 := and63 _
    have e2 : 128 ||| r / 64 % 64 = 128 + r / 64 % 64 := or128 (by omega)
    have e3 := or128 (x := r % 64) (by omega)
    rw [List.map_append, enc3 hr (by omega) (by omega), e0, e1, and63, e2, e3, List.map_cons, List.map_cons, List.map_cons, List.map_nil, vbN (by omega), vbN (by omega), vbN (by omega)]
    exact perm
  · refine walk ?_
    (repeat (first | (refine wif_dec (fun _ => ?_) (fun hz => by exfalso; omega); refine walk ?_) | (refine wif_dec (fun hz => by exfalso; omega) (fun _ => ?_); refine walk ?_)))
    refine wif_dec (fun h2 => ?_) (fun h2 => ?_)
    · refine walk ?_
      (repeat (first | (refine wif_dec (fun _ => ?_) (fun hz => by exfalso; omega); refine walk ?_) | (refine wif_dec (fun hz => by exfalso; omega) (fun _ => ?_); refine walk ?_)))
      intro s1 _ _
      refine walk ?_
      intro s'
      refine walk ?_
      refine wq_ret1 rfl rfl _ rfl trivial ?_
      have e0 : 224 ||| r / 2 ^ 12 = 224 + r / 4096 := or224 (x := r / 2 ^ 12) (by omega)
      have e1 : r / 2 ^ 6 % 256 &&& 63 = r / 64 % 64 := and63 _
      have e2 : 128 ||| r / 64 % 64 = 128 + r / 64 % 64 := or128 (by omega)
      have e3 := or128 (x := r % 64) (by omega)
      rw [List.map_append, enc3 hr (by omega) (by omega), e0, e1, and63, e2, e3, List.map_cons, List.map_cons, List.map_cons, List.map_nil, vbN (by omega), vbN (by omega), vbN (by omega)]
      exact perm
    · refine walk ?_
      (repeat (first | (refine wif_dec (fun _ => ?_) (fun hz => by exfalso; omega); refine walk ?_) | (refine wif_dec (fun hz => by exfalso; omega) (fun _ => ?_); refine walk ?_)))
      intro s1 _ _
      refine walk ?_
      intro s'
      refine walk ?_
      refine wq_ret1 rfl rfl _ rfl trivial ?_
      have e0 : 240 ||| r / 2 ^ 18 = 240 + r / 262144 := or240 (x := r / 2 ^ 18) (by omega)
      have e4 : r / 2 ^ 12 % 256 &&& 63 = r / 4096 % 64 := and63 _
      have e5 : 128 ||| r / 4096 % 64 = 128 + r / 4096 % 64 := or128 (by omega)
      have e1 : r / 2 ^ 6 % 256 &&& 63 = r / 64 % 64 := and63 _
      have e2 : 128 ||| r / 64 % 64 = 128 + r / 64 % 64 := or128 (by omega)
      have e3 := or128 (x := r % 64) (by omega)
      rw [List.map_append, enc4 hr (by omega), e0, e4, e5, e1, and63, e2, e3, List.map_cons, List.map_cons, List.map_cons, List.map_cons, List.map_nil, vbN (by omega), vbN (by omega), vbN (by omega), vbN (by omega)]
      exact perm
theorem enc_len {r : Nat} (hr : RuneOk r) : (enc r).length ≤ 4 := by
  by_cases h1 : r < 128
  · rw [enc1 h1]; simp
  · by_cases h2 : r < 2048
    · rw [enc2 (by omega) h2]; simp
    · by_cases h3 : r < 65536
      · rw [enc3 hr (by omega) h3]; simp
      · rw [enc4 hr (by omega)]; simp
set_option maxHeartbeats 2000000 in
theorem appendRune_spec (v : Value) (bs : Bytes) (r : Nat) (hr : RuneOk r) (hl : bs.length + 4 ≤ 140737488355328) :
    Spec0 Tryd.prog 57 [v, vr r] (fun _ => True) (fun F => SlT v 5 (bs.map vb) :: F) (fun _ : Value => True) (fun x => x) (fun x F => SlT x 5 ((bs ++ enc r).map vb) :: F) := by
  have hv : (r : Int) < 55296 ∨ 57344 ≤ (r : Int) ∧ (r : Int) ≤ 1114111 := by
    simp [RuneOk, Utf8.valid] at hr; omega
  (refine spec_of Tryd.func57 rfl Tryd.ntmps57 rfl (fun F w0 hrd => ?_))
  refine walk ?_
  refine wif_dec (fun hc => ?_) (fun hc => ?_)
  · refine walk ?_
    intro s1 _ _
    refine walk ?_
    intro s'
    refine walk ?_
    refine wq_ret1 rfl rfl _ rfl trivial ?_
    rw [List.map_append, enc1 (by omega), List.map_cons, List.map_nil, vbN (by omega)]
    exact perm
  · refine walk ?_
    refine call (appendRune2_spec v bs r hr (by omega) hl) ?_
    intro x _
    refine walk ?_
    exact wq_ret1 rfl rfl _ rfl trivial Ent.refl
set_option maxHeartbeats 2000000 in
theorem writeRune_spec (b : Nat) (bs : Bytes) (r : Nat) (hr : RuneOk r) (hl : bs.length + 4 ≤ 140737488355328) :
    Spec0 Tryd.prog 49 [vp b, vr r] (fun _ => True) (fun F => Bld b bs :: F) (fun _ : Int => True) (fun n => .tuple #[vi n, .nilIface]) (fun _ F => Bld b (bs ++ enc r) :: F) := by
  have hel := enc_len hr
  have hap : (bs ++ enc r).length = bs.length + (enc r).length := List.length_append
  (refine spec_of Tryd.func49 rfl Tryd.ntmps49 rfl (fun F w0 hrd => ?_))
  refine WC.ex (fun y => Bld.opened.1) (fun x hp => ?_); obtain ⟨p, v⟩ := x; dsimp only at hp ⊢
  refine walk ?_
  refine call (copy_spec b p v hp) ?_
  intro _ _
  refine walk ?_
  refine call (appendRune_spec v bs r hr hl) ?_
  intro x _
  refine walk ?_
  refine wq_ret2 (X := Int) (v := fun n => .tuple #[vi n, .nilIface]) rfl rfl rfl _ rfl trivial ?_
  first | exact Ent.swap.trans Bld.shut | exact Bld.shut
set_option maxHeartbeats 2000000 in
theorem bldString_spec (b : Nat) (bs : Bytes) (hl : bs.length ≤ 9223372036854775807) :
    Spec0 Tryd.prog 39 [vp b] (fun _ => True) (fun F => Bld b bs :: F) (fun _ : Unit => True) (fun _ => vs bs) (fun _ F => F) := by
  (refine spec_of Tryd.func39 rfl Tryd.ntmps39 rfl (fun F w0 hrd => ?_))
  refine WC.ex (fun y => Bld.opened.1) (fun x hp => ?_); obtain ⟨p, v⟩ := x; dsimp only at hp ⊢
  refine walk ?_
  (refine draw ?_; refine dy 0 ?_; refine dy 1 ?_; refine dy 2 ?_; refine dy 3 ?_; refine dy 4 ?_; refine dy 5 ?_; refine dy 6 ?_; refine dy 7 ?_; refine dy 8 ?_; refine dy 9 ?_; refine ddo 10 ?_)
  refine wl_unsafeString (v := v) (b := bs) rfl ?_ ?_ rfl ?_
  rfl
  omega
  (refine walk ?_; refine dy 11 ?_; refine walk ?_)
  exact wq_ret1 rfl rfl () rfl trivial perm
end Go.Proofs.YtihkfklpoliilaaDoor
