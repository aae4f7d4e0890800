/- several texts, one behind the other -/
import Derived.Test.YtohienhoifgmaaaGreatP11
import Derived.Test.YtohienhoifgmaaaGreatP38
import Derived.Test.YtohienhoifgmaaaGreatP36
import Derived.Test.YtohienhoifgmaaaGreatP10
import Derived.Test.YtohienhoifgmaaaGreatP12
import Derived.Test.YtohienhoifgmaaaGreatP33

section
/- Sums, and numbers in bytes, as the program has them. -/
namespace Go.Proofs.YtohienhoifgmaaaGreat
open Go Go.Sl
attribute [local irreducible] Yl WL WC WQ WD
theorem foldl_take_succ {α β : Type} (f : β → α → β) (z : β) (l : List α) (k : Nat) (h : k < l.length) : (l.take (k + 1)).foldl f z = f ((l.take k).foldl f z) l[k] := by
  rw [List.take_add_one, List.getElem?_eq_getElem h, Option.toList_some, List.foldl_append]; rfl
theorem crcBits_succ (k : Nat) (c : UInt32) : crcBits (k + 1) c = crcBit (crcBits k c) := by
  induction k generalizing c with
  | zero => rfl
  | succ k ih => rw [crcBits, ih (crcBit c)]; rfl
set_option maxHeartbeats 2000000 in
theorem sumOf_spec (v : Value) (b : Bytes) (hb : b.length ≤ 1099511627776) :
    Spec0 Tryz.prog 147 [v] (Rd v 1 (b.map vb)) (fun F => F) (fun _ : Unit => True) (fun _ => v32 (sumOf b)) (fun _ F => F) := by
  (refine spec_of Tryz.func147 rfl Tryz.ntmps147 rfl (fun F w0 hrd => ?_))
  haveI : RdIn F v 1 (b.map vb) := ⟨hrd⟩
  refine walk ?_
  refine wc_loop (X := Nat) (fun k => [(7, v), (8, vi b.length), (9, vi k), (3, v32 ((b.take k).foldl crcByte 0xFFFFFFFF))]) (fun _ => F) (fun k => k ≤ b.length) (fun k => b.length - k) 0 (Nat.zero_le _) envs Ent.refl (fun k hk => ?_)
  refine walk ?_
  refine wif_dec (fun hlt => ?_) (fun hlt => ?_)
  · have hlt : k < b.length := by omega
    obtain ⟨c, hc⟩ : ∃ c, c = (b.take k).foldl crcByte 0xFFFFFFFF := ⟨_, rfl⟩
    have hnext := foldl_take_succ crcByte 0xFFFFFFFF b k hlt
    rw [← hc] at hnext ⊢
    refine walk ?_
    rw [u8_32]
    refine wl_y (yl_xor32 rfl rfl) rfl ?_
    refine walk ?_
    refine wc_loop (X := Nat) (fun j => [(7, v), (8, vi b.length), (9, vi k), (17, vi j), (3, v32 (crcBits j (c ^^^ b[k].toUInt32)))]) (fun _ => F) (fun j => j ≤ 8) (fun j => 8 - j) 0 (Nat.zero_le _) envs Ent.refl (fun j hj => ?_)
    have hn := crcBits_succ j (c ^^^ b[k].toUInt32)
    obtain ⟨d, hd⟩ : ∃ d, d = crcBits j (c ^^^ b[k].toUInt32) := ⟨_, rfl⟩
    rw [← hd] at hn ⊢
    refine walk ?_
    refine wif_dec (fun hl8 => ?_) (fun hl8 => ?_)
    · refine walk ?_
      rw [and32_1, shr32_1]
      refine wif_dec (fun h1 => ?_) (fun h1 => ?_)
      · refine walk ?_
        refine wl_y (yl_xor32 (b := 0xEDB88320) rfl rfl) rfl ?_
        refine walk ?_
        refine wq_round (j + 1) (by omega) (by omega) ?_ Ent.refl
        rw [hn]
        unfold crcBit
        rw [if_pos ((and1_iff d).1 h1)]
        exact envs
      · refine walk ?_
        refine wq_round (j + 1) (by omega) (by omega) ?_ Ent.refl
        rw [hn]
        unfold crcBit
        rw [if_neg (fun h => h1 ((and1_iff d).2 h))]
        exact envs
    · obtain rfl : j = 8 := by omega
      refine walk ?_
      refine wq_round (k + 1) (by omega) (by omega) ?_ Ent.refl
      rw [hnext, hd]
      exact envs
  · obtain rfl : k = b.length := by omega
    rw [List.take_length]
    refine walk ?_
    refine wl_y (yl_not32 rfl) rfl ?_
    refine walk ?_
    exact wq_ret1 rfl rfl () rfl trivial Ent.refl

theorem slb_app {v : Value} {a b : Bytes} {Γ : List HP} : Ent (Sl v 1 (a.map vb ++ b.map vb) :: Γ) (SlB v (a ++ b) :: Γ) := by
  rw [← List.map_append]
  exact Ent.refl
theorem slb_snoc {v : Value} {a : Bytes} {x : UInt8} {Γ : List HP} : Ent (Sl v 1 (a.map vb ++ [vb x]) :: Γ) (SlB v (a ++ [x]) :: Γ) := slb_app (b := [x])
theorem slb_snoc0 {v : Value} {a : Bytes} {Γ : List HP} : Ent (Sl v 1 (a.map vb ++ [.int .u8 0]) :: Γ) (SlB v (a ++ [0]) :: Γ) := slb_app (b := [0])
/-- the bytes of a sum, the lowest first -/
theorem sum_bytes (c : UInt32) : le 4 c.toNat = [UInt8.ofNat c.toNat, UInt8.ofNat (c.toNat / 2 ^ 8), UInt8.ofNat (c.toNat / 2 ^ 16), UInt8.ofNat (c.toNat / 2 ^ 24)] := by
  simp only [le, Nat.div_div_eq_div_mul]
set_option maxHeartbeats 2000000 in
theorem seal_spec (v : Value) (b : Bytes) (hb : b.length ≤ 1099511627776) :
    Spec0 Tryz.prog 110 [v] (Rd v 1 (b.map vb)) (fun F => F) (fun _ : Value => True) (fun r => r) (fun r F => SlB r (seal_ b) :: F) := by
  (refine spec_of Tryz.func110 rfl Tryz.ntmps110 rfl (fun F w0 hrd => ?_))
  haveI : RdIn F v 1 (b.map vb) := ⟨hrd⟩
  refine walk ?_
  refine call (sumOf_spec v b hb) ?_
  intro _ _
  obtain ⟨c, hc⟩ : ∃ c, c = sumOf b := ⟨_, rfl⟩
  have hs : seal_ b = b ++ le 4 c.toNat := by rw [hc]; rfl
  rw [hs, sum_bytes, ← hc]
  refine walk ?_
  intro s1 _ _
  refine walk ?_
  intro s2 _ _
  refine walk ?_
  intro s3 _ _
  rw [shr32_8, shr32_16, shr32_24, wrap_byteU, wrap_byteU, wrap_byteU, mod_byte]
  refine walk ?_
  intro s4 _ _
  refine walk ?_
  refine wq_ret1 rfl rfl s4 rfl trivial ?_
  refine Ent.trans ?_ (slb_app (a := b))
  exact Ent.skip (Ent.drop Ent.refl)

/-! what is put into bytes -/
def WrAt (p : Nat) (bs : Bytes) : HP := fun h => ∃ v, Sat (Cells p [v] :: SlB v bs :: []) h
theorem WrAt.opened {p : Nat} {bs : Bytes} {Γ : List HP} {h : Hp} (hs : Sat (WrAt p bs :: Γ) h) : ∃ v : Value, True ∧ Sat (Cells p [v] :: SlB v bs :: Γ) h := by
  obtain ⟨v, hv⟩ := Sat.ex.1 hs
  exact ⟨v, trivial, Sat.flat.1 hv⟩
theorem WrAt.shut {p : Nat} {bs : Bytes} {Γ : List HP} (v : Value) : Ent (Cells p [v] :: SlB v bs :: Γ) (WrAt p bs :: Γ) := fun _ hs => Sat.ex.2 ⟨v, Sat.flat.2 hs⟩
theorem WrAt.new {p : Nat} {Γ : List HP} : Ent (Cells p [.slice none 0 0] :: Γ) (WrAt p [] :: Γ) :=
  Ent.trans (Ent.skip (sl_nil 1)) (WrAt.shut (bs := []) _)
theorem wraw_spec (p : Nat) (bs : Bytes) (v : Value) (b : Bytes) (h1 : bs.length ≤ 1099511627776) (h2 : b.length ≤ 1099511627776) :
    Spec0 Tryz.prog 109 [vp p, v] (Rd v 1 (b.map vb)) (fun F => WrAt p bs :: F) (fun _ : Unit => True) (fun _ => vp p) (fun _ F => WrAt p (bs ++ b) :: F) := by
  (refine spec_of Tryz.func109 rfl Tryz.ntmps109 rfl (fun F w0 hrd => ?_))
  haveI : RdIn F v 1 (b.map vb) := ⟨hrd⟩
  (first | refine WC.ex (fun y => WrAt.opened) (fun u hu => ?_) | refine WL.ex (fun y => WrAt.opened) (fun u hu => ?_) | refine WQ.ex (fun y => WrAt.opened) (fun u hu => ?_))
  refine walk ?_
  intro s1 _ _
  refine walk ?_
  refine wq_ret1 rfl rfl () rfl trivial ?_
  refine Ent.trans (Γ' := Cells p [s1] :: Sl s1 1 (bs.map vb ++ b.map vb) :: F) perm ?_
  exact (Ent.skip slb_app).trans (WrAt.shut s1)
set_option maxHeartbeats 2000000 in
theorem wput_spec (p : Nat) (bs : Bytes) (k n : Nat) (hk : 1 ≤ k ∧ k ≤ 8) (h1 : bs.length ≤ 1099511627776) :
    Spec0 Tryz.prog 108 [vp p, vi k, .int .u64 n] (fun _ => True) (fun F => WrAt p bs :: F) (fun _ : Unit => True) (fun _ => vp p) (fun _ F => WrAt p (bs ++ le k n) :: F) := by
  (refine spec_of Tryz.func108 rfl Tryz.ntmps108 rfl (fun F w0 hrd => ?_))
  refine walk ?_
  refine wif_dec (fun h => absurd h (by omega)) (fun _ => ?_)
  refine walk ?_
  refine wif_dec (fun h => absurd h (by omega)) (fun _ => ?_)
  refine walk ?_
  refine wc_loop (X := Nat) (fun j => [(0, vp p), (2, .int .u64 n), (15, vi k), (16, vi j)]) (fun j => WrAt p (bs ++ (le k n).take j) :: F) (fun j => j ≤ k) (fun j => k - j) 0 (Nat.zero_le _) envs (by rw [List.take_zero, List.append_nil]; exact Ent.refl) (fun j hj => ?_)
  refine walk ?_
  refine wif_dec (fun hlt => ?_) (fun hlt => ?_)
  · have hlt : j < k := by omega
    have hle := le_take_succ (n := n) hlt
    have hlen : ((le k n).take j).length = j := by rw [List.length_take, le_length]; omega
    refine walk ?_
    (first | refine WC.ex (fun y => WrAt.opened) (fun u hu => ?_) | refine WL.ex (fun y => WrAt.opened) (fun u hu => ?_) | refine WQ.ex (fun y => WrAt.opened) (fun u hu => ?_))
    (refine draw ?_; refine dy 0 ?_; refine dy 1 ?_; refine dy 2 ?_; refine dy 3 ?_; refine dy 4 ?_; refine dy 5 ?_; refine dy 6 ?_; refine dy 7 ?_; refine dy 8 ?_; refine dy 9 ?_; refine ddx 10 ?_)
    rw [put_byte n j (by omega)]
    refine walk ?_
    intro s1 _ _
    (refine walk ?_; refine ddx 11 ?_)
    refine walk ?_
    intro s2 _ _
    (refine walk ?_; refine dy 12 ?_; refine dy 13 ?_; refine ddx 14 ?_)
    refine walk ?_
    refine wq_round (j + 1) (by omega) (by omega) envs ?_
    rw [hle, ← List.append_assoc]
    refine Ent.trans ?_ (WrAt.shut s2)
    refine Ent.trans ?_ (Ent.skip slb_snoc)
    exact perm
  · obtain rfl : j = k := by omega
    rw [List.take_of_length_le (by rw [le_length]; omega)]
    refine walk ?_
    exact wq_ret1 rfl rfl () rfl trivial perm
set_option maxHeartbeats 2000000 in
theorem wbytes_spec (p : Nat) (bs : Bytes) (m : Nat) (hm : m ≤ 65536) (h1 : bs.length ≤ 1099511627776) :
    Spec0 Tryz.prog 111 [vp p, vi m] (fun _ => True) (fun F => WrAt p bs :: F) (fun _ : Value => True) (fun r => r) (fun r F => SlB r (padTo m bs) :: WrAt p bs :: F) := by
  (refine spec_of Tryz.func111 rfl Tryz.ntmps111 rfl (fun F w0 hrd => ?_))
  (first | refine WC.ex (fun y => WrAt.opened) (fun u hu => ?_) | refine WL.ex (fun y => WrAt.opened) (fun u hu => ?_) | refine WQ.ex (fun y => WrAt.opened) (fun u hu => ?_))
  refine walk ?_
  intro s1 _ _
  refine walk ?_
  intro s2 _ _
  rw [List.nil_append]
  refine walk ?_
  refine WC.ent (Γ' := SlB s2 bs :: WrAt p bs :: F) (Ent.trans (Γ' := Cells p [u] :: SlB u bs :: SlB s2 bs :: F) perm ((WrAt.shut u).trans perm)) ?_
  refine wc_loop (X := Nat × Value) (fun y => [(1, vi m), (5, y.2)]) (fun y => SlB y.2 (bs ++ List.replicate y.1 0) :: WrAt p bs :: F) (fun y => y.1 ≤ m - bs.length) (fun y => m - bs.length - y.1) (0, s2) (Nat.zero_le _) envs (by rw [List.replicate_zero, List.append_nil]; exact Ent.refl) (fun y hy => ?_)
  obtain ⟨i, o⟩ := y
  dsimp only at hy ⊢
  have hl : (bs ++ List.replicate i (0 : UInt8)).length = bs.length + i := by simp
  refine walk ?_
  refine wif_dec (fun h2 => ?_) (fun h2 => ?_)
  · refine walk ?_
    refine wif_dec (fun h3 => ?_) (fun h3 => absurd h3 (by omega))
    refine walk ?_
    intro s3 _ _
    refine walk ?_
    intro s4 _ _
    refine walk ?_
    refine wq_round (i + 1, s4) (by dsimp only; omega) (by dsimp only; omega) envs ?_
    dsimp only
    rw [List.replicate_succ', ← List.append_assoc]
    refine Ent.trans ?_ slb_snoc0
    exact perm
  · have hi : i = m - bs.length := by omega
    subst hi
    refine walk ?_
    refine wq_ret1 rfl rfl o rfl trivial ?_
    unfold padTo
    exact perm

/-! what is taken out of bytes -/
def RdAt (p : Nat) (bs : Bytes) : HP := fun h => ∃ v, Sat (Cells p [v, .bool false] :: SlB v bs :: []) h
theorem RdAt.opened {p : Nat} {bs : Bytes} {Γ : List HP} {h : Hp} (hs : Sat (RdAt p bs :: Γ) h) : ∃ v : Value, True ∧ Sat (Cells p [v, .bool false] :: SlB v bs :: Γ) h := by
  obtain ⟨v, hv⟩ := Sat.ex.1 hs
  exact ⟨v, trivial, Sat.flat.1 hv⟩
theorem RdAt.shut {p : Nat} {bs : Bytes} {Γ : List HP} (v : Value) : Ent (Cells p [v, .bool false] :: SlB v bs :: Γ) (RdAt p bs :: Γ) := fun _ hs => Sat.ex.2 ⟨v, Sat.flat.2 hs⟩
theorem rread_spec' (v : Value) (b : Bytes) (hb : b.length ≤ 1099511627776) :
    Spec0 Tryz.prog 69 [v] (Rd v 1 (b.map vb)) (fun F => F) (fun _ : Nat => True) (fun p => vp p) (fun p F => RdAt p b :: F) := by
  (refine spec_of Tryz.func69 rfl Tryz.ntmps69 rfl (fun F w0 hrd => ?_))
  haveI : RdIn F v 1 (b.map vb) := ⟨hrd⟩
  refine walk ?_
  intro s1 _ _
  refine walk ?_
  intro s2 _ _
  rw [List.nil_append]
  refine walk ?_
  intro p
  refine walk ?_
  refine wq_ret1 rfl rfl p rfl trivial ?_
  refine Ent.trans ?_ (RdAt.shut s2)
  exact perm
set_option maxHeartbeats 2000000 in
theorem rraw_spec (p : Nat) (b : Bytes) (k : Nat) (hk : k ≤ b.length) (hb : b.length ≤ 1099511627776) :
    Spec0 Tryz.prog 117 [vp p, vi k] (fun _ => True) (fun F => RdAt p b :: F) (fun _ : Value => True) (fun r => r) (fun r F => SlB r (b.take k) :: RdAt p (b.drop k) :: F) := by
  (refine spec_of Tryz.func117 rfl Tryz.ntmps117 rfl (fun F w0 hrd => ?_))
  (first | refine WC.ex (fun y => RdAt.opened) (fun u hu => ?_) | refine WL.ex (fun y => RdAt.opened) (fun u hu => ?_) | refine WQ.ex (fun y => RdAt.opened) (fun u hu => ?_))
  refine walk ?_
  refine wif_dec (fun h => absurd h (by omega)) (fun _ => ?_)
  refine walk ?_
  haveI hsub2 : ∀ (Γ : List HP) [RdIn Γ u 1 (b.map vb)], RdIn Γ (slSub u 1 k b.length) 1 ((b.drop k).map vb) := fun Γ _ => by
    have := RdIn.subB (Γ := Γ) (v := u) (b := b) inferInstance hk (Nat.le_refl _)
    rwa [List.take_of_length_le (by simp)] at this
  haveI hsub : ∀ (Γ : List HP) [RdIn Γ u 1 (b.map vb)], RdIn Γ (slSub u 1 0 k) 1 ((b.take k).map vb) := fun Γ _ => by
    simpa using RdIn.subB (Γ := Γ) (v := u) (b := b) inferInstance (Nat.zero_le k) hk
  have hkt : (b.take k).length = k := by rw [List.length_take]; omega
  intro s1 _ _
  refine walk ?_
  refine wl_y (yl_sliceH rfl rfl (by omega) (by omega) (by simp; omega)) rfl ?_
  rw [Int.toNat_natCast]
  refine walk ?_
  intro s2 _ _
  rw [List.nil_append]
  refine walk ?_
  refine wl_y (yl_sliceL (m := b.length) rfl rfl (by simp) (by omega) (by omega) (by omega)) rfl ?_
  rw [Int.toNat_natCast]
  refine walk ?_
  refine wq_ret1 rfl rfl s2 rfl trivial ?_
  refine Ent.trans (Γ' := SlB u b :: Cells p [slSub u 1 k b.length, .bool false] :: SlB s2 (b.take k) :: F) perm ((Sl.drop1 hk).trans ?_)
  refine Ent.trans (Γ' := Cells p [slSub u 1 k b.length, .bool false] :: SlB (slSub u 1 k b.length) (b.drop k) :: SlB s2 (b.take k) :: F) perm ((RdAt.shut _).trans perm)
set_option maxHeartbeats 2000000 in
theorem rtake_spec (p : Nat) (b : Bytes) (k : Nat) (hk : k ≤ b.length) (hk8 : k ≤ 8) (hb : b.length ≤ 1099511627776) :
    Spec0 Tryz.prog 70 [vp p, vi k] (fun _ => True) (fun F => RdAt p b :: F) (fun _ : Unit => True) (fun _ => .int .u64 ((unle (b.take k) : Nat) : Int)) (fun _ F => RdAt p (b.drop k) :: F) := by
  (refine spec_of Tryz.func70 rfl Tryz.ntmps70 rfl (fun F w0 hrd => ?_))
  refine walk ?_
  refine call (rraw_spec p b k hk hb) ?_
  intro v _
  obtain ⟨x, hx⟩ : ∃ x, x = b.take k := ⟨_, rfl⟩
  have hxl : x.length = k := by rw [hx, List.length_take]; omega
  rw [← hx]
  refine walk ?_
  refine wc_loop (X := Nat) (fun j => [(10, v), (11, vi x.length), (12, vi j), (5, .int .u64 ((unle (x.take j) : Nat) : Int))]) (fun _ => SlB v x :: RdAt p (b.drop k) :: F) (fun j => j ≤ x.length) (fun j => x.length - j) 0 (Nat.zero_le _) envs Ent.refl (fun j hj => ?_)
  have hlt0 := unle_lt (x.take j)
  refine walk ?_
  refine wif_dec (fun hlt => ?_) (fun hlt => ?_)
  · have hlt : j < x.length := by omega
    have hn := unle_take_succ hlt
    rw [List.length_take, Nat.min_eq_left (by omega)] at hlt0
    have hpw : 256 ^ j ≤ 256 ^ 7 := Nat.pow_le_pow_right (by decide) (by omega)
    have hxj := (x[j]).toNat_lt
    have hm : 256 ^ j * (x[j]).toNat ≤ 256 ^ 7 * 255 := Nat.mul_le_mul hpw (by omega)
    refine walk ?_
    refine wif_dec (fun _ => ?_) (fun h => absurd h (by omega))
    refine walk ?_
    refine wl_y (yl_shl rfl rfl (by omega)) rfl ?_
    rw [shl_byte _ _ (by omega)]
    refine wl_y (yl_or64 (by omega) (by omega) rfl rfl) rfl ?_
    rw [or_high hlt0, ← hn]
    refine walk ?_
    exact wq_round (j + 1) (by omega) (by omega) envs Ent.refl
  · obtain rfl : j = x.length := by omega
    rw [List.take_length]
    refine walk ?_
    exact wq_ret1 rfl rfl () rfl trivial perm
theorem rrest_spec (p : Nat) (b : Bytes) (hb : b.length ≤ 1099511627776) :
    Spec0 Tryz.prog 73 [vp p] (fun _ => True) (fun F => RdAt p b :: F) (fun _ : Value => True) (fun r => r) (fun r F => SlB r b :: RdAt p b :: F) := by
  (refine spec_of Tryz.func73 rfl Tryz.ntmps73 rfl (fun F w0 hrd => ?_))
  (first | refine WC.ex (fun y => RdAt.opened) (fun u hu => ?_) | refine WL.ex (fun y => RdAt.opened) (fun u hu => ?_) | refine WQ.ex (fun y => RdAt.opened) (fun u hu => ?_))
  refine walk ?_
  intro s1 _ _
  refine walk ?_
  intro s2 _ _
  rw [List.nil_append]
  refine walk ?_
  refine wq_ret1 rfl rfl s2 rfl trivial ?_
  refine Ent.trans (Γ' := Cells p [u, .bool false] :: SlB u b :: SlB s2 b :: F) perm ((RdAt.shut u).trans perm)
set_option maxHeartbeats 2000000 in
theorem open_spec (v : Value) (b : Bytes) (hb : b.length ≤ 1099511627776) (hl : 4 ≤ b.length) :
    Spec0 Tryz.prog 116 [v] (Rd v 1 (b.map vb)) (fun F => F) (fun _ : Value => True) (fun r => .tuple #[match opened b with | .inl _ => r | .inr _ => .slice none 0 0, vi (match opened b with | .inl _ => 0 | .inr e => e)])
      (fun r F => match opened b with | .inl x => SlB r x :: F | .inr _ => F) := by
  (refine spec_of Tryz.func116 rfl Tryz.ntmps116 rfl (fun F w0 hrd => ?_))
  haveI : RdIn F v 1 (b.map vb) := ⟨hrd⟩
  refine walk ?_
  refine wif_dec (fun h => absurd h (by omega)) (fun _ => ?_)
  obtain ⟨n, hn⟩ : ∃ n, b.length = n + 4 := ⟨b.length - 4, by omega⟩
  rw [show ((b.length : Int) - 4) = ((n : Nat) : Int) by omega]
  refine walk ?_
  have t1 : Int.toNat ((n : Int) + 1) = n + 1 := by omega
  have t2 : Int.toNat ((n : Int) + 2) = n + 2 := by omega
  have t3 : Int.toNat ((n : Int) + 3) = n + 3 := by omega
  haveI hsub : ∀ (Γ : List HP) [RdIn Γ v 1 (b.map vb)], RdIn Γ (slSub v 1 0 n) 1 ((b.take n).map vb) := fun Γ _ => by
    simpa using RdIn.subB (Γ := Γ) (v := v) (b := b) inferInstance (Nat.zero_le n) (show n ≤ b.length by omega)
  have hnt : (b.take n).length = n := by rw [List.length_take]; omega
  (refine draw ?_; refine dy 0 ?_; refine dy 1 ?_; refine dy 2 ?_; refine dy 3 ?_; refine dy 4 ?_; refine dy 5 ?_; refine dy 6 ?_; refine dy 7 ?_; refine dy 8 ?_; refine dy 9 ?_; refine dy 10 ?_)
  simp only [t1, u8_32]
  refine dy 11 (y := by exact yl_shl rfl rfl (by decide)) ?_
  rw [shl32_8]
  refine dy 12 (y := by exact yl_or32 rfl rfl) ?_
  (refine dy 13 ?_; refine dy 14 ?_; refine dy 15 ?_; refine dy 16 ?_; refine dy 17 ?_; refine dy 18 ?_)
  simp only [t2, u8_32]
  refine dy 19 (y := by exact yl_shl rfl rfl (by decide)) ?_
  rw [shl32_16]
  refine dy 20 (y := by exact yl_or32 rfl rfl) ?_
  (refine dy 21 ?_; refine dy 22 ?_; refine dy 23 ?_; refine dy 24 ?_; refine dy 25 ?_; refine dy 26 ?_)
  simp only [t3, u8_32]
  refine dy 27 (y := by exact yl_shl rfl rfl (by decide)) ?_
  rw [shl32_24]
  refine dy 28 (y := by exact yl_or32 rfl rfl) ?_
  (refine dy 29 ?_)
  have hor := or_bytes b[n] b[n + 1] b[n + 2] b[n + 3]
  rw [← drop_four hn] at hor
  refine walk ?_
  refine wl_y (yl_sliceH rfl rfl (by omega) (by omega) (by simp; omega)) rfl ?_
  rw [Int.toNat_natCast]
  refine walk ?_
  refine call (sumOf_spec (slSub v 1 0 n) (b.take n) (by omega)) ?_
  intro _ _
  have hop : opened b = if (sumOf (b.take n)).toNat = unle (b.drop n) then .inl (b.take n) else .inr 5 := by
    unfold opened
    rw [if_neg (by omega), show b.length - 4 = n by omega]
  refine walk ?_
  refine wif_dec (fun h => ?_) (fun h => ?_)
  · rw [if_neg (by omega)] at hop
    rw [hop]
    refine walk ?_
    exact wq_ret2 rfl rfl rfl (Value.slice none 0 0) rfl trivial Ent.refl
  · rw [if_pos (by omega)] at hop
    rw [hop]
    refine walk ?_
    intro s1 _ _
    refine walk ?_
    refine wl_y (yl_sliceH rfl rfl (by omega) (by omega) (by simp; omega)) rfl ?_
    rw [Int.toNat_natCast]
    refine walk ?_
    intro s2 _ _
    rw [List.nil_append]
    refine walk ?_
    exact wq_ret2 rfl rfl rfl s2 rfl trivial perm
end Go.Proofs.YtohienhoifgmaaaGreat
end

section
/- Notes and checkpoints' pages in bytes, as the program has them. -/
namespace Go.Proofs.YtohienhoifgmaaaGreat
open Go Go.Sl
attribute [local irreducible] Yl WL WC WQ WD
abbrev entCells (e : Entry) : List Value := [vi e.kind, vi e.lba]
instance : FLen entCells 2 := ⟨fun _ => rfl⟩
theorem u64_nat {x : Int} (h : 0 ≤ x) (h' : x ≤ 18446744073709551615) : IntKind.u64.wrap x = ((x.toNat : Nat) : Int) := by
  rw [wrap_u64 h h']; omega
theorem padTo_zero (b : Bytes) : padTo 0 b = b := by unfold padTo; simp
set_option maxHeartbeats 4000000 in
theorem note_enc_spec (x : Note) (block : Nat) (sv : Value) (hx : x.Fits) (hn : x.slots.length ≤ 1024) (hb : block ≤ 4096) :
    Spec0 Tryz.prog 133 [.agg #[.int .u64 x.seq, vi x.next, sv], vi block] (Rd sv 2 (x.slots.flatMap entCells)) (fun F => F) (fun _ : Value => True) (fun r => r) (fun r F => SlB r (x.enc block) :: F) := by
  (refine spec_of Tryz.func133 rfl Tryz.ntmps133 rfl (fun F w0 hrd => ?_))
  haveI : RdIn F sv 2 (x.slots.flatMap entCells) := ⟨hrd⟩
  obtain ⟨h1, h2, h3⟩ := hx
  obtain ⟨m, hm⟩ : ∃ m : Nat, x.next + 1 = m := ⟨(x.next + 1).toNat, by omega⟩
  have hbytes : x.bytes = [] ++ le 1 78 ++ le 8 x.seq ++ le 2 m ++ x.slots.flatMap Entry.bytes := by unfold Note.bytes; rw [hm, Int.toNat_natCast]; rfl
  have hal : ([] ++ le 1 78 ++ le 8 x.seq ++ le 2 m : Bytes).length = 11 := by simp [le_length]
  have hfl : ∀ k, ((x.slots.take k).flatMap Entry.bytes).length ≤ 5 * k := fun k => by rw [slots_length, List.length_take]; omega
  have hll := Note.bytes_length x
  unfold Note.enc
  obtain ⟨B, hB⟩ : ∃ B, B = x.bytes := ⟨_, rfl⟩
  rw [← hB] at hbytes hll ⊢
  refine walk ?_
  intro c
  refine walk ?_
  intro p
  refine WL.ent WrAt.new ?_
  refine walk ?_
  (refine draw ?_; refine dy 1 ?_; refine dy 2 ?_; refine dy 4 ?_; refine dy 5 ?_; refine dy 6 ?_; refine dy 7 ?_; refine ddo 0 ?_)
  rw [hm]
  refine call (wput_spec p [] 1 78 (by omega) (by simp)) ?_
  intro _ _
  (refine walk ?_; refine ddo 3 ?_)
  refine call (wput_spec p ([] ++ le 1 78) 8 x.seq (by omega) (by simp [le_length])) ?_
  intro _ _
  (refine walk ?_; refine ddo 8 ?_)
  refine call (wput_spec p ([] ++ le 1 78 ++ le 8 x.seq) 2 m (by omega) (by simp [le_length])) ?_
  intro _ _
  refine walk ?_
  refine wc_loop (X := Nat) (fun k => [(2, vp c), (1, vi block), (5, vp p), (19, sv), (20, vi x.slots.length), (21, vi k)]) (fun k => WrAt p ([] ++ le 1 78 ++ le 8 x.seq ++ le 2 m ++ (x.slots.take k).flatMap Entry.bytes) :: F)
    (fun k => k ≤ x.slots.length) (fun k => x.slots.length - k) 0 (Nat.zero_le _) envs (by rw [List.take_zero, List.flatMap_nil, List.append_nil]; exact perm) (fun k hk => ?_)
  have hfk := hfl k
  refine walk ?_
  refine wif_dec (fun hlt => ?_) (fun hlt => ?_)
  · have hlt : k < x.slots.length := by omega
    obtain ⟨e1, e2, e3⟩ := h3 _ (List.getElem_mem hlt)
    have htk : (x.slots.take (k + 1)).flatMap Entry.bytes = (x.slots.take k).flatMap Entry.bytes ++ (le 1 x.slots[k].kind.toNat ++ le 4 x.slots[k].lba.toNat) := by
      rw [List.take_add_one, List.getElem?_eq_getElem hlt, Option.toList_some, List.flatMap_append, List.flatMap_cons, List.flatMap_nil, List.append_nil]; rfl
    obtain ⟨a, ha⟩ : ∃ a : Nat, x.slots[k].kind = a := ⟨x.slots[k].kind.toNat, by omega⟩
    obtain ⟨b, hb'⟩ : ∃ b : Nat, x.slots[k].lba = b := ⟨x.slots[k].lba.toNat, by omega⟩
    refine walk ?_
    intro c5
    dsimp only [entCells]
    rw [ha, hb']
    rw [ha] at e1
    rw [hb'] at e2
    rw [ha, hb', Int.toNat_natCast, Int.toNat_natCast] at htk
    refine walk ?_
    (refine draw ?_; refine dy 0 ?_; refine dy 1 ?_; refine dy 2 ?_; refine dy 4 ?_; refine dy 5 ?_; refine dy 6 ?_; refine ddo 3 ?_)
    refine call (wput_spec p ([] ++ le 1 78 ++ le 8 x.seq ++ le 2 m ++ (x.slots.take k).flatMap Entry.bytes) 1 a (by omega) (by rw [List.length_append, hal]; omega)) ?_
    intro _ _
    (refine walk ?_; refine ddo 7 ?_)
    refine call (wput_spec p ([] ++ le 1 78 ++ le 8 x.seq ++ le 2 m ++ (x.slots.take k).flatMap Entry.bytes ++ le 1 a) 4 b (by omega) (by rw [List.length_append, List.length_append, hal, le_length]; omega)) ?_
    intro _ _
    refine walk ?_
    refine wq_round (k + 1) hlt (by omega) envs ?_
    rw [htk, ← List.append_assoc, ← List.append_assoc]
    exact perm
  · obtain rfl : k = x.slots.length := by omega
    rw [List.take_length, ← hbytes]
    refine walk ?_
    refine call (wbytes_spec p B 0 (by omega) (by omega)) ?_
    intro v1 _
    rw [padTo_zero]
    refine walk ?_
    refine call (seal_spec v1 B (by omega)) ?_
    intro v2 _
    refine walk ?_
    refine WL.ent (Γ' := WrAt p B :: SlB v2 (seal_ B) :: F) perm ?_
    (first | refine WC.ex (fun y => WrAt.opened) (fun u hu => ?_) | refine WL.ex (fun y => WrAt.opened) (fun u hu => ?_) | refine WQ.ex (fun y => WrAt.opened) (fun u hu => ?_))
    refine walk ?_
    refine WL.ent (Γ' := WrAt p [] :: SlB v2 (seal_ B) :: F) (Ent.trans (Γ' := Cells p [.slice none 0 0] :: SlB v2 (seal_ B) :: F) perm WrAt.new) ?_
    refine walk ?_
    refine call (wraw_spec p [] v2 (seal_ B) (by simp) (by rw [seal_length]; omega)) ?_
    intro _ _
    rw [List.nil_append]
    refine walk ?_
    refine call (wbytes_spec p (seal_ B) block (by omega) (by rw [seal_length]; omega)) ?_
    intro v3 _
    refine walk ?_
    exact wq_ret1 rfl rfl v3 rfl trivial perm
abbrev isegCells (e : Int × Nat) : List Value := [vi e.1, .int .u64 (e.2 : Int)]
instance : FLen isegCells 2 := ⟨fun _ => rfl⟩
abbrev Img.val (x : Img) (sv mv : Value) : Value := .agg #[.int .u64 (x.seq : Int), vi x.seg, vi x.idx, sv, mv]
set_option maxHeartbeats 4000000 in
theorem img_bytes_spec (x : Img) (sv mv : Value) {segs stripes logical places : Nat} (hx : x.Fits segs stripes logical places) (h1 : segs ≤ 1024) (h2 : stripes ≤ 1024) (h3 : logical ≤ 1048576) (h4 : places ≤ 1048576) :
    Spec0 Tryz.prog 107 [Img.val x sv mv] (fun h => Rd sv 2 (x.segs.flatMap isegCells) h ∧ Rd mv 1 (x.map.map vi) h) (fun F => F) (fun _ : Value => True) (fun r => r) (fun r F => SlB r x.bytes :: F) := by
  (refine spec_of Tryz.func107 rfl Tryz.ntmps107 rfl (fun F w0 hrd => ?_))
  haveI : RdIn F sv 2 (x.segs.flatMap isegCells) := ⟨fun h hs => (hrd h hs).1⟩
  haveI : RdIn F mv 1 (x.map.map vi) := ⟨fun h hs => (hrd h hs).2⟩
  have g1 := hx.seq
  have g2 := hx.seg
  have g3 := hx.idx
  have g4 := hx.nsegs
  have g5 := hx.nmap
  obtain ⟨m, hm⟩ : ∃ m : Nat, x.seg + 1 = m := ⟨(x.seg + 1).toNat, by omega⟩
  obtain ⟨ix, hix⟩ : ∃ m : Nat, x.idx = m := ⟨x.idx.toNat, by omega⟩
  obtain ⟨H, hH⟩ : ∃ H : Bytes, H = [] ++ le 8 x.seq ++ le 2 m ++ le 2 ix := ⟨_, rfl⟩
  have hHl : H.length = 12 := by rw [hH]; simp [le_length]
  have hbytes : x.bytes = H ++ x.segs.flatMap segBytes ++ x.map.flatMap mapBytes := by unfold Img.bytes; rw [hm, hix, Int.toNat_natCast, Int.toNat_natCast, hH]; rfl
  have hs : ∀ k, ((x.segs.take k).flatMap segBytes).length ≤ 9 * k := fun k => by rw [flatMap_len (k := 9) (f := segBytes) (fun a => by simp [segBytes, le_length]), List.length_take]; omega
  have hmp : ∀ k, ((x.map.take k).flatMap mapBytes).length ≤ 4 * k := fun k => by rw [flatMap_len (k := 4) (f := mapBytes) (fun a => by simp [mapBytes, le_length]), List.length_take]; omega
  refine walk ?_
  intro c
  refine walk ?_
  intro p
  refine WL.ent WrAt.new ?_
  refine walk ?_
  (refine draw ?_; refine dy 0 ?_; refine dy 1 ?_; refine dy 3 ?_; refine dy 4 ?_; refine dy 5 ?_; refine dy 6 ?_; refine dy 8 ?_; refine dy 9 ?_; refine dy 10 ?_; refine ddo 2 ?_)
  rw [hm, hix]
  refine call (wput_spec p [] 8 x.seq (by omega) (by simp)) ?_
  intro _ _
  (refine walk ?_; refine ddo 7 ?_)
  refine call (wput_spec p ([] ++ le 8 x.seq) 2 m (by omega) (by simp [le_length])) ?_
  intro _ _
  (refine walk ?_; refine ddo 11 ?_)
  refine call (wput_spec p ([] ++ le 8 x.seq ++ le 2 m) 2 ix (by omega) (by simp [le_length])) ?_
  intro _ _
  rw [← hH]
  refine walk ?_
  refine wc_loop (X := Nat) (fun k => [(1, vp c), (3, vp p), (21, sv), (22, vi x.segs.length), (23, vi k)]) (fun k => WrAt p (H ++ (x.segs.take k).flatMap segBytes) :: Cells c [.int .u64 (x.seq : Int), vi x.seg, vi ix, sv, mv] :: F)
    (fun k => k ≤ x.segs.length) (fun k => x.segs.length - k) 0 (Nat.zero_le _) envs (by rw [List.take_zero, List.flatMap_nil, List.append_nil]; exact perm) (fun k hk => ?_)
  have hfk := hs k
  refine walk ?_
  refine wif_dec (fun hlt => ?_) (fun hlt => ?_)
  · have hlt : k < x.segs.length := by omega
    obtain ⟨e1, e2⟩ := hx.segs _ (List.getElem_mem hlt)
    obtain ⟨a, ha⟩ : ∃ a : Nat, x.segs[k].1 = a := ⟨x.segs[k].1.toNat, by omega⟩
    have htk : (x.segs.take (k + 1)).flatMap segBytes = (x.segs.take k).flatMap segBytes ++ (le 1 a ++ le 8 x.segs[k].2) := by
      rw [List.take_add_one, List.getElem?_eq_getElem hlt, Option.toList_some, List.flatMap_append, List.flatMap_cons, List.flatMap_nil, List.append_nil]
      unfold segBytes
      rw [ha, Int.toNat_natCast]
    refine walk ?_
    intro c5
    dsimp only [isegCells]
    rw [ha]
    rw [ha] at e1
    refine walk ?_
    (refine draw ?_; refine dy 0 ?_; refine dy 1 ?_; refine dy 2 ?_; refine dy 4 ?_; refine dy 5 ?_; refine ddo 3 ?_)
    refine call (wput_spec p (H ++ (x.segs.take k).flatMap segBytes) 1 a (by omega) (by rw [List.length_append, hHl]; omega)) ?_
    intro _ _
    (refine walk ?_; refine ddo 6 ?_)
    refine call (wput_spec p (H ++ (x.segs.take k).flatMap segBytes ++ le 1 a) 8 x.segs[k].2 (by omega) (by rw [List.length_append, List.length_append, hHl, le_length]; omega)) ?_
    intro _ _
    refine walk ?_
    refine wq_round (k + 1) hlt (by omega) envs ?_
    rw [htk, ← List.append_assoc, ← List.append_assoc]
    exact perm
  · obtain rfl : k = x.segs.length := by omega
    rw [List.take_length] at hfk ⊢
    refine walk ?_
    refine wc_loop (X := Nat) (fun k => [(3, vp p), (36, mv), (37, vi x.map.length), (38, vi k)]) (fun k => WrAt p (H ++ x.segs.flatMap segBytes ++ (x.map.take k).flatMap mapBytes) :: F)
      (fun k => k ≤ x.map.length) (fun k => x.map.length - k) 0 (Nat.zero_le _) envs (by rw [List.take_zero, List.flatMap_nil, List.append_nil]; exact perm) (fun k hk => ?_)
    have hmk := hmp k
    refine walk ?_
    refine wif_dec (fun hlt => ?_) (fun hlt => ?_)
    · have hlt : k < x.map.length := by omega
      obtain ⟨e1, e2⟩ := hx.map _ (List.getElem_mem hlt)
      obtain ⟨a, ha⟩ : ∃ a : Nat, x.map[k] + 1 = a := ⟨(x.map[k] + 1).toNat, by omega⟩
      have htk : (x.map.take (k + 1)).flatMap mapBytes = (x.map.take k).flatMap mapBytes ++ le 4 a := by
        rw [List.take_add_one, List.getElem?_eq_getElem hlt, Option.toList_some, List.flatMap_append, List.flatMap_cons, List.flatMap_nil, List.append_nil]
        unfold mapBytes
        rw [ha, Int.toNat_natCast]
      refine walk ?_
      rw [ha]
      refine call (wput_spec p (H ++ x.segs.flatMap segBytes ++ (x.map.take k).flatMap mapBytes) 4 a (by omega) (by rw [List.length_append, List.length_append, hHl]; omega)) ?_
      intro _ _
      refine walk ?_
      refine wq_round (k + 1) hlt (by omega) envs ?_
      rw [htk, ← List.append_assoc]
      exact perm
    · obtain rfl : k = x.map.length := by omega
      rw [List.take_length] at hmk ⊢
      rw [← hbytes]
      refine walk ?_
      refine call (wbytes_spec p x.bytes 0 (by omega) (by rw [hbytes, List.length_append, List.length_append, hHl]; omega)) ?_
      intro v1 _
      rw [padTo_zero]
      refine walk ?_
      exact wq_ret1 rfl rfl v1 rfl trivial perm
end Go.Proofs.YtohienhoifgmaaaGreat
end

section
/- Operations of a region that draws, whose guard hangs on one that wasn't done. No program. -/
namespace Go.Sl
open Go
section
variable {P : Program} {Q : Exit → Act → World → Prop} {w0 : World} {n : Nat} {env : Env} {Γ : List HP} {ops : Array Oper} {fuel : Nat} {L : Obl} {listed : Array Bool}
theorem du [pq : PutQ Q] (i : Nat) {d : Nat} {op : Op} {ty : TypeId} {pos : String} {after : Array Edge} {g : Nat} {want : Bool} {og : Oper} {t : Tmp}
    (k : WD P ops Q fuel L (listed.setIfInBounds i true) w0 n ((d, undef) :: env) Γ) (hi : ops[i]? = some ⟨some d, op, ty, pos, after, some (g, want)⟩ := by rfl)
    (hg : ops[g]? = some og := by rfl) (ht : og.dst = some t := by rfl) (hc : env.get t = some undef := by rfl)
    (hsel : Region.noSelect ops = true := by kernel_rfl) (hf : Region.free .any ops listed i = true := by kernel_rfl) (hr : (Region.ready .any ops listed).contains i = true := by kernel_rfl)
    (hd : Nat.blt d n = true := by rfl)  :
    WD P ops Q (fuel + 1) L listed w0 n env Γ := fun a w s ho => by
  refine wpAnyL_first hi hsel fuel L listed a w (Region.free_spec hi hf) (by simpa using hr) (v := undef) (I := Tt) (.inr ⟨?_, rfl⟩) trivial ho ?_
  · have hy : yielded ops a.tmps g = none := by simp [yielded, hg, ht, s.env.get _ _ hc, undef]
    simp [Region.wanted, hy]
  · exact wpAnyL_mono _ _ _ _ _ _ (fun q hq => by
      rcases List.mem_cons.1 hq with rfl | hq
      · exact .inr rfl
      · exact .inl hq) (k _ _ ⟨s.env.put hd _, s.defers, s.evo, s.sat⟩ ho)
end
/-- a slice that isn't nil -/
def Some1 (v : Value) : Prop := ∃ a m c, v = .slice (some a) m c
theorem yl_nenilv {P : Program} {w0 : World} {n : Nat} {env : Env} {Γ : List HP} {ty t e yt : TypeId} {x y : Operand} {v : Value} [u : Und P t (.slice e)] (hx : evl env x = some v) (hy : evl env y = some (.slice none 0 0)) (h : v = .slice none 0 0 ∨ Some1 v) :
    Yl P (.binOp .neq t x y yt) ty w0 n env Γ (.bool (!isNil v)) Tt := by
  refine fun _ _ _ _ _ w s => ⟨trivial, fun w' _ => ?_⟩
  have h1 := run_equalIn_slnil (P := P) (t := t) 9999 h w'
  rcases h with rfl | ⟨a, m, c, rfl⟩ <;> simp [execOp, s.env.evl hx, s.env.evl hy, eqGuard, binOp, Op.equal, Op.maxDepth, h1]
theorem Some1.not {v : Value} (h : Some1 v) : (!isNil v) = true := by obtain ⟨a, m, c, rfl⟩ := h; rfl
theorem shr_eq (keep k : Nat) (hk : k ≤ 64) : Int.fdiv (keep : Int) (2 ^ min (Int.toNat (k : Int)) (IntKind.bits .u64)) = ((keep >>> k : Nat) : Int) := by
  rw [Int.toNat_natCast, show min k (IntKind.bits .u64) = k from Nat.min_eq_left hk, Nat.shiftRight_eq_div_pow, Int.fdiv_eq_ediv_of_nonneg _ (Int.le_of_lt (Int.pow_pos (by decide)))]
  norm_cast
end Go.Sl
end
