/- The library's numbers and runes, by the shelf's contracts: decoding, formatting, parsing. -/
import Derived.Test.YtihkfklpoliilaaDoorSbl
import Derived.Test.YtihkfklpoliilaaDoorScr
import Derived.Test.YtihkfklpoliilaaDoorShf
import Derived.Lib.ItoaLen
namespace Go.Proofs.YtihkfklpoliilaaDoor
open Go Go.Sl Go.RowKit Go.Sort
attribute [local irreducible] Yl WL WC WQ WD
/-- the package-level tables as the program's text lays them -/
structure TabsW (w : World) : Prop where
  u8 : Lib.Utf8Tabs 0 1 w
  p10 : Lib.TabIs Tryd.prog w "internal/strconv.uint64pow10" .u64 Lib.pow10Tab
  syn : ∃ ev, w.cell? ⟨3, 0, none⟩ = some ev ∧ (ev = .nilIface ∨ ∃ te pe, ev = .iface te pe)
  ran : ∃ ev, w.cell? ⟨4, 0, none⟩ = some ev ∧ (ev = .nilIface ∨ ∃ te pe, ev = .iface te pe)
def Tabs (h : Hp) : Prop := ∃ W, TabsW W ∧ 7 ≤ W.heap.size ∧ ∀ b, b < W.heap.size → h b = hpOf W b
theorem cell_same {w W : World} {b : Nat} (h : hpOf w b = hpOf W b) (o : Nat) (s : Option Nat) : w.cell? ⟨b, o, s⟩ = W.cell? ⟨b, o, s⟩ := by
  unfold hpOf at h
  simp only [World.cell?, h]
theorem Tabs.at {w : World} (h : Tabs (hpOf w)) : TabsW w := by
  obtain ⟨W, hW, h7, hs⟩ := h
  refine ⟨⟨fun c hc => ?_, fun i hi => ?_⟩, ?_, ?_, ?_⟩
  · rw [cell_same (hs 0 (by omega))]; exact hW.u8.1 c hc
  · rw [cell_same (hs 1 (by omega)), cell_same (hs 1 (by omega))]; exact hW.u8.2 i hi
  · have h2 := hW.p10
    have hg : Tryd.prog.globalNamed "internal/strconv.uint64pow10" = some 2 := by kernel_rfl
    unfold Lib.TabIs World.var? at *
    rw [hg] at h2 ⊢
    have h3 := hs 2 (by omega)
    unfold hpOf at h3
    simp only [Option.bind_some, h3] at h2 ⊢
    exact h2
  · rw [cell_same (hs 3 (by omega))]; exact hW.syn
  · rw [cell_same (hs 4 (by omega))]; exact hW.ran
theorem Tabs.old {W : World} (hW : TabsW W) (h7 : 7 ≤ W.heap.size) {F : List HP} : ∀ h, Sat (Old W :: F) h → Tabs h := fun h hs => by
  obtain ⟨h1, hl, ho⟩ := hs.one
  refine ⟨W, hW, h7, fun b hb => ?_⟩
  have h2 := ho b hb
  obtain ⟨o, h3⟩ : ∃ o, hpOf W b = some o := ⟨_, Array.getElem?_eq_getElem hb⟩
  rw [h3] at h2 ⊢; exact hl _ _ h2
theorem evo_below {w w' : World} {B : Nat} (h : Below B w w') : Evo w w' := ⟨h.os, h.tape, h.output, h.size⟩
theorem hle_below {w w' : World} (h : Below w.heap.size w w') : Hle (hpOf w) (hpOf w') := fun b o hb => by
  have := hp_lt hb
  unfold hpOf at hb ⊢
  rw [h.block b this]; exact hb
/-- what a call answers that only lays anew -/
theorem spec_below {f : FuncId} {args : List Value} {X : Type} {φ : X → Prop} {v : X → Value}
    (h : ∀ w, TabsW w → Calls Tryd.prog f args.toArray w fun e w' => ∃ x, φ x ∧ e = .returned (v x) ∧ Below w.heap.size w w') : Spec0 Tryd.prog f args Tabs (fun F => F) φ v (fun _ F => F) := by
  intro F w hr hs
  refine (h w (Tabs.at (hr _ hs))).mono fun e w' ⟨x, hx, he, hb⟩ => ⟨evo_below hb, .inl ⟨x, hx, he, hs.mono (hle_below hb)⟩⟩
theorem below_grow (w : World) (k : Nat) (os : Array Obj) : Below w.heap.size w (grow (w.drewN k) os) := by
  refine ⟨rfl, rfl, rfl, by simp [grow, World.drewN], fun b hb => ?_⟩
  simp [grow, World.drewN, Array.getElem?_append_left hb]
theorem decode_spec (l : Bytes) :
    Spec0 Tryd.prog 29 [vs l] Tabs (fun F => F) (fun _ : Unit => True) (fun _ => .tuple #[vr (Lib.decodeGo ⟨l.toArray⟩).1, vi (Lib.decodeGo ⟨l.toArray⟩).2]) (fun _ F => F) :=
  spec_below fun w hw => (Any.utf8_DecodeRuneInString Tryd.decL ⟨l.toArray⟩ w hw.u8).mono fun _ _ ⟨he, hb⟩ => ⟨(), trivial, he, hb⟩
theorem itoa_spec (n : Nat) (hn : n ≤ 9223372036854775807) :
    Spec0 Tryd.prog 34 [vi n] Tabs (fun F => F) (fun _ : Unit => True) (fun _ => vs (Lib.decDigits n)) (fun _ F => F) :=
  spec_below fun w hw => (Any.strconv_Itoa Tryd.itoaL n (by omega) (by omega) w hw.p10).mono fun e w' ⟨he, k, os, hw'⟩ => ⟨(), trivial, by rw [he, Lib.itoa_nonneg], by rw [hw']; exact below_grow w k os⟩
theorem below_bytes (w : World) (e : TypeId) (s : ByteArray) : Below w.heap.size w (Lib.bytesWorld w e s) :=
  Lib.below_freeze (Below.alloc (Below.drew (Below.refl w.heap.size w)) (Nat.le_refl _) _) (p := ⟨w.heap.size, _, none⟩) (Nat.le_refl _) 1
/-- a string of digits as a number; or none -/
theorem parseUint_spec (l : Bytes) (hl : l.length ≤ 281474976710656) :
    Spec0 Tryd.prog 50 [vs l, vi 10, vi 64] Tabs (fun F => F) (fun x : Nat × Value => (∀ u, Lib.parseUintB 64 l = .ok u → x = (u, .nilIface)) ∧ ((∀ u, Lib.parseUintB 64 l ≠ .ok u) → x.1 < 18446744073709551616 ∧ ∃ p, x.2 = .iface 125 p))
      (fun x => .tuple #[.int .u64 x.1, x.2]) (fun _ F => F) :=
  spec_below fun w hw => by
    have hsz : (ByteArray.mk l.toArray).size = l.length := ba_size l
    have hd : (ByteArray.mk l.toArray).data.toList = l := by simp
    rcases hp : Lib.parseUintB 64 l with u | _ | _
    · refine (Any.strconv_ParseUint_10_at64_ok Tryd.puL ⟨l.toArray⟩ (by omega) u (by rw [hd]; exact hp) w).mono fun e w' ⟨he, hw'⟩ => ⟨(u, .nilIface), ⟨fun u' h => ?_, fun h => absurd rfl (h u)⟩, he, ?_⟩
      · cases h; rfl
      · rcases hw' with rfl | rfl
        · exact Below.refl _ _
        · exact below_bytes w _ _
    · obtain ⟨ev, h1, h2⟩ := hw.syn
      refine (Any.strconv_ParseUint_10_at64_syntax Tryd.puL ⟨l.toArray⟩ (by omega) (by rw [hd]; exact hp) ev w h1 h2).mono fun e w' ⟨N, he, _, _, hb⟩ => ⟨(0, _), ⟨fun u' h => (by cases h), fun _ => ⟨by show 0 < _; omega, ⟨_, rfl⟩⟩⟩, he, hb⟩
    · obtain ⟨ev, h1, h2⟩ := hw.ran
      refine (Any.strconv_ParseUint_10_at64_range Tryd.puL ⟨l.toArray⟩ (by omega) (by rw [hd]; exact hp) ev w h1 h2).mono fun e w' ⟨N, he, _, _, hb⟩ => ⟨(18446744073709551615, _), ⟨fun u' h => (by cases h), fun _ => ⟨by show 18446744073709551615 < _; omega, ⟨_, rfl⟩⟩⟩, he, hb⟩
theorem small_spec (n : Nat) (hn : n < 100) :
    Spec0 Tryd.prog 52 [vi n] Tabs (fun F => F) (fun _ : Unit => True) (fun _ => vs (Lib.decDigits n)) (fun _ F => F) :=
  spec_below fun w _ => (Any.internal_strconv_small Tryd.smallL n hn w).mono fun _ _ ⟨he, h⟩ => ⟨(), trivial, he, h ▸ Below.refl _ _⟩
theorem numDigits_spec (u : Nat) (h1 : 1 ≤ u) (h2 : u < 18446744073709551616) :
    Spec0 Tryd.prog 53 [.int .u64 u] Tabs (fun F => F) (fun _ : Unit => True) (fun _ => vi (Lib.nDigits u)) (fun _ F => F) :=
  spec_below fun w hw => (Any.internal_strconv_numDigits Tryd.digitsL u h1 h2 w hw.p10).mono fun _ _ ⟨he, h⟩ => ⟨(), trivial, he, h ▸ Below.refl _ _⟩
theorem base10_spec (c u : Nat) (hu : u < 18446744073709551616) :
    Spec0 Tryd.prog 54 [.slice (some ⟨c, 0, none⟩) (Lib.nDigits u) 24, .int .u64 u] (fun _ => True) (fun F => Cells c (List.replicate 24 (.int .u8 0)) :: F) (fun x : List Value => x.take (Lib.nDigits u) = (Lib.decDigits u).map vb ∧ x.length = 24) (fun _ => .tuple #[]) (fun x F => Cells c x :: F) := by
  intro F w _ hs
  have hn := Lib.nDigits_le20 u hu
  obtain ⟨T, hT⟩ := Sat.cells hs
  have hH : Holds (fun (b : UInt8) => Value.int .u8 (b.toNat : Int)) w c 0 (Array.replicate (Lib.nDigits u) 0) := fun j hj => by
    have hj' : j < Lib.nDigits u := by simpa using hj
    rw [Nat.zero_add]
    refine ⟨?_, frozen_of_hp hT j⟩
    have h24 : j < 24 := by omega
    rw [cell_of_hp hT, getElem!_pos _ j hj]
    rw [Array.getElem_replicate, List.getElem?_replicate, if_pos h24]; rfl
  have hf := Any.internal_strconv_formatBase10 Tryd.base10L c 0 24 u (Array.replicate (Lib.nDigits u) 0) w hH (by rw [Array.size_replicate]; exact Lib.lt_pow_nDigits u) hu (by rw [Array.size_replicate]; omega)
  rw [Array.size_replicate] at hf
  refine hf.mono fun e w' ⟨he, n, v', dk, hw', hF⟩ => ?_
  have hw : w.heap[c]? = some (.cells (List.replicate 24 (.int .u8 0)).toArray T (0, 0)) := hT
  have hc : hpOf w' c = some (.cells (putCells (fun (b : UInt8) => Value.int .u8 (b.toNat : Int)) 0 dk (List.replicate 24 (.int .u8 0)).toArray) T (0, 0)) := by
    subst hw'
    simp only [hpOf, World.drewN, putRow, mapBlock, Array.getElem?_modify, if_true, hw, Option.map_some, onCells]
  have hne : ∀ b, b ≠ c → hpOf w' b = hpOf w b := by
    intro b hb; subst hw'
    simp [hpOf, World.drewN, putRow, mapBlock, Array.getElem?_modify, Ne.symm hb]
  refine ⟨?_, .inl ⟨(putCells (fun (b : UInt8) => Value.int .u8 (b.toNat : Int)) 0 dk (List.replicate 24 (.int .u8 0)).toArray).toList, ⟨?_, ?_⟩, he, ?_⟩⟩
  · subst hw'
    exact ⟨rfl, rfl, rfl, by simp [World.drewN, putRow, mapBlock]⟩
  · apply List.ext_getElem?
    intro j
    by_cases hj : j < Lib.nDigits u
    · have hjd : j < (Lib.decDigits u).length := by rw [Lib.decDigits_length]; exact hj
      have h1 := Lib.row_is_numeral hF j hjd
      rw [List.getElem?_take, if_pos hj]
      have hs2 := hF.size
      have h24 : j < 24 := by omega
      simp only [putCells, Array.getElem?_toList, Array.getElem?_mapIdx, List.getElem?_toArray, List.getElem?_replicate, if_pos h24, Option.map_some, List.getElem?_map, List.getElem?_eq_getElem hjd, h1]
      rw [if_pos (by omega), Nat.sub_zero]
    · rw [List.getElem?_take, if_neg hj, List.getElem?_eq_none]
      simp [Lib.decDigits_length]; omega
  · simp [putCells]
  · obtain ⟨h1, h2, a, b, d, e', f⟩ := hs
    obtain ⟨T', e'⟩ := e'
    have hs' : Sat (Blk c (.cells (List.replicate 24 (.int .u8 0)).toArray T' (0, 0)) :: F) (hpOf w) := ⟨h1, h2, a, b, d, e', f⟩
    exact (sat_update hs' hc hne).imp fun h hh => ⟨T, by rw [Array.toArray_toList]; exact hh⟩
set_option maxHeartbeats 2000000 in
theorem formatUint_spec (u : Nat) (hu : u < 18446744073709551616) :
    Spec0 Tryd.prog 47 [.int .u64 u, vi 10] Tabs (fun F => F) (fun _ : Unit => True) (fun _ => vs (Lib.decDigits u)) (fun _ F => F) := by
  have hn := Lib.nDigits_le20 u hu
  (refine spec_of Tryd.func47 rfl Tryd.ntmps47 rfl (fun F w0 hrd => ?_))
  haveI : ReadIn F Tabs := ⟨hrd⟩
  refine walk ?_
  (repeat (first | (refine wif_dec (fun _ => ?_) (fun hz => by exfalso; omega); refine walk ?_) | (refine wif_dec (fun hz => by exfalso; omega) (fun _ => ?_); refine walk ?_)))
  refine wif_dec (fun h1 => ?_) (fun h1 => ?_)
  · refine walk ?_
    refine call (small_spec u (by omega)) ?_
    intro _ _
    refine walk ?_
    exact wq_ret1 rfl rfl () rfl trivial Ent.refl
  · refine walk ?_
    intro c
    refine walk ?_
    refine WL.ent (Γ' := Cells c (List.replicate 24 (.int .u8 0)) :: F) Ent.refl ?_
    refine call (numDigits_spec u (by omega) hu) ?_
    intro _ _
    refine walk ?_
    refine wl_y (yl_sliceArrTo rfl rfl (by decide) (by omega)) rfl ?_
    refine walk ?_
    refine call (base10_spec c u hu) ?_
    intro x hx
    obtain ⟨hx1, hx2⟩ := hx
    refine walk ?_
    refine wl_y (yl_sliceArrTo rfl rfl (by decide) (by omega)) rfl ?_
    haveI : RdIn (Cells c x :: F) (.slice (some ⟨c, 0, none⟩) (Lib.nDigits u) 24) 1 ((Lib.decDigits u).map vb) := ⟨fun h hs => by
      obtain ⟨T, hT⟩ := Sat.cells hs
      exact .inr (.inr ⟨c, 0, _, _, x, T, (0, 0), rfl, by omega, by rw [List.length_map, Lib.decDigits_length, Nat.mul_one], by rw [List.drop_zero, Nat.mul_one, hx1], hT⟩)⟩
    refine walk ?_
    exact wq_ret1 rfl rfl () rfl trivial perm
theorem fmtUint_spec (u : Nat) (hu : u < 18446744073709551616) :
    Spec0 Tryd.prog 35 [.int .u64 u, vi 10] Tabs (fun F => F) (fun _ : Unit => True) (fun _ => vs (Lib.decDigits u)) (fun _ F => F) := by
  (refine spec_of Tryd.func35 rfl Tryd.ntmps35 rfl (fun F w0 hrd => ?_))
  haveI : ReadIn F Tabs := ⟨hrd⟩
  refine walk ?_
  refine call (formatUint_spec u hu) ?_
  intro _ _
  refine walk ?_
  exact wq_ret1 rfl rfl () rfl trivial Ent.refl
/-- a step as an interface's value -/
def stv : Stp → Value
  | .write n t => .iface 69 (.agg #[vi n, vs t])
  | .read n => .iface 71 (.agg #[vi n])
  | .trim n => .iface 72 (.agg #[vi n])
  | .plain w => .iface 74 (.agg #[vs w])
  | .clean g n => .iface 76 (.agg #[.bool g, vi n])
  | .member w n => .iface 78 (.agg #[vs w, vi n])
  | .failat m o => .iface 80 (.agg #[vi m, vi o])
  | .crash n k => .iface 82 (.agg #[vi n, .int .u64 k])
theorem stv_one (s : Stp) : (stv s).oneCell' = true := by cases s <;> rfl
end Go.Proofs.YtihkfklpoliilaaDoor
