/- The library's sorted keys of a map, by the shelf. -/
import Derived.Test.YtapgejjjgeiihaaTab
import Derived.Test.YtapgejjjgeiihaaOwn
import Derived.Test.YtapgejjjgeiihaaShf
namespace Go.Proofs.Ytapgejjjgeiihaa
open Go Go.Sl Go.RowKit Go.Maps Go.Sort Go.Shelf
attribute [local irreducible] Yl WL WC WQ WD

theorem Try.sortsA (m : Nat) : AnyZI.SortsIn Try.prog Try.sortedA_ren Fence.wide m :=
  ⟨fun blk off cap ss W hH hblk hsz => callsIn_wide.2 (AnyM.slices_Sort_int Try.sortA blk off cap ss W hH hblk hsz),
   fun p cap W => callsIn_wide.2 (AnyM.slices_Sort_int_none Try.sortA p cap W)⟩

theorem keys_spec (c : Nat) :
    Spec0 Try.prog 86 [.map (some c)] (fun _ => True) (fun F => F) (fun _ : Nat => True) (fun b => .func (.func 99) #[] #[vp b]) (fun b F => Cells b [.map (some c)] :: F) := by
  (refine spec_of Try.func86 rfl Try.ntmps86 rfl (fun F w0 hrd => ?_))
  refine walk ?_
  intro b
  refine walk ?_
  exact wq_ret1 rfl rfl b rfl trivial Ent.refl

/-- how a value of such a map is read: not at all -/
def rdAny (H : Type) : Value → Option (DataW H × List MemPlace) := fun _ => some (.nil, [])

theorem ownsMap_of {w : World} {c : Nat} {m : IMap Value} {es : Array MapEntry} {ck : Nat} (h : w.heap[c]? = some (.map es ck)) (hm : IsMap es ck m) (hl : m.length ≤ 1073741824) (hk : ∀ e ∈ m, -9223372036854775808 ≤ e.1 ∧ e.1 ≤ 9223372036854775807)
    {k : TypeId} (hu : Try.prog.underlying k = some (.int .i64)) : w.ownsMap (H := Unit) Try.prog k (rdAny Unit) c m.length (.map ((es.toList.map (Go.WideElems.rg Try.prog k (rdAny Unit))).foldr DataW.insert [])) := by
  refine ⟨es, ck, h, ⟨?_, ⟨hm.clock, ?_, ?_⟩, ?_⟩, by rw [hm.size]; exact Nat.le_refl _, rfl⟩
  · rw [hm.size]; unfold maxLen; omega
  · exact hm.borns.imp fun h => Nat.ne_of_lt h
  · have h1 : es.toList.map (·.key) = m.map fun p => vi p.1 := by
      have := congrArg (List.map (·.1)) hm.ents
      simpa [List.map_map, Function.comp_def, entOf, pairOf] using this
    rw [h1, List.Nodup, List.pairwise_map]
    have h2 := hm.keys
    rw [List.Nodup, List.pairwise_map] at h2
    exact h2.imp fun hne e => hne (by simpa using e)
  · intro x hx
    have h1 : entOf x ∈ m.map pairOf := by rw [← hm.ents]; exact List.mem_map.2 ⟨x, hx, rfl⟩
    obtain ⟨e, he, hxe⟩ := List.mem_map.1 h1
    have hk1 : x.key = vi e.1 := by have := congrArg Prod.fst hxe; exact this.symm
    have hw : (Lit.int .i64 e.1).wf = true := by
      have := hk e he
      simp [Lit.wf, IntKind.min, IntKind.max, IntKind.bits, IntKind.signed]
      omega
    refine ⟨(.int .i64 e.1, .nil), ?_⟩
    unfold Go.WideElems.rd
    rw [hk1, keyOf_int_mk hu hw]
    rfl
/-- a value's number -/
def litOf : Value → Int
  | .int _ q => q
  | _ => 0
theorem intKeys_of {m : IMap Value} {es : Array MapEntry} {ck : Nat} (hm : IsMap es ck m) (hk : ∀ e ∈ m, -9223372036854775808 ≤ e.1 ∧ e.1 ≤ 9223372036854775807)
    {k : TypeId} (hu : Try.prog.underlying k = some (.int .i64)) : (intKeys (.map ((es.toList.map (Go.WideElems.rg Try.prog k (rdAny Unit))).foldr DataW.insert []))).Perm (m.map (·.1)) := by
  have h0 : (intKeys (.map ((es.toList.map (Go.WideElems.rg Try.prog k (rdAny Unit))).foldr DataW.insert []))) = (((es.toList.map (Go.WideElems.rg Try.prog k (rdAny Unit))).foldr DataW.insert []).map fun p => Go.intOf p.1) := rfl
  rw [h0]
  refine ((Go.WideShapes.sorted_perm _).map _).trans (List.Perm.of_eq ?_)
  rw [List.map_map]
  have h1 : es.toList.map (·.key) = m.map fun p => vi p.1 := by
    have := congrArg (List.map (·.1)) hm.ents
    simpa [List.map_map, Function.comp_def, entOf, pairOf] using this
  have h2 : ∀ x ∈ es.toList, ((fun p : Lit × DataW Unit => Go.intOf p.1) ∘ Go.WideElems.rg Try.prog k (rdAny Unit)) x = litOf x.key := by
    intro x hx
    have h1 : entOf x ∈ m.map pairOf := by rw [← hm.ents]; exact List.mem_map.2 ⟨x, hx, rfl⟩
    obtain ⟨e, he, hxe⟩ := List.mem_map.1 h1
    have hk1 : x.key = vi e.1 := by have := congrArg Prod.fst hxe; exact this.symm
    have hw : (Lit.int .i64 e.1).wf = true := by
      have := hk e he
      simp [Lit.wf, IntKind.min, IntKind.max, IntKind.bits, IntKind.signed]
      omega
    have hrd : Go.WideElems.rd Try.prog k (rdAny Unit) x = some (.int .i64 e.1, .nil) := by
      unfold Go.WideElems.rd
      rw [hk1, keyOf_int_mk hu hw]
      rfl
    simp only [Function.comp, Go.WideElems.rg_of hrd, hk1]
    rfl
  rw [List.map_congr_left h2]
  have h3 : es.toList.map (fun x => litOf x.key) = (es.toList.map (·.key)).map litOf := by rw [List.map_map]; rfl
  rw [h3, h1, List.map_map]
  rfl

/-- what a call laid anew, beside what there was -/
theorem sat_row {Γ : List HP} {w w' : World} {e : TypeId} {v : Value} {xs : List Value} (hs : Sat Γ (hpOf w)) (hb : Below w.heap.size w w') (hr : w'.ownsRow w.heap.size e 1 v xs.length xs) : Sat (Sl v 1 xs :: Γ) (hpOf w') := by
  have hle : Hle (hpOf w) (hpOf w') := fun b o h => by
    have := hp_lt h
    unfold hpOf at h ⊢
    rw [hb.block b this]; exact h
  rcases hr.2 with ⟨rfl, hn⟩ | ⟨g, cap, cur, rfl, hg, hgb, h1, h2, h3, h4⟩
  · have : xs = [] := List.eq_nil_of_length_eq_zero hn
    subst this
    exact sl_nil 1 _ (hs.mono hle)
  · refine ⟨fun b => if b = g then some (.cells cur e (0, 0)) else none, hpOf w, ?_, hle, ?_, ?_, hs⟩
    · intro b o h
      dsimp only at h
      split at h
      · rename_i hbg; subst hbg; cases h; exact hgb
      · cases h
    · intro b
      by_cases hbg : b = g
      · right
        subst hbg
        unfold hpOf
        exact Array.getElem?_eq_none hg
      · left; simp [hbg]
    · refine .inr ⟨g, 0, xs.length, cap, cur.toList, rfl, h1, ?_, by omega, ?_, e, ?_⟩
      · simp; omega
      · simpa using h4
      · simp

set_option maxHeartbeats 2000000 in
theorem sorted_spec (b c : Nat) (m : IMap Value) (hl : m.length ≤ 1073741824) (hk : ∀ e ∈ m, -9223372036854775808 ≤ e.1 ∧ e.1 ≤ 9223372036854775807) :
    Spec0 Try.prog 85 [.func (.func 99) #[] #[vp b]] (fun _ => True) (fun F => Cells b [.map (some c)] :: MapI c m :: F) (fun _ : Value => True) (fun r => r)
      (fun r F => Sl r 1 (((m.map (·.1)).mergeSort fun x y => decide (x ≤ y)).map vi) :: Cells b [.map (some c)] :: MapI c m :: F) := by
  intro F w _ hs
  obtain ⟨T, hcb⟩ := Sat.cells hs
  obtain ⟨es, ck, hmb, him⟩ := Sat.mapI hs.tail
  have hu : Try.prog.underlying (Try.keysA_ren.t 26) = some (.int .i64) := by kernel_rfl
  have hown := ownsMap_of (w := w) (c := c) hmb him hl hk hu
  have hcell : w.cell? ⟨b, 0, none⟩ = some (.map (some c)) := cell_of_hp hcb 0
  have hblt : b < w.heap.size := hp_lt hcb
  have hseq : SeqGives Fence.wide 2 Try.prog 99 #[.pointer (some ⟨b, 0, none⟩)] encZ (fun ss => ss.Perm (intKeys _)) (Maps.size _) w :=
    AnyZI.keys_gives (ρ := Try.keysA_ren) { Try.keysA with } Fence.wide _ trivial rfl (by omega) b c m.length _ w hblt hcell hown
  have hperm := intKeys_of him hk hu
  have hsz : Maps.size (DataW.map ((es.toList.map (Go.WideElems.rg Try.prog (Try.keysA_ren.t 26) (rdAny Unit))).foldr DataW.insert [])) = m.length := by
    have := hperm.length_eq
    simpa [intKeys, Maps.size] using this
  have cS := AnyZI.sorted_in Try.sortedA Fence.wide 5 trivial trivial trivial trivial rfl (by omega) (Try.sortsA _) (enters_of Try.func98 (by kernel_rfl) rfl) 99 #[.pointer (some ⟨b, 0, none⟩)] trivial (enters_of Try.func99 (by kernel_rfl) rfl) _ _ (by rw [hsz]; unfold maxLen; omega) (by rw [hsz]; omega) _ hseq
  refine ((callsIn_wide (n := 5)).1 cS).mono ?_
  rintro e w' ⟨v, ss, rfl, hS, hrow, hnil, hb⟩
  refine ⟨⟨hb.os, hb.tape, hb.output, hb.size⟩, .inl ⟨v, trivial, rfl, ?_⟩⟩
  have hps : ss.Perm (m.map (·.1)) := hS.trans hperm
  have e1 : ((m.map (·.1)).mergeSort fun x y => decide (x ≤ y)) = ss.mergeSort fun x y => decide (x ≤ y) := (mergeSort_of_perm_i hps).symm
  rw [e1]
  have hlen : ((ss.mergeSort fun x y => decide (x ≤ y)).map vi).length = ss.length := by simp
  refine sat_row (e := Try.sortedA_ren.t 26) hs hb ?_
  rw [hlen]
  exact hrow
end Go.Proofs.Ytapgejjjgeiihaa
