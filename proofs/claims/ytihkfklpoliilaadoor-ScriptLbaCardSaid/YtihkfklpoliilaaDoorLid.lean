/- What the rows list of the package-level variables; a world in which they lie. -/
import Derived.Test.YtihkfklpoliilaaDoorSlb
import Derived.Test.YtihkfklpoliilaaDoorCards
import Derived.Test.YtihkfklpoliilaaDoorTie
import Derived.Lib.LaidU8T
import Derived.Deep.DeepHandedRow
import Derived.LaidLaws
namespace Go.Proofs.YtihkfklpoliilaaDoor
open Go Go.Sl Go.RowKit Go.Lib
def laidL : List (String × DataW Unit) := [("math/bits.deBruijn32tab", Rows.laid_math_bits_deBruijn32tab), ("math/bits.deBruijn64tab", Rows.laid_math_bits_deBruijn64tab), ("internal/strconv.uint64pow10", Rows.laid_internal_strconv_uint64pow10), ("unicode/utf8.acceptRanges", Rows.laid_unicode_utf8_acceptRanges), ("strconv.ErrRange", Rows.laid_strconv_ErrRange), ("strconv.ErrSyntax", Rows.laid_strconv_ErrSyntax), ("unicode/utf8.first", Rows.laid_unicode_utf8_first)]
theorem Tryd.laidOut : laidOutB Tryd.prog = true := by kernel_rfl
theorem Tryd.own : ownKnob Tryd.prog.godebug = none := by kernel_rfl
theorem iface_cell {w : World} {n : String} {g : Nat} {s : String} {d : DataW Unit} {ms : Array (String × TypeId)} (hg : Tryd.prog.globalNamed n = some g) (hty : (Tryd.prog.globals[g]?).map (·.type) = some 92) (hu : Tryd.prog.underlying 92 = some (.interface ms))
    (h : VarReads Tryd.prog w n (.iface s d)) : ∃ ev, w.cell? ⟨g, 0, none⟩ = some ev ∧ (ev = .nilIface ∨ ∃ te pe, ev = .iface te pe) := by
  obtain ⟨g', t', cs, fuel, p, hg', hty', hvar, hd⟩ := h
  obtain rfl := Option.some.inj (hg.symm.trans hg')
  obtain rfl := Option.some.inj (hty.symm.trans hty')
  have hc := World.var?_cell hg hvar 0
  cases fuel with
  | zero => simp [DataW.trod] at hd
  | succ fuel =>
    cases hcs : cs.toList with
    | nil => rw [hcs] at hd; simp [DataW.trod, hu] at hd
    | cons v r =>
      have hv : cs[0]? = some v := by rw [← Array.getElem?_toList, hcs]; rfl
      refine ⟨v, by rw [hc, hv], ?_⟩
      rw [hcs] at hd
      cases r with
      | cons _ _ => simp [DataW.trod, hu] at hd
      | nil => cases v <;> first | exact .inl rfl | exact .inr ⟨_, _, rfl⟩ | (simp [DataW.trod, hu] at hd)
theorem firstEq : Rows.laid_unicode_utf8_first = firstData := by kernel_rfl
theorem acceptEq : (Rows.laid_unicode_utf8_acceptRanges : DataW Unit) = acceptData := by kernel_rfl
theorem powEq : (Rows.laid_internal_strconv_uint64pow10 : DataW Unit) = tabData .u64 Lib.pow10Tab := by kernel_rfl
theorem tabsW {W : World} (h : laidMetH Tryd.prog laidL W) : TabsW W := by
  have hL : laidMet Tryd.prog laidL W := by
    unfold laidMetH at h
    rw [show (laidL.filter fun x => x.2.handleName?.isSome) = [] from by kernel_rfl] at h
    exact h
  have hr := fun {n : String} {d : DataW Unit} (hm : (n, d) ∈ laidL) => laidMet.reads hL hm
  refine ⟨?_, ?_, ?_, ?_⟩
  · have h3 : VarReads Tryd.prog W "unicode/utf8.first" firstData := by rw [← firstEq]; exact hr (by simp [laidL])
    have h4 : VarReads Tryd.prog W "unicode/utf8.acceptRanges" acceptData := by rw [← acceptEq]; exact hr (by simp [laidL])
    exact utf8Tabs_of_readsT (ρ := Tryd.decL_ren) ⟨by kernel_rfl, by kernel_rfl, by kernel_rfl, by kernel_rfl⟩ ⟨by kernel_rfl, by kernel_rfl, by kernel_rfl, by kernel_rfl, by kernel_rfl, by kernel_rfl, by kernel_rfl⟩ h3 h4
  · have h2 : VarReads Tryd.prog W "internal/strconv.uint64pow10" (tabData .u64 Lib.pow10Tab) := by rw [← powEq]; exact hr (by simp [laidL])
    obtain ⟨g', t', cs, fuel, p, hg', ht', hvar, hd⟩ := h2
    obtain rfl := Option.some.inj ((show Tryd.prog.globalNamed "internal/strconv.uint64pow10" = some 2 by kernel_rfl).symm.trans hg')
    obtain rfl := Option.some.inj ((show (Tryd.prog.globals[2]?).map (·.type) = some 118 by kernel_rfl).symm.trans ht')
    unfold TabIs
    rw [hvar, ← cells_of_tab Tryd.underlying118 Tryd.underlying38 (by kernel_rfl) (by kernel_rfl) hd]
  · exact iface_cell (show Tryd.prog.globalNamed "strconv.ErrSyntax" = some 3 by kernel_rfl) (by kernel_rfl) (by kernel_rfl : Tryd.prog.underlying 92 = some (.interface #[("Error", 66)])) (hr (n := "strconv.ErrSyntax") (d := Rows.laid_strconv_ErrSyntax) (by simp [laidL]))
  · exact iface_cell (show Tryd.prog.globalNamed "strconv.ErrRange" = some 4 by kernel_rfl) (by kernel_rfl) (by kernel_rfl : Tryd.prog.underlying 92 = some (.interface #[("Error", 66)])) (hr (n := "strconv.ErrRange") (d := Rows.laid_strconv_ErrRange) (by simp [laidL]))
theorem size7 {W : World} (h : laidMetH Tryd.prog laidL W) : 7 ≤ W.heap.size := by
  have hL : laidMet Tryd.prog laidL W := by
    unfold laidMetH at h
    rw [show (laidL.filter fun x => x.2.handleName?.isSome) = [] from by kernel_rfl] at h
    exact h
  obtain ⟨g', t', cs, fuel, p, hg', ht', hvar, hd⟩ := laidMet.reads hL (n := "math/bits.deBruijn64tab") (d := Rows.laid_math_bits_deBruijn64tab) (by simp [laidL])
  obtain rfl := Option.some.inj ((show Tryd.prog.globalNamed "math/bits.deBruijn64tab" = some 6 by kernel_rfl).symm.trans hg')
  unfold World.var? at hvar
  rw [hg'] at hvar
  simp only [Option.bind_some] at hvar
  cases hh : W.heap[6]? with
  | none => rw [hh] at hvar; cases hvar
  | some o => have := (Array.getElem?_eq_some_iff.1 hh).1; omega
/-- a datum's numbers as cells -/
def litVals : DataW Unit → List Value
  | .agg l => l.filterMap fun | .lit (.int k n) => some (Value.int k n) | _ => none
  | _ => []
def aggVals : DataW Unit → List Value
  | .agg l => l.flatMap litVals
  | _ => []
def putCellsAt (h : Array Obj) (g : Nat) (cs : List Value) : Array Obj := h.modify g fun
  | .cells _ t frozen => .cells cs.toArray t frozen
  | o => o
/-- a world in which the tables lie -/
noncomputable def laidWorld (os : Os) : World :=
  let w0 := World.holding Tryd.prog os ⟨#[], #[], []⟩
  let n := w0.heap.size
  let h0 := putCellsAt w0.heap 0 (litVals Rows.laid_unicode_utf8_first)
  let h1 := putCellsAt h0 1 (aggVals Rows.laid_unicode_utf8_acceptRanges)
  let h2 := putCellsAt h1 2 (litVals Rows.laid_internal_strconv_uint64pow10)
  let h3 := putCellsAt h2 3 [.iface 135 (vp n)]
  let h4 := putCellsAt h3 4 [.iface 135 (vp (n + 1))]
  let h5 := putCellsAt h4 5 (litVals Rows.laid_math_bits_deBruijn32tab)
  let h6 := putCellsAt h5 6 (litVals Rows.laid_math_bits_deBruijn64tab)
  { w0 with heap := h6 ++ #[.cells #[vs [105, 110, 118, 97, 108, 105, 100, 32, 115, 121, 110, 116, 97, 120]] 137 (0, 0), .cells #[vs [118, 97, 108, 117, 101, 32, 111, 117, 116, 32, 111, 102, 32, 114, 97, 110, 103, 101]] 137 (0, 0)] }
theorem laid_met (os : Os) (args : Array Value) : laidMet Tryd.prog laidL ((laidWorld os).forCall (fun _ _ => 0) ⟨#[], args, []⟩).memory :=
  laidMet_of_run' 8 (by kernel_rfl) (by kernel_rfl)
theorem str_eta (s : ByteArray) : ∃ l : Bytes, s = ⟨l.toArray⟩ := ⟨s.data.toList, by cases s; simp⟩
end Go.Proofs.YtihkfklpoliilaaDoor
