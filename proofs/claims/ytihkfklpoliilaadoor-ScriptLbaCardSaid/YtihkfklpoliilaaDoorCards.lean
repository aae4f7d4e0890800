/-
  DERIVED. GIVEN WITH THE SEED: THE CARDS: each row of YtihkfklpoliilaaDoorRows.lean that lists a variable, with what it lists TIED to the program's text (the seventh form; the later family's looks); each row that meets fmt, with fmt's text TOLD by the authors' own Lean function (tested against real Go, not proved from fmt's source: count such statements apart). THE CARD IS WHAT COUNTS. Prove the row's statement (the work); the ties are given (YtihkfklpoliilaaDoorTie.lean); close each card by the builder's one call (the guide's Derived/Test/ToyasCard.lean, 'card_holds'). Laid BY PROGRAM, IN A SANDBOX (cutbox-door.mjs). By AI agents, Wed Nov 11 2026. No macro, syntax, notation, axiom, sorry.
-/
import Derived.Test.YtihkfklpoliilaaDoorRows
import GoSem.ClaimSeven
namespace Go.Proofs.YtihkfklpoliilaaDoor
namespace Rows

/-- THE TIED CARD OF 'drystonelaw21.ScriptSizes'. -/
def scriptSizesCard : Claim7 := { stood := { row := scriptSizesRow, standIns := [], harness := (true, "e7a8df030ac5a50837a53f4178bdaa29220827cc93777a68fc8e597d8d71ed0c"), looks := true }, kinds := [], alts := [], laidByText := true, laidKinds := [.data, .data, .data, .data, .sentinel, .sentinel, .pinned], laidTests := true, laidLooks := .later }
def ScriptSizesCardSaid : Prop := Claim7.holds Tryd.pinned (.plain (OpenSpec.ofChange scriptSizesSpec)) scriptSizesCard

/-- THE TIED CARD OF 'drystonelaw21.ScriptParses'. -/
def scriptParsesCard : Claim7 := { stood := { row := scriptParsesRow, standIns := [], harness := (true, "e7a8df030ac5a50837a53f4178bdaa29220827cc93777a68fc8e597d8d71ed0c"), looks := true }, kinds := [], alts := [], laidByText := true, laidKinds := [.data, .data, .data, .data, .sentinel, .sentinel, .pinned], laidTests := true, laidLooks := .later }
def ScriptParsesCardSaid : Prop := Claim7.holds Tryd.pinned (.plain (OpenSpec.ofChange scriptParsesSpec)) scriptParsesCard

/-- THE TIED CARD OF 'drystonelaw21.ScriptSpoilt'. -/
def scriptSpoiltCard : Claim7 := { stood := { row := scriptSpoiltRow, standIns := [], harness := (true, "e7a8df030ac5a50837a53f4178bdaa29220827cc93777a68fc8e597d8d71ed0c"), looks := true }, kinds := [], alts := [], laidByText := true, laidKinds := [.data, .data, .data, .data, .sentinel, .sentinel, .pinned], laidTests := true, laidLooks := .later }
def ScriptSpoiltCardSaid : Prop := Claim7.holds Tryd.pinned (.plain (OpenSpec.ofChange scriptSpoiltSpec)) scriptSpoiltCard

/-- THE TIED CARD OF 'drystonelaw21.ScriptLba'. -/
def scriptLbaCard : Claim7 := { stood := { row := scriptLbaRow, standIns := [], harness := (true, "e7a8df030ac5a50837a53f4178bdaa29220827cc93777a68fc8e597d8d71ed0c"), looks := true }, kinds := [], alts := [], laidByText := true, laidKinds := [.data, .data, .data, .data, .sentinel, .sentinel, .pinned], laidTests := true, laidLooks := .later }
def ScriptLbaCardSaid : Prop := Claim7.holds Tryd.pinned (.plain (OpenSpec.ofChange scriptLbaSpec)) scriptLbaCard

/-- THE TIED CARD OF 'drystonelaw21.ScriptBlanks'. -/
def scriptBlanksCard : Claim7 := { stood := { row := scriptBlanksRow, standIns := [], harness := (true, "e7a8df030ac5a50837a53f4178bdaa29220827cc93777a68fc8e597d8d71ed0c"), looks := true }, kinds := [], alts := [], laidByText := true, laidKinds := [.data, .data, .data, .data, .sentinel, .sentinel, .pinned], laidTests := true, laidLooks := .later }
def ScriptBlanksCardSaid : Prop := Claim7.holds Tryd.pinned (.plain (OpenSpec.ofChange scriptBlanksSpec)) scriptBlanksCard

/-- THE TIED CARD OF 'drystonelaw21.ScriptJoins'. -/
def scriptJoinsCard : Claim7 := { stood := { row := scriptJoinsRow, standIns := [], harness := (true, "e7a8df030ac5a50837a53f4178bdaa29220827cc93777a68fc8e597d8d71ed0c"), looks := true }, kinds := [], alts := [], laidByText := true, laidKinds := [.data, .data, .data, .data, .sentinel, .sentinel, .pinned], laidTests := true, laidLooks := .later }
def ScriptJoinsCardSaid : Prop := Claim7.holds Tryd.pinned (.plain (OpenSpec.ofChange scriptJoinsSpec)) scriptJoinsCard

/-- THE TIED CARD OF 'drystonelaw21.ScriptPrints'. -/
def scriptPrintsCard : Claim7 := { stood := { row := scriptPrintsRow, standIns := [], harness := (true, "e7a8df030ac5a50837a53f4178bdaa29220827cc93777a68fc8e597d8d71ed0c"), looks := true }, kinds := [], alts := [], laidByText := true, laidKinds := [.data, .data, .data, .data, .sentinel, .sentinel, .pinned], laidTests := true, laidLooks := .later }
def ScriptPrintsCardSaid : Prop := Claim7.holds Tryd.pinned (.plain (OpenSpec.ofChange scriptPrintsSpec)) scriptPrintsCard

/-- THE SECOND FORM's CARD OF 'drystonelaw21.ScriptSizes'. -/
def scriptSizesUptoCard : Claim7 := { stood := { row := scriptSizesUptoRow, standIns := [], harness := (true, "e7a8df030ac5a50837a53f4178bdaa29220827cc93777a68fc8e597d8d71ed0c"), looks := true }, kinds := [], alts := [], laidByText := true, laidKinds := [.data, .data, .data, .data, .sentinel, .sentinel, .pinned], laidTests := true, laidLooks := .later }
def ScriptSizesUptoCardSaid : Prop := Claim7.holds Tryd.pinned (.plain (OpenSpec.upto scriptSizesSpec)) scriptSizesUptoCard

/-- THE SECOND FORM's CARD OF 'drystonelaw21.ScriptParses'. -/
def scriptParsesUptoCard : Claim7 := { stood := { row := scriptParsesUptoRow, standIns := [], harness := (true, "e7a8df030ac5a50837a53f4178bdaa29220827cc93777a68fc8e597d8d71ed0c"), looks := true }, kinds := [], alts := [], laidByText := true, laidKinds := [.data, .data, .data, .data, .sentinel, .sentinel, .pinned], laidTests := true, laidLooks := .later }
def ScriptParsesUptoCardSaid : Prop := Claim7.holds Tryd.pinned (.plain (OpenSpec.upto scriptParsesSpec)) scriptParsesUptoCard

/-- THE SECOND FORM's CARD OF 'drystonelaw21.ScriptSpoilt'. -/
def scriptSpoiltUptoCard : Claim7 := { stood := { row := scriptSpoiltUptoRow, standIns := [], harness := (true, "e7a8df030ac5a50837a53f4178bdaa29220827cc93777a68fc8e597d8d71ed0c"), looks := true }, kinds := [], alts := [], laidByText := true, laidKinds := [.data, .data, .data, .data, .sentinel, .sentinel, .pinned], laidTests := true, laidLooks := .later }
def ScriptSpoiltUptoCardSaid : Prop := Claim7.holds Tryd.pinned (.plain (OpenSpec.upto scriptSpoiltSpec)) scriptSpoiltUptoCard

/-- THE SECOND FORM's CARD OF 'drystonelaw21.ScriptLba'. -/
def scriptLbaUptoCard : Claim7 := { stood := { row := scriptLbaUptoRow, standIns := [], harness := (true, "e7a8df030ac5a50837a53f4178bdaa29220827cc93777a68fc8e597d8d71ed0c"), looks := true }, kinds := [], alts := [], laidByText := true, laidKinds := [.data, .data, .data, .data, .sentinel, .sentinel, .pinned], laidTests := true, laidLooks := .later }
def ScriptLbaUptoCardSaid : Prop := Claim7.holds Tryd.pinned (.plain (OpenSpec.upto scriptLbaSpec)) scriptLbaUptoCard

/-- THE SECOND FORM's CARD OF 'drystonelaw21.ScriptBlanks'. -/
def scriptBlanksUptoCard : Claim7 := { stood := { row := scriptBlanksUptoRow, standIns := [], harness := (true, "e7a8df030ac5a50837a53f4178bdaa29220827cc93777a68fc8e597d8d71ed0c"), looks := true }, kinds := [], alts := [], laidByText := true, laidKinds := [.data, .data, .data, .data, .sentinel, .sentinel, .pinned], laidTests := true, laidLooks := .later }
def ScriptBlanksUptoCardSaid : Prop := Claim7.holds Tryd.pinned (.plain (OpenSpec.upto scriptBlanksSpec)) scriptBlanksUptoCard

/-- THE SECOND FORM's CARD OF 'drystonelaw21.ScriptJoins'. -/
def scriptJoinsUptoCard : Claim7 := { stood := { row := scriptJoinsUptoRow, standIns := [], harness := (true, "e7a8df030ac5a50837a53f4178bdaa29220827cc93777a68fc8e597d8d71ed0c"), looks := true }, kinds := [], alts := [], laidByText := true, laidKinds := [.data, .data, .data, .data, .sentinel, .sentinel, .pinned], laidTests := true, laidLooks := .later }
def ScriptJoinsUptoCardSaid : Prop := Claim7.holds Tryd.pinned (.plain (OpenSpec.upto scriptJoinsSpec)) scriptJoinsUptoCard

/-- THE SECOND FORM's CARD OF 'drystonelaw21.ScriptPrints'. -/
def scriptPrintsUptoCard : Claim7 := { stood := { row := scriptPrintsUptoRow, standIns := [], harness := (true, "e7a8df030ac5a50837a53f4178bdaa29220827cc93777a68fc8e597d8d71ed0c"), looks := true }, kinds := [], alts := [], laidByText := true, laidKinds := [.data, .data, .data, .data, .sentinel, .sentinel, .pinned], laidTests := true, laidLooks := .later }
def ScriptPrintsUptoCardSaid : Prop := Claim7.holds Tryd.pinned (.plain (OpenSpec.upto scriptPrintsSpec)) scriptPrintsUptoCard
end Rows
end Go.Proofs.YtihkfklpoliilaaDoor
