/-
  DERIVED. GIVEN WITH THE SEED: THE CARDS: each row of YtnbjhgaaollhcaaDoorRows.lean that lists a variable, with what it lists TIED to the program's text (the seventh form; the later family's looks); each row that meets fmt, with fmt's text TOLD by the authors' own Lean function (tested against real Go, not proved from fmt's source: count such statements apart). THE CARD IS WHAT COUNTS. Prove the row's statement (the work); the ties are given (YtnbjhgaaollhcaaDoorTie.lean); close each card by the builder's one call (the guide's Derived/Test/ToyasCard.lean, 'card_holds'). Laid BY PROGRAM, IN A SANDBOX (cutbox-door.mjs). By AI agents, Wed Nov 11 2026. No macro, syntax, notation, axiom, sorry.
-/
import Derived.Test.YtnbjhgaaollhcaaDoorRows
import GoSem.ClaimSeven
namespace Go.Proofs.YtnbjhgaaollhcaaDoor
namespace Rows

/-- THE TIED CARD OF 'gantlinelaw05.NatPowers'. -/
def natPowersCard : Claim7 := { stood := { row := natPowersRow, standIns := [], harness := (true, "56afdb973796f71aab275ccadb88638c5450f93a8a93259d75fbcdc18f4028d1"), looks := false }, kinds := [], alts := [], laidByText := true, laidKinds := [.data, .pinned], laidTests := true, laidLooks := .later }
def NatPowersCardSaid : Prop := Claim7.holds Tryd.pinned (.plain (OpenSpec.ofChange natPowersSpec)) natPowersCard

/-- THE TIED CARD OF 'gantlinelaw05.NatDivs'. -/
def natDivsCard : Claim7 := { stood := { row := natDivsRow, standIns := [], harness := (true, "56afdb973796f71aab275ccadb88638c5450f93a8a93259d75fbcdc18f4028d1"), looks := false }, kinds := [], alts := [], laidByText := true, laidKinds := [.data, .pinned], laidTests := true, laidLooks := .later }
def NatDivsCardSaid : Prop := Claim7.holds Tryd.pinned (.plain (OpenSpec.ofChange natDivsSpec)) natDivsCard

/-- THE TIED CARD OF 'gantlinelaw05.NatBytes'. -/
def natBytesCard : Claim7 := { stood := { row := natBytesRow, standIns := [], harness := (true, "56afdb973796f71aab275ccadb88638c5450f93a8a93259d75fbcdc18f4028d1"), looks := false }, kinds := [], alts := [], laidByText := true, laidKinds := [.data, .pinned], laidTests := true, laidLooks := .later }
def NatBytesCardSaid : Prop := Claim7.holds Tryd.pinned (.plain (OpenSpec.ofChange natBytesSpec)) natBytesCard

/-- THE TIED CARD OF 'gantlinelaw05.NatBack'. -/
def natBackCard : Claim7 := { stood := { row := natBackRow, standIns := [], harness := (true, "56afdb973796f71aab275ccadb88638c5450f93a8a93259d75fbcdc18f4028d1"), looks := false }, kinds := [], alts := [], laidByText := true, laidKinds := [.data, .pinned], laidTests := true, laidLooks := .later }
def NatBackCardSaid : Prop := Claim7.holds Tryd.pinned (.plain (OpenSpec.ofChange natBackSpec)) natBackCard

/-- THE TIED CARD OF 'gantlinelaw05.NatWords'. -/
def natWordsCard : Claim7 := { stood := { row := natWordsRow, standIns := [], harness := (true, "56afdb973796f71aab275ccadb88638c5450f93a8a93259d75fbcdc18f4028d1"), looks := false }, kinds := [], alts := [], laidByText := true, laidKinds := [.data, .pinned], laidTests := true, laidLooks := .later }
def NatWordsCardSaid : Prop := Claim7.holds Tryd.pinned (.plain (OpenSpec.ofChange natWordsSpec)) natWordsCard

/-- THE TIED CARD OF 'gantlinelaw05.NatRest'. -/
def natRestCard : Claim7 := { stood := { row := natRestRow, standIns := [], harness := (true, "56afdb973796f71aab275ccadb88638c5450f93a8a93259d75fbcdc18f4028d1"), looks := false }, kinds := [], alts := [], laidByText := true, laidKinds := [.data, .pinned], laidTests := true, laidLooks := .later }
def NatRestCardSaid : Prop := Claim7.holds Tryd.pinned (.plain (OpenSpec.ofChange natRestSpec)) natRestCard

/-- THE TIED CARD OF 'gantlinelaw05.NatLaws'. -/
def natLawsCard : Claim7 := { stood := { row := natLawsRow, standIns := [], harness := (true, "56afdb973796f71aab275ccadb88638c5450f93a8a93259d75fbcdc18f4028d1"), looks := false }, kinds := [], alts := [], laidByText := true, laidKinds := [.data, .pinned], laidTests := true, laidLooks := .later }
def NatLawsCardSaid : Prop := Claim7.holds Tryd.pinned (.plain (OpenSpec.ofChange natLawsSpec)) natLawsCard

/-- THE TIED CARD OF 'gantlinelaw05.NatSums'. -/
def natSumsCard : Claim7 := { stood := { row := natSumsRow, standIns := [], harness := (true, "56afdb973796f71aab275ccadb88638c5450f93a8a93259d75fbcdc18f4028d1"), looks := false }, kinds := [], alts := [], laidByText := true, laidKinds := [.data, .pinned], laidTests := true, laidLooks := .later }
def NatSumsCardSaid : Prop := Claim7.holds Tryd.pinned (.plain (OpenSpec.ofChange natSumsSpec)) natSumsCard

/-- THE SECOND FORM's CARD OF 'gantlinelaw05.NatPowers'. -/
def natPowersUptoCard : Claim7 := { stood := { row := natPowersUptoRow, standIns := [], harness := (true, "56afdb973796f71aab275ccadb88638c5450f93a8a93259d75fbcdc18f4028d1"), looks := false }, kinds := [], alts := [], laidByText := true, laidKinds := [.data, .pinned], laidTests := true, laidLooks := .later }
def NatPowersUptoCardSaid : Prop := Claim7.holds Tryd.pinned (.plain (OpenSpec.upto natPowersSpec)) natPowersUptoCard

/-- THE SECOND FORM's CARD OF 'gantlinelaw05.NatDivs'. -/
def natDivsUptoCard : Claim7 := { stood := { row := natDivsUptoRow, standIns := [], harness := (true, "56afdb973796f71aab275ccadb88638c5450f93a8a93259d75fbcdc18f4028d1"), looks := false }, kinds := [], alts := [], laidByText := true, laidKinds := [.data, .pinned], laidTests := true, laidLooks := .later }
def NatDivsUptoCardSaid : Prop := Claim7.holds Tryd.pinned (.plain (OpenSpec.upto natDivsSpec)) natDivsUptoCard

/-- THE SECOND FORM's CARD OF 'gantlinelaw05.NatBytes'. -/
def natBytesUptoCard : Claim7 := { stood := { row := natBytesUptoRow, standIns := [], harness := (true, "56afdb973796f71aab275ccadb88638c5450f93a8a93259d75fbcdc18f4028d1"), looks := false }, kinds := [], alts := [], laidByText := true, laidKinds := [.data, .pinned], laidTests := true, laidLooks := .later }
def NatBytesUptoCardSaid : Prop := Claim7.holds Tryd.pinned (.plain (OpenSpec.upto natBytesSpec)) natBytesUptoCard

/-- THE SECOND FORM's CARD OF 'gantlinelaw05.NatBack'. -/
def natBackUptoCard : Claim7 := { stood := { row := natBackUptoRow, standIns := [], harness := (true, "56afdb973796f71aab275ccadb88638c5450f93a8a93259d75fbcdc18f4028d1"), looks := false }, kinds := [], alts := [], laidByText := true, laidKinds := [.data, .pinned], laidTests := true, laidLooks := .later }
def NatBackUptoCardSaid : Prop := Claim7.holds Tryd.pinned (.plain (OpenSpec.upto natBackSpec)) natBackUptoCard

/-- THE SECOND FORM's CARD OF 'gantlinelaw05.NatWords'. -/
def natWordsUptoCard : Claim7 := { stood := { row := natWordsUptoRow, standIns := [], harness := (true, "56afdb973796f71aab275ccadb88638c5450f93a8a93259d75fbcdc18f4028d1"), looks := false }, kinds := [], alts := [], laidByText := true, laidKinds := [.data, .pinned], laidTests := true, laidLooks := .later }
def NatWordsUptoCardSaid : Prop := Claim7.holds Tryd.pinned (.plain (OpenSpec.upto natWordsSpec)) natWordsUptoCard

/-- THE SECOND FORM's CARD OF 'gantlinelaw05.NatRest'. -/
def natRestUptoCard : Claim7 := { stood := { row := natRestUptoRow, standIns := [], harness := (true, "56afdb973796f71aab275ccadb88638c5450f93a8a93259d75fbcdc18f4028d1"), looks := false }, kinds := [], alts := [], laidByText := true, laidKinds := [.data, .pinned], laidTests := true, laidLooks := .later }
def NatRestUptoCardSaid : Prop := Claim7.holds Tryd.pinned (.plain (OpenSpec.upto natRestSpec)) natRestUptoCard

/-- THE SECOND FORM's CARD OF 'gantlinelaw05.NatLaws'. -/
def natLawsUptoCard : Claim7 := { stood := { row := natLawsUptoRow, standIns := [], harness := (true, "56afdb973796f71aab275ccadb88638c5450f93a8a93259d75fbcdc18f4028d1"), looks := false }, kinds := [], alts := [], laidByText := true, laidKinds := [.data, .pinned], laidTests := true, laidLooks := .later }
def NatLawsUptoCardSaid : Prop := Claim7.holds Tryd.pinned (.plain (OpenSpec.upto natLawsSpec)) natLawsUptoCard

/-- THE SECOND FORM's CARD OF 'gantlinelaw05.NatSums'. -/
def natSumsUptoCard : Claim7 := { stood := { row := natSumsUptoRow, standIns := [], harness := (true, "56afdb973796f71aab275ccadb88638c5450f93a8a93259d75fbcdc18f4028d1"), looks := false }, kinds := [], alts := [], laidByText := true, laidKinds := [.data, .pinned], laidTests := true, laidLooks := .later }
def NatSumsUptoCardSaid : Prop := Claim7.holds Tryd.pinned (.plain (OpenSpec.upto natSumsSpec)) natSumsUptoCard
end Rows
end Go.Proofs.YtnbjhgaaollhcaaDoor
