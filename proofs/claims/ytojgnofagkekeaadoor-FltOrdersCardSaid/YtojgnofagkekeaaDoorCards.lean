/-
  DERIVED. GIVEN WITH THE SEED: THE CARDS: each row of YtojgnofagkekeaaDoorRows.lean that lists a variable, with what it lists TIED to the program's text (the seventh form; the later family's looks); each row that meets fmt, with fmt's text TOLD by the authors' own Lean function (tested against real Go, not proved from fmt's source: count such statements apart). THE CARD IS WHAT COUNTS. Prove the row's statement (the work); the ties are given (YtojgnofagkekeaaDoorTie.lean); close each card by the builder's one call (the guide's Derived/Test/ToyasCard.lean, 'card_holds'). Laid BY PROGRAM, IN A SANDBOX (cutbox-door.mjs). By AI agents, Wed Nov 11 2026. No macro, syntax, notation, axiom, sorry.
-/
import Derived.Test.YtojgnofagkekeaaDoorRows
import GoSem.ClaimSeven
namespace Go.Proofs.YtojgnofagkekeaaDoor
namespace Rows

/-- THE TIED CARD OF 'gantlinelaw07.FltWidens'. -/
def fltWidensCard : Claim7 := { stood := { row := fltWidensRow, standIns := [], harness := (true, "a156387c4e52ab0beceb451bbe05f0dded7d281170c9b2a24caa97405ef8261d"), looks := false }, kinds := [], alts := [], laidByText := true, laidKinds := [.data, .data, .pinned], laidTests := true, laidLooks := .later }
def FltWidensCardSaid : Prop := Claim7.holds Tryd.pinned (.plain (OpenSpec.ofChange fltWidensSpec)) fltWidensCard

/-- THE TIED CARD OF 'gantlinelaw07.FltNarrows'. -/
def fltNarrowsCard : Claim7 := { stood := { row := fltNarrowsRow, standIns := [], harness := (true, "a156387c4e52ab0beceb451bbe05f0dded7d281170c9b2a24caa97405ef8261d"), looks := false }, kinds := [], alts := [], laidByText := true, laidKinds := [.data, .data, .pinned], laidTests := true, laidLooks := .later }
def FltNarrowsCardSaid : Prop := Claim7.holds Tryd.pinned (.plain (OpenSpec.ofChange fltNarrowsSpec)) fltNarrowsCard

/-- THE TIED CARD OF 'gantlinelaw07.FltBack'. -/
def fltBackCard : Claim7 := { stood := { row := fltBackRow, standIns := [], harness := (true, "a156387c4e52ab0beceb451bbe05f0dded7d281170c9b2a24caa97405ef8261d"), looks := false }, kinds := [], alts := [], laidByText := true, laidKinds := [.data, .data, .pinned], laidTests := true, laidLooks := .later }
def FltBackCardSaid : Prop := Claim7.holds Tryd.pinned (.plain (OpenSpec.ofChange fltBackSpec)) fltBackCard

/-- THE TIED CARD OF 'gantlinelaw07.FltOrders'. -/
def fltOrdersCard : Claim7 := { stood := { row := fltOrdersRow, standIns := [], harness := (true, "a156387c4e52ab0beceb451bbe05f0dded7d281170c9b2a24caa97405ef8261d"), looks := false }, kinds := [], alts := [], laidByText := true, laidKinds := [.data, .data, .pinned], laidTests := true, laidLooks := .later }
def FltOrdersCardSaid : Prop := Claim7.holds Tryd.pinned (.plain (OpenSpec.ofChange fltOrdersSpec)) fltOrdersCard

/-- THE TIED CARD OF 'gantlinelaw07.FltExact'. -/
def fltExactCard : Claim7 := { stood := { row := fltExactRow, standIns := [], harness := (true, "a156387c4e52ab0beceb451bbe05f0dded7d281170c9b2a24caa97405ef8261d"), looks := false }, kinds := [], alts := [], laidByText := true, laidKinds := [.data, .data, .pinned], laidTests := true, laidLooks := .later }
def FltExactCardSaid : Prop := Claim7.holds Tryd.pinned (.plain (OpenSpec.ofChange fltExactSpec)) fltExactCard

/-- THE TIED CARD OF 'gantlinelaw07.FltSigns'. -/
def fltSignsCard : Claim7 := { stood := { row := fltSignsRow, standIns := [], harness := (true, "a156387c4e52ab0beceb451bbe05f0dded7d281170c9b2a24caa97405ef8261d"), looks := false }, kinds := [], alts := [], laidByText := true, laidKinds := [.data, .data, .pinned], laidTests := true, laidLooks := .later }
def FltSignsCardSaid : Prop := Claim7.holds Tryd.pinned (.plain (OpenSpec.ofChange fltSignsSpec)) fltSignsCard

/-- THE SECOND FORM's CARD OF 'gantlinelaw07.FltWidens'. -/
def fltWidensUptoCard : Claim7 := { stood := { row := fltWidensUptoRow, standIns := [], harness := (true, "a156387c4e52ab0beceb451bbe05f0dded7d281170c9b2a24caa97405ef8261d"), looks := false }, kinds := [], alts := [], laidByText := true, laidKinds := [.data, .data, .pinned], laidTests := true, laidLooks := .later }
def FltWidensUptoCardSaid : Prop := Claim7.holds Tryd.pinned (.plain (OpenSpec.upto fltWidensSpec)) fltWidensUptoCard

/-- THE SECOND FORM's CARD OF 'gantlinelaw07.FltNarrows'. -/
def fltNarrowsUptoCard : Claim7 := { stood := { row := fltNarrowsUptoRow, standIns := [], harness := (true, "a156387c4e52ab0beceb451bbe05f0dded7d281170c9b2a24caa97405ef8261d"), looks := false }, kinds := [], alts := [], laidByText := true, laidKinds := [.data, .data, .pinned], laidTests := true, laidLooks := .later }
def FltNarrowsUptoCardSaid : Prop := Claim7.holds Tryd.pinned (.plain (OpenSpec.upto fltNarrowsSpec)) fltNarrowsUptoCard

/-- THE SECOND FORM's CARD OF 'gantlinelaw07.FltBack'. -/
def fltBackUptoCard : Claim7 := { stood := { row := fltBackUptoRow, standIns := [], harness := (true, "a156387c4e52ab0beceb451bbe05f0dded7d281170c9b2a24caa97405ef8261d"), looks := false }, kinds := [], alts := [], laidByText := true, laidKinds := [.data, .data, .pinned], laidTests := true, laidLooks := .later }
def FltBackUptoCardSaid : Prop := Claim7.holds Tryd.pinned (.plain (OpenSpec.upto fltBackSpec)) fltBackUptoCard

/-- THE SECOND FORM's CARD OF 'gantlinelaw07.FltOrders'. -/
def fltOrdersUptoCard : Claim7 := { stood := { row := fltOrdersUptoRow, standIns := [], harness := (true, "a156387c4e52ab0beceb451bbe05f0dded7d281170c9b2a24caa97405ef8261d"), looks := false }, kinds := [], alts := [], laidByText := true, laidKinds := [.data, .data, .pinned], laidTests := true, laidLooks := .later }
def FltOrdersUptoCardSaid : Prop := Claim7.holds Tryd.pinned (.plain (OpenSpec.upto fltOrdersSpec)) fltOrdersUptoCard

/-- THE SECOND FORM's CARD OF 'gantlinelaw07.FltExact'. -/
def fltExactUptoCard : Claim7 := { stood := { row := fltExactUptoRow, standIns := [], harness := (true, "a156387c4e52ab0beceb451bbe05f0dded7d281170c9b2a24caa97405ef8261d"), looks := false }, kinds := [], alts := [], laidByText := true, laidKinds := [.data, .data, .pinned], laidTests := true, laidLooks := .later }
def FltExactUptoCardSaid : Prop := Claim7.holds Tryd.pinned (.plain (OpenSpec.upto fltExactSpec)) fltExactUptoCard

/-- THE SECOND FORM's CARD OF 'gantlinelaw07.FltSigns'. -/
def fltSignsUptoCard : Claim7 := { stood := { row := fltSignsUptoRow, standIns := [], harness := (true, "a156387c4e52ab0beceb451bbe05f0dded7d281170c9b2a24caa97405ef8261d"), looks := false }, kinds := [], alts := [], laidByText := true, laidKinds := [.data, .data, .pinned], laidTests := true, laidLooks := .later }
def FltSignsUptoCardSaid : Prop := Claim7.holds Tryd.pinned (.plain (OpenSpec.upto fltSignsSpec)) fltSignsUptoCard
end Rows
end Go.Proofs.YtojgnofagkekeaaDoor
