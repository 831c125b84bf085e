/-
  DERIVED. GIVEN WITH THE SEED: THE CARDS: each row of YtiknkngdfdmkbaaDoorRows.lean that lists a variable, with what it lists TIED to the program's text (the seventh form; the later family's looks); each row that meets fmt, with fmt's text TOLD by the authors' own Lean function (tested against real Go, not proved from fmt's source: count such statements apart). THE CARD IS WHAT COUNTS. Prove the row's statement (the work); the ties are given (YtiknkngdfdmkbaaDoorTie.lean); close each card by the builder's one call (the guide's Derived/Test/ToyasCard.lean, 'card_holds'). Laid BY PROGRAM, IN A SANDBOX (cutbox-door.mjs). By AI agents, Wed Nov 11 2026. No macro, syntax, notation, axiom, sorry.
-/
import Derived.Test.YtiknkngdfdmkbaaDoorRows
import GoSem.ClaimSeven
namespace Go.Proofs.YtiknkngdfdmkbaaDoor
namespace Rows

/-- THE TIED CARD OF 'gantlinelaw15.LossBuilds'. -/
def lossBuildsCard : Claim7 := { stood := { row := lossBuildsRow, standIns := [], harness := (true, "805ac8c59633b355058f1cc04e43d11d912974a11f68fc850af7ea94ef25180b"), looks := false }, kinds := [], alts := [], laidByText := true, laidKinds := [.data, .data, .data], laidTests := true, laidLooks := .later }
def LossBuildsCardSaid : Prop := Claim7.holds Tryd.pinned (.plain (OpenSpec.ofChange lossBuildsSpec)) lossBuildsCard

/-- THE TIED CARD OF 'gantlinelaw15.LossSays'. -/
def lossSaysCard : Claim7 := { stood := { row := lossSaysRow, standIns := [], harness := (true, "805ac8c59633b355058f1cc04e43d11d912974a11f68fc850af7ea94ef25180b"), looks := false }, kinds := [], alts := [], laidByText := true, laidKinds := [.data, .data, .data], laidTests := true, laidLooks := .later }
def LossSaysCardSaid : Prop := Claim7.holds Tryd.pinned (.plain (OpenSpec.ofChange lossSaysSpec)) lossSaysCard

/-- THE TIED CARD OF 'gantlinelaw15.LossBack'. -/
def lossBackCard : Claim7 := { stood := { row := lossBackRow, standIns := [], harness := (true, "805ac8c59633b355058f1cc04e43d11d912974a11f68fc850af7ea94ef25180b"), looks := false }, kinds := [], alts := [], laidByText := true, laidKinds := [.data, .data, .data], laidTests := true, laidLooks := .later }
def LossBackCardSaid : Prop := Claim7.holds Tryd.pinned (.plain (OpenSpec.ofChange lossBackSpec)) lossBackCard

/-- THE TIED CARD OF 'gantlinelaw15.LossOne'. -/
def lossOneCard : Claim7 := { stood := { row := lossOneRow, standIns := [], harness := (true, "805ac8c59633b355058f1cc04e43d11d912974a11f68fc850af7ea94ef25180b"), looks := false }, kinds := [], alts := [], laidByText := true, laidKinds := [.data, .data, .data], laidTests := true, laidLooks := .later }
def LossOneCardSaid : Prop := Claim7.holds Tryd.pinned (.plain (OpenSpec.ofChange lossOneSpec)) lossOneCard

/-- THE TIED CARD OF 'gantlinelaw15.LossHeads'. -/
def lossHeadsCard : Claim7 := { stood := { row := lossHeadsRow, standIns := [], harness := (true, "805ac8c59633b355058f1cc04e43d11d912974a11f68fc850af7ea94ef25180b"), looks := false }, kinds := [], alts := [], laidByText := true, laidKinds := [.data, .data, .data], laidTests := true, laidLooks := .later }
def LossHeadsCardSaid : Prop := Claim7.holds Tryd.pinned (.plain (OpenSpec.ofChange lossHeadsSpec)) lossHeadsCard

/-- THE SECOND FORM's CARD OF 'gantlinelaw15.LossBuilds'. -/
def lossBuildsUptoCard : Claim7 := { stood := { row := lossBuildsUptoRow, standIns := [], harness := (true, "805ac8c59633b355058f1cc04e43d11d912974a11f68fc850af7ea94ef25180b"), looks := false }, kinds := [], alts := [], laidByText := true, laidKinds := [.data, .data, .data], laidTests := true, laidLooks := .later }
def LossBuildsUptoCardSaid : Prop := Claim7.holds Tryd.pinned (.plain (OpenSpec.upto lossBuildsSpec)) lossBuildsUptoCard

/-- THE SECOND FORM's CARD OF 'gantlinelaw15.LossSays'. -/
def lossSaysUptoCard : Claim7 := { stood := { row := lossSaysUptoRow, standIns := [], harness := (true, "805ac8c59633b355058f1cc04e43d11d912974a11f68fc850af7ea94ef25180b"), looks := false }, kinds := [], alts := [], laidByText := true, laidKinds := [.data, .data, .data], laidTests := true, laidLooks := .later }
def LossSaysUptoCardSaid : Prop := Claim7.holds Tryd.pinned (.plain (OpenSpec.upto lossSaysSpec)) lossSaysUptoCard

/-- THE SECOND FORM's CARD OF 'gantlinelaw15.LossBack'. -/
def lossBackUptoCard : Claim7 := { stood := { row := lossBackUptoRow, standIns := [], harness := (true, "805ac8c59633b355058f1cc04e43d11d912974a11f68fc850af7ea94ef25180b"), looks := false }, kinds := [], alts := [], laidByText := true, laidKinds := [.data, .data, .data], laidTests := true, laidLooks := .later }
def LossBackUptoCardSaid : Prop := Claim7.holds Tryd.pinned (.plain (OpenSpec.upto lossBackSpec)) lossBackUptoCard

/-- THE SECOND FORM's CARD OF 'gantlinelaw15.LossOne'. -/
def lossOneUptoCard : Claim7 := { stood := { row := lossOneUptoRow, standIns := [], harness := (true, "805ac8c59633b355058f1cc04e43d11d912974a11f68fc850af7ea94ef25180b"), looks := false }, kinds := [], alts := [], laidByText := true, laidKinds := [.data, .data, .data], laidTests := true, laidLooks := .later }
def LossOneUptoCardSaid : Prop := Claim7.holds Tryd.pinned (.plain (OpenSpec.upto lossOneSpec)) lossOneUptoCard

/-- THE SECOND FORM's CARD OF 'gantlinelaw15.LossHeads'. -/
def lossHeadsUptoCard : Claim7 := { stood := { row := lossHeadsUptoRow, standIns := [], harness := (true, "805ac8c59633b355058f1cc04e43d11d912974a11f68fc850af7ea94ef25180b"), looks := false }, kinds := [], alts := [], laidByText := true, laidKinds := [.data, .data, .data], laidTests := true, laidLooks := .later }
def LossHeadsUptoCardSaid : Prop := Claim7.holds Tryd.pinned (.plain (OpenSpec.upto lossHeadsSpec)) lossHeadsUptoCard
end Rows
end Go.Proofs.YtiknkngdfdmkbaaDoor
