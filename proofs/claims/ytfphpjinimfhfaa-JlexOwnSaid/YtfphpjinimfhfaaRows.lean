/-
  No cell of these rows narrows 'for every input' (looked for: loops, veiled, ifaces, maps, wideKeys, modest, calm, conditions, laid).
  DERIVED. THE GIVEN ROWS OF THIS SEAT. 5 by the template 'for every input the law returns true; each argument reads behind the call as it read before'; 0 by the template 'total and deterministic' (their statements: YtfphpjinimfhfaaTotals.lean).
  GIVEN WITH THE SEED: the statements are not yours to turn. If you find one false, say at which input.
  Laid BY PROGRAM, IN A SANDBOX (cutbox-rows.mjs): the forced cells as the released guide's own fill.sh prints them over the translation d9f440402c28fdac… (all of the seat's roots in one cut). By AI agents, Wed Nov 11 2026. No macro, syntax, notation, axiom, sorry.
-/
import Derived.Test.YtfphpjinimfhfaaChecked
import GoSem.Claim
import GoSem.ClaimJoined
import GoSem.ClaimMapViews
import Derived.JoinedTies
import Derived.KernelRfl
namespace Go.Proofs.Ytfphpjinimfhfaa
/- THE CELL 'sum', in the pinned program and in every row, IS THE sha256 OF THE DUMP (.gsa) THAT YtfphpjinimfhfaaProg.lean LOADS. Nothing in Lean hashes anything: it is a label: what it is worth is what the hold of that sum in a sandbox is worth. -/
noncomputable def Try.pinned : Pinned := { name := "ytfphpjinimfhfaa", sum := "d9f440402c28fdacf1cb6821863fd6e2455968c60dcb4ee8cccaeb15da2d1d09", checked := Try.checked }
namespace Rows
def none {H : Type} : Left H := { results := [], args := [] }

/-- 'gantlinelaw09.JlexEscapes': WHATEVER THE INPUT: true; the input reads as it did. -/
def jlexEscapesSpec : ChangeSpec := { name := "jlexEscapes", fn := fun _ => fun
  | [d] => { results := [.lit (.bool true)], args := [d] }
  | _ => none }
def jlexEscapesRow : OpenClaim := { program := "ytfphpjinimfhfaa", sum := "d9f440402c28fdacf1cb6821863fd6e2455968c60dcb4ee8cccaeb15da2d1d09", func := "gantline/gantlinelaw09.JlexEscapes", spec := "jlexEscapes", inPlace := ["internal/abi.NoEscape", "internal/bytealg.IndexByteString"], apart := false }
def JlexEscapesSaid : Prop := jlexEscapesRow.holds Try.pinned (OpenSpec.ofChange jlexEscapesSpec)

/-- ITS FALSE NEIGHBOUR: 'it returns false'. Refute it at one input. -/
def jlexEscapesWrong : ChangeSpec := { name := "jlexEscapes", fn := fun _ => fun
  | [d] => { results := [.lit (.bool false)], args := [d] }
  | _ => none }
def JlexEscapesWrongFalsely : Prop := jlexEscapesRow.holds Try.pinned (OpenSpec.ofChange jlexEscapesWrong)

/-- 'gantlinelaw09.JlexGaps': WHATEVER THE INPUT: true; the input reads as it did. -/
def jlexGapsSpec : ChangeSpec := { name := "jlexGaps", fn := fun _ => fun
  | [d] => { results := [.lit (.bool true)], args := [d] }
  | _ => none }
def jlexGapsRow : OpenClaim := { program := "ytfphpjinimfhfaa", sum := "d9f440402c28fdacf1cb6821863fd6e2455968c60dcb4ee8cccaeb15da2d1d09", func := "gantline/gantlinelaw09.JlexGaps", spec := "jlexGaps", inPlace := ["internal/bytealg.IndexByteString", "internal/abi.NoEscape"], apart := false }
def JlexGapsSaid : Prop := jlexGapsRow.holds Try.pinned (OpenSpec.ofChange jlexGapsSpec)

/-- ITS FALSE NEIGHBOUR: 'it returns false'. Refute it at one input. -/
def jlexGapsWrong : ChangeSpec := { name := "jlexGaps", fn := fun _ => fun
  | [d] => { results := [.lit (.bool false)], args := [d] }
  | _ => none }
def JlexGapsWrongFalsely : Prop := jlexGapsRow.holds Try.pinned (OpenSpec.ofChange jlexGapsWrong)

/-- 'gantlinelaw09.JlexFirst': WHATEVER THE INPUT: true; the input reads as it did. -/
def jlexFirstSpec : ChangeSpec := { name := "jlexFirst", fn := fun _ => fun
  | [d1, d2] => { results := [.lit (.bool true)], args := [d1, d2] }
  | _ => none }
def jlexFirstRow : OpenClaim := { program := "ytfphpjinimfhfaa", sum := "d9f440402c28fdacf1cb6821863fd6e2455968c60dcb4ee8cccaeb15da2d1d09", func := "gantline/gantlinelaw09.JlexFirst", spec := "jlexFirst", inPlace := ["internal/bytealg.IndexByteString", "internal/abi.NoEscape"], apart := false }
def JlexFirstSaid : Prop := jlexFirstRow.holds Try.pinned (OpenSpec.ofChange jlexFirstSpec)

/-- ITS FALSE NEIGHBOUR: 'it returns false'. Refute it at one input. -/
def jlexFirstWrong : ChangeSpec := { name := "jlexFirst", fn := fun _ => fun
  | [d1, d2] => { results := [.lit (.bool false)], args := [d1, d2] }
  | _ => none }
def JlexFirstWrongFalsely : Prop := jlexFirstRow.holds Try.pinned (OpenSpec.ofChange jlexFirstWrong)

/-- 'gantlinelaw09.JlexOwn': WHATEVER THE INPUT: true; the input reads as it did. -/
def jlexOwnSpec : ChangeSpec := { name := "jlexOwn", fn := fun _ => fun
  | [d] => { results := [.lit (.bool true)], args := [d] }
  | _ => none }
def jlexOwnRow : OpenClaim := { program := "ytfphpjinimfhfaa", sum := "d9f440402c28fdacf1cb6821863fd6e2455968c60dcb4ee8cccaeb15da2d1d09", func := "gantline/gantlinelaw09.JlexOwn", spec := "jlexOwn", inPlace := ["internal/bytealg.IndexByteString", "internal/abi.NoEscape"], apart := false }
def JlexOwnSaid : Prop := jlexOwnRow.holds Try.pinned (OpenSpec.ofChange jlexOwnSpec)

/-- ITS FALSE NEIGHBOUR: 'it returns false'. Refute it at one input. -/
def jlexOwnWrong : ChangeSpec := { name := "jlexOwn", fn := fun _ => fun
  | [d] => { results := [.lit (.bool false)], args := [d] }
  | _ => none }
def JlexOwnWrongFalsely : Prop := jlexOwnRow.holds Try.pinned (OpenSpec.ofChange jlexOwnWrong)

/-- 'gantlinelaw09.JlexBack': WHATEVER THE INPUT: true; the input reads as it did. -/
def jlexBackSpec : ChangeSpec := { name := "jlexBack", fn := fun _ => fun
  | [d] => { results := [.lit (.bool true)], args := [d] }
  | _ => none }
def jlexBackRow : OpenClaim := { program := "ytfphpjinimfhfaa", sum := "d9f440402c28fdacf1cb6821863fd6e2455968c60dcb4ee8cccaeb15da2d1d09", func := "gantline/gantlinelaw09.JlexBack", spec := "jlexBack", inPlace := ["internal/abi.NoEscape", "internal/bytealg.IndexByteString"], apart := false }
def JlexBackSaid : Prop := jlexBackRow.holds Try.pinned (OpenSpec.ofChange jlexBackSpec)

/-- ITS FALSE NEIGHBOUR: 'it returns false'. Refute it at one input. -/
def jlexBackWrong : ChangeSpec := { name := "jlexBack", fn := fun _ => fun
  | [d] => { results := [.lit (.bool false)], args := [d] }
  | _ => none }
def JlexBackWrongFalsely : Prop := jlexBackRow.holds Try.pinned (OpenSpec.ofChange jlexBackWrong)

/- THE SECOND FORM. 'bulk': how many values and letters a reading holds, each counted each time it is reached (what is shared counts as often as it is met; a slice's spare places count too). A statement '..UptoSaid' is the law's where the arguments, and the package variables that the reading takes, are together of bulk at most 1048576: NARROWER than '..Said'. Prove '..Said' where nothing that the law and all that it calls make is longer than what came in: it says more and counts as full. Else prove '..UptoSaid'. A law counts once. -/
mutual
def uptoBulk {H : Type} : DataW H → Nat
  | .lit (.string bytes) => bytes.length + 1
  | .lit _ => 1
  | .nil => 1
  | .ptr d => uptoBulk d + 1
  | .slice elems spare => uptoBulkAll elems + uptoBulkAll spare + 1
  | .agg parts => uptoBulkAll parts + 1
  | .iface _ d => uptoBulk d + 1
  | .map entries => uptoBulkEntries entries + 1
  | .held _ => 1
def uptoBulkAll {H : Type} : List (DataW H) → Nat
  | [] => 0
  | d :: r => uptoBulk d + uptoBulkAll r
def uptoBulkEntries {H : Type} : List (Lit × DataW H) → Nat
  | [] => 0
  | x :: r => uptoBulkEntry x + uptoBulkEntries r
def uptoBulkEntry {H : Type} : Lit × DataW H → Nat
  | (.string bytes, d) => bytes.length + uptoBulk d + 1
  | (_, d) => uptoBulk d + 1
 end
def uptoSmall : (H : Type) → List (DataW H) → Bool := fun _ ds => decide (uptoBulkAll ds ≤ 1048576)
def OpenSpec.upto (s : _root_.Go.ChangeSpec) : _root_.Go.OpenSpec := { _root_.Go.OpenSpec.ofChange s with cond := some uptoSmall }

/-- 'gantlinelaw09.JlexEscapes', WHERE WHAT IT READS IS OF BULK AT MOST 1048576: true; the input reads as it did. -/
def jlexEscapesUptoRow : OpenClaim := { program := "ytfphpjinimfhfaa", sum := "d9f440402c28fdacf1cb6821863fd6e2455968c60dcb4ee8cccaeb15da2d1d09", func := "gantline/gantlinelaw09.JlexEscapes", spec := "jlexEscapes", inPlace := ["internal/abi.NoEscape", "internal/bytealg.IndexByteString"], apart := false, narrowed := true }
def JlexEscapesUptoSaid : Prop := jlexEscapesUptoRow.holds Try.pinned (OpenSpec.upto jlexEscapesSpec)

/-- 'gantlinelaw09.JlexGaps', WHERE WHAT IT READS IS OF BULK AT MOST 1048576: true; the input reads as it did. -/
def jlexGapsUptoRow : OpenClaim := { program := "ytfphpjinimfhfaa", sum := "d9f440402c28fdacf1cb6821863fd6e2455968c60dcb4ee8cccaeb15da2d1d09", func := "gantline/gantlinelaw09.JlexGaps", spec := "jlexGaps", inPlace := ["internal/bytealg.IndexByteString", "internal/abi.NoEscape"], apart := false, narrowed := true }
def JlexGapsUptoSaid : Prop := jlexGapsUptoRow.holds Try.pinned (OpenSpec.upto jlexGapsSpec)

/-- 'gantlinelaw09.JlexFirst', WHERE WHAT IT READS IS OF BULK AT MOST 1048576: true; the input reads as it did. -/
def jlexFirstUptoRow : OpenClaim := { program := "ytfphpjinimfhfaa", sum := "d9f440402c28fdacf1cb6821863fd6e2455968c60dcb4ee8cccaeb15da2d1d09", func := "gantline/gantlinelaw09.JlexFirst", spec := "jlexFirst", inPlace := ["internal/bytealg.IndexByteString", "internal/abi.NoEscape"], apart := false, narrowed := true }
def JlexFirstUptoSaid : Prop := jlexFirstUptoRow.holds Try.pinned (OpenSpec.upto jlexFirstSpec)

/-- 'gantlinelaw09.JlexOwn', WHERE WHAT IT READS IS OF BULK AT MOST 1048576: true; the input reads as it did. -/
def jlexOwnUptoRow : OpenClaim := { program := "ytfphpjinimfhfaa", sum := "d9f440402c28fdacf1cb6821863fd6e2455968c60dcb4ee8cccaeb15da2d1d09", func := "gantline/gantlinelaw09.JlexOwn", spec := "jlexOwn", inPlace := ["internal/bytealg.IndexByteString", "internal/abi.NoEscape"], apart := false, narrowed := true }
def JlexOwnUptoSaid : Prop := jlexOwnUptoRow.holds Try.pinned (OpenSpec.upto jlexOwnSpec)

/-- 'gantlinelaw09.JlexBack', WHERE WHAT IT READS IS OF BULK AT MOST 1048576: true; the input reads as it did. -/
def jlexBackUptoRow : OpenClaim := { program := "ytfphpjinimfhfaa", sum := "d9f440402c28fdacf1cb6821863fd6e2455968c60dcb4ee8cccaeb15da2d1d09", func := "gantline/gantlinelaw09.JlexBack", spec := "jlexBack", inPlace := ["internal/abi.NoEscape", "internal/bytealg.IndexByteString"], apart := false, narrowed := true }
def JlexBackUptoSaid : Prop := jlexBackUptoRow.holds Try.pinned (OpenSpec.upto jlexBackSpec)

end Rows
end Go.Proofs.Ytfphpjinimfhfaa
