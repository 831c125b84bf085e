/-
  No cell of these rows narrows 'for every input' (looked for: loops, veiled, ifaces, maps, wideKeys, modest, calm, conditions, laid).
  DERIVED. THE GIVEN ROWS OF THIS SEAT. 6 by the template 'for every input the law returns true; each argument reads behind the call as it read before'; 0 by the template 'total and deterministic' (their statements: YtkbfappjlolmaaaTotals.lean).
  GIVEN WITH THE SEED: the statements are not yours to turn. If you find one false, say at which input.
  Laid BY PROGRAM, IN A SANDBOX (cutbox-rows.mjs): the forced cells as the released guide's own fill.sh prints them over the translation 1806565dcd1cb39c… (all of the seat's roots in one cut). By AI agents, Wed Nov 11 2026. No macro, syntax, notation, axiom, sorry.
-/
import Derived.Test.YtkbfappjlolmaaaChecked
import GoSem.Claim
import GoSem.ClaimJoined
import GoSem.ClaimMapViews
import Derived.JoinedTies
import Derived.KernelRfl
namespace Go.Proofs.Ytkbfappjlolmaaa
/- THE CELL 'sum', in the pinned program and in every row, IS THE sha256 OF THE DUMP (.gsa) THAT YtkbfappjlolmaaaProg.lean LOADS. Nothing in Lean hashes anything: it is a label: what it is worth is what the hold of that sum in a sandbox is worth. -/
noncomputable def Try.pinned : Pinned := { name := "ytkbfappjlolmaaa", sum := "1806565dcd1cb39c9395c27b7d92ab9f04e54474e7b14b678657a7454a216c11", checked := Try.checked }
namespace Rows
def none {H : Type} : Left H := { results := [], args := [] }

/-- 'gantlinelaw02.CurOne': WHATEVER THE INPUT: true; the input reads as it did. -/
def curOneSpec : ChangeSpec := { name := "curOne", fn := fun _ => fun
  | [d] => { results := [.lit (.bool true)], args := [d] }
  | _ => none }
def curOneRow : OpenClaim := { program := "ytkbfappjlolmaaa", sum := "1806565dcd1cb39c9395c27b7d92ab9f04e54474e7b14b678657a7454a216c11", func := "gantline/gantlinelaw02.CurOne", spec := "curOne", apart := false }
def CurOneSaid : Prop := curOneRow.holds Try.pinned (OpenSpec.ofChange curOneSpec)

/-- ITS FALSE NEIGHBOUR: 'it returns false'. Refute it at one input. -/
def curOneWrong : ChangeSpec := { name := "curOne", fn := fun _ => fun
  | [d] => { results := [.lit (.bool false)], args := [d] }
  | _ => none }
def CurOneWrongFalsely : Prop := curOneRow.holds Try.pinned (OpenSpec.ofChange curOneWrong)

/-- 'gantlinelaw02.CurGrows': WHATEVER THE INPUT: true; the input reads as it did. -/
def curGrowsSpec : ChangeSpec := { name := "curGrows", fn := fun _ => fun
  | [d1, d2] => { results := [.lit (.bool true)], args := [d1, d2] }
  | _ => none }
def curGrowsRow : OpenClaim := { program := "ytkbfappjlolmaaa", sum := "1806565dcd1cb39c9395c27b7d92ab9f04e54474e7b14b678657a7454a216c11", func := "gantline/gantlinelaw02.CurGrows", spec := "curGrows", apart := false }
def CurGrowsSaid : Prop := curGrowsRow.holds Try.pinned (OpenSpec.ofChange curGrowsSpec)

/-- ITS FALSE NEIGHBOUR: 'it returns false'. Refute it at one input. -/
def curGrowsWrong : ChangeSpec := { name := "curGrows", fn := fun _ => fun
  | [d1, d2] => { results := [.lit (.bool false)], args := [d1, d2] }
  | _ => none }
def CurGrowsWrongFalsely : Prop := curGrowsRow.holds Try.pinned (OpenSpec.ofChange curGrowsWrong)

/-- 'gantlinelaw02.CurStays': WHATEVER THE INPUT: true; the input reads as it did. -/
def curStaysSpec : ChangeSpec := { name := "curStays", fn := fun _ => fun
  | [d1, d2] => { results := [.lit (.bool true)], args := [d1, d2] }
  | _ => none }
def curStaysRow : OpenClaim := { program := "ytkbfappjlolmaaa", sum := "1806565dcd1cb39c9395c27b7d92ab9f04e54474e7b14b678657a7454a216c11", func := "gantline/gantlinelaw02.CurStays", spec := "curStays", apart := false }
def CurStaysSaid : Prop := curStaysRow.holds Try.pinned (OpenSpec.ofChange curStaysSpec)

/-- ITS FALSE NEIGHBOUR: 'it returns false'. Refute it at one input. -/
def curStaysWrong : ChangeSpec := { name := "curStays", fn := fun _ => fun
  | [d1, d2] => { results := [.lit (.bool false)], args := [d1, d2] }
  | _ => none }
def CurStaysWrongFalsely : Prop := curStaysRow.holds Try.pinned (OpenSpec.ofChange curStaysWrong)

/-- 'gantlinelaw02.CurNobody': WHATEVER THE INPUT: true; the input reads as it did. -/
def curNobodySpec : ChangeSpec := { name := "curNobody", fn := fun _ => fun
  | [d1, d2] => { results := [.lit (.bool true)], args := [d1, d2] }
  | _ => none }
def curNobodyRow : OpenClaim := { program := "ytkbfappjlolmaaa", sum := "1806565dcd1cb39c9395c27b7d92ab9f04e54474e7b14b678657a7454a216c11", func := "gantline/gantlinelaw02.CurNobody", spec := "curNobody", apart := false }
def CurNobodySaid : Prop := curNobodyRow.holds Try.pinned (OpenSpec.ofChange curNobodySpec)

/-- ITS FALSE NEIGHBOUR: 'it returns false'. Refute it at one input. -/
def curNobodyWrong : ChangeSpec := { name := "curNobody", fn := fun _ => fun
  | [d1, d2] => { results := [.lit (.bool false)], args := [d1, d2] }
  | _ => none }
def CurNobodyWrongFalsely : Prop := curNobodyRow.holds Try.pinned (OpenSpec.ofChange curNobodyWrong)

/-- 'gantlinelaw02.CurWrites': WHATEVER THE INPUT: true; the input reads as it did. -/
def curWritesSpec : ChangeSpec := { name := "curWrites", fn := fun _ => fun
  | [d1, d2, d3] => { results := [.lit (.bool true)], args := [d1, d2, d3] }
  | _ => none }
def curWritesRow : OpenClaim := { program := "ytkbfappjlolmaaa", sum := "1806565dcd1cb39c9395c27b7d92ab9f04e54474e7b14b678657a7454a216c11", func := "gantline/gantlinelaw02.CurWrites", spec := "curWrites", apart := false }
def CurWritesSaid : Prop := curWritesRow.holds Try.pinned (OpenSpec.ofChange curWritesSpec)

/-- ITS FALSE NEIGHBOUR: 'it returns false'. Refute it at one input. -/
def curWritesWrong : ChangeSpec := { name := "curWrites", fn := fun _ => fun
  | [d1, d2, d3] => { results := [.lit (.bool false)], args := [d1, d2, d3] }
  | _ => none }
def CurWritesWrongFalsely : Prop := curWritesRow.holds Try.pinned (OpenSpec.ofChange curWritesWrong)

/-- 'gantlinelaw02.CurBack': WHATEVER THE INPUT: true; the input reads as it did. -/
def curBackSpec : ChangeSpec := { name := "curBack", fn := fun _ => fun
  | [d1, d2, d3] => { results := [.lit (.bool true)], args := [d1, d2, d3] }
  | _ => none }
def curBackRow : OpenClaim := { program := "ytkbfappjlolmaaa", sum := "1806565dcd1cb39c9395c27b7d92ab9f04e54474e7b14b678657a7454a216c11", func := "gantline/gantlinelaw02.CurBack", spec := "curBack", apart := false }
def CurBackSaid : Prop := curBackRow.holds Try.pinned (OpenSpec.ofChange curBackSpec)

/-- ITS FALSE NEIGHBOUR: 'it returns false'. Refute it at one input. -/
def curBackWrong : ChangeSpec := { name := "curBack", fn := fun _ => fun
  | [d1, d2, d3] => { results := [.lit (.bool false)], args := [d1, d2, d3] }
  | _ => none }
def CurBackWrongFalsely : Prop := curBackRow.holds Try.pinned (OpenSpec.ofChange curBackWrong)

/- THE SECOND FORM. 'bulk': how many values and letters a reading holds, each counted each time it is reached (what is shared counts as often as it is met; a slice's spare places count too). A statement '..UptoSaid' is the law's where the arguments, and the package variables that the reading takes, are together of bulk at most 1048576: NARROWER than '..Said'. Prove '..Said' where nothing that the law and all that it calls make is longer than what came in: it says more and counts as full. Else prove '..UptoSaid'. A law counts once. -/
mutual
def uptoBulk {H : Type} : DataW H → Nat
  | .lit (.string bytes) => bytes.length + 1
  | .lit _ => 1
  | .nil => 1
  | .ptr d => uptoBulk d + 1
  | .slice elems spare => uptoBulkAll elems + uptoBulkAll spare + 1
  | .agg parts => uptoBulkAll parts + 1
  | .iface _ d => uptoBulk d + 1
  | .map entries => uptoBulkEntries entries + 1
  | .held _ => 1
def uptoBulkAll {H : Type} : List (DataW H) → Nat
  | [] => 0
  | d :: r => uptoBulk d + uptoBulkAll r
def uptoBulkEntries {H : Type} : List (Lit × DataW H) → Nat
  | [] => 0
  | x :: r => uptoBulkEntry x + uptoBulkEntries r
def uptoBulkEntry {H : Type} : Lit × DataW H → Nat
  | (.string bytes, d) => bytes.length + uptoBulk d + 1
  | (_, d) => uptoBulk d + 1
 end
def uptoSmall : (H : Type) → List (DataW H) → Bool := fun _ ds => decide (uptoBulkAll ds ≤ 1048576)
def OpenSpec.upto (s : _root_.Go.ChangeSpec) : _root_.Go.OpenSpec := { _root_.Go.OpenSpec.ofChange s with cond := some uptoSmall }

/-- 'gantlinelaw02.CurOne', WHERE WHAT IT READS IS OF BULK AT MOST 1048576: true; the input reads as it did. -/
def curOneUptoRow : OpenClaim := { program := "ytkbfappjlolmaaa", sum := "1806565dcd1cb39c9395c27b7d92ab9f04e54474e7b14b678657a7454a216c11", func := "gantline/gantlinelaw02.CurOne", spec := "curOne", apart := false, narrowed := true }
def CurOneUptoSaid : Prop := curOneUptoRow.holds Try.pinned (OpenSpec.upto curOneSpec)

/-- 'gantlinelaw02.CurGrows', WHERE WHAT IT READS IS OF BULK AT MOST 1048576: true; the input reads as it did. -/
def curGrowsUptoRow : OpenClaim := { program := "ytkbfappjlolmaaa", sum := "1806565dcd1cb39c9395c27b7d92ab9f04e54474e7b14b678657a7454a216c11", func := "gantline/gantlinelaw02.CurGrows", spec := "curGrows", apart := false, narrowed := true }
def CurGrowsUptoSaid : Prop := curGrowsUptoRow.holds Try.pinned (OpenSpec.upto curGrowsSpec)

/-- 'gantlinelaw02.CurStays', WHERE WHAT IT READS IS OF BULK AT MOST 1048576: true; the input reads as it did. -/
def curStaysUptoRow : OpenClaim := { program := "ytkbfappjlolmaaa", sum := "1806565dcd1cb39c9395c27b7d92ab9f04e54474e7b14b678657a7454a216c11", func := "gantline/gantlinelaw02.CurStays", spec := "curStays", apart := false, narrowed := true }
def CurStaysUptoSaid : Prop := curStaysUptoRow.holds Try.pinned (OpenSpec.upto curStaysSpec)

/-- 'gantlinelaw02.CurNobody', WHERE WHAT IT READS IS OF BULK AT MOST 1048576: true; the input reads as it did. -/
def curNobodyUptoRow : OpenClaim := { program := "ytkbfappjlolmaaa", sum := "1806565dcd1cb39c9395c27b7d92ab9f04e54474e7b14b678657a7454a216c11", func := "gantline/gantlinelaw02.CurNobody", spec := "curNobody", apart := false, narrowed := true }
def CurNobodyUptoSaid : Prop := curNobodyUptoRow.holds Try.pinned (OpenSpec.upto curNobodySpec)

/-- 'gantlinelaw02.CurWrites', WHERE WHAT IT READS IS OF BULK AT MOST 1048576: true; the input reads as it did. -/
def curWritesUptoRow : OpenClaim := { program := "ytkbfappjlolmaaa", sum := "1806565dcd1cb39c9395c27b7d92ab9f04e54474e7b14b678657a7454a216c11", func := "gantline/gantlinelaw02.CurWrites", spec := "curWrites", apart := false, narrowed := true }
def CurWritesUptoSaid : Prop := curWritesUptoRow.holds Try.pinned (OpenSpec.upto curWritesSpec)

/-- 'gantlinelaw02.CurBack', WHERE WHAT IT READS IS OF BULK AT MOST 1048576: true; the input reads as it did. -/
def curBackUptoRow : OpenClaim := { program := "ytkbfappjlolmaaa", sum := "1806565dcd1cb39c9395c27b7d92ab9f04e54474e7b14b678657a7454a216c11", func := "gantline/gantlinelaw02.CurBack", spec := "curBack", apart := false, narrowed := true }
def CurBackUptoSaid : Prop := curBackUptoRow.holds Try.pinned (OpenSpec.upto curBackSpec)

end Rows
end Go.Proofs.Ytkbfappjlolmaaa
