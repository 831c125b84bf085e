/-
  No cell of these rows narrows 'for every input' (looked for: loops, veiled, ifaces, maps, wideKeys, modest, calm, conditions, laid).
  DERIVED. THE GIVEN ROWS OF THIS SEAT. 7 by the template 'for every input the law returns true; each argument reads behind the call as it read before'; 0 by the template 'total and deterministic' (their statements: YtbmkphebmelgdaaTotals.lean).
  GIVEN WITH THE SEED: the statements are not yours to turn. If you find one false, say at which input.
  Laid BY PROGRAM, IN A SANDBOX (cutbox-rows.mjs): the forced cells as the released guide's own fill.sh prints them over the translation 4073cbf2e13de312… (all of the seat's roots in one cut). By AI agents, Wed Nov 11 2026. No macro, syntax, notation, axiom, sorry.
-/
import Derived.Test.YtbmkphebmelgdaaChecked
import GoSem.Claim
import GoSem.ClaimJoined
import GoSem.ClaimMapViews
import Derived.JoinedTies
import Derived.KernelRfl
namespace Go.Proofs.Ytbmkphebmelgdaa
/- THE CELL 'sum', in the pinned program and in every row, IS THE sha256 OF THE DUMP (.gsa) THAT YtbmkphebmelgdaaProg.lean LOADS. Nothing in Lean hashes anything: it is a label: what it is worth is what the hold of that sum in a sandbox is worth. -/
noncomputable def Try.pinned : Pinned := { name := "ytbmkphebmelgdaa", sum := "4073cbf2e13de312013353269f835e0abdf43f5f0b598b188562d20212a065d9", checked := Try.checked }
namespace Rows
def none {H : Type} : Left H := { results := [], args := [] }

/-- 'gantlinelaw04.UtfPuts': WHATEVER THE INPUT: true; the input reads as it did. -/
def utfPutsSpec : ChangeSpec := { name := "utfPuts", fn := fun _ => fun
  | [d1, d2] => { results := [.lit (.bool true)], args := [d1, d2] }
  | _ => none }
def utfPutsRow : OpenClaim := { program := "ytbmkphebmelgdaa", sum := "4073cbf2e13de312013353269f835e0abdf43f5f0b598b188562d20212a065d9", func := "gantline/gantlinelaw04.UtfPuts", spec := "utfPuts", apart := false }
def UtfPutsSaid : Prop := utfPutsRow.holds Try.pinned (OpenSpec.ofChange utfPutsSpec)

/-- ITS FALSE NEIGHBOUR: 'it returns false'. Refute it at one input. -/
def utfPutsWrong : ChangeSpec := { name := "utfPuts", fn := fun _ => fun
  | [d1, d2] => { results := [.lit (.bool false)], args := [d1, d2] }
  | _ => none }
def UtfPutsWrongFalsely : Prop := utfPutsRow.holds Try.pinned (OpenSpec.ofChange utfPutsWrong)

/-- 'gantlinelaw04.UtfBoth': WHATEVER THE INPUT: true; the input reads as it did. -/
def utfBothSpec : ChangeSpec := { name := "utfBoth", fn := fun _ => fun
  | [d1, d2] => { results := [.lit (.bool true)], args := [d1, d2] }
  | _ => none }
def utfBothRow : OpenClaim := { program := "ytbmkphebmelgdaa", sum := "4073cbf2e13de312013353269f835e0abdf43f5f0b598b188562d20212a065d9", func := "gantline/gantlinelaw04.UtfBoth", spec := "utfBoth", apart := false }
def UtfBothSaid : Prop := utfBothRow.holds Try.pinned (OpenSpec.ofChange utfBothSpec)

/-- ITS FALSE NEIGHBOUR: 'it returns false'. Refute it at one input. -/
def utfBothWrong : ChangeSpec := { name := "utfBoth", fn := fun _ => fun
  | [d1, d2] => { results := [.lit (.bool false)], args := [d1, d2] }
  | _ => none }
def UtfBothWrongFalsely : Prop := utfBothRow.holds Try.pinned (OpenSpec.ofChange utfBothWrong)

/-- 'gantlinelaw04.UtfFirst': WHATEVER THE INPUT: true; the input reads as it did. -/
def utfFirstSpec : ChangeSpec := { name := "utfFirst", fn := fun _ => fun
  | [d1, d2] => { results := [.lit (.bool true)], args := [d1, d2] }
  | _ => none }
def utfFirstRow : OpenClaim := { program := "ytbmkphebmelgdaa", sum := "4073cbf2e13de312013353269f835e0abdf43f5f0b598b188562d20212a065d9", func := "gantline/gantlinelaw04.UtfFirst", spec := "utfFirst", apart := false }
def UtfFirstSaid : Prop := utfFirstRow.holds Try.pinned (OpenSpec.ofChange utfFirstSpec)

/-- ITS FALSE NEIGHBOUR: 'it returns false'. Refute it at one input. -/
def utfFirstWrong : ChangeSpec := { name := "utfFirst", fn := fun _ => fun
  | [d1, d2] => { results := [.lit (.bool false)], args := [d1, d2] }
  | _ => none }
def UtfFirstWrongFalsely : Prop := utfFirstRow.holds Try.pinned (OpenSpec.ofChange utfFirstWrong)

/-- 'gantlinelaw04.UtfGo': WHATEVER THE INPUT: true; the input reads as it did. -/
def utfGoSpec : ChangeSpec := { name := "utfGo", fn := fun _ => fun
  | [d] => { results := [.lit (.bool true)], args := [d] }
  | _ => none }
def utfGoRow : OpenClaim := { program := "ytbmkphebmelgdaa", sum := "4073cbf2e13de312013353269f835e0abdf43f5f0b598b188562d20212a065d9", func := "gantline/gantlinelaw04.UtfGo", spec := "utfGo", apart := false }
def UtfGoSaid : Prop := utfGoRow.holds Try.pinned (OpenSpec.ofChange utfGoSpec)

/-- ITS FALSE NEIGHBOUR: 'it returns false'. Refute it at one input. -/
def utfGoWrong : ChangeSpec := { name := "utfGo", fn := fun _ => fun
  | [d] => { results := [.lit (.bool false)], args := [d] }
  | _ => none }
def UtfGoWrongFalsely : Prop := utfGoRow.holds Try.pinned (OpenSpec.ofChange utfGoWrong)

/-- 'gantlinelaw04.UtfReads': WHATEVER THE INPUT: true; the input reads as it did. -/
def utfReadsSpec : ChangeSpec := { name := "utfReads", fn := fun _ => fun
  | [d] => { results := [.lit (.bool true)], args := [d] }
  | _ => none }
def utfReadsRow : OpenClaim := { program := "ytbmkphebmelgdaa", sum := "4073cbf2e13de312013353269f835e0abdf43f5f0b598b188562d20212a065d9", func := "gantline/gantlinelaw04.UtfReads", spec := "utfReads", apart := false }
def UtfReadsSaid : Prop := utfReadsRow.holds Try.pinned (OpenSpec.ofChange utfReadsSpec)

/-- ITS FALSE NEIGHBOUR: 'it returns false'. Refute it at one input. -/
def utfReadsWrong : ChangeSpec := { name := "utfReads", fn := fun _ => fun
  | [d] => { results := [.lit (.bool false)], args := [d] }
  | _ => none }
def UtfReadsWrongFalsely : Prop := utfReadsRow.holds Try.pinned (OpenSpec.ofChange utfReadsWrong)

/-- 'gantlinelaw04.UtfBack': WHATEVER THE INPUT: true; the input reads as it did. -/
def utfBackSpec : ChangeSpec := { name := "utfBack", fn := fun _ => fun
  | [d] => { results := [.lit (.bool true)], args := [d] }
  | _ => none }
def utfBackRow : OpenClaim := { program := "ytbmkphebmelgdaa", sum := "4073cbf2e13de312013353269f835e0abdf43f5f0b598b188562d20212a065d9", func := "gantline/gantlinelaw04.UtfBack", spec := "utfBack", apart := false }
def UtfBackSaid : Prop := utfBackRow.holds Try.pinned (OpenSpec.ofChange utfBackSpec)

/-- ITS FALSE NEIGHBOUR: 'it returns false'. Refute it at one input. -/
def utfBackWrong : ChangeSpec := { name := "utfBack", fn := fun _ => fun
  | [d] => { results := [.lit (.bool false)], args := [d] }
  | _ => none }
def UtfBackWrongFalsely : Prop := utfBackRow.holds Try.pinned (OpenSpec.ofChange utfBackWrong)

/-- 'gantlinelaw04.UtfNexts': WHATEVER THE INPUT: true; the input reads as it did. -/
def utfNextsSpec : ChangeSpec := { name := "utfNexts", fn := fun _ => fun
  | [d] => { results := [.lit (.bool true)], args := [d] }
  | _ => none }
def utfNextsRow : OpenClaim := { program := "ytbmkphebmelgdaa", sum := "4073cbf2e13de312013353269f835e0abdf43f5f0b598b188562d20212a065d9", func := "gantline/gantlinelaw04.UtfNexts", spec := "utfNexts", apart := false }
def UtfNextsSaid : Prop := utfNextsRow.holds Try.pinned (OpenSpec.ofChange utfNextsSpec)

/-- ITS FALSE NEIGHBOUR: 'it returns false'. Refute it at one input. -/
def utfNextsWrong : ChangeSpec := { name := "utfNexts", fn := fun _ => fun
  | [d] => { results := [.lit (.bool false)], args := [d] }
  | _ => none }
def UtfNextsWrongFalsely : Prop := utfNextsRow.holds Try.pinned (OpenSpec.ofChange utfNextsWrong)

/- THE SECOND FORM. 'bulk': how many values and letters a reading holds, each counted each time it is reached (what is shared counts as often as it is met; a slice's spare places count too). A statement '..UptoSaid' is the law's where the arguments, and the package variables that the reading takes, are together of bulk at most 1048576: NARROWER than '..Said'. Prove '..Said' where nothing that the law and all that it calls make is longer than what came in: it says more and counts as full. Else prove '..UptoSaid'. A law counts once. -/
mutual
def uptoBulk {H : Type} : DataW H → Nat
  | .lit (.string bytes) => bytes.length + 1
  | .lit _ => 1
  | .nil => 1
  | .ptr d => uptoBulk d + 1
  | .slice elems spare => uptoBulkAll elems + uptoBulkAll spare + 1
  | .agg parts => uptoBulkAll parts + 1
  | .iface _ d => uptoBulk d + 1
  | .map entries => uptoBulkEntries entries + 1
  | .held _ => 1
def uptoBulkAll {H : Type} : List (DataW H) → Nat
  | [] => 0
  | d :: r => uptoBulk d + uptoBulkAll r
def uptoBulkEntries {H : Type} : List (Lit × DataW H) → Nat
  | [] => 0
  | x :: r => uptoBulkEntry x + uptoBulkEntries r
def uptoBulkEntry {H : Type} : Lit × DataW H → Nat
  | (.string bytes, d) => bytes.length + uptoBulk d + 1
  | (_, d) => uptoBulk d + 1
 end
def uptoSmall : (H : Type) → List (DataW H) → Bool := fun _ ds => decide (uptoBulkAll ds ≤ 1048576)
def OpenSpec.upto (s : _root_.Go.ChangeSpec) : _root_.Go.OpenSpec := { _root_.Go.OpenSpec.ofChange s with cond := some uptoSmall }

/-- 'gantlinelaw04.UtfPuts', WHERE WHAT IT READS IS OF BULK AT MOST 1048576: true; the input reads as it did. -/
def utfPutsUptoRow : OpenClaim := { program := "ytbmkphebmelgdaa", sum := "4073cbf2e13de312013353269f835e0abdf43f5f0b598b188562d20212a065d9", func := "gantline/gantlinelaw04.UtfPuts", spec := "utfPuts", apart := false, narrowed := true }
def UtfPutsUptoSaid : Prop := utfPutsUptoRow.holds Try.pinned (OpenSpec.upto utfPutsSpec)

/-- 'gantlinelaw04.UtfBoth', WHERE WHAT IT READS IS OF BULK AT MOST 1048576: true; the input reads as it did. -/
def utfBothUptoRow : OpenClaim := { program := "ytbmkphebmelgdaa", sum := "4073cbf2e13de312013353269f835e0abdf43f5f0b598b188562d20212a065d9", func := "gantline/gantlinelaw04.UtfBoth", spec := "utfBoth", apart := false, narrowed := true }
def UtfBothUptoSaid : Prop := utfBothUptoRow.holds Try.pinned (OpenSpec.upto utfBothSpec)

/-- 'gantlinelaw04.UtfFirst', WHERE WHAT IT READS IS OF BULK AT MOST 1048576: true; the input reads as it did. -/
def utfFirstUptoRow : OpenClaim := { program := "ytbmkphebmelgdaa", sum := "4073cbf2e13de312013353269f835e0abdf43f5f0b598b188562d20212a065d9", func := "gantline/gantlinelaw04.UtfFirst", spec := "utfFirst", apart := false, narrowed := true }
def UtfFirstUptoSaid : Prop := utfFirstUptoRow.holds Try.pinned (OpenSpec.upto utfFirstSpec)

/-- 'gantlinelaw04.UtfGo', WHERE WHAT IT READS IS OF BULK AT MOST 1048576: true; the input reads as it did. -/
def utfGoUptoRow : OpenClaim := { program := "ytbmkphebmelgdaa", sum := "4073cbf2e13de312013353269f835e0abdf43f5f0b598b188562d20212a065d9", func := "gantline/gantlinelaw04.UtfGo", spec := "utfGo", apart := false, narrowed := true }
def UtfGoUptoSaid : Prop := utfGoUptoRow.holds Try.pinned (OpenSpec.upto utfGoSpec)

/-- 'gantlinelaw04.UtfReads', WHERE WHAT IT READS IS OF BULK AT MOST 1048576: true; the input reads as it did. -/
def utfReadsUptoRow : OpenClaim := { program := "ytbmkphebmelgdaa", sum := "4073cbf2e13de312013353269f835e0abdf43f5f0b598b188562d20212a065d9", func := "gantline/gantlinelaw04.UtfReads", spec := "utfReads", apart := false, narrowed := true }
def UtfReadsUptoSaid : Prop := utfReadsUptoRow.holds Try.pinned (OpenSpec.upto utfReadsSpec)

/-- 'gantlinelaw04.UtfBack', WHERE WHAT IT READS IS OF BULK AT MOST 1048576: true; the input reads as it did. -/
def utfBackUptoRow : OpenClaim := { program := "ytbmkphebmelgdaa", sum := "4073cbf2e13de312013353269f835e0abdf43f5f0b598b188562d20212a065d9", func := "gantline/gantlinelaw04.UtfBack", spec := "utfBack", apart := false, narrowed := true }
def UtfBackUptoSaid : Prop := utfBackUptoRow.holds Try.pinned (OpenSpec.upto utfBackSpec)

/-- 'gantlinelaw04.UtfNexts', WHERE WHAT IT READS IS OF BULK AT MOST 1048576: true; the input reads as it did. -/
def utfNextsUptoRow : OpenClaim := { program := "ytbmkphebmelgdaa", sum := "4073cbf2e13de312013353269f835e0abdf43f5f0b598b188562d20212a065d9", func := "gantline/gantlinelaw04.UtfNexts", spec := "utfNexts", apart := false, narrowed := true }
def UtfNextsUptoSaid : Prop := utfNextsUptoRow.holds Try.pinned (OpenSpec.upto utfNextsSpec)

end Rows
end Go.Proofs.Ytbmkphebmelgdaa
