/-
  NARROWER THAN 'FOR EVERY INPUT', by the rows' own cells (each row's printed sentence says how): LossBuilds: laid · LossSays: laid · LossBack: laid · LossOne: laid · LossHeads: laid.
  DERIVED. THE GIVEN ROWS OF THIS SEAT. 5 by the template 'for every input the law returns true; each argument reads behind the call as it read before'; 0 by the template 'total and deterministic' (their statements: YtiknkngdfdmkbaaDoorTotals.lean).
  GIVEN WITH THE SEED: the statements are not yours to turn. If you find one false, say at which input.
  Laid BY PROGRAM, IN A SANDBOX (cutbox-rows.mjs): the forced cells as the released guide's own fill.sh prints them over the translation ef77825b149594ee… (all of the seat's roots in one cut). By AI agents, Wed Nov 11 2026. No macro, syntax, notation, axiom, sorry.
-/
import Derived.Test.YtiknkngdfdmkbaaDoorChecked
import GoSem.Claim
import GoSem.ClaimJoined
import GoSem.ClaimMapViews
import Derived.JoinedTies
import Derived.KernelRfl
namespace Go.Proofs.YtiknkngdfdmkbaaDoor
/- THE CELL 'sum', in the pinned program and in every row, IS THE sha256 OF THE DUMP (.gsa) THAT YtiknkngdfdmkbaaDoorProg.lean LOADS. Nothing in Lean hashes anything: it is a label: what it is worth is what the hold of that sum in a sandbox is worth. -/
noncomputable def Tryd.pinned : Pinned := { name := "ytiknkngdfdmkbaadoor", sum := "ef77825b149594ee19b33cf2efadc5bc4e79baa5e49d12d55cbb55392da498b4", checked := Tryd.checked }
namespace Rows
def none {H : Type} : Left H := { results := [], args := [] }

/- WHAT THE LISTED PACKAGE-LEVEL VARIABLES READ AS WHEN THE CALL BEGINS. Each datum BY PROGRAM (the guide's laid-datum.mjs) off the statement by which the dump's own 'gosem.cut.vars' lays the variable. In a bare row this is a premise. The card (YtiknkngdfdmkbaaDoorCards.lean) ties it to the program's text. -/
def laid_math_bits_deBruijn32tab {H : Type} : DataW H := .agg [.lit (.int .u8 0), .lit (.int .u8 1), .lit (.int .u8 28), .lit (.int .u8 2), .lit (.int .u8 29), .lit (.int .u8 14), .lit (.int .u8 24), .lit (.int .u8 3), .lit (.int .u8 30), .lit (.int .u8 22), .lit (.int .u8 20), .lit (.int .u8 15), .lit (.int .u8 25), .lit (.int .u8 17), .lit (.int .u8 4), .lit (.int .u8 8), .lit (.int .u8 31), .lit (.int .u8 27), .lit (.int .u8 13), .lit (.int .u8 23), .lit (.int .u8 21), .lit (.int .u8 19), .lit (.int .u8 16), .lit (.int .u8 7), .lit (.int .u8 26), .lit (.int .u8 12), .lit (.int .u8 18), .lit (.int .u8 6), .lit (.int .u8 11), .lit (.int .u8 5), .lit (.int .u8 10), .lit (.int .u8 9)]
def laid_math_bits_deBruijn64tab {H : Type} : DataW H := .agg [.lit (.int .u8 0), .lit (.int .u8 1), .lit (.int .u8 56), .lit (.int .u8 2), .lit (.int .u8 57), .lit (.int .u8 49), .lit (.int .u8 28), .lit (.int .u8 3), .lit (.int .u8 61), .lit (.int .u8 58), .lit (.int .u8 42), .lit (.int .u8 50), .lit (.int .u8 38), .lit (.int .u8 29), .lit (.int .u8 17), .lit (.int .u8 4), .lit (.int .u8 62), .lit (.int .u8 47), .lit (.int .u8 59), .lit (.int .u8 36), .lit (.int .u8 45), .lit (.int .u8 43), .lit (.int .u8 51), .lit (.int .u8 22), .lit (.int .u8 53), .lit (.int .u8 39), .lit (.int .u8 33), .lit (.int .u8 30), .lit (.int .u8 24), .lit (.int .u8 18), .lit (.int .u8 12), .lit (.int .u8 5), .lit (.int .u8 63), .lit (.int .u8 55), .lit (.int .u8 48), .lit (.int .u8 27), .lit (.int .u8 60), .lit (.int .u8 41), .lit (.int .u8 37), .lit (.int .u8 16), .lit (.int .u8 46), .lit (.int .u8 35), .lit (.int .u8 44), .lit (.int .u8 21), .lit (.int .u8 52), .lit (.int .u8 32), .lit (.int .u8 23), .lit (.int .u8 11), .lit (.int .u8 54), .lit (.int .u8 26), .lit (.int .u8 40), .lit (.int .u8 15), .lit (.int .u8 34), .lit (.int .u8 20), .lit (.int .u8 31), .lit (.int .u8 10), .lit (.int .u8 25), .lit (.int .u8 14), .lit (.int .u8 19), .lit (.int .u8 9), .lit (.int .u8 13), .lit (.int .u8 8), .lit (.int .u8 7), .lit (.int .u8 6)]
def laid_internal_strconv_uint64pow10 {H : Type} : DataW H := .agg [.lit (.int .u64 1), .lit (.int .u64 10), .lit (.int .u64 100), .lit (.int .u64 1000), .lit (.int .u64 10000), .lit (.int .u64 100000), .lit (.int .u64 1000000), .lit (.int .u64 10000000), .lit (.int .u64 100000000), .lit (.int .u64 1000000000), .lit (.int .u64 10000000000), .lit (.int .u64 100000000000), .lit (.int .u64 1000000000000), .lit (.int .u64 10000000000000), .lit (.int .u64 100000000000000), .lit (.int .u64 1000000000000000), .lit (.int .u64 10000000000000000), .lit (.int .u64 100000000000000000), .lit (.int .u64 1000000000000000000), .lit (.int .u64 10000000000000000000)]

/-- 'gantlinelaw15.LossBuilds': WHATEVER THE INPUT: true; the input reads as it did. -/
def lossBuildsSpec : ChangeSpec := { name := "lossBuilds", fn := fun _ => fun
  | [d] => { results := [.lit (.bool true)], args := [d] }
  | _ => none }
def lossBuildsRow : OpenClaim := { program := "ytiknkngdfdmkbaadoor", sum := "ef77825b149594ee19b33cf2efadc5bc4e79baa5e49d12d55cbb55392da498b4", func := "gantline/gantlinelaw15.LossBuilds", spec := "lossBuilds", unfollowed := true, recurses := true, named := ["internal/strconv.uint64pow10", "math/bits.deBruijn32tab", "math/bits.deBruijn64tab"], apart := false, laid := [("math/bits.deBruijn32tab", laid_math_bits_deBruijn32tab), ("math/bits.deBruijn64tab", laid_math_bits_deBruijn64tab), ("internal/strconv.uint64pow10", laid_internal_strconv_uint64pow10)] }
def LossBuildsSaid : Prop := lossBuildsRow.holds Tryd.pinned (OpenSpec.ofChange lossBuildsSpec)

/-- ITS FALSE NEIGHBOUR: 'it returns false'. Refute it at one input. -/
def lossBuildsWrong : ChangeSpec := { name := "lossBuilds", fn := fun _ => fun
  | [d] => { results := [.lit (.bool false)], args := [d] }
  | _ => none }
def LossBuildsWrongFalsely : Prop := lossBuildsRow.holds Tryd.pinned (OpenSpec.ofChange lossBuildsWrong)

/-- 'gantlinelaw15.LossSays': WHATEVER THE INPUT: true; the input reads as it did. -/
def lossSaysSpec : ChangeSpec := { name := "lossSays", fn := fun _ => fun
  | [d] => { results := [.lit (.bool true)], args := [d] }
  | _ => none }
def lossSaysRow : OpenClaim := { program := "ytiknkngdfdmkbaadoor", sum := "ef77825b149594ee19b33cf2efadc5bc4e79baa5e49d12d55cbb55392da498b4", func := "gantline/gantlinelaw15.LossSays", spec := "lossSays", unfollowed := true, recurses := true, named := ["internal/strconv.uint64pow10", "math/bits.deBruijn32tab", "math/bits.deBruijn64tab"], apart := false, laid := [("math/bits.deBruijn32tab", laid_math_bits_deBruijn32tab), ("math/bits.deBruijn64tab", laid_math_bits_deBruijn64tab), ("internal/strconv.uint64pow10", laid_internal_strconv_uint64pow10)] }
def LossSaysSaid : Prop := lossSaysRow.holds Tryd.pinned (OpenSpec.ofChange lossSaysSpec)

/-- ITS FALSE NEIGHBOUR: 'it returns false'. Refute it at one input. -/
def lossSaysWrong : ChangeSpec := { name := "lossSays", fn := fun _ => fun
  | [d] => { results := [.lit (.bool false)], args := [d] }
  | _ => none }
def LossSaysWrongFalsely : Prop := lossSaysRow.holds Tryd.pinned (OpenSpec.ofChange lossSaysWrong)

/-- 'gantlinelaw15.LossBack': WHATEVER THE INPUT: true; the input reads as it did. -/
def lossBackSpec : ChangeSpec := { name := "lossBack", fn := fun _ => fun
  | [d] => { results := [.lit (.bool true)], args := [d] }
  | _ => none }
def lossBackRow : OpenClaim := { program := "ytiknkngdfdmkbaadoor", sum := "ef77825b149594ee19b33cf2efadc5bc4e79baa5e49d12d55cbb55392da498b4", func := "gantline/gantlinelaw15.LossBack", spec := "lossBack", unfollowed := true, recurses := true, named := ["internal/strconv.uint64pow10", "math/bits.deBruijn32tab", "math/bits.deBruijn64tab"], apart := false, laid := [("math/bits.deBruijn32tab", laid_math_bits_deBruijn32tab), ("math/bits.deBruijn64tab", laid_math_bits_deBruijn64tab), ("internal/strconv.uint64pow10", laid_internal_strconv_uint64pow10)] }
def LossBackSaid : Prop := lossBackRow.holds Tryd.pinned (OpenSpec.ofChange lossBackSpec)

/-- ITS FALSE NEIGHBOUR: 'it returns false'. Refute it at one input. -/
def lossBackWrong : ChangeSpec := { name := "lossBack", fn := fun _ => fun
  | [d] => { results := [.lit (.bool false)], args := [d] }
  | _ => none }
def LossBackWrongFalsely : Prop := lossBackRow.holds Tryd.pinned (OpenSpec.ofChange lossBackWrong)

/-- 'gantlinelaw15.LossOne': WHATEVER THE INPUT: true; the input reads as it did. -/
def lossOneSpec : ChangeSpec := { name := "lossOne", fn := fun _ => fun
  | [d] => { results := [.lit (.bool true)], args := [d] }
  | _ => none }
def lossOneRow : OpenClaim := { program := "ytiknkngdfdmkbaadoor", sum := "ef77825b149594ee19b33cf2efadc5bc4e79baa5e49d12d55cbb55392da498b4", func := "gantline/gantlinelaw15.LossOne", spec := "lossOne", unfollowed := true, recurses := true, named := ["internal/strconv.uint64pow10", "math/bits.deBruijn32tab", "math/bits.deBruijn64tab"], apart := false, laid := [("math/bits.deBruijn32tab", laid_math_bits_deBruijn32tab), ("math/bits.deBruijn64tab", laid_math_bits_deBruijn64tab), ("internal/strconv.uint64pow10", laid_internal_strconv_uint64pow10)] }
def LossOneSaid : Prop := lossOneRow.holds Tryd.pinned (OpenSpec.ofChange lossOneSpec)

/-- ITS FALSE NEIGHBOUR: 'it returns false'. Refute it at one input. -/
def lossOneWrong : ChangeSpec := { name := "lossOne", fn := fun _ => fun
  | [d] => { results := [.lit (.bool false)], args := [d] }
  | _ => none }
def LossOneWrongFalsely : Prop := lossOneRow.holds Tryd.pinned (OpenSpec.ofChange lossOneWrong)

/-- 'gantlinelaw15.LossHeads': WHATEVER THE INPUT: true; the input reads as it did. -/
def lossHeadsSpec : ChangeSpec := { name := "lossHeads", fn := fun _ => fun
  | [d1, d2] => { results := [.lit (.bool true)], args := [d1, d2] }
  | _ => none }
def lossHeadsRow : OpenClaim := { program := "ytiknkngdfdmkbaadoor", sum := "ef77825b149594ee19b33cf2efadc5bc4e79baa5e49d12d55cbb55392da498b4", func := "gantline/gantlinelaw15.LossHeads", spec := "lossHeads", unfollowed := true, recurses := true, named := ["internal/strconv.uint64pow10", "math/bits.deBruijn32tab", "math/bits.deBruijn64tab"], apart := false, laid := [("math/bits.deBruijn32tab", laid_math_bits_deBruijn32tab), ("math/bits.deBruijn64tab", laid_math_bits_deBruijn64tab), ("internal/strconv.uint64pow10", laid_internal_strconv_uint64pow10)] }
def LossHeadsSaid : Prop := lossHeadsRow.holds Tryd.pinned (OpenSpec.ofChange lossHeadsSpec)

/-- ITS FALSE NEIGHBOUR: 'it returns false'. Refute it at one input. -/
def lossHeadsWrong : ChangeSpec := { name := "lossHeads", fn := fun _ => fun
  | [d1, d2] => { results := [.lit (.bool false)], args := [d1, d2] }
  | _ => none }
def LossHeadsWrongFalsely : Prop := lossHeadsRow.holds Tryd.pinned (OpenSpec.ofChange lossHeadsWrong)

/- THE SECOND FORM. 'bulk': how many values and letters a reading holds, each counted each time it is reached (what is shared counts as often as it is met; a slice's spare places count too). A statement '..UptoSaid' is the law's where the arguments, and the package variables that the reading takes, are together of bulk at most 1048576: NARROWER than '..Said'. Prove '..Said' where nothing that the law and all that it calls make is longer than what came in: it says more and counts as full. Else prove '..UptoSaid'. A law counts once. -/
mutual
def uptoBulk {H : Type} : DataW H → Nat
  | .lit (.string bytes) => bytes.length + 1
  | .lit _ => 1
  | .nil => 1
  | .ptr d => uptoBulk d + 1
  | .slice elems spare => uptoBulkAll elems + uptoBulkAll spare + 1
  | .agg parts => uptoBulkAll parts + 1
  | .iface _ d => uptoBulk d + 1
  | .map entries => uptoBulkEntries entries + 1
  | .held _ => 1
def uptoBulkAll {H : Type} : List (DataW H) → Nat
  | [] => 0
  | d :: r => uptoBulk d + uptoBulkAll r
def uptoBulkEntries {H : Type} : List (Lit × DataW H) → Nat
  | [] => 0
  | x :: r => uptoBulkEntry x + uptoBulkEntries r
def uptoBulkEntry {H : Type} : Lit × DataW H → Nat
  | (.string bytes, d) => bytes.length + uptoBulk d + 1
  | (_, d) => uptoBulk d + 1
 end
def uptoSmall : (H : Type) → List (DataW H) → Bool := fun _ ds => decide (uptoBulkAll ds ≤ 1048576)
def OpenSpec.upto (s : _root_.Go.ChangeSpec) : _root_.Go.OpenSpec := { _root_.Go.OpenSpec.ofChange s with cond := some uptoSmall }

/-- 'gantlinelaw15.LossBuilds', WHERE WHAT IT READS IS OF BULK AT MOST 1048576: true; the input reads as it did. -/
def lossBuildsUptoRow : OpenClaim := { program := "ytiknkngdfdmkbaadoor", sum := "ef77825b149594ee19b33cf2efadc5bc4e79baa5e49d12d55cbb55392da498b4", func := "gantline/gantlinelaw15.LossBuilds", spec := "lossBuilds", unfollowed := true, recurses := true, named := ["internal/strconv.uint64pow10", "math/bits.deBruijn32tab", "math/bits.deBruijn64tab"], apart := false, laid := [("math/bits.deBruijn32tab", laid_math_bits_deBruijn32tab), ("math/bits.deBruijn64tab", laid_math_bits_deBruijn64tab), ("internal/strconv.uint64pow10", laid_internal_strconv_uint64pow10)], narrowed := true }
def LossBuildsUptoSaid : Prop := lossBuildsUptoRow.holds Tryd.pinned (OpenSpec.upto lossBuildsSpec)

/-- 'gantlinelaw15.LossSays', WHERE WHAT IT READS IS OF BULK AT MOST 1048576: true; the input reads as it did. -/
def lossSaysUptoRow : OpenClaim := { program := "ytiknkngdfdmkbaadoor", sum := "ef77825b149594ee19b33cf2efadc5bc4e79baa5e49d12d55cbb55392da498b4", func := "gantline/gantlinelaw15.LossSays", spec := "lossSays", unfollowed := true, recurses := true, named := ["internal/strconv.uint64pow10", "math/bits.deBruijn32tab", "math/bits.deBruijn64tab"], apart := false, laid := [("math/bits.deBruijn32tab", laid_math_bits_deBruijn32tab), ("math/bits.deBruijn64tab", laid_math_bits_deBruijn64tab), ("internal/strconv.uint64pow10", laid_internal_strconv_uint64pow10)], narrowed := true }
def LossSaysUptoSaid : Prop := lossSaysUptoRow.holds Tryd.pinned (OpenSpec.upto lossSaysSpec)

/-- 'gantlinelaw15.LossBack', WHERE WHAT IT READS IS OF BULK AT MOST 1048576: true; the input reads as it did. -/
def lossBackUptoRow : OpenClaim := { program := "ytiknkngdfdmkbaadoor", sum := "ef77825b149594ee19b33cf2efadc5bc4e79baa5e49d12d55cbb55392da498b4", func := "gantline/gantlinelaw15.LossBack", spec := "lossBack", unfollowed := true, recurses := true, named := ["internal/strconv.uint64pow10", "math/bits.deBruijn32tab", "math/bits.deBruijn64tab"], apart := false, laid := [("math/bits.deBruijn32tab", laid_math_bits_deBruijn32tab), ("math/bits.deBruijn64tab", laid_math_bits_deBruijn64tab), ("internal/strconv.uint64pow10", laid_internal_strconv_uint64pow10)], narrowed := true }
def LossBackUptoSaid : Prop := lossBackUptoRow.holds Tryd.pinned (OpenSpec.upto lossBackSpec)

/-- 'gantlinelaw15.LossOne', WHERE WHAT IT READS IS OF BULK AT MOST 1048576: true; the input reads as it did. -/
def lossOneUptoRow : OpenClaim := { program := "ytiknkngdfdmkbaadoor", sum := "ef77825b149594ee19b33cf2efadc5bc4e79baa5e49d12d55cbb55392da498b4", func := "gantline/gantlinelaw15.LossOne", spec := "lossOne", unfollowed := true, recurses := true, named := ["internal/strconv.uint64pow10", "math/bits.deBruijn32tab", "math/bits.deBruijn64tab"], apart := false, laid := [("math/bits.deBruijn32tab", laid_math_bits_deBruijn32tab), ("math/bits.deBruijn64tab", laid_math_bits_deBruijn64tab), ("internal/strconv.uint64pow10", laid_internal_strconv_uint64pow10)], narrowed := true }
def LossOneUptoSaid : Prop := lossOneUptoRow.holds Tryd.pinned (OpenSpec.upto lossOneSpec)

/-- 'gantlinelaw15.LossHeads', WHERE WHAT IT READS IS OF BULK AT MOST 1048576: true; the input reads as it did. -/
def lossHeadsUptoRow : OpenClaim := { program := "ytiknkngdfdmkbaadoor", sum := "ef77825b149594ee19b33cf2efadc5bc4e79baa5e49d12d55cbb55392da498b4", func := "gantline/gantlinelaw15.LossHeads", spec := "lossHeads", unfollowed := true, recurses := true, named := ["internal/strconv.uint64pow10", "math/bits.deBruijn32tab", "math/bits.deBruijn64tab"], apart := false, laid := [("math/bits.deBruijn32tab", laid_math_bits_deBruijn32tab), ("math/bits.deBruijn64tab", laid_math_bits_deBruijn64tab), ("internal/strconv.uint64pow10", laid_internal_strconv_uint64pow10)], narrowed := true }
def LossHeadsUptoSaid : Prop := lossHeadsUptoRow.holds Tryd.pinned (OpenSpec.upto lossHeadsSpec)

end Rows
end Go.Proofs.YtiknkngdfdmkbaaDoor
