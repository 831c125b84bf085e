import Derived.Test.YtfphpjinimfhfaaVMKit2
import Derived.Test.YtfphpjinimfhfaaVMJBld
namespace Go.Proofs.Ytfphpjinimfhfaa
open Go.Proofs.Ytfphpjinimfhfaa.VM
set_option maxRecDepth 100000
set_option linter.unusedVariables false
instance : Glob := ⟨fun _ => .undef, fun _ => True⟩
def idxByteG : List AV → St → Option (AV × St)
  | [.str s, .int .u8 c], S => some (.int .i64 (Lib.indexByte s c.toNat.toUInt8), S)
  | _, _ => none
/-- 'own': what Lex answers is a written array. -/
def JC0 (h : Bool) : Cfg where
  keep f := f == 33 || f == 51
  ro _ _ := false
  fza f := f == 14 && h
  hnd f := ((f == 11 || f == 6) && h) || f == 10
  own t := t == 46
  intr f := if f = 31 then some (copyCheckG 46) else if f = 22 then some (bldStringG 5) else if f = 19 then some idxByteG else none
theorem alive_run : isRet true (callA Try.prog (JC0 false) 60 10 [] st0) = true := by kernel_rfl
end Go.Proofs.Ytfphpjinimfhfaa
