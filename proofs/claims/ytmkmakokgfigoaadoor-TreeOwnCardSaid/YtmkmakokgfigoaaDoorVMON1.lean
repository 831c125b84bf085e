import Derived.Test.YtmkmakokgfigoaaDoorVMKit2
import Derived.Lib.LaidTab
import Derived.Test.YtmkmakokgfigoaaDoorVMRange3
import Derived.Test.YtmkmakokgfigoaaDoorVMTBld0
namespace Go.Proofs.YtmkmakokgfigoaaDoor
open Go.Proofs.YtmkmakokgfigoaaDoor.VM Go.RowKit
set_option maxRecDepth 100000
set_option linter.unusedVariables false
instance : Glob := ⟨fun _ => .undef, fun _ => True⟩
/-- Who writes in place. -/
def hndN : List Nat := [45, 25, 902587, 901678, 902588, 902602, 902486, 902494, 903883, 901695, 901568, 901531, 901564, 901791, 902189, 901980, 902082, 902705, 901557,
  902534, 902925, 902545, 902855, 902664, 902476, 902509, 903134, 46, 40]
/-- Boxes that nobody writes through. -/
def roN : List (Nat × Option Nat) := [(904185, some 1), (56, some 1), (902722, some 1), (902384, some 1), (902460, some 1), (902599, some 2), (902477, some 4), (902580, some 2), (902710, some 2)]
def NC00 : Cfg where
  keep _ := false
  ro f d := !(([(23, 3), (25, 1), (34, 1), (35, 2), (40, 3), (50, 1)] : List (Nat × Nat)).contains (f, d.getD 0))
  hnd f := hndN.contains f
  own t := t == 95
  frz f := ([40, 25] : List Nat).contains f
  fza f := f == 21
  intr f := if f = 84 then some (copyCheckG 95) else if f = 75 then some (bldStringG 5) else none
theorem intrOK00 : IntrOK Tryd.prog NC00 := by
  intro f g args S v S' hi hg
  simp only [NC00] at hi
  split at hi
  · rename_i hf
    subst hf
    cases hi
    exact copyCheck_callS (fun _ _ => enter_run Tryd.func84 rfl (by decide)) bld_fresh bld_used hg
  · split at hi
    · rename_i hf
      subst hf
      cases hi
      exact bldString_callS (fun _ _ => enter_run Tryd.func75 rfl (by decide)) bld_nil bld_row hg
    · cases hi
theorem alive_run : isRet true (callA Tryd.prog NC00 200 18 [] st0) = true := by kernel_rfl
end Go.Proofs.YtmkmakokgfigoaaDoor
