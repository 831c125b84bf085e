import Derived.Test.YtojgnofagkekeaaDoorVMKit2
import Derived.Lib.LaidTab
import Derived.Test.YtojgnofagkekeaaDoorVMRange3
import Derived.Test.YtojgnofagkekeaaDoorVMFBld0
import Derived.Test.YtojgnofagkekeaaDoorVMFBck
namespace Go.Proofs.YtojgnofagkekeaaDoor
open Go.Proofs.YtojgnofagkekeaaDoor.VM Go.RowKit
set_option maxRecDepth 100000
set_option linter.unusedVariables false
/-- The package's table. -/
def tab64 : List Int := [0, 1, 56, 2, 57, 49, 28, 3, 61, 58, 42, 50, 38, 29, 17, 4, 62, 47, 59, 36, 45, 43, 51, 22, 53, 39, 33, 30, 24, 18, 12, 5, 63, 55, 48, 27, 60, 41, 37, 16, 46, 35, 44, 21, 52, 32, 23, 11, 54, 26, 40, 15, 34, 20, 31, 10, 25, 14, 19, 9, 13, 8, 7, 6]
@[irreducible] def tabV : List AV := tab64.map fun n => .int .u8 n
instance : Glob := ⟨fun k => if k = 0 then .cptr tabV 0 else .undef, fun w => Lib.TabIs Tryd.prog w "math/bits.deBruijn64tab" .u8 tab64⟩
theorem tabOf : Tryd.prog.globalNamed "math/bits.deBruijn64tab" = some 0 := by kernel_rfl
theorem backC : BackC Tryd.prog 83 :=
  ⟨fun args w => enter_run Tryd.func83 rfl (by decide), fun l Bs Bo len sv J W h8 hsv hc hY h0 => by
    rcases hsv with ⟨b, off, cap, rfl⟩ | ⟨rfl, oa, cap, rfl⟩
    · exact back_in 0 l Bs Bo b off len cap h8 J hc (fun k W hk hj => by obtain ⟨x, h1, h2⟩ := hY k W hk hj; exact ⟨x, h1 b off cap rfl, h2⟩) W h0
    · exact back_nil 0 l Bs Bo cap oa (J 0) W (hc 0 W h0) h0⟩
def bkN (f : FuncId) : Bool := f == 83
theorem backN : ∀ gf, bkN gf = true → BackC Tryd.prog gf := fun gf h => by
  have : gf = 83 := by simpa [bkN] using h
  rw [this]; exact backC
/-- Who writes in place. -/
def hndN : List Nat := [59, 62, 47, 48, 902486, 902494, 903883, 49, 32, 901531, 901564, 31, 902189, 901980, 33, 50, 901557,
  902534, 902925, 56, 71, 72, 902476, 902509, 903134]
/-- Boxes that nobody writes through. -/
def roN : List (Nat × Option Nat) := [(73, some 1), (54, some 1), (36, some 1), (35, some 1), (29, some 1), (28, some 2), (44, some 4), (23, some 2), (25, some 2)]
def NC00 : Cfg where
  keep _ := false
  ro f d := roN.contains (f, d)
  hnd f := hndN.contains f
  own t := t == 101
  intr f := if f = 84 then some (copyCheckG 101) else if f = 77 then some (bldStringG 5) else none
theorem intrOK00 : IntrOK Tryd.prog NC00 := by
  intro f g args S v S' hi hg
  simp only [NC00] at hi
  split at hi
  · rename_i hf
    subst hf
    cases hi
    exact copyCheck_callS (fun _ _ => enter_run Tryd.func84 rfl (by decide)) bld_fresh bld_used hg
  · split at hi
    · rename_i hf
      subst hf
      cases hi
      exact bldString_callS (fun _ _ => enter_run Tryd.func77 rfl (by decide)) bld_nil bld_row hg
    · cases hi
/-- For closed calls: the two functions that range, run. -/
noncomputable def NCA : Cfg := { NC00 with intr := fun (f : Nat) => if f = 902486 ∨ f = 60 then some (callB Tryd.prog NC00 (callA Tryd.prog NC00 200) bkN 200 f) else NC00.intr f }
theorem intrOKA : IntrOK Tryd.prog NCA := by
  intro f g args S v S' hi hg
  simp only [NCA] at hi
  split at hi
  · cases hi
    exact callB_sound mixed (sound mixed intrOK00 200) (callA_sound intrOK00 (fun _ _ hcf hn => reg_sim mixed hcf hn) 200).2 backN hg
  · exact intrOK00 f g args S v S' hi hg
end Go.Proofs.YtojgnofagkekeaaDoor
