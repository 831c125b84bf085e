import Derived.Test.YtnbjhgaaollhcaaDoorVMKit2
import Derived.Test.YtnbjhgaaollhcaaDoorVMRange3
import Derived.Test.YtnbjhgaaollhcaaDoorVMNBld0
import Derived.Test.YtnbjhgaaollhcaaDoorVMNBck
namespace Go.Proofs.YtnbjhgaaollhcaaDoor
open Go.Proofs.YtnbjhgaaollhcaaDoor.VM Go.RowKit
set_option maxRecDepth 100000
set_option linter.unusedVariables false
instance : Glob := ⟨fun _ => .undef, fun _ => True⟩
theorem backC : BackC Tryd.prog 67 :=
  ⟨fun args w => enter_run Tryd.func67 rfl (by decide), fun l Bs Bo len sv J W h8 hsv hc hY h0 => by
    rcases hsv with ⟨b, off, cap, rfl⟩ | ⟨rfl, oa, cap, rfl⟩
    · exact back_in 0 l Bs Bo b off len cap h8 J hc (fun k W hk hj => by obtain ⟨x, h1, h2⟩ := hY k W hk hj; exact ⟨x, h1 b off cap rfl, h2⟩) W h0
    · exact back_nil 0 l Bs Bo cap oa (J 0) W (hc 0 W h0) h0⟩
def bkN (f : FuncId) : Bool := f == 67
theorem backN : ∀ gf, bkN gf = true → BackC Tryd.prog gf := fun gf h => by
  have : gf = 67 := by simpa [bkN] using h
  rw [this]; exact backC
/-- Who writes in place. -/
def hndN : List Nat := [46, 38, 35, 36, 39, 42, 57, 50, 25, 26, 27, 11, 16, 18, 23, 47, 14,
  41, 19, 37, 43, 44, 30, 31, 17]
def NC00 : Cfg where
  keep _ := false
  ro f d := f == 52 && d == some 1
  hnd f := hndN.contains f
  own t := t == 82
  intr f := if f = 68 then some (copyCheckG 82) else if f = 56 then some (bldStringG 5) else none
theorem intrOK00 : IntrOK Tryd.prog NC00 := by
  intro f g args S v S' hi hg
  simp only [NC00] at hi
  split at hi
  · rename_i hf
    subst hf
    cases hi
    exact copyCheck_callS (fun _ _ => enter_run Tryd.func68 rfl (by decide)) bld_fresh bld_used hg
  · split at hi
    · rename_i hf
      subst hf
      cases hi
      exact bldString_callS (fun _ _ => enter_run Tryd.func56 rfl (by decide)) bld_nil bld_row hg
    · cases hi
/-- For closed calls: the two functions that range, run. -/
noncomputable def NCA : Cfg := { NC00 with intr := fun (f : Nat) => if f = 39 ∨ f = 40 then some (callB Tryd.prog NC00 (callA Tryd.prog NC00 200) bkN 200 f) else NC00.intr f }
theorem intrOKA : IntrOK Tryd.prog NCA := by
  intro f g args S v S' hi hg
  simp only [NCA] at hi
  split at hi
  · cases hi
    exact callB_sound mixed (sound mixed intrOK00 200) (callA_sound intrOK00 (fun _ _ hcf hn => reg_sim mixed hcf hn) 200).2 backN hg
  · exact intrOK00 f g args S v S' hi hg
theorem alive_run : isRet true (callA Tryd.prog NCA 200 13 [] st0) = true := by kernel_rfl
end Go.Proofs.YtnbjhgaaollhcaaDoor
