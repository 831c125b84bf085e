import Derived.Test.YtkbfappjlolmaaaVMKit2
import Derived.Test.YtkbfappjlolmaaaVMClosed
import Derived.Test.YtkbfappjlolmaaaChecked
namespace Go.Proofs.Ytkbfappjlolmaaa
open Go.Proofs.Ytkbfappjlolmaaa.VM Go.RowKit
set_option maxRecDepth 100000
set_option linter.unusedVariables false
set_option linter.unusedSimpArgs false
instance : Glob := ⟨fun _ => .undef, fun _ => True⟩
theorem mixed : Try.prog.follows .mixedOrders = true := by kernel_rfl
/-- Who writes in place. -/
def CC0 : Cfg where
  keep _ := false
  ro _ _ := false
  hnd f := ([6, 22, 15, 25, 26, 29] : List Nat).contains f
  own _ := false
  intr _ := none
theorem alive_run : isRet true (callA Try.prog CC0 60 13 [] st0) = true := by kernel_rfl
theorem intrOK0 : IntrOK Try.prog CC0 := by
  intro f g args S v S' hi hg
  cases hi
theorem glOK : ∀ w : World, Glob.okw w → ∀ k, VR (gh0 w) (Glob.gl k) (.pointer (some ⟨k, 0, none⟩)) := fun w _ k => .undef _
theorem stOK : ∀ w0 w : World, Below w0.heap.size w0 w → Glob.okw w0 → Glob.okw w := fun _ _ _ _ => trivial
def aliveG : List AV → St → Option (AV × St)
  | [], S => some (.bool true, S)
  | _, _ => none
def CC : Cfg := { CC0 with intr := fun (f : Nat) => if f = 13 then some aliveG else none }
theorem intrOK : IntrOK Try.prog CC := by
  intro f g args S v S' hi hg
  simp only [CC] at hi
  split at hi
  · rename_i hf
    subst hf
    cases hi
    unfold aliveG at hg
    split at hg
    case h_2 => cases hg
    cases hg
    exact ⟨closed_call mixed intrOK0 alive_run glOK stOK S, Nat.le_refl _⟩
  · cases hi
theorem t13 (S : St) : CallQ Try.prog CC 13 [] S fun r S1 => S1 = S ∧ r = .bool true := CallQ.intr (g := aliveG) rfl rfl ⟨rfl, rfl⟩
theorem el22 : Elem Try.prog 22 5 1 1 false (.int .u8 0) := ⟨by kernel_rfl, by kernel_rfl, by kernel_rfl, by kernel_rfl, by kernel_rfl, rfl, by decide⟩
end Go.Proofs.Ytkbfappjlolmaaa
