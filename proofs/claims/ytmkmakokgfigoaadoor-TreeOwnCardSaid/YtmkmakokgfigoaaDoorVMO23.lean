import Derived.Test.YtmkmakokgfigoaaDoorVMO9
import Derived.Test.YtmkmakokgfigoaaDoorVMO18
namespace Go.Proofs.YtmkmakokgfigoaaDoor
open Go.Proofs.YtmkmakokgfigoaaDoor.VM Go.ChangeShapes Go.WideShapes Go.ChangeAt Go.RowKit
set_option maxRecDepth 100000
set_option linter.unusedVariables false

theorem b3 : Tryd.prog.bytesOf 3 = 8 := by kernel_rfl
theorem typed_path {n : Nat} {av : List AV} {b : Nat} (h : Typed Tryd.prog n 31 av b) : ∃ (f : Sl) (ps : List Int), av = [slV f (ps.map pI)] ∧ (f = .nil → ps = []) ∧ PsOk ps ∧ ps.length ≤ 2 ^ 62 := by
  cases n with
  | zero => exact h.elim
  | succ n =>
    unfold Typed at h
    rw [Tryd.underlying31] at h
    rcases h with h | rfl | ⟨ys, rfl, hl, hby, hb, hy⟩
    · rw [c3] at h; cases h
    · exact ⟨.nil, [], rfl, fun _ => rfl, fun _ h => (List.not_mem_nil h).elim, by simp⟩
    · obtain ⟨ps, e, hps⟩ := lift_list (f := pI) (ok := fun k => -2 ^ 63 ≤ k ∧ k < 2 ^ 63) (ys.map fun y => mkElt (isAggA Tryd.prog 3 == some true) y.1) (by
        intro x hx
        obtain ⟨y, hy1, rfl⟩ := List.mem_map.1 hx
        obtain ⟨_, ht⟩ := hy y hy1
        obtain ⟨i, hi, hw⟩ := typed_int Tryd.underlying3 ht
        rw [hi]
        refine ⟨i, rfl, ?_⟩
        simp [Lit.wf, IntKind.min, IntKind.max, IntKind.signed, IntKind.bits] at hw
        omega)
      refine ⟨.lst .lost, ps, by rw [e]; rfl, fun h => Sl.noConfusion h, hps, ?_⟩
      have := congrArg List.length e
      simp at this
      rw [b3] at hby
      unfold reachBytes at hby
      omega
end Go.Proofs.YtmkmakokgfigoaaDoor
