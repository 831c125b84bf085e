import Derived.Test.YtfphpjinimfhfaaVMJ4
import Derived.Test.YtfphpjinimfhfaaVMRow
import Derived.Test.YtfphpjinimfhfaaRows
import Derived.ProofKit
import Derived.LaidMore
import Derived.OpenShut
import Derived.SevenTiedAt
import Derived.Lay
import Derived.SizedLaws
import Derived.ChangeOld
import Derived.ShutString
namespace Go.Proofs.Ytfphpjinimfhfaa
open Go.Proofs.Ytfphpjinimfhfaa.VM Go.ChangeShapes Go.WideShapes Go.ChangeAt Go.RowKit
set_option maxRecDepth 100000
set_option linter.unusedVariables false
theorem lift_list {α β : Type} {f : α → β} {ok : α → Prop} : ∀ (xs : List β), (∀ x ∈ xs, ∃ a, x = f a ∧ ok a) → ∃ l : List α, xs = l.map f ∧ ∀ a ∈ l, ok a
  | [], _ => ⟨[], rfl, fun _ h => (List.not_mem_nil h).elim⟩
  | x :: xs, h => by
    obtain ⟨l, h1, h2⟩ := lift_list xs (fun y hy => h y (by simp [hy]))
    obtain ⟨a, h3, h4⟩ := h x (by simp)
    exact ⟨a :: l, by simp [h1, h3], fun b hb => by
      rcases List.mem_cons.1 hb with rfl | hb
      · exact h4
      · exact h2 b hb⟩
theorem cU : Try.prog.cellsOf 5 = 1 := by kernel_rfl
theorem bU : Try.prog.bytesOf 5 = 1 := by kernel_rfl
theorem typed_int {n : Nat} {t : TypeId} {k : IntKind} {av : List AV} {b : Nat} (hu : Try.prog.underlying t = some (.int k)) (h : Typed Try.prog n t av b) : ∃ i, av = [.int k i] ∧ (Lit.int k i).wf = true := by
  cases n with
  | zero => exact h.elim
  | succ n =>
    unfold Typed at h
    rw [hu] at h
    exact h
theorem typed_bytes {n : Nat} {av : List AV} {b : Nat} (h : Typed Try.prog n 25 av b) : ∃ (v : AV) (bs : List UInt8), av = [v] ∧ Elems v (bs.map u8) ∧ bs.length ≤ 2 ^ 47 ∧ (v = .nils ∨ v = .lst (bs.map u8) .lost) := by
  cases n with
  | zero => exact h.elim
  | succ n =>
    unfold Typed at h
    rw [Try.underlying25] at h
    rcases h with h | rfl | ⟨ys, rfl, hl, hby, hb, hy⟩
    · rw [cU] at h; cases h
    · exact ⟨.nils, [], rfl, .inl ⟨rfl, rfl⟩, by simp, .inl rfl⟩
    · obtain ⟨bs, e, _⟩ := lift_list (f := u8) (ok := fun _ => True) (ys.map fun y => mkElt (isAggA Try.prog 5 == some true) y.1) (by
        intro x hx
        obtain ⟨y, hy1, rfl⟩ := List.mem_map.1 hx
        obtain ⟨_, ht⟩ := hy y hy1
        obtain ⟨i, hi, hw⟩ := typed_int Try.underlying5 ht
        rw [hi]
        have : 0 ≤ i ∧ i < 256 := by
          simp [Lit.wf, IntKind.min, IntKind.max, IntKind.signed, IntKind.bits] at hw
          omega
        refine ⟨UInt8.ofNat i.toNat, ?_, trivial⟩
        show AV.int .u8 i = .int .u8 ((UInt8.ofNat i.toNat).toNat : Nat)
        congr 1
        rw [UInt8.toNat_ofNat']
        omega)
      refine ⟨.lst (bs.map u8) .lost, bs, by rw [e], .inr ⟨_, rfl⟩, ?_, .inr rfl⟩
      have := congrArg List.length e
      simp at this
      rw [bU] at hby
      unfold reachBytes at hby
      omega
theorem own : ownKnob Try.prog.godebug = none := by kernel_rfl
theorem laidOut : laidOutB Try.prog = true := by kernel_rfl
theorem contigs : allContig Try.prog = true := by kernel_rfl
end Go.Proofs.Ytfphpjinimfhfaa
