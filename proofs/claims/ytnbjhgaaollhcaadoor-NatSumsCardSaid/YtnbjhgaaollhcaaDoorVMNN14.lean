import Derived.Test.YtnbjhgaaollhcaaDoorVMNN12
import Derived.Test.YtnbjhgaaollhcaaDoorVMRow
import Derived.Test.YtnbjhgaaollhcaaDoorRows
import Derived.Test.YtnbjhgaaollhcaaDoorTie
import Derived.Test.YtnbjhgaaollhcaaDoorCards
import Derived.ProofKit
import Derived.LaidMore
import Derived.OpenShut
import Derived.SevenTiedAt
import Derived.Lay
import Derived.ShutString
namespace Go.Proofs.YtnbjhgaaollhcaaDoor
open Go.Proofs.YtnbjhgaaollhcaaDoor.VM Go.RowKit
set_option maxRecDepth 100000
set_option linter.unusedVariables false
set_option maxHeartbeats 4000000
theorem t7 (n : Nat) (hn : n < 2 ^ 64) (s : List UInt8) (hl : s.length ≤ 2 ^ 47) (S : St) : CallQ Tryd.prog (NC true) 7 [.int .u64 n, .str s] S fun r S1 => r = .bool true := by
  have hal : ∀ {S Q}, Q (.bool true) S → CallQ Tryd.prog (NC true) 13 [] S Q := fun q => CallQ.intr (g := aliveG) rfl rfl q
  obtain ⟨wx, wb, hw⟩ : ∃ (x : Nat) (b : Bool), wordV s = .tuple [.int .u64 x, .bool b] := by
    unfold wordV; split
    · exact ⟨_, _, rfl⟩
    · exact ⟨0, false, rfl⟩
  refine CallQ.of rfl (by kernel_rfl : Tryd.prog.funcs[7]? = some Tryd.f7) rfl (by decide) ?_
  conv => whnf
  refine CallQ.mono (t21 true s hl S) ?_
  rintro r S1 ⟨k1, rfl⟩
  rw [hw]
  conv => whnf
  refine CallQ.mono (t22 true s hl S1) ?_
  rintro r S2 ⟨rfl, rfl⟩
  rw [hw]
  conv => whnf
  refine CallQ.mono (t23 true n hn S2) ?_
  rintro r S3 ⟨rfl, k3⟩
  conv => whnf
  have hdl : (decD n).length ≤ 20 := dec_len 19 n (by have : (10 : Nat) ^ 20 = 100000000000000000000 := rfl; omega)
  refine CallQ.mono (t21 true (decD n) (by omega) S3) ?_
  rintro r S4 ⟨k4, rfl⟩
  rw [word_dec hn]
  conv => whnf
  refine CallQ.mono (t23 true n hn S4) ?_
  rintro r S5 ⟨rfl, k5⟩
  conv => whnf
  refine CallQ.mono (t24 true n hn S5) ?_
  rintro r S6 ⟨rfl, rfl⟩
  conv => whnf
  refine brSEq (fun _ => ?_) (fun hh => absurd rfl hh)
  conv => whnf
  refine brEq (fun _ => ?_) (fun hh => absurd rfl hh)
  cases wb
  all_goals
    conv => whnf
    rintro c rfl
    conv => whnf
    refine brEq (fun _ => ?_) (fun hh => absurd rfl hh)
    conv => whnf
    refine hal ?_
    conv => whnf
    rfl
end Go.Proofs.YtnbjhgaaollhcaaDoor
namespace Go.Proofs.YtnbjhgaaollhcaaDoor
open Go.Proofs.YtnbjhgaaollhcaaDoor.VM Go.ChangeShapes Go.WideShapes Go.ChangeAt Go.RowKit
set_option maxRecDepth 100000
set_option linter.unusedVariables false
theorem wf_u64 {i : Int} (h : (Lit.int .u64 i).wf = true) : 0 ≤ i ∧ i < 2 ^ 64 := by
  simp [Lit.wf, IntKind.min, IntKind.max, IntKind.signed, IntKind.bits] at h
  omega
theorem own : ownKnob Tryd.prog.godebug = none := by kernel_rfl
theorem laidOut : laidOutB Tryd.prog = true := by kernel_rfl
theorem contigs : allContig Tryd.prog = true := by kernel_rfl
def laid2 : List (String × DataW Unit) := [("unicode/utf8.acceptRanges", Rows.laid_unicode_utf8_acceptRanges), ("unicode/utf8.first", Rows.laid_unicode_utf8_first)]
theorem laid_met (os : Os) (args : Array Value) : laidMetH Tryd.prog laid2 ((World.laidAll Tryd.prog os laid2).forCall (fun _ _ => 0) ⟨#[], args, []⟩).memory := by
  rw [MakeChecks.laidMetH_plain _ _ _ (by kernel_rfl)]
  exact laidMet_laidAll _ (by kernel_rfl) (by kernel_rfl)
end Go.Proofs.YtnbjhgaaollhcaaDoor
