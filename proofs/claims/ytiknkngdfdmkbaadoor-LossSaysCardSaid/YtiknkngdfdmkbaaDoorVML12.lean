import Derived.Test.YtiknkngdfdmkbaaDoorVML11
namespace Go.Proofs.YtiknkngdfdmkbaaDoor
open Go.Proofs.YtiknkngdfdmkbaaDoor.VM
set_option maxRecDepth 100000
set_option linter.unusedVariables false

/-- LossBuilds answers true. -/
theorem t3 (ls : List Ls) (hls : ∀ l ∈ ls, l.Ok) (s : AV) (hs : Elems s (ls.map Ls.v)) (S : St) :
    CallQ Tryd.prog LC 3 [s] S fun r S1 => r = .bool true := by
  refine CallQ.of rfl (by kernel_rfl : Tryd.prog.funcs[3]? = some Tryd.f3) rfl (by decide) ?_
  conv => whnf
  refine CallQ.mono (t8 ls hls s hs S) ?_
  rintro r S1 ⟨h1, v, rfl, h2⟩
  conv => whnf
  refine CallQ.mono (t9 ls hls s hs S1) ?_
  rintro r S2 ⟨h3, v2, rfl, h4⟩
  conv => whnf
  refine CallQ.mono (t10 _ _ v v2 h2 h4 S2) ?_
  rintro r S3 ⟨rfl, rfl⟩
  rw [show (bBytes ls == bBytes ls) = true by simp]
  conv => whnf
  intro c hc
  simp at hc
  subst hc
  conv => whnf
  refine CallQ.mono (t11 S3) ?_
  rintro r S4 ⟨h5, rfl⟩
  conv => whnf
  rfl
end Go.Proofs.YtiknkngdfdmkbaaDoor
