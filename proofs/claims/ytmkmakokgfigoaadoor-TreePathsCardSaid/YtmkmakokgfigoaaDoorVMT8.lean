import Derived.Test.YtmkmakokgfigoaaDoorVMT7
namespace Go.Proofs.YtmkmakokgfigoaaDoor
open Go.Proofs.YtmkmakokgfigoaaDoor.VM
set_option maxRecDepth 100000
set_option linter.unusedVariables false

theorem same_comm (x y : Nd) : SameB x y = SameB y x := by
  unfold SameB sameB
  rw [Bool.and_comm (few x), decide_eq_decide.2 (eq_comm (a := er x) (b := er y))]
theorem same_trans {x y z : Nd} (h1 : SameB x y = true) (h2 : SameB y z = true) : SameB x z = true := by
  unfold SameB sameB at *
  simp only [Bool.and_eq_true, decide_eq_true_eq] at *
  exact ⟨⟨h1.1.1, h2.1.2⟩, h1.2.trans h2.2⟩

theorem t5 (x y z : Nd) (hx : x.Ok) (hy : y.Ok) (hz : z.Ok) (S : St) : CallQ Tryd.prog TC 5 [x.v, y.v, z.v] S fun r S1 => r = .bool true := by
  have t1 := t12 x y hx hy
  have t2 := t12 y x hy hx
  have t3 := t12 y z hy hz
  have t4 := t12 x z hx hz
  rw [same_comm y x] at t2
  have htr := @same_trans x y z
  generalize SameB x y = s1 at *
  generalize SameB y z = s3 at *
  generalize SameB x z = s4 at *
  have fin : ∀ S, CallQ Tryd.prog TC 18 [] S fun r S1 => S1 = S ∧ r = .bool true := t18
  obtain ⟨kind, n, neg, dg, ex, tx, fb, bs, fk, keys, fd, kids⟩ := x
  obtain ⟨kind', n', neg', dg', ex', tx', fb', bs', fk', keys', fd', kids'⟩ := y
  obtain ⟨kind2, n2, neg2, dg2, ex2, tx2, fb2, bs2, fk2, keys2, fd2, kids2⟩ := z
  refine CallQ.of rfl (by kernel_rfl : Tryd.prog.funcs[5]? = some Tryd.f5) rfl (by decide) ?_
  conv => whnf
  refine ⟨[0, 1, 3, 4, 2, 5, 6, 7, 8, 9, 10, 11, 12, 13, 14, 15, 16, 17, 18, 19, 20, 21, 22, 23, 24, 25, 26, 27], [(2, [3, 4])], by kernel_rfl, by kernel_rfl, by kernel_rfl, ?_⟩
  conv => whnf
  refine CallQ.mono (t1 S) ?_
  rintro r S1 ⟨rfl, k1⟩
  conv => whnf
  refine ⟨⟨_, rfl, .inr ⟨_, _, _, rfl, rfl, rfl, rfl⟩⟩, ?_⟩
  conv => whnf
  refine ⟨⟨_, rfl, .inr ⟨_, _, _, rfl, rfl, rfl, rfl⟩⟩, ?_⟩
  conv => whnf
  refine CallQ.mono (t2 S1) ?_
  rintro r S2 ⟨rfl, k2⟩
  cases s1
  · conv => whnf
    intro c hc
    obtain rfl : c = true := by simpa using hc
    conv => whnf
    refine CallQ.mono (t1 S2) ?_
    rintro r S3 ⟨rfl, k3⟩
    conv => whnf
    refine CallQ.mono (fin S3) ?_
    rintro r S4 ⟨rfl, rfl⟩
    conv => whnf
    rfl
  conv => whnf
  intro c hc
  obtain rfl : c = true := by simpa using hc
  conv => whnf
  refine CallQ.mono (t1 S2) ?_
  rintro r S3 ⟨rfl, k3⟩
  conv => whnf
  refine CallQ.mono (t3 S3) ?_
  rintro r S4 ⟨rfl, k4⟩
  cases s3
  · conv => whnf
    refine CallQ.mono (fin S4) ?_
    rintro r S5 ⟨rfl, rfl⟩
    conv => whnf
    rfl
  obtain rfl := htr rfl rfl
  conv => whnf
  refine CallQ.mono (t4 S4) ?_
  rintro r S5 ⟨rfl, k5⟩
  conv => whnf
  refine CallQ.mono (fin S5) ?_
  rintro r S6 ⟨rfl, rfl⟩
  conv => whnf
  rfl
end Go.Proofs.YtmkmakokgfigoaaDoor
