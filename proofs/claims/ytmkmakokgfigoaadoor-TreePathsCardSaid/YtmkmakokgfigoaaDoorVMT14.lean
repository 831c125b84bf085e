import Derived.Test.YtmkmakokgfigoaaDoorVMT13
namespace Go.Proofs.YtmkmakokgfigoaaDoor
open Go.Proofs.YtmkmakokgfigoaaDoor.VM
set_option maxRecDepth 100000
set_option linter.unusedVariables false

theorem same_self (x : Nd) : SameB x x = few x := by
  unfold SameB sameB
  simp
theorem t3 (x y : Nd) (hx : x.Ok) (hy : y.Ok) (S : St) : CallQ Tryd.prog TC 3 [x.v, y.v] S fun r S1 => r = .bool true := by
  have a1 := t10 x hx
  have a2 := t11 x hx
  have a3 := t12 x y hx hy
  have a4 := t13 x y hx hy
  have a5 := t12 x x hx hx
  have a6 := t14 x hx
  have a7 := t15 x hx
  have a8 := t16 x hx
  have a9 := t17 x hx
  rw [same_self] at a5
  have fin : ∀ S, CallQ Tryd.prog TC 18 [] S fun r S1 => S1 = S ∧ r = .bool true := t18
  generalize few x = fx at *
  generalize SameB x y = s1 at *
  generalize szN x = sz at *
  generalize dpN x = dp at *
  obtain ⟨kind, n, neg, dg, ex, tx, fb, bs, fk, keys, fd, kids⟩ := x
  obtain ⟨kind', n', neg', dg', ex', tx', fb', bs', fk', keys', fd', kids'⟩ := y
  refine CallQ.of rfl (by kernel_rfl : Tryd.prog.funcs[3]? = some Tryd.f3) rfl (by decide) ?_
  conv => whnf
  refine ⟨[0, 2, 1, 3, 4, 5, 6, 7, 9, 10, 8, 11, 12, 13, 14, 15, 16, 18, 17, 19, 20, 21, 22, 23, 25, 24, 26, 27, 28, 29, 30, 32, 31, 33, 34, 35, 36, 37, 38, 39], [(1, [2]), (8, [9, 10]), (17, [18]), (24, [25]), (31, [32])], by kernel_rfl, by kernel_rfl, by kernel_rfl, ?_⟩
  conv => whnf
  refine CallQ.mono (a1 S) ?_
  rintro r S1 ⟨rfl, k1⟩
  conv => whnf
  refine ⟨⟨_, rfl, .inr ⟨_, _, _, rfl, rfl, rfl, rfl⟩⟩, ?_⟩
  conv => whnf
  refine CallQ.mono (a2 S1) ?_
  rintro r S2 ⟨rfl, k2⟩
  conv => whnf
  intro c hc
  obtain rfl : c = true := by rw [hc]; simp
  conv => whnf
  refine CallQ.mono (a3 S2) ?_
  rintro r S3 ⟨rfl, k3⟩
  conv => whnf
  refine ⟨⟨_, rfl, .inr ⟨_, _, _, rfl, rfl, rfl, rfl⟩⟩, ?_⟩
  conv => whnf
  refine ⟨⟨_, rfl, .inr ⟨_, _, _, rfl, rfl, rfl, rfl⟩⟩, ?_⟩
  conv => whnf
  refine CallQ.mono (a4 S3) ?_
  rintro r S4 ⟨rfl, k4⟩
  conv => whnf
  intro c hc
  obtain rfl : c = true := by rw [hc]; simp
  conv => whnf
  refine CallQ.mono (a5 S4) ?_
  rintro r S5 ⟨rfl, k5⟩
  conv => whnf
  refine ⟨⟨_, rfl, .inr ⟨_, _, _, rfl, rfl, rfl, rfl⟩⟩, ?_⟩
  conv => whnf
  refine CallQ.mono (a2 S5) ?_
  rintro r S6 ⟨rfl, k6⟩
  conv => whnf
  intro c hc
  obtain rfl : c = true := by rw [hc]; simp
  conv => whnf
  refine CallQ.mono (a6 S6) ?_
  rintro r S7 ⟨rfl, k7⟩
  conv => whnf
  refine ⟨⟨_, rfl, .inr ⟨_, _, _, rfl, rfl, rfl, rfl⟩⟩, ?_⟩
  conv => whnf
  refine CallQ.mono (a7 S7) ?_
  rintro r S8 ⟨rfl, k8⟩
  conv => whnf
  intro c hc
  obtain rfl : c = true := by rw [hc]; simp
  conv => whnf
  refine CallQ.mono (a8 S8) ?_
  rintro r S9 ⟨rfl, k9⟩
  conv => whnf
  refine ⟨⟨_, rfl, .inr ⟨_, _, _, rfl, rfl, rfl, rfl⟩⟩, ?_⟩
  conv => whnf
  refine CallQ.mono (a9 S9) ?_
  rintro r S10 ⟨rfl, k10⟩
  conv => whnf
  intro c hc
  obtain rfl : c = true := by rw [hc]; simp
  conv => whnf
  refine CallQ.mono (fin S10) ?_
  rintro r S11 ⟨rfl, rfl⟩
  conv => whnf
  rfl
end Go.Proofs.YtmkmakokgfigoaaDoor
