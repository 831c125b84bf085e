import Derived.Test.YtmkmakokgfigoaaDoorVMT6
namespace Go.Proofs.YtmkmakokgfigoaaDoor
open Go.Proofs.YtmkmakokgfigoaaDoor.VM
set_option maxRecDepth 100000
set_option linter.unusedVariables false

open Classical in
theorem t29 : ∀ (N : Nat) (x y : Nd), x.Ok → y.Ok → cnt x ≤ N → ∀ S, CallQ Tryd.prog TC 29 [x.v, y.v] S fun r S1 => r = .bool (sameB x y) ∧ Keep S S1
  | 0, x, y, _, _, h, _ => by have := cnt_pos x; omega
  | N + 1, x, y, hx, hy, hN, S => by
    have ih : ∀ (xs ys : List Nd), cnts xs ≤ N → Nd.Oks xs → Nd.Oks ys → ∀ x ∈ xs, ∀ y ∈ ys, ∀ S, CallQ Tryd.prog TC 29 [x.v, y.v] S fun r S1 => r = .bool (sameB x y) ∧ Keep S S1 :=
      fun xs ys h h1 h2 x hx y hy S => t29 N x y (oks_iff.1 h1 x hx) (oks_iff.1 h2 y hy) (Nat.le_trans (cnt_mem hx) h) S
    have fls : er x ≠ er y → AV.bool false = .bool (sameB x y) := fun h => by rw [sameB, decide_eq_false h]
    have tru : er x = er y → AV.bool true = .bool (sameB x y) := fun h => by rw [sameB, decide_eq_true h]
    obtain ⟨kind, n, neg, dg, ex, tx, fb, bs, fk, keys, fd, kids⟩ := x
    obtain ⟨kind', n', neg', dg', ex', tx', fb', bs', fk', keys', fd', kids'⟩ := y
    obtain ⟨x1, x2, x3, x4, x5, x6, x7, x8⟩ := hx
    obtain ⟨y1, y2, y3, y4, y5, y6, y7, y8⟩ := hy
    simp only [cnt] at hN
    simp only [er, ne_eq, Pl.mk.injEq] at fls tru
    refine CallQ.of rfl (by kernel_rfl : Tryd.prog.funcs[29]? = some Tryd.f29) rfl (by decide) ?_
    conv => whnf
    intro c hc
    cases c
    · conv => whnf
      exact ⟨fls (fun e => by simp [e] at hc), .refl _⟩
    conv => whnf
    intro c2 hc2
    cases c2
    · conv => whnf
      exact ⟨fls (fun e => by simp [e] at hc2), .refl _⟩
    conv => whnf
    intro c3 hc3
    cases c3
    · conv => whnf
      exact ⟨fls (fun e => by simp [e] at hc3), .refl _⟩
    conv => whnf
    intro c4 hc4
    cases c4
    · conv => whnf
      exact ⟨fls (fun e => by simp [e] at hc4), .refl _⟩
    conv => whnf
    intro c5 hc5
    cases c5
    · conv => whnf
      exact ⟨fls (fun e => by simp [e] at hc5), .refl _⟩
    conv => whnf
    intro c6 hc6
    cases c6
    · conv => whnf
      exact ⟨fls (fun e => by simp [e] at hc6), .refl _⟩
    conv => whnf
    refine CallQ.mono (t42 bs bs' fb fb' x1 y1 x4 S) ?_
    rintro r S1 ⟨rfl, rfl⟩
    by_cases h7 : bs = bs'
    rotate_left
    · rw [decide_eq_false h7]
      conv => whnf
      exact ⟨fls (fun e => h7 e.2.2.2.2.2.2.1), .refl _⟩
    rw [decide_eq_true h7]
    conv => whnf
    refine CallQ.mono (t43 keys keys' fk fk' x2 y2 x5 (ih keys keys' (by omega) x7 y7) S1) ?_
    rintro r S2 ⟨rfl, k2⟩
    by_cases h8 : ers keys = ers keys'
    rotate_left
    · rw [sameL, decide_eq_false h8]
      conv => whnf
      exact ⟨fls (fun e => h8 e.2.2.2.2.2.2.2.1), k2⟩
    rw [sameL, decide_eq_true h8]
    conv => whnf
    refine CallQ.mono (t43 kids kids' fd fd' x3 y3 x6 (ih kids kids' (by omega) x8 y8) S2) ?_
    rintro r S3 ⟨rfl, k3⟩
    by_cases h9 : ers kids = ers kids'
    rotate_left
    · rw [sameL, decide_eq_false h9]
      conv => whnf
      exact ⟨fls (fun e => h9 e.2.2.2.2.2.2.2.2), k2.trans k3⟩
    rw [sameL, decide_eq_true h9]
    conv => whnf
    refine ⟨tru ?_, k2.trans k3⟩
    simp at hc hc2 hc3 hc4 hc5 hc6
    have hneg : neg = neg' := by first | exact hc3 | (revert hc3; cases neg <;> cases neg' <;> simp)
    exact ⟨hc, by omega, hneg, hc4, hc5, hc6, h7, h8, h9⟩

/-- What Same answers. -/
noncomputable def SameB (x y : Nd) : Bool := few x && few y && sameB x y
theorem t12 (x y : Nd) (hx : x.Ok) (hy : y.Ok) (S : St) : CallQ Tryd.prog TC 12 [x.v, y.v] S fun r S1 => r = .bool (SameB x y) ∧ Keep S S1 := by
  have t1 := t10 x hx
  have t2 := t10 y hy
  have t3 := t29 (cnt x) x y hx hy (Nat.le_refl _)
  have ht : SameB x y = (few x && few y && sameB x y) := rfl
  generalize SameB x y = sb at *
  generalize few x = fx at *
  generalize few y = fy at *
  generalize sameB x y = sm at *
  obtain ⟨kind, n, neg, dg, ex, tx, fb, bs, fk, keys, fd, kids⟩ := x
  obtain ⟨kind', n', neg', dg', ex', tx', fb', bs', fk', keys', fd', kids'⟩ := y
  refine CallQ.of rfl (by kernel_rfl : Tryd.prog.funcs[12]? = some Tryd.f12) rfl (by decide) ?_
  conv => whnf
  refine CallQ.mono (t1 S) ?_
  rintro r S1 ⟨rfl, k1⟩
  cases fx
  · conv => whnf
    exact ⟨by rw [ht]; rfl, k1⟩
  conv => whnf
  refine CallQ.mono (t2 S1) ?_
  rintro r S2 ⟨rfl, k2⟩
  cases fy
  · conv => whnf
    exact ⟨by rw [ht]; rfl, k1.trans k2⟩
  conv => whnf
  refine CallQ.mono (t3 S2) ?_
  rintro r S3 ⟨rfl, k3⟩
  conv => whnf
  exact ⟨by rw [ht]; cases sm <;> rfl, (k1.trans k2).trans k3⟩
end Go.Proofs.YtmkmakokgfigoaaDoor
