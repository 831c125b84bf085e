import Derived.Test.YtojgnofagkekeaaDoorVMFF3
namespace Go.Proofs.YtojgnofagkekeaaDoor
open Go.Proofs.YtojgnofagkekeaaDoor.VM Go.RowKit
set_option maxRecDepth 100000
set_option linter.unusedVariables false
set_option maxHeartbeats 4000000
/-- What Widen answers. -/
def widenV (n : Nat) (y : Int) : Nat := if y = 2 ∧ n < 2 ^ 16 then widS 5 10 n else if y = 4 ∧ n < 2 ^ 32 then widS 8 23 n else if y = 8 then n else 0
def widenE (n : Nat) (y : Int) : Int := if y = 2 ∧ n < 2 ^ 16 then 0 else if y = 4 ∧ n < 2 ^ 32 then 0 else if y = 8 then 0 else 1
theorem widR2 (n : Nat) : widR 2 5 10 n = widS 5 10 n := rfl
theorem widR4 (n : Nat) : widR 4 8 23 n = widS 8 23 n := rfl
theorem widR8 (n : Nat) : widR 8 11 52 n = n := rfl
theorem t9 (h : Bool) (n : Nat) (hn : n < 2 ^ 64) (y : Int) (S : St) : CallQ Tryd.prog (NC h) 9 [.int .u64 n, .int .i64 y] S fun r S1 => Keep S S1 ∧ r = .tuple [.int .u64 (widenV n y : Nat), .int .i64 (widenE n y)] := by
  by_cases hy : (y = 2 ∧ n < 2 ^ 16) ∨ (y = 4 ∧ n < 2 ^ 32) ∨ y = 8
  · rcases hy with ⟨rfl, hb⟩ | ⟨rfl, hb⟩ | rfl
    · have e1 : widenV n 2 = widS 5 10 n := if_pos ⟨rfl, hb⟩
      have e2 : widenE n 2 = 0 := if_pos ⟨rfl, hb⟩
      rw [e1, e2]
      refine CallQ.of rfl (by kernel_rfl : Tryd.prog.funcs[9]? = some Tryd.f9) rfl (by decide) ?_
      conv => whnf
      refine CallQ.mono (t21 h S) ?_
      rintro r S0 ⟨k0, rfl⟩
      conv => whnf
      refine CodeQ.round ?_
      conv => whnf
      refine br (fun _ => ?_) (fun q => absurd (by decide) q)
      conv => whnf
      refine ⟨_, _, cells_new _ _, store_agg rfl rfl rfl, ?_⟩
      conv => whnf
      generalize hT0 : (S0.new _).set _ _ = T0
      have m0 := k0.next
      have k0t : Keep S T0 := by rw [← hT0]; exact (k0.new _).set _ _ m0
      have c0 : T0.cells S0.next = some [.int .i64 2, .int .i64 5, .int .i64 10] := by rw [← hT0, cells_set]
      clear hT0
      generalize S0.next = p0 at *
      refine ⟨_, c0, ?_⟩
      conv => whnf
      refine brEq (fun _ => ?_) (fun q => absurd rfl q)
      conv => whnf
      refine CallQ.mono (t22 h n hn T0) ?_
      rintro r X ⟨rfl, rfl⟩
      conv => whnf
      refine br (fun _ => ?_) (fun q => absurd (show ((blen n : Nat) : Int) ≤ 16 by have := blen_lt.2 hb; omega) q)
      conv => whnf
      refine ⟨_, c0, ?_⟩
      conv => whnf
      refine CallQ.mono (t23 h fmH n hb X) ?_
      rintro r X2 ⟨kx, rfl⟩
      conv => whnf
      exact ⟨k0t.trans kx, rfl⟩
    · have e1 : widenV n 4 = widS 8 23 n := by unfold widenV; rw [if_neg (fun q => absurd q.1 (by decide)), if_pos ⟨rfl, hb⟩]
      have e2 : widenE n 4 = 0 := by unfold widenE; rw [if_neg (fun q => absurd q.1 (by decide)), if_pos ⟨rfl, hb⟩]
      rw [e1, e2]
      refine CallQ.of rfl (by kernel_rfl : Tryd.prog.funcs[9]? = some Tryd.f9) rfl (by decide) ?_
      conv => whnf
      refine CallQ.mono (t21 h S) ?_
      rintro r S0 ⟨k0, rfl⟩
      conv => whnf
      refine CodeQ.round ?_
      conv => whnf
      refine br (fun _ => ?_) (fun q => absurd (by decide) q)
      conv => whnf
      refine ⟨_, _, cells_new _ _, store_agg rfl rfl rfl, ?_⟩
      conv => whnf
      generalize hT0 : (S0.new _).set _ _ = T0
      have m0 := k0.next
      have k0t : Keep S T0 := by rw [← hT0]; exact (k0.new _).set _ _ m0
      have c0 : T0.cells S0.next = some [.int .i64 2, .int .i64 5, .int .i64 10] := by rw [← hT0, cells_set]
      clear hT0
      generalize S0.next = p0 at *
      refine ⟨_, c0, ?_⟩
      conv => whnf
      refine brEq (fun q => absurd q (by decide)) (fun _ => ?_)
      conv => whnf
      have k1 := k0t
      rw [show IntKind.i64.wrap (0 + 1) = 1 from rfl]
      obtain ⟨S1, hS⟩ : ∃ Y, Y = T0 := ⟨_, rfl⟩
      rw [← hS] at k1 ⊢
      clear hS
      refine CodeQ.round ?_
      conv => whnf
      refine br (fun _ => ?_) (fun q => absurd (by decide) q)
      conv => whnf
      refine ⟨_, _, cells_new _ _, store_agg rfl rfl rfl, ?_⟩
      conv => whnf
      generalize hT1 : (S1.new _).set _ _ = T1
      have m1 := k1.next
      have k1t : Keep S T1 := by rw [← hT1]; exact (k1.new _).set _ _ m1
      have c1 : T1.cells S1.next = some [.int .i64 4, .int .i64 8, .int .i64 23] := by rw [← hT1, cells_set]
      clear hT1
      generalize S1.next = p1 at *
      refine ⟨_, c1, ?_⟩
      conv => whnf
      refine brEq (fun _ => ?_) (fun q => absurd rfl q)
      conv => whnf
      refine CallQ.mono (t22 h n hn T1) ?_
      rintro r X ⟨rfl, rfl⟩
      conv => whnf
      refine br (fun _ => ?_) (fun q => absurd (show ((blen n : Nat) : Int) ≤ 32 by have := blen_lt.2 hb; omega) q)
      conv => whnf
      refine ⟨_, c1, ?_⟩
      conv => whnf
      refine CallQ.mono (t23 h fmS n hb X) ?_
      rintro r X2 ⟨kx, rfl⟩
      conv => whnf
      exact ⟨k1t.trans kx, rfl⟩
    · have e1 : widenV n 8 = n := by unfold widenV; rw [if_neg (fun q => absurd q.1 (by decide)), if_neg (fun q => absurd q.1 (by decide)), if_pos rfl]
      have e2 : widenE n 8 = 0 := by unfold widenE; rw [if_neg (fun q => absurd q.1 (by decide)), if_neg (fun q => absurd q.1 (by decide)), if_pos rfl]
      have hb := hn
      rw [e1, e2]
      refine CallQ.of rfl (by kernel_rfl : Tryd.prog.funcs[9]? = some Tryd.f9) rfl (by decide) ?_
      conv => whnf
      refine CallQ.mono (t21 h S) ?_
      rintro r S0 ⟨k0, rfl⟩
      conv => whnf
      refine CodeQ.round ?_
      conv => whnf
      refine br (fun _ => ?_) (fun q => absurd (by decide) q)
      conv => whnf
      refine ⟨_, _, cells_new _ _, store_agg rfl rfl rfl, ?_⟩
      conv => whnf
      generalize hT0 : (S0.new _).set _ _ = T0
      have m0 := k0.next
      have k0t : Keep S T0 := by rw [← hT0]; exact (k0.new _).set _ _ m0
      have c0 : T0.cells S0.next = some [.int .i64 2, .int .i64 5, .int .i64 10] := by rw [← hT0, cells_set]
      clear hT0
      generalize S0.next = p0 at *
      refine ⟨_, c0, ?_⟩
      conv => whnf
      refine brEq (fun q => absurd q (by decide)) (fun _ => ?_)
      conv => whnf
      have k1 := k0t
      rw [show IntKind.i64.wrap (0 + 1) = 1 from rfl]
      obtain ⟨S1, hS⟩ : ∃ Y, Y = T0 := ⟨_, rfl⟩
      rw [← hS] at k1 ⊢
      clear hS
      refine CodeQ.round ?_
      conv => whnf
      refine br (fun _ => ?_) (fun q => absurd (by decide) q)
      conv => whnf
      refine ⟨_, _, cells_new _ _, store_agg rfl rfl rfl, ?_⟩
      conv => whnf
      generalize hT1 : (S1.new _).set _ _ = T1
      have m1 := k1.next
      have k1t : Keep S T1 := by rw [← hT1]; exact (k1.new _).set _ _ m1
      have c1 : T1.cells S1.next = some [.int .i64 4, .int .i64 8, .int .i64 23] := by rw [← hT1, cells_set]
      clear hT1
      generalize S1.next = p1 at *
      refine ⟨_, c1, ?_⟩
      conv => whnf
      refine brEq (fun q => absurd q (by decide)) (fun _ => ?_)
      conv => whnf
      have k2 := k1t
      rw [show IntKind.i64.wrap (1 + 1) = 2 from rfl]
      obtain ⟨S2, hS⟩ : ∃ Y, Y = T1 := ⟨_, rfl⟩
      rw [← hS] at k2 ⊢
      clear hS
      refine CodeQ.round ?_
      conv => whnf
      refine br (fun _ => ?_) (fun q => absurd (by decide) q)
      conv => whnf
      refine ⟨_, _, cells_new _ _, store_agg rfl rfl rfl, ?_⟩
      conv => whnf
      generalize hT2 : (S2.new _).set _ _ = T2
      have m2 := k2.next
      have k2t : Keep S T2 := by rw [← hT2]; exact (k2.new _).set _ _ m2
      have c2 : T2.cells S2.next = some [.int .i64 8, .int .i64 11, .int .i64 52] := by rw [← hT2, cells_set]
      clear hT2
      generalize S2.next = p2 at *
      refine ⟨_, c2, ?_⟩
      conv => whnf
      refine brEq (fun _ => ?_) (fun q => absurd rfl q)
      conv => whnf
      refine CallQ.mono (t22 h n hn T2) ?_
      rintro r X ⟨rfl, rfl⟩
      conv => whnf
      refine br (fun _ => ?_) (fun q => absurd (show ((blen n : Nat) : Int) ≤ 64 by have := blen_lt.2 hb; omega) q)
      conv => whnf
      refine ⟨_, c2, ?_⟩
      conv => whnf
      refine CallQ.mono (t23 h fmW n hb X) ?_
      rintro r X2 ⟨kx, rfl⟩
      conv => whnf
      exact ⟨k2t.trans kx, rfl⟩
  have e1 : widenV n y = 0 := by unfold widenV; rw [if_neg (fun q => hy (.inl q)), if_neg (fun q => hy (.inr (.inl q))), if_neg (fun q => hy (.inr (.inr q)))]
  have e2 : widenE n y = 1 := by unfold widenE; rw [if_neg (fun q => hy (.inl q)), if_neg (fun q => hy (.inr (.inl q))), if_neg (fun q => hy (.inr (.inr q)))]
  rw [e1, e2]
  have hy2 : y ≠ 8 := fun q => hy (.inr (.inr q))
  by_cases hy0 : y = 2
  · subst hy0
    have hb : ¬ n < 2 ^ 16 := fun q => hy (.inl ⟨rfl, q⟩)
    refine CallQ.of rfl (by kernel_rfl : Tryd.prog.funcs[9]? = some Tryd.f9) rfl (by decide) ?_
    conv => whnf
    refine CallQ.mono (t21 h S) ?_
    rintro r S0 ⟨k0, rfl⟩
    conv => whnf
    refine CodeQ.round ?_
    conv => whnf
    refine br (fun _ => ?_) (fun q => absurd (by decide) q)
    conv => whnf
    refine ⟨_, _, cells_new _ _, store_agg rfl rfl rfl, ?_⟩
    conv => whnf
    generalize hT0 : (S0.new _).set _ _ = T0
    have m0 := k0.next
    have k0t : Keep S T0 := by rw [← hT0]; exact (k0.new _).set _ _ m0
    have c0 : T0.cells S0.next = some [.int .i64 2, .int .i64 5, .int .i64 10] := by rw [← hT0, cells_set]
    clear hT0
    generalize S0.next = p0 at *
    refine ⟨_, c0, ?_⟩
    conv => whnf
    refine brEq (fun _ => ?_) (fun q => absurd rfl q)
    conv => whnf
    refine CallQ.mono (t22 h n hn T0) ?_
    rintro r X ⟨rfl, rfl⟩
    conv => whnf
    refine br (fun q => absurd (blen_lt.1 (show blen n ≤ 16 by have : ((blen n : Nat) : Int) ≤ 16 := q; omega)) hb) (fun _ => ?_)
    conv => whnf
    have k1 := k0t
    rw [show IntKind.i64.wrap (0 + 1) = 1 from rfl]
    obtain ⟨S1, hS⟩ : ∃ Y, Y = X := ⟨_, rfl⟩
    rw [← hS] at k1 ⊢
    clear hS
    refine CodeQ.round ?_
    conv => whnf
    refine br (fun _ => ?_) (fun q => absurd (by decide) q)
    conv => whnf
    refine ⟨_, _, cells_new _ _, store_agg rfl rfl rfl, ?_⟩
    conv => whnf
    generalize hT1 : (S1.new _).set _ _ = T1
    have m1 := k1.next
    have k1t : Keep S T1 := by rw [← hT1]; exact (k1.new _).set _ _ m1
    have c1 : T1.cells S1.next = some [.int .i64 4, .int .i64 8, .int .i64 23] := by rw [← hT1, cells_set]
    clear hT1
    generalize S1.next = p1 at *
    refine ⟨_, c1, ?_⟩
    conv => whnf
    refine brEq (fun q => absurd q (by decide)) (fun _ => ?_)
    conv => whnf
    have k2 := k1t
    rw [show IntKind.i64.wrap (1 + 1) = 2 from rfl]
    obtain ⟨S2, hS⟩ : ∃ Y, Y = T1 := ⟨_, rfl⟩
    rw [← hS] at k2 ⊢
    clear hS
    refine CodeQ.round ?_
    conv => whnf
    refine br (fun _ => ?_) (fun q => absurd (by decide) q)
    conv => whnf
    refine ⟨_, _, cells_new _ _, store_agg rfl rfl rfl, ?_⟩
    conv => whnf
    generalize hT2 : (S2.new _).set _ _ = T2
    have m2 := k2.next
    have k2t : Keep S T2 := by rw [← hT2]; exact (k2.new _).set _ _ m2
    have c2 : T2.cells S2.next = some [.int .i64 8, .int .i64 11, .int .i64 52] := by rw [← hT2, cells_set]
    clear hT2
    generalize S2.next = p2 at *
    refine ⟨_, c2, ?_⟩
    conv => whnf
    refine brEq (fun q => absurd q (by decide)) (fun _ => ?_)
    conv => whnf
    have k3 := k2t
    rw [show IntKind.i64.wrap (2 + 1) = 3 from rfl]
    obtain ⟨S3, hS⟩ : ∃ Y, Y = T2 := ⟨_, rfl⟩
    rw [← hS] at k3 ⊢
    clear hS
    refine CodeQ.round ?_
    conv => whnf
    refine br (fun q => absurd q (by decide)) (fun _ => ?_)
    conv => whnf
    exact ⟨k3, rfl⟩
  by_cases hy1 : y = 4
  · subst hy1
    have hb : ¬ n < 2 ^ 32 := fun q => hy (.inr (.inl ⟨rfl, q⟩))
    refine CallQ.of rfl (by kernel_rfl : Tryd.prog.funcs[9]? = some Tryd.f9) rfl (by decide) ?_
    conv => whnf
    refine CallQ.mono (t21 h S) ?_
    rintro r S0 ⟨k0, rfl⟩
    conv => whnf
    refine CodeQ.round ?_
    conv => whnf
    refine br (fun _ => ?_) (fun q => absurd (by decide) q)
    conv => whnf
    refine ⟨_, _, cells_new _ _, store_agg rfl rfl rfl, ?_⟩
    conv => whnf
    generalize hT0 : (S0.new _).set _ _ = T0
    have m0 := k0.next
    have k0t : Keep S T0 := by rw [← hT0]; exact (k0.new _).set _ _ m0
    have c0 : T0.cells S0.next = some [.int .i64 2, .int .i64 5, .int .i64 10] := by rw [← hT0, cells_set]
    clear hT0
    generalize S0.next = p0 at *
    refine ⟨_, c0, ?_⟩
    conv => whnf
    refine brEq (fun q => absurd q (by decide)) (fun _ => ?_)
    conv => whnf
    have k1 := k0t
    rw [show IntKind.i64.wrap (0 + 1) = 1 from rfl]
    obtain ⟨S1, hS⟩ : ∃ Y, Y = T0 := ⟨_, rfl⟩
    rw [← hS] at k1 ⊢
    clear hS
    refine CodeQ.round ?_
    conv => whnf
    refine br (fun _ => ?_) (fun q => absurd (by decide) q)
    conv => whnf
    refine ⟨_, _, cells_new _ _, store_agg rfl rfl rfl, ?_⟩
    conv => whnf
    generalize hT1 : (S1.new _).set _ _ = T1
    have m1 := k1.next
    have k1t : Keep S T1 := by rw [← hT1]; exact (k1.new _).set _ _ m1
    have c1 : T1.cells S1.next = some [.int .i64 4, .int .i64 8, .int .i64 23] := by rw [← hT1, cells_set]
    clear hT1
    generalize S1.next = p1 at *
    refine ⟨_, c1, ?_⟩
    conv => whnf
    refine brEq (fun _ => ?_) (fun q => absurd rfl q)
    conv => whnf
    refine CallQ.mono (t22 h n hn T1) ?_
    rintro r X ⟨rfl, rfl⟩
    conv => whnf
    refine br (fun q => absurd (blen_lt.1 (show blen n ≤ 32 by have : ((blen n : Nat) : Int) ≤ 32 := q; omega)) hb) (fun _ => ?_)
    conv => whnf
    have k2 := k1t
    rw [show IntKind.i64.wrap (1 + 1) = 2 from rfl]
    obtain ⟨S2, hS⟩ : ∃ Y, Y = X := ⟨_, rfl⟩
    rw [← hS] at k2 ⊢
    clear hS
    refine CodeQ.round ?_
    conv => whnf
    refine br (fun _ => ?_) (fun q => absurd (by decide) q)
    conv => whnf
    refine ⟨_, _, cells_new _ _, store_agg rfl rfl rfl, ?_⟩
    conv => whnf
    generalize hT2 : (S2.new _).set _ _ = T2
    have m2 := k2.next
    have k2t : Keep S T2 := by rw [← hT2]; exact (k2.new _).set _ _ m2
    have c2 : T2.cells S2.next = some [.int .i64 8, .int .i64 11, .int .i64 52] := by rw [← hT2, cells_set]
    clear hT2
    generalize S2.next = p2 at *
    refine ⟨_, c2, ?_⟩
    conv => whnf
    refine brEq (fun q => absurd q (by decide)) (fun _ => ?_)
    conv => whnf
    have k3 := k2t
    rw [show IntKind.i64.wrap (2 + 1) = 3 from rfl]
    obtain ⟨S3, hS⟩ : ∃ Y, Y = T2 := ⟨_, rfl⟩
    rw [← hS] at k3 ⊢
    clear hS
    refine CodeQ.round ?_
    conv => whnf
    refine br (fun q => absurd q (by decide)) (fun _ => ?_)
    conv => whnf
    exact ⟨k3, rfl⟩
  · refine CallQ.of rfl (by kernel_rfl : Tryd.prog.funcs[9]? = some Tryd.f9) rfl (by decide) ?_
    conv => whnf
    refine CallQ.mono (t21 h S) ?_
    rintro r S0 ⟨k0, rfl⟩
    conv => whnf
    refine CodeQ.round ?_
    conv => whnf
    refine br (fun _ => ?_) (fun q => absurd (by decide) q)
    conv => whnf
    refine ⟨_, _, cells_new _ _, store_agg rfl rfl rfl, ?_⟩
    conv => whnf
    generalize hT0 : (S0.new _).set _ _ = T0
    have m0 := k0.next
    have k0t : Keep S T0 := by rw [← hT0]; exact (k0.new _).set _ _ m0
    have c0 : T0.cells S0.next = some [.int .i64 2, .int .i64 5, .int .i64 10] := by rw [← hT0, cells_set]
    clear hT0
    generalize S0.next = p0 at *
    refine ⟨_, c0, ?_⟩
    conv => whnf
    refine brEq (fun q => absurd q.symm hy0) (fun _ => ?_)
    conv => whnf
    have k1 := k0t
    rw [show IntKind.i64.wrap (0 + 1) = 1 from rfl]
    obtain ⟨S1, hS⟩ : ∃ Y, Y = T0 := ⟨_, rfl⟩
    rw [← hS] at k1 ⊢
    clear hS
    refine CodeQ.round ?_
    conv => whnf
    refine br (fun _ => ?_) (fun q => absurd (by decide) q)
    conv => whnf
    refine ⟨_, _, cells_new _ _, store_agg rfl rfl rfl, ?_⟩
    conv => whnf
    generalize hT1 : (S1.new _).set _ _ = T1
    have m1 := k1.next
    have k1t : Keep S T1 := by rw [← hT1]; exact (k1.new _).set _ _ m1
    have c1 : T1.cells S1.next = some [.int .i64 4, .int .i64 8, .int .i64 23] := by rw [← hT1, cells_set]
    clear hT1
    generalize S1.next = p1 at *
    refine ⟨_, c1, ?_⟩
    conv => whnf
    refine brEq (fun q => absurd q.symm hy1) (fun _ => ?_)
    conv => whnf
    have k2 := k1t
    rw [show IntKind.i64.wrap (1 + 1) = 2 from rfl]
    obtain ⟨S2, hS⟩ : ∃ Y, Y = T1 := ⟨_, rfl⟩
    rw [← hS] at k2 ⊢
    clear hS
    refine CodeQ.round ?_
    conv => whnf
    refine br (fun _ => ?_) (fun q => absurd (by decide) q)
    conv => whnf
    refine ⟨_, _, cells_new _ _, store_agg rfl rfl rfl, ?_⟩
    conv => whnf
    generalize hT2 : (S2.new _).set _ _ = T2
    have m2 := k2.next
    have k2t : Keep S T2 := by rw [← hT2]; exact (k2.new _).set _ _ m2
    have c2 : T2.cells S2.next = some [.int .i64 8, .int .i64 11, .int .i64 52] := by rw [← hT2, cells_set]
    clear hT2
    generalize S2.next = p2 at *
    refine ⟨_, c2, ?_⟩
    conv => whnf
    refine brEq (fun q => absurd q.symm hy2) (fun _ => ?_)
    conv => whnf
    have k3 := k2t
    rw [show IntKind.i64.wrap (2 + 1) = 3 from rfl]
    obtain ⟨S3, hS⟩ : ∃ Y, Y = T2 := ⟨_, rfl⟩
    rw [← hS] at k3 ⊢
    clear hS
    refine CodeQ.round ?_
    conv => whnf
    refine br (fun q => absurd q (by decide)) (fun _ => ?_)
    conv => whnf
    exact ⟨k3, rfl⟩
end Go.Proofs.YtojgnofagkekeaaDoor
namespace Go.Proofs.YtojgnofagkekeaaDoor
open Go.Proofs.YtojgnofagkekeaaDoor.VM Go.RowKit
set_option maxRecDepth 100000
set_option linter.unusedVariables false
set_option maxHeartbeats 4000000
theorem neqF_of {P : Program} {t : TypeId} {x y : AV} {r : Bool} {K : AV → Prop} (he : eqF P t x y = some r) (h : K (.bool (!r))) : (match eqF P t x y with | some r => ∀ c, c = (!r) → K (.bool c) | none => False) := by
  rw [he]; rintro c rfl; exact h
theorem narS_lt {wd e w : Nat} (hF : Fm wd e w) {n : Nat} (hn : n < 2 ^ 64) : narS e w n < 2 ^ (e + w + 1) := by
  obtain ⟨f1, f2, f3, f4, f5, f6, f7⟩ := hF.le
  obtain ⟨e1, e2, e3⟩ := pow_e hF
  have hs := sg_le (e := 11) (w := 52) hn
  have hx : exS 11 52 n < 2048 := ex_lt 11 52 n
  have hf := fr_lt 52 n
  have hdn := down_lt hf f4
  unfold narS
  split
  · exact joinS_lt hs (by omega) hdn
  split
  · exact joinS_lt hs (Nat.two_pow_pos e) (Nat.two_pow_pos w)
  rename_i h1 h2
  split
  · exact joinS_lt hs (by generalize 2 ^ e = z at *; generalize 2 ^ (e - 1) = y at *; omega) hdn
  · exact joinS_lt hs (Nat.two_pow_pos e) (small_lt (by omega) f4 (by omega))
/-- What Narrow answers. -/
def narK (n : Nat) : Nat := if widS 5 10 (narS 5 10 n) = n then narS 5 10 n else if widS 8 23 (narS 8 23 n) = n then narS 8 23 n else n
def narW (n : Nat) : Int := if widS 5 10 (narS 5 10 n) = n then 2 else if widS 8 23 (narS 8 23 n) = n then 4 else 8
theorem t12 (h : Bool) (n : Nat) (hn : n < 2 ^ 64) (S : St) : CallQ Tryd.prog (NC h) 12 [.int .u64 n] S fun r S1 => Keep S S1 ∧ r = .tuple [.int .u64 (narK n : Nat), .int .i64 (narW n)] := by
  unfold narK narW
  by_cases hm : widS 5 10 (narS 5 10 n) = n
  · rw [if_pos hm, if_pos hm]
    refine CallQ.of rfl (by kernel_rfl : Tryd.prog.funcs[12]? = some Tryd.f12) rfl (by decide) ?_
    conv => whnf
    refine CallQ.mono (t21 h S) ?_
    rintro r S0 ⟨k0, rfl⟩
    conv => whnf
    refine CodeQ.round ?_
    conv => whnf
    refine br (fun _ => ?_) (fun q => absurd (by decide) q)
    conv => whnf
    refine ⟨_, _, cells_new _ _, store_agg rfl rfl rfl, ?_⟩
    conv => whnf
    generalize hT0 : (S0.new _).set _ _ = T0
    have m0 := k0.next
    have kt0 : Keep S T0 := by rw [← hT0]; exact (k0.new _).set _ _ m0
    have c0 : T0.cells S0.next = some [.int .i64 2, .int .i64 5, .int .i64 10] := by rw [← hT0, cells_set]
    have p0lt : S0.next < T0.next := by rw [← hT0]; exact Nat.lt_succ_self _
    clear hT0
    generalize S0.next = p0 at *
    refine ⟨_, c0, ?_⟩
    conv => whnf
    refine CallQ.mono (t25 h fmH n hn T0) ?_
    rintro r X0 ⟨kx0, rfl⟩
    have cx0 := (kcells kx0 p0lt).trans c0
    have px0 := kx0.next
    conv => whnf
    refine ⟨[0, 1, 2, 3, 4, 5, 6, 7, 8, 9], [(1, [0])], by kernel_rfl, by kernel_rfl, by kernel_rfl, ?_⟩
    conv => whnf
    refine ⟨_, cx0, ?_⟩
    conv => whnf
    refine CallQ.mono (t26 h X0) ?_
    rintro r Y0 ⟨ky0, rfl⟩
    have cy0 := (kcells ky0 (Nat.lt_of_lt_of_le p0lt px0)).trans cx0
    have py0 := ky0.next
    conv => whnf
    refine ⟨stab_load rfl rfl rfl rfl rfl (by show (St.cells _ _).bind _ = _; rw [cy0]; rfl), ?_⟩
    conv => whnf
    rw [show eqF Tryd.prog 45 (AV.agg [AV.int .i64 2, AV.int .i64 5, AV.int .i64 10]) (AV.agg [AV.int .i64 ((8 : Nat) : Int), AV.int .i64 ((11 : Nat) : Int), AV.int .i64 ((52 : Nat) : Int)]) = some false by kernel_rfl]
    conv => whnf
    rintro c rfl
    conv => whnf
    refine ⟨_, cy0, ?_⟩
    conv => whnf
    refine CallQ.mono (t23 h fmH (narS 5 10 n) (narS_lt fmH hn) Y0) ?_
    rintro r Z0 ⟨kz0, rfl⟩
    rw [widR2]
    have cz0 := (kcells kz0 (Nat.lt_of_lt_of_le (Nat.lt_of_lt_of_le p0lt px0) py0)).trans cy0
    have kk0 := ((kt0.trans kx0).trans ky0).trans kz0
    conv => whnf
    refine brEq (fun _ => ?_) (fun q => absurd (by rw [hm]) q)
    conv => whnf
    refine ⟨[0, 1, 2, 3, 4], [], by kernel_rfl, by kernel_rfl, by kernel_rfl, ?_⟩
    conv => whnf
    refine ⟨_, cz0, ?_⟩
    conv => whnf
    exact ⟨kk0, rfl⟩
  have hn0 := hm
  clear hm
  by_cases hm : widS 8 23 (narS 8 23 n) = n
  · rw [if_neg hn0, if_neg hn0, if_pos hm, if_pos hm]
    refine CallQ.of rfl (by kernel_rfl : Tryd.prog.funcs[12]? = some Tryd.f12) rfl (by decide) ?_
    conv => whnf
    refine CallQ.mono (t21 h S) ?_
    rintro r S0 ⟨k0, rfl⟩
    conv => whnf
    refine CodeQ.round ?_
    conv => whnf
    refine br (fun _ => ?_) (fun q => absurd (by decide) q)
    conv => whnf
    refine ⟨_, _, cells_new _ _, store_agg rfl rfl rfl, ?_⟩
    conv => whnf
    generalize hT0 : (S0.new _).set _ _ = T0
    have m0 := k0.next
    have kt0 : Keep S T0 := by rw [← hT0]; exact (k0.new _).set _ _ m0
    have c0 : T0.cells S0.next = some [.int .i64 2, .int .i64 5, .int .i64 10] := by rw [← hT0, cells_set]
    have p0lt : S0.next < T0.next := by rw [← hT0]; exact Nat.lt_succ_self _
    clear hT0
    generalize S0.next = p0 at *
    refine ⟨_, c0, ?_⟩
    conv => whnf
    refine CallQ.mono (t25 h fmH n hn T0) ?_
    rintro r X0 ⟨kx0, rfl⟩
    have cx0 := (kcells kx0 p0lt).trans c0
    have px0 := kx0.next
    conv => whnf
    refine ⟨[0, 1, 2, 3, 4, 5, 6, 7, 8, 9], [(1, [0])], by kernel_rfl, by kernel_rfl, by kernel_rfl, ?_⟩
    conv => whnf
    refine ⟨_, cx0, ?_⟩
    conv => whnf
    refine CallQ.mono (t26 h X0) ?_
    rintro r Y0 ⟨ky0, rfl⟩
    have cy0 := (kcells ky0 (Nat.lt_of_lt_of_le p0lt px0)).trans cx0
    have py0 := ky0.next
    conv => whnf
    refine ⟨stab_load rfl rfl rfl rfl rfl (by show (St.cells _ _).bind _ = _; rw [cy0]; rfl), ?_⟩
    conv => whnf
    rw [show eqF Tryd.prog 45 (AV.agg [AV.int .i64 2, AV.int .i64 5, AV.int .i64 10]) (AV.agg [AV.int .i64 ((8 : Nat) : Int), AV.int .i64 ((11 : Nat) : Int), AV.int .i64 ((52 : Nat) : Int)]) = some false by kernel_rfl]
    conv => whnf
    rintro c rfl
    conv => whnf
    refine ⟨_, cy0, ?_⟩
    conv => whnf
    refine CallQ.mono (t23 h fmH (narS 5 10 n) (narS_lt fmH hn) Y0) ?_
    rintro r Z0 ⟨kz0, rfl⟩
    rw [widR2]
    have cz0 := (kcells kz0 (Nat.lt_of_lt_of_le (Nat.lt_of_lt_of_le p0lt px0) py0)).trans cy0
    have kk0 := ((kt0.trans kx0).trans ky0).trans kz0
    conv => whnf
    refine brEq (fun q => absurd (Int.ofNat.inj q) hn0) (fun _ => ?_)
    conv => whnf
    rw [show IntKind.i64.wrap (0 + 1) = 1 from rfl]
    obtain ⟨S1, hS⟩ : ∃ Y, Y = Z0 := ⟨_, rfl⟩
    have k1 := kk0
    rw [← hS] at k1 ⊢
    clear hS
    refine CodeQ.round ?_
    conv => whnf
    refine br (fun _ => ?_) (fun q => absurd (by decide) q)
    conv => whnf
    refine ⟨_, _, cells_new _ _, store_agg rfl rfl rfl, ?_⟩
    conv => whnf
    generalize hT1 : (S1.new _).set _ _ = T1
    have m1 := k1.next
    have kt1 : Keep S T1 := by rw [← hT1]; exact (k1.new _).set _ _ m1
    have c1 : T1.cells S1.next = some [.int .i64 4, .int .i64 8, .int .i64 23] := by rw [← hT1, cells_set]
    have p1lt : S1.next < T1.next := by rw [← hT1]; exact Nat.lt_succ_self _
    clear hT1
    generalize S1.next = p1 at *
    refine ⟨_, c1, ?_⟩
    conv => whnf
    refine CallQ.mono (t25 h fmS n hn T1) ?_
    rintro r X1 ⟨kx1, rfl⟩
    have cx1 := (kcells kx1 p1lt).trans c1
    have px1 := kx1.next
    conv => whnf
    refine ⟨[0, 1, 2, 3, 4, 5, 6, 7, 8, 9], [(1, [0])], by kernel_rfl, by kernel_rfl, by kernel_rfl, ?_⟩
    conv => whnf
    refine ⟨_, cx1, ?_⟩
    conv => whnf
    refine CallQ.mono (t26 h X1) ?_
    rintro r Y1 ⟨ky1, rfl⟩
    have cy1 := (kcells ky1 (Nat.lt_of_lt_of_le p1lt px1)).trans cx1
    have py1 := ky1.next
    conv => whnf
    refine ⟨stab_load rfl rfl rfl rfl rfl (by show (St.cells _ _).bind _ = _; rw [cy1]; rfl), ?_⟩
    conv => whnf
    rw [show eqF Tryd.prog 45 (AV.agg [AV.int .i64 4, AV.int .i64 8, AV.int .i64 23]) (AV.agg [AV.int .i64 ((8 : Nat) : Int), AV.int .i64 ((11 : Nat) : Int), AV.int .i64 ((52 : Nat) : Int)]) = some false by kernel_rfl]
    conv => whnf
    rintro c rfl
    conv => whnf
    refine ⟨_, cy1, ?_⟩
    conv => whnf
    refine CallQ.mono (t23 h fmS (narS 8 23 n) (narS_lt fmS hn) Y1) ?_
    rintro r Z1 ⟨kz1, rfl⟩
    rw [widR4]
    have cz1 := (kcells kz1 (Nat.lt_of_lt_of_le (Nat.lt_of_lt_of_le p1lt px1) py1)).trans cy1
    have kk1 := ((kt1.trans kx1).trans ky1).trans kz1
    conv => whnf
    refine brEq (fun _ => ?_) (fun q => absurd (by rw [hm]) q)
    conv => whnf
    refine ⟨[0, 1, 2, 3, 4], [], by kernel_rfl, by kernel_rfl, by kernel_rfl, ?_⟩
    conv => whnf
    refine ⟨_, cz1, ?_⟩
    conv => whnf
    exact ⟨kk1, rfl⟩
  have hn1 := hm
  rw [if_neg hn0, if_neg hn0, if_neg hn1, if_neg hn1]
  refine CallQ.of rfl (by kernel_rfl : Tryd.prog.funcs[12]? = some Tryd.f12) rfl (by decide) ?_
  conv => whnf
  refine CallQ.mono (t21 h S) ?_
  rintro r S0 ⟨k0, rfl⟩
  conv => whnf
  refine CodeQ.round ?_
  conv => whnf
  refine br (fun _ => ?_) (fun q => absurd (by decide) q)
  conv => whnf
  refine ⟨_, _, cells_new _ _, store_agg rfl rfl rfl, ?_⟩
  conv => whnf
  generalize hT0 : (S0.new _).set _ _ = T0
  have m0 := k0.next
  have kt0 : Keep S T0 := by rw [← hT0]; exact (k0.new _).set _ _ m0
  have c0 : T0.cells S0.next = some [.int .i64 2, .int .i64 5, .int .i64 10] := by rw [← hT0, cells_set]
  have p0lt : S0.next < T0.next := by rw [← hT0]; exact Nat.lt_succ_self _
  clear hT0
  generalize S0.next = p0 at *
  refine ⟨_, c0, ?_⟩
  conv => whnf
  refine CallQ.mono (t25 h fmH n hn T0) ?_
  rintro r X0 ⟨kx0, rfl⟩
  have cx0 := (kcells kx0 p0lt).trans c0
  have px0 := kx0.next
  conv => whnf
  refine ⟨[0, 1, 2, 3, 4, 5, 6, 7, 8, 9], [(1, [0])], by kernel_rfl, by kernel_rfl, by kernel_rfl, ?_⟩
  conv => whnf
  refine ⟨_, cx0, ?_⟩
  conv => whnf
  refine CallQ.mono (t26 h X0) ?_
  rintro r Y0 ⟨ky0, rfl⟩
  have cy0 := (kcells ky0 (Nat.lt_of_lt_of_le p0lt px0)).trans cx0
  have py0 := ky0.next
  conv => whnf
  refine ⟨stab_load rfl rfl rfl rfl rfl (by show (St.cells _ _).bind _ = _; rw [cy0]; rfl), ?_⟩
  conv => whnf
  rw [show eqF Tryd.prog 45 (AV.agg [AV.int .i64 2, AV.int .i64 5, AV.int .i64 10]) (AV.agg [AV.int .i64 ((8 : Nat) : Int), AV.int .i64 ((11 : Nat) : Int), AV.int .i64 ((52 : Nat) : Int)]) = some false by kernel_rfl]
  conv => whnf
  rintro c rfl
  conv => whnf
  refine ⟨_, cy0, ?_⟩
  conv => whnf
  refine CallQ.mono (t23 h fmH (narS 5 10 n) (narS_lt fmH hn) Y0) ?_
  rintro r Z0 ⟨kz0, rfl⟩
  rw [widR2]
  have cz0 := (kcells kz0 (Nat.lt_of_lt_of_le (Nat.lt_of_lt_of_le p0lt px0) py0)).trans cy0
  have kk0 := ((kt0.trans kx0).trans ky0).trans kz0
  conv => whnf
  refine brEq (fun q => absurd (Int.ofNat.inj q) hn0) (fun _ => ?_)
  conv => whnf
  rw [show IntKind.i64.wrap (0 + 1) = 1 from rfl]
  obtain ⟨S1, hS⟩ : ∃ Y, Y = Z0 := ⟨_, rfl⟩
  have k1 := kk0
  rw [← hS] at k1 ⊢
  clear hS
  refine CodeQ.round ?_
  conv => whnf
  refine br (fun _ => ?_) (fun q => absurd (by decide) q)
  conv => whnf
  refine ⟨_, _, cells_new _ _, store_agg rfl rfl rfl, ?_⟩
  conv => whnf
  generalize hT1 : (S1.new _).set _ _ = T1
  have m1 := k1.next
  have kt1 : Keep S T1 := by rw [← hT1]; exact (k1.new _).set _ _ m1
  have c1 : T1.cells S1.next = some [.int .i64 4, .int .i64 8, .int .i64 23] := by rw [← hT1, cells_set]
  have p1lt : S1.next < T1.next := by rw [← hT1]; exact Nat.lt_succ_self _
  clear hT1
  generalize S1.next = p1 at *
  refine ⟨_, c1, ?_⟩
  conv => whnf
  refine CallQ.mono (t25 h fmS n hn T1) ?_
  rintro r X1 ⟨kx1, rfl⟩
  have cx1 := (kcells kx1 p1lt).trans c1
  have px1 := kx1.next
  conv => whnf
  refine ⟨[0, 1, 2, 3, 4, 5, 6, 7, 8, 9], [(1, [0])], by kernel_rfl, by kernel_rfl, by kernel_rfl, ?_⟩
  conv => whnf
  refine ⟨_, cx1, ?_⟩
  conv => whnf
  refine CallQ.mono (t26 h X1) ?_
  rintro r Y1 ⟨ky1, rfl⟩
  have cy1 := (kcells ky1 (Nat.lt_of_lt_of_le p1lt px1)).trans cx1
  have py1 := ky1.next
  conv => whnf
  refine ⟨stab_load rfl rfl rfl rfl rfl (by show (St.cells _ _).bind _ = _; rw [cy1]; rfl), ?_⟩
  conv => whnf
  rw [show eqF Tryd.prog 45 (AV.agg [AV.int .i64 4, AV.int .i64 8, AV.int .i64 23]) (AV.agg [AV.int .i64 ((8 : Nat) : Int), AV.int .i64 ((11 : Nat) : Int), AV.int .i64 ((52 : Nat) : Int)]) = some false by kernel_rfl]
  conv => whnf
  rintro c rfl
  conv => whnf
  refine ⟨_, cy1, ?_⟩
  conv => whnf
  refine CallQ.mono (t23 h fmS (narS 8 23 n) (narS_lt fmS hn) Y1) ?_
  rintro r Z1 ⟨kz1, rfl⟩
  rw [widR4]
  have cz1 := (kcells kz1 (Nat.lt_of_lt_of_le (Nat.lt_of_lt_of_le p1lt px1) py1)).trans cy1
  have kk1 := ((kt1.trans kx1).trans ky1).trans kz1
  conv => whnf
  refine brEq (fun q => absurd (Int.ofNat.inj q) hn1) (fun _ => ?_)
  conv => whnf
  rw [show IntKind.i64.wrap (1 + 1) = 2 from rfl]
  obtain ⟨S2, hS⟩ : ∃ Y, Y = Z1 := ⟨_, rfl⟩
  have k2 := kk1
  rw [← hS] at k2 ⊢
  clear hS
  refine CodeQ.round ?_
  conv => whnf
  refine br (fun _ => ?_) (fun q => absurd (by decide) q)
  conv => whnf
  refine ⟨_, _, cells_new _ _, store_agg rfl rfl rfl, ?_⟩
  conv => whnf
  generalize hT2 : (S2.new _).set _ _ = T2
  have m2 := k2.next
  have kt2 : Keep S T2 := by rw [← hT2]; exact (k2.new _).set _ _ m2
  have c2 : T2.cells S2.next = some [.int .i64 8, .int .i64 11, .int .i64 52] := by rw [← hT2, cells_set]
  have p2lt : S2.next < T2.next := by rw [← hT2]; exact Nat.lt_succ_self _
  clear hT2
  generalize S2.next = p2 at *
  refine ⟨_, c2, ?_⟩
  conv => whnf
  refine CallQ.mono (t25 h fmW n hn T2) ?_
  rintro r X2 ⟨kx2, rfl⟩
  have cx2 := (kcells kx2 p2lt).trans c2
  have px2 := kx2.next
  conv => whnf
  refine ⟨[0, 1, 2, 3, 4, 5, 6, 7, 8, 9], [(1, [0])], by kernel_rfl, by kernel_rfl, by kernel_rfl, ?_⟩
  conv => whnf
  refine ⟨_, cx2, ?_⟩
  conv => whnf
  refine CallQ.mono (t26 h X2) ?_
  rintro r Y2 ⟨ky2, rfl⟩
  have cy2 := (kcells ky2 (Nat.lt_of_lt_of_le p2lt px2)).trans cx2
  have py2 := ky2.next
  conv => whnf
  refine ⟨stab_load rfl rfl rfl rfl rfl (by show (St.cells _ _).bind _ = _; rw [cy2]; rfl), ?_⟩
  conv => whnf
  rw [show eqF Tryd.prog 45 (AV.agg [AV.int .i64 8, AV.int .i64 11, AV.int .i64 52]) (AV.agg [AV.int .i64 ((8 : Nat) : Int), AV.int .i64 ((11 : Nat) : Int), AV.int .i64 ((52 : Nat) : Int)]) = some true by kernel_rfl]
  conv => whnf
  rintro c rfl
  conv => whnf
  have kk2 := (kt2.trans kx2).trans ky2
  rw [show IntKind.i64.wrap (2 + 1) = 3 from rfl]
  obtain ⟨S3, hS⟩ : ∃ Y, Y = Y2 := ⟨_, rfl⟩
  have k3 := kk2
  rw [← hS] at k3 ⊢
  clear hS
  refine CodeQ.round ?_
  conv => whnf
  refine br (fun q => absurd q (by decide)) (fun _ => ?_)
  conv => whnf
  refine CallQ.mono (t26 h S3) ?_
  rintro r S4 ⟨k4, rfl⟩
  conv => whnf
  exact ⟨k3.trans k4, rfl⟩
end Go.Proofs.YtojgnofagkekeaaDoor
