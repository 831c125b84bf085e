import Derived.Test.YtojgnofagkekeaaDoorVMFF9
namespace Go.Proofs.YtojgnofagkekeaaDoor
open Go.Proofs.YtojgnofagkekeaaDoor.VM Go.RowKit
set_option maxRecDepth 100000
set_option linter.unusedVariables false
set_option maxHeartbeats 4000000
/-- How often 2 goes into a number. -/
def tz (n : Nat) : Nat := if h : n = 0 then 64 else if n % 2 = 1 then 0 else tz (n / 2) + 1
termination_by n
decreasing_by omega
theorem tz_odd {n : Nat} (h : n % 2 = 1) : tz n = 0 := by unfold tz; rw [dif_neg (by omega), if_pos h]
theorem tz_even {n : Nat} (h0 : n ≠ 0) (h : n % 2 = 0) : tz n = tz (n / 2) + 1 := by
  conv => lhs; unfold tz
  rw [dif_neg h0, if_neg (by omega)]
theorem tz_spec : ∀ n, n ≠ 0 → n / 2 ^ tz n * 2 ^ tz n = n ∧ n / 2 ^ tz n % 2 = 1 := by
  intro n
  induction n using Nat.strongRecOn with
  | _ n ih =>
    intro h0
    rcases Nat.mod_two_eq_zero_or_one n with h | h
    · rw [tz_even h0 h]
      obtain ⟨h1, h2⟩ := ih (n / 2) (by omega) (by omega)
      rw [Nat.pow_succ, Nat.mul_comm (2 ^ tz (n / 2)) 2, ← Nat.div_div_eq_div_mul]
      refine ⟨?_, h2⟩
      rw [Nat.mul_left_comm, h1]; omega
    · rw [tz_odd h]; simp [h]
theorem bit_up : ∀ m i, (Nat.testBit (m + 1) i && !Nat.testBit m i) = decide (i = tz (m + 1)) := by
  intro m
  induction m using Nat.strongRecOn with
  | _ m ih =>
    intro i
    rcases Nat.mod_two_eq_zero_or_one (m + 1) with h | h
    · rw [tz_even (by omega) h]
      cases i with
      | zero =>
        rw [Nat.testBit_zero, h]
        simp
      | succ i =>
        rw [Nat.testBit_succ, Nat.testBit_succ]
        have e1 : (m + 1) / 2 = m / 2 + 1 := by omega
        rw [e1, ih (m / 2) (by omega) i]
        simp
    · rw [tz_odd h]
      cases i with
      | zero =>
        rw [Nat.testBit_zero, Nat.testBit_zero, h, show m % 2 = 0 by omega]
        simp
      | succ i =>
        rw [Nat.testBit_succ, Nat.testBit_succ, show (m + 1) / 2 = m / 2 by omega]
        simp
theorem tz_lt {n k : Nat} (h0 : n ≠ 0) (h : n < 2 ^ k) : tz n < k := by
  obtain ⟨h1, h2⟩ := tz_spec n h0
  rcases Nat.lt_or_ge (tz n) k with q | q
  · exact q
  · have : 2 ^ k ≤ 2 ^ tz n := Nat.pow_le_pow_right (by decide) q
    have h3 : n / 2 ^ tz n = 0 := Nat.div_eq_of_lt (by omega)
    rw [h3] at h2
    omega
theorem and_neg {n k : Nat} (h0 : n ≠ 0) (h : n < 2 ^ k) : n &&& (2 ^ k - n) = 2 ^ tz n := by
  obtain ⟨m, rfl⟩ : ∃ m, n = m + 1 := ⟨n - 1, by omega⟩
  apply Nat.eq_of_testBit_eq
  intro i
  rw [Nat.testBit_and, Nat.testBit_two_pow_sub_succ (by omega), Nat.testBit_two_pow]
  have hb := bit_up m i
  have ht := tz_lt h0 h
  rcases Nat.lt_or_ge i k with q | q
  · rw [decide_eq_true q, Bool.true_and, hb]
    by_cases e : i = tz (m + 1)
    · simp [e]
    · have : ¬ tz (m + 1) = i := fun x => e x.symm
      simp [e, this]
  · rw [decide_eq_false (by omega), Bool.false_and, Bool.and_false]
    symm
    simp
    omega
theorem tab_at : ∀ t, t < 64 → tabV[2 ^ t * 285870213051353865 % 2 ^ 64 / 2 ^ 58]? = some (.int .u8 (t : Nat)) := by
  have key : ((List.range 64).all fun t => decide (tab64[2 ^ t * 285870213051353865 % 2 ^ 64 / 2 ^ 58]? = some (t : Int))) = true := by decide +kernel
  intro t ht
  have := of_decide_eq_true (List.all_eq_true.1 key t (List.mem_range.2 ht))
  unfold tabV
  rw [List.getElem?_map, this]
  rfl
theorem tz_neg {n : Nat} (h0 : n ≠ 0) (hn : n < 2 ^ 64) : IntKind.u64.wrap (0 - (n : Int)) = ((18446744073709551616 - n : Nat) : Int) := by
  rw [wrap_mod]
  omega
theorem tzc0 (h : Bool) (n : Nat) (hn : n < 2 ^ 64) (h0 : n ≠ 0) (hand : n &&& (18446744073709551616 - n) = 2 ^ 0) (S : St) : CallQ Tryd.prog (NC h) 30 [.int .u64 n] S fun r S1 => S1 = S ∧ r = .int .i64 (0 : Nat) := by
  have hat := tab_at 0 (by decide)
  refine CallQ.of rfl (by kernel_rfl : Tryd.prog.funcs[30]? = some Tryd.f30) rfl (by decide) ?_
  conv => whnf
  refine brEq (fun q => absurd (by omega) h0) (fun _ => ?_)
  conv => whnf
  rw [tz_neg h0 hn, and_u64 _ _ hn (by omega), hand]
  refine ⟨by decide, ?_⟩
  rw [show (IntKind.u64.wrap (((2 ^ 0 : Nat) : Int) * 285870213051353865)).fdiv (2 ^ min (58 : Int).toNat IntKind.u64.bits) = 0 by decide +kernel]
  conv => whnf
  refine ⟨by decide, by decide, ?_⟩
  refine partF_of (r := tabV[0]?) (v := .int .u8 0) (by rw [show (0 : Nat) = 2 ^ 0 * 285870213051353865 % 2 ^ 64 / 2 ^ 58 by decide +kernel]; exact hat) ?_
  conv => whnf
  exact ⟨rfl, rfl⟩
theorem tzc1 (h : Bool) (n : Nat) (hn : n < 2 ^ 64) (h0 : n ≠ 0) (hand : n &&& (18446744073709551616 - n) = 2 ^ 1) (S : St) : CallQ Tryd.prog (NC h) 30 [.int .u64 n] S fun r S1 => S1 = S ∧ r = .int .i64 (1 : Nat) := by
  have hat := tab_at 1 (by decide)
  refine CallQ.of rfl (by kernel_rfl : Tryd.prog.funcs[30]? = some Tryd.f30) rfl (by decide) ?_
  conv => whnf
  refine brEq (fun q => absurd (by omega) h0) (fun _ => ?_)
  conv => whnf
  rw [tz_neg h0 hn, and_u64 _ _ hn (by omega), hand]
  refine ⟨by decide, ?_⟩
  rw [show (IntKind.u64.wrap (((2 ^ 1 : Nat) : Int) * 285870213051353865)).fdiv (2 ^ min (58 : Int).toNat IntKind.u64.bits) = 1 by decide +kernel]
  conv => whnf
  refine ⟨by decide, by decide, ?_⟩
  refine partF_of (r := tabV[1]?) (v := .int .u8 1) (by rw [show (1 : Nat) = 2 ^ 1 * 285870213051353865 % 2 ^ 64 / 2 ^ 58 by decide +kernel]; exact hat) ?_
  conv => whnf
  exact ⟨rfl, rfl⟩
theorem tzc2 (h : Bool) (n : Nat) (hn : n < 2 ^ 64) (h0 : n ≠ 0) (hand : n &&& (18446744073709551616 - n) = 2 ^ 2) (S : St) : CallQ Tryd.prog (NC h) 30 [.int .u64 n] S fun r S1 => S1 = S ∧ r = .int .i64 (2 : Nat) := by
  have hat := tab_at 2 (by decide)
  refine CallQ.of rfl (by kernel_rfl : Tryd.prog.funcs[30]? = some Tryd.f30) rfl (by decide) ?_
  conv => whnf
  refine brEq (fun q => absurd (by omega) h0) (fun _ => ?_)
  conv => whnf
  rw [tz_neg h0 hn, and_u64 _ _ hn (by omega), hand]
  refine ⟨by decide, ?_⟩
  rw [show (IntKind.u64.wrap (((2 ^ 2 : Nat) : Int) * 285870213051353865)).fdiv (2 ^ min (58 : Int).toNat IntKind.u64.bits) = 3 by decide +kernel]
  conv => whnf
  refine ⟨by decide, by decide, ?_⟩
  refine partF_of (r := tabV[3]?) (v := .int .u8 2) (by rw [show (3 : Nat) = 2 ^ 2 * 285870213051353865 % 2 ^ 64 / 2 ^ 58 by decide +kernel]; exact hat) ?_
  conv => whnf
  exact ⟨rfl, rfl⟩
theorem tzc3 (h : Bool) (n : Nat) (hn : n < 2 ^ 64) (h0 : n ≠ 0) (hand : n &&& (18446744073709551616 - n) = 2 ^ 3) (S : St) : CallQ Tryd.prog (NC h) 30 [.int .u64 n] S fun r S1 => S1 = S ∧ r = .int .i64 (3 : Nat) := by
  have hat := tab_at 3 (by decide)
  refine CallQ.of rfl (by kernel_rfl : Tryd.prog.funcs[30]? = some Tryd.f30) rfl (by decide) ?_
  conv => whnf
  refine brEq (fun q => absurd (by omega) h0) (fun _ => ?_)
  conv => whnf
  rw [tz_neg h0 hn, and_u64 _ _ hn (by omega), hand]
  refine ⟨by decide, ?_⟩
  rw [show (IntKind.u64.wrap (((2 ^ 3 : Nat) : Int) * 285870213051353865)).fdiv (2 ^ min (58 : Int).toNat IntKind.u64.bits) = 7 by decide +kernel]
  conv => whnf
  refine ⟨by decide, by decide, ?_⟩
  refine partF_of (r := tabV[7]?) (v := .int .u8 3) (by rw [show (7 : Nat) = 2 ^ 3 * 285870213051353865 % 2 ^ 64 / 2 ^ 58 by decide +kernel]; exact hat) ?_
  conv => whnf
  exact ⟨rfl, rfl⟩
theorem tzc4 (h : Bool) (n : Nat) (hn : n < 2 ^ 64) (h0 : n ≠ 0) (hand : n &&& (18446744073709551616 - n) = 2 ^ 4) (S : St) : CallQ Tryd.prog (NC h) 30 [.int .u64 n] S fun r S1 => S1 = S ∧ r = .int .i64 (4 : Nat) := by
  have hat := tab_at 4 (by decide)
  refine CallQ.of rfl (by kernel_rfl : Tryd.prog.funcs[30]? = some Tryd.f30) rfl (by decide) ?_
  conv => whnf
  refine brEq (fun q => absurd (by omega) h0) (fun _ => ?_)
  conv => whnf
  rw [tz_neg h0 hn, and_u64 _ _ hn (by omega), hand]
  refine ⟨by decide, ?_⟩
  rw [show (IntKind.u64.wrap (((2 ^ 4 : Nat) : Int) * 285870213051353865)).fdiv (2 ^ min (58 : Int).toNat IntKind.u64.bits) = 15 by decide +kernel]
  conv => whnf
  refine ⟨by decide, by decide, ?_⟩
  refine partF_of (r := tabV[15]?) (v := .int .u8 4) (by rw [show (15 : Nat) = 2 ^ 4 * 285870213051353865 % 2 ^ 64 / 2 ^ 58 by decide +kernel]; exact hat) ?_
  conv => whnf
  exact ⟨rfl, rfl⟩
theorem tzc5 (h : Bool) (n : Nat) (hn : n < 2 ^ 64) (h0 : n ≠ 0) (hand : n &&& (18446744073709551616 - n) = 2 ^ 5) (S : St) : CallQ Tryd.prog (NC h) 30 [.int .u64 n] S fun r S1 => S1 = S ∧ r = .int .i64 (5 : Nat) := by
  have hat := tab_at 5 (by decide)
  refine CallQ.of rfl (by kernel_rfl : Tryd.prog.funcs[30]? = some Tryd.f30) rfl (by decide) ?_
  conv => whnf
  refine brEq (fun q => absurd (by omega) h0) (fun _ => ?_)
  conv => whnf
  rw [tz_neg h0 hn, and_u64 _ _ hn (by omega), hand]
  refine ⟨by decide, ?_⟩
  rw [show (IntKind.u64.wrap (((2 ^ 5 : Nat) : Int) * 285870213051353865)).fdiv (2 ^ min (58 : Int).toNat IntKind.u64.bits) = 31 by decide +kernel]
  conv => whnf
  refine ⟨by decide, by decide, ?_⟩
  refine partF_of (r := tabV[31]?) (v := .int .u8 5) (by rw [show (31 : Nat) = 2 ^ 5 * 285870213051353865 % 2 ^ 64 / 2 ^ 58 by decide +kernel]; exact hat) ?_
  conv => whnf
  exact ⟨rfl, rfl⟩
theorem tzc6 (h : Bool) (n : Nat) (hn : n < 2 ^ 64) (h0 : n ≠ 0) (hand : n &&& (18446744073709551616 - n) = 2 ^ 6) (S : St) : CallQ Tryd.prog (NC h) 30 [.int .u64 n] S fun r S1 => S1 = S ∧ r = .int .i64 (6 : Nat) := by
  have hat := tab_at 6 (by decide)
  refine CallQ.of rfl (by kernel_rfl : Tryd.prog.funcs[30]? = some Tryd.f30) rfl (by decide) ?_
  conv => whnf
  refine brEq (fun q => absurd (by omega) h0) (fun _ => ?_)
  conv => whnf
  rw [tz_neg h0 hn, and_u64 _ _ hn (by omega), hand]
  refine ⟨by decide, ?_⟩
  rw [show (IntKind.u64.wrap (((2 ^ 6 : Nat) : Int) * 285870213051353865)).fdiv (2 ^ min (58 : Int).toNat IntKind.u64.bits) = 63 by decide +kernel]
  conv => whnf
  refine ⟨by decide, by decide, ?_⟩
  refine partF_of (r := tabV[63]?) (v := .int .u8 6) (by rw [show (63 : Nat) = 2 ^ 6 * 285870213051353865 % 2 ^ 64 / 2 ^ 58 by decide +kernel]; exact hat) ?_
  conv => whnf
  exact ⟨rfl, rfl⟩
theorem tzc7 (h : Bool) (n : Nat) (hn : n < 2 ^ 64) (h0 : n ≠ 0) (hand : n &&& (18446744073709551616 - n) = 2 ^ 7) (S : St) : CallQ Tryd.prog (NC h) 30 [.int .u64 n] S fun r S1 => S1 = S ∧ r = .int .i64 (7 : Nat) := by
  have hat := tab_at 7 (by decide)
  refine CallQ.of rfl (by kernel_rfl : Tryd.prog.funcs[30]? = some Tryd.f30) rfl (by decide) ?_
  conv => whnf
  refine brEq (fun q => absurd (by omega) h0) (fun _ => ?_)
  conv => whnf
  rw [tz_neg h0 hn, and_u64 _ _ hn (by omega), hand]
  refine ⟨by decide, ?_⟩
  rw [show (IntKind.u64.wrap (((2 ^ 7 : Nat) : Int) * 285870213051353865)).fdiv (2 ^ min (58 : Int).toNat IntKind.u64.bits) = 62 by decide +kernel]
  conv => whnf
  refine ⟨by decide, by decide, ?_⟩
  refine partF_of (r := tabV[62]?) (v := .int .u8 7) (by rw [show (62 : Nat) = 2 ^ 7 * 285870213051353865 % 2 ^ 64 / 2 ^ 58 by decide +kernel]; exact hat) ?_
  conv => whnf
  exact ⟨rfl, rfl⟩
theorem tzc8 (h : Bool) (n : Nat) (hn : n < 2 ^ 64) (h0 : n ≠ 0) (hand : n &&& (18446744073709551616 - n) = 2 ^ 8) (S : St) : CallQ Tryd.prog (NC h) 30 [.int .u64 n] S fun r S1 => S1 = S ∧ r = .int .i64 (8 : Nat) := by
  have hat := tab_at 8 (by decide)
  refine CallQ.of rfl (by kernel_rfl : Tryd.prog.funcs[30]? = some Tryd.f30) rfl (by decide) ?_
  conv => whnf
  refine brEq (fun q => absurd (by omega) h0) (fun _ => ?_)
  conv => whnf
  rw [tz_neg h0 hn, and_u64 _ _ hn (by omega), hand]
  refine ⟨by decide, ?_⟩
  rw [show (IntKind.u64.wrap (((2 ^ 8 : Nat) : Int) * 285870213051353865)).fdiv (2 ^ min (58 : Int).toNat IntKind.u64.bits) = 61 by decide +kernel]
  conv => whnf
  refine ⟨by decide, by decide, ?_⟩
  refine partF_of (r := tabV[61]?) (v := .int .u8 8) (by rw [show (61 : Nat) = 2 ^ 8 * 285870213051353865 % 2 ^ 64 / 2 ^ 58 by decide +kernel]; exact hat) ?_
  conv => whnf
  exact ⟨rfl, rfl⟩
theorem tzc9 (h : Bool) (n : Nat) (hn : n < 2 ^ 64) (h0 : n ≠ 0) (hand : n &&& (18446744073709551616 - n) = 2 ^ 9) (S : St) : CallQ Tryd.prog (NC h) 30 [.int .u64 n] S fun r S1 => S1 = S ∧ r = .int .i64 (9 : Nat) := by
  have hat := tab_at 9 (by decide)
  refine CallQ.of rfl (by kernel_rfl : Tryd.prog.funcs[30]? = some Tryd.f30) rfl (by decide) ?_
  conv => whnf
  refine brEq (fun q => absurd (by omega) h0) (fun _ => ?_)
  conv => whnf
  rw [tz_neg h0 hn, and_u64 _ _ hn (by omega), hand]
  refine ⟨by decide, ?_⟩
  rw [show (IntKind.u64.wrap (((2 ^ 9 : Nat) : Int) * 285870213051353865)).fdiv (2 ^ min (58 : Int).toNat IntKind.u64.bits) = 59 by decide +kernel]
  conv => whnf
  refine ⟨by decide, by decide, ?_⟩
  refine partF_of (r := tabV[59]?) (v := .int .u8 9) (by rw [show (59 : Nat) = 2 ^ 9 * 285870213051353865 % 2 ^ 64 / 2 ^ 58 by decide +kernel]; exact hat) ?_
  conv => whnf
  exact ⟨rfl, rfl⟩
theorem tzc10 (h : Bool) (n : Nat) (hn : n < 2 ^ 64) (h0 : n ≠ 0) (hand : n &&& (18446744073709551616 - n) = 2 ^ 10) (S : St) : CallQ Tryd.prog (NC h) 30 [.int .u64 n] S fun r S1 => S1 = S ∧ r = .int .i64 (10 : Nat) := by
  have hat := tab_at 10 (by decide)
  refine CallQ.of rfl (by kernel_rfl : Tryd.prog.funcs[30]? = some Tryd.f30) rfl (by decide) ?_
  conv => whnf
  refine brEq (fun q => absurd (by omega) h0) (fun _ => ?_)
  conv => whnf
  rw [tz_neg h0 hn, and_u64 _ _ hn (by omega), hand]
  refine ⟨by decide, ?_⟩
  rw [show (IntKind.u64.wrap (((2 ^ 10 : Nat) : Int) * 285870213051353865)).fdiv (2 ^ min (58 : Int).toNat IntKind.u64.bits) = 55 by decide +kernel]
  conv => whnf
  refine ⟨by decide, by decide, ?_⟩
  refine partF_of (r := tabV[55]?) (v := .int .u8 10) (by rw [show (55 : Nat) = 2 ^ 10 * 285870213051353865 % 2 ^ 64 / 2 ^ 58 by decide +kernel]; exact hat) ?_
  conv => whnf
  exact ⟨rfl, rfl⟩
theorem tzc11 (h : Bool) (n : Nat) (hn : n < 2 ^ 64) (h0 : n ≠ 0) (hand : n &&& (18446744073709551616 - n) = 2 ^ 11) (S : St) : CallQ Tryd.prog (NC h) 30 [.int .u64 n] S fun r S1 => S1 = S ∧ r = .int .i64 (11 : Nat) := by
  have hat := tab_at 11 (by decide)
  refine CallQ.of rfl (by kernel_rfl : Tryd.prog.funcs[30]? = some Tryd.f30) rfl (by decide) ?_
  conv => whnf
  refine brEq (fun q => absurd (by omega) h0) (fun _ => ?_)
  conv => whnf
  rw [tz_neg h0 hn, and_u64 _ _ hn (by omega), hand]
  refine ⟨by decide, ?_⟩
  rw [show (IntKind.u64.wrap (((2 ^ 11 : Nat) : Int) * 285870213051353865)).fdiv (2 ^ min (58 : Int).toNat IntKind.u64.bits) = 47 by decide +kernel]
  conv => whnf
  refine ⟨by decide, by decide, ?_⟩
  refine partF_of (r := tabV[47]?) (v := .int .u8 11) (by rw [show (47 : Nat) = 2 ^ 11 * 285870213051353865 % 2 ^ 64 / 2 ^ 58 by decide +kernel]; exact hat) ?_
  conv => whnf
  exact ⟨rfl, rfl⟩
theorem tzc12 (h : Bool) (n : Nat) (hn : n < 2 ^ 64) (h0 : n ≠ 0) (hand : n &&& (18446744073709551616 - n) = 2 ^ 12) (S : St) : CallQ Tryd.prog (NC h) 30 [.int .u64 n] S fun r S1 => S1 = S ∧ r = .int .i64 (12 : Nat) := by
  have hat := tab_at 12 (by decide)
  refine CallQ.of rfl (by kernel_rfl : Tryd.prog.funcs[30]? = some Tryd.f30) rfl (by decide) ?_
  conv => whnf
  refine brEq (fun q => absurd (by omega) h0) (fun _ => ?_)
  conv => whnf
  rw [tz_neg h0 hn, and_u64 _ _ hn (by omega), hand]
  refine ⟨by decide, ?_⟩
  rw [show (IntKind.u64.wrap (((2 ^ 12 : Nat) : Int) * 285870213051353865)).fdiv (2 ^ min (58 : Int).toNat IntKind.u64.bits) = 30 by decide +kernel]
  conv => whnf
  refine ⟨by decide, by decide, ?_⟩
  refine partF_of (r := tabV[30]?) (v := .int .u8 12) (by rw [show (30 : Nat) = 2 ^ 12 * 285870213051353865 % 2 ^ 64 / 2 ^ 58 by decide +kernel]; exact hat) ?_
  conv => whnf
  exact ⟨rfl, rfl⟩
theorem tzc13 (h : Bool) (n : Nat) (hn : n < 2 ^ 64) (h0 : n ≠ 0) (hand : n &&& (18446744073709551616 - n) = 2 ^ 13) (S : St) : CallQ Tryd.prog (NC h) 30 [.int .u64 n] S fun r S1 => S1 = S ∧ r = .int .i64 (13 : Nat) := by
  have hat := tab_at 13 (by decide)
  refine CallQ.of rfl (by kernel_rfl : Tryd.prog.funcs[30]? = some Tryd.f30) rfl (by decide) ?_
  conv => whnf
  refine brEq (fun q => absurd (by omega) h0) (fun _ => ?_)
  conv => whnf
  rw [tz_neg h0 hn, and_u64 _ _ hn (by omega), hand]
  refine ⟨by decide, ?_⟩
  rw [show (IntKind.u64.wrap (((2 ^ 13 : Nat) : Int) * 285870213051353865)).fdiv (2 ^ min (58 : Int).toNat IntKind.u64.bits) = 60 by decide +kernel]
  conv => whnf
  refine ⟨by decide, by decide, ?_⟩
  refine partF_of (r := tabV[60]?) (v := .int .u8 13) (by rw [show (60 : Nat) = 2 ^ 13 * 285870213051353865 % 2 ^ 64 / 2 ^ 58 by decide +kernel]; exact hat) ?_
  conv => whnf
  exact ⟨rfl, rfl⟩
theorem tzc14 (h : Bool) (n : Nat) (hn : n < 2 ^ 64) (h0 : n ≠ 0) (hand : n &&& (18446744073709551616 - n) = 2 ^ 14) (S : St) : CallQ Tryd.prog (NC h) 30 [.int .u64 n] S fun r S1 => S1 = S ∧ r = .int .i64 (14 : Nat) := by
  have hat := tab_at 14 (by decide)
  refine CallQ.of rfl (by kernel_rfl : Tryd.prog.funcs[30]? = some Tryd.f30) rfl (by decide) ?_
  conv => whnf
  refine brEq (fun q => absurd (by omega) h0) (fun _ => ?_)
  conv => whnf
  rw [tz_neg h0 hn, and_u64 _ _ hn (by omega), hand]
  refine ⟨by decide, ?_⟩
  rw [show (IntKind.u64.wrap (((2 ^ 14 : Nat) : Int) * 285870213051353865)).fdiv (2 ^ min (58 : Int).toNat IntKind.u64.bits) = 57 by decide +kernel]
  conv => whnf
  refine ⟨by decide, by decide, ?_⟩
  refine partF_of (r := tabV[57]?) (v := .int .u8 14) (by rw [show (57 : Nat) = 2 ^ 14 * 285870213051353865 % 2 ^ 64 / 2 ^ 58 by decide +kernel]; exact hat) ?_
  conv => whnf
  exact ⟨rfl, rfl⟩
theorem tzc15 (h : Bool) (n : Nat) (hn : n < 2 ^ 64) (h0 : n ≠ 0) (hand : n &&& (18446744073709551616 - n) = 2 ^ 15) (S : St) : CallQ Tryd.prog (NC h) 30 [.int .u64 n] S fun r S1 => S1 = S ∧ r = .int .i64 (15 : Nat) := by
  have hat := tab_at 15 (by decide)
  refine CallQ.of rfl (by kernel_rfl : Tryd.prog.funcs[30]? = some Tryd.f30) rfl (by decide) ?_
  conv => whnf
  refine brEq (fun q => absurd (by omega) h0) (fun _ => ?_)
  conv => whnf
  rw [tz_neg h0 hn, and_u64 _ _ hn (by omega), hand]
  refine ⟨by decide, ?_⟩
  rw [show (IntKind.u64.wrap (((2 ^ 15 : Nat) : Int) * 285870213051353865)).fdiv (2 ^ min (58 : Int).toNat IntKind.u64.bits) = 51 by decide +kernel]
  conv => whnf
  refine ⟨by decide, by decide, ?_⟩
  refine partF_of (r := tabV[51]?) (v := .int .u8 15) (by rw [show (51 : Nat) = 2 ^ 15 * 285870213051353865 % 2 ^ 64 / 2 ^ 58 by decide +kernel]; exact hat) ?_
  conv => whnf
  exact ⟨rfl, rfl⟩
theorem tzc16 (h : Bool) (n : Nat) (hn : n < 2 ^ 64) (h0 : n ≠ 0) (hand : n &&& (18446744073709551616 - n) = 2 ^ 16) (S : St) : CallQ Tryd.prog (NC h) 30 [.int .u64 n] S fun r S1 => S1 = S ∧ r = .int .i64 (16 : Nat) := by
  have hat := tab_at 16 (by decide)
  refine CallQ.of rfl (by kernel_rfl : Tryd.prog.funcs[30]? = some Tryd.f30) rfl (by decide) ?_
  conv => whnf
  refine brEq (fun q => absurd (by omega) h0) (fun _ => ?_)
  conv => whnf
  rw [tz_neg h0 hn, and_u64 _ _ hn (by omega), hand]
  refine ⟨by decide, ?_⟩
  rw [show (IntKind.u64.wrap (((2 ^ 16 : Nat) : Int) * 285870213051353865)).fdiv (2 ^ min (58 : Int).toNat IntKind.u64.bits) = 39 by decide +kernel]
  conv => whnf
  refine ⟨by decide, by decide, ?_⟩
  refine partF_of (r := tabV[39]?) (v := .int .u8 16) (by rw [show (39 : Nat) = 2 ^ 16 * 285870213051353865 % 2 ^ 64 / 2 ^ 58 by decide +kernel]; exact hat) ?_
  conv => whnf
  exact ⟨rfl, rfl⟩
theorem tzc17 (h : Bool) (n : Nat) (hn : n < 2 ^ 64) (h0 : n ≠ 0) (hand : n &&& (18446744073709551616 - n) = 2 ^ 17) (S : St) : CallQ Tryd.prog (NC h) 30 [.int .u64 n] S fun r S1 => S1 = S ∧ r = .int .i64 (17 : Nat) := by
  have hat := tab_at 17 (by decide)
  refine CallQ.of rfl (by kernel_rfl : Tryd.prog.funcs[30]? = some Tryd.f30) rfl (by decide) ?_
  conv => whnf
  refine brEq (fun q => absurd (by omega) h0) (fun _ => ?_)
  conv => whnf
  rw [tz_neg h0 hn, and_u64 _ _ hn (by omega), hand]
  refine ⟨by decide, ?_⟩
  rw [show (IntKind.u64.wrap (((2 ^ 17 : Nat) : Int) * 285870213051353865)).fdiv (2 ^ min (58 : Int).toNat IntKind.u64.bits) = 14 by decide +kernel]
  conv => whnf
  refine ⟨by decide, by decide, ?_⟩
  refine partF_of (r := tabV[14]?) (v := .int .u8 17) (by rw [show (14 : Nat) = 2 ^ 17 * 285870213051353865 % 2 ^ 64 / 2 ^ 58 by decide +kernel]; exact hat) ?_
  conv => whnf
  exact ⟨rfl, rfl⟩
theorem tzc18 (h : Bool) (n : Nat) (hn : n < 2 ^ 64) (h0 : n ≠ 0) (hand : n &&& (18446744073709551616 - n) = 2 ^ 18) (S : St) : CallQ Tryd.prog (NC h) 30 [.int .u64 n] S fun r S1 => S1 = S ∧ r = .int .i64 (18 : Nat) := by
  have hat := tab_at 18 (by decide)
  refine CallQ.of rfl (by kernel_rfl : Tryd.prog.funcs[30]? = some Tryd.f30) rfl (by decide) ?_
  conv => whnf
  refine brEq (fun q => absurd (by omega) h0) (fun _ => ?_)
  conv => whnf
  rw [tz_neg h0 hn, and_u64 _ _ hn (by omega), hand]
  refine ⟨by decide, ?_⟩
  rw [show (IntKind.u64.wrap (((2 ^ 18 : Nat) : Int) * 285870213051353865)).fdiv (2 ^ min (58 : Int).toNat IntKind.u64.bits) = 29 by decide +kernel]
  conv => whnf
  refine ⟨by decide, by decide, ?_⟩
  refine partF_of (r := tabV[29]?) (v := .int .u8 18) (by rw [show (29 : Nat) = 2 ^ 18 * 285870213051353865 % 2 ^ 64 / 2 ^ 58 by decide +kernel]; exact hat) ?_
  conv => whnf
  exact ⟨rfl, rfl⟩
theorem tzc19 (h : Bool) (n : Nat) (hn : n < 2 ^ 64) (h0 : n ≠ 0) (hand : n &&& (18446744073709551616 - n) = 2 ^ 19) (S : St) : CallQ Tryd.prog (NC h) 30 [.int .u64 n] S fun r S1 => S1 = S ∧ r = .int .i64 (19 : Nat) := by
  have hat := tab_at 19 (by decide)
  refine CallQ.of rfl (by kernel_rfl : Tryd.prog.funcs[30]? = some Tryd.f30) rfl (by decide) ?_
  conv => whnf
  refine brEq (fun q => absurd (by omega) h0) (fun _ => ?_)
  conv => whnf
  rw [tz_neg h0 hn, and_u64 _ _ hn (by omega), hand]
  refine ⟨by decide, ?_⟩
  rw [show (IntKind.u64.wrap (((2 ^ 19 : Nat) : Int) * 285870213051353865)).fdiv (2 ^ min (58 : Int).toNat IntKind.u64.bits) = 58 by decide +kernel]
  conv => whnf
  refine ⟨by decide, by decide, ?_⟩
  refine partF_of (r := tabV[58]?) (v := .int .u8 19) (by rw [show (58 : Nat) = 2 ^ 19 * 285870213051353865 % 2 ^ 64 / 2 ^ 58 by decide +kernel]; exact hat) ?_
  conv => whnf
  exact ⟨rfl, rfl⟩
theorem tzc20 (h : Bool) (n : Nat) (hn : n < 2 ^ 64) (h0 : n ≠ 0) (hand : n &&& (18446744073709551616 - n) = 2 ^ 20) (S : St) : CallQ Tryd.prog (NC h) 30 [.int .u64 n] S fun r S1 => S1 = S ∧ r = .int .i64 (20 : Nat) := by
  have hat := tab_at 20 (by decide)
  refine CallQ.of rfl (by kernel_rfl : Tryd.prog.funcs[30]? = some Tryd.f30) rfl (by decide) ?_
  conv => whnf
  refine brEq (fun q => absurd (by omega) h0) (fun _ => ?_)
  conv => whnf
  rw [tz_neg h0 hn, and_u64 _ _ hn (by omega), hand]
  refine ⟨by decide, ?_⟩
  rw [show (IntKind.u64.wrap (((2 ^ 20 : Nat) : Int) * 285870213051353865)).fdiv (2 ^ min (58 : Int).toNat IntKind.u64.bits) = 53 by decide +kernel]
  conv => whnf
  refine ⟨by decide, by decide, ?_⟩
  refine partF_of (r := tabV[53]?) (v := .int .u8 20) (by rw [show (53 : Nat) = 2 ^ 20 * 285870213051353865 % 2 ^ 64 / 2 ^ 58 by decide +kernel]; exact hat) ?_
  conv => whnf
  exact ⟨rfl, rfl⟩
theorem tzc21 (h : Bool) (n : Nat) (hn : n < 2 ^ 64) (h0 : n ≠ 0) (hand : n &&& (18446744073709551616 - n) = 2 ^ 21) (S : St) : CallQ Tryd.prog (NC h) 30 [.int .u64 n] S fun r S1 => S1 = S ∧ r = .int .i64 (21 : Nat) := by
  have hat := tab_at 21 (by decide)
  refine CallQ.of rfl (by kernel_rfl : Tryd.prog.funcs[30]? = some Tryd.f30) rfl (by decide) ?_
  conv => whnf
  refine brEq (fun q => absurd (by omega) h0) (fun _ => ?_)
  conv => whnf
  rw [tz_neg h0 hn, and_u64 _ _ hn (by omega), hand]
  refine ⟨by decide, ?_⟩
  rw [show (IntKind.u64.wrap (((2 ^ 21 : Nat) : Int) * 285870213051353865)).fdiv (2 ^ min (58 : Int).toNat IntKind.u64.bits) = 43 by decide +kernel]
  conv => whnf
  refine ⟨by decide, by decide, ?_⟩
  refine partF_of (r := tabV[43]?) (v := .int .u8 21) (by rw [show (43 : Nat) = 2 ^ 21 * 285870213051353865 % 2 ^ 64 / 2 ^ 58 by decide +kernel]; exact hat) ?_
  conv => whnf
  exact ⟨rfl, rfl⟩
theorem tzc22 (h : Bool) (n : Nat) (hn : n < 2 ^ 64) (h0 : n ≠ 0) (hand : n &&& (18446744073709551616 - n) = 2 ^ 22) (S : St) : CallQ Tryd.prog (NC h) 30 [.int .u64 n] S fun r S1 => S1 = S ∧ r = .int .i64 (22 : Nat) := by
  have hat := tab_at 22 (by decide)
  refine CallQ.of rfl (by kernel_rfl : Tryd.prog.funcs[30]? = some Tryd.f30) rfl (by decide) ?_
  conv => whnf
  refine brEq (fun q => absurd (by omega) h0) (fun _ => ?_)
  conv => whnf
  rw [tz_neg h0 hn, and_u64 _ _ hn (by omega), hand]
  refine ⟨by decide, ?_⟩
  rw [show (IntKind.u64.wrap (((2 ^ 22 : Nat) : Int) * 285870213051353865)).fdiv (2 ^ min (58 : Int).toNat IntKind.u64.bits) = 23 by decide +kernel]
  conv => whnf
  refine ⟨by decide, by decide, ?_⟩
  refine partF_of (r := tabV[23]?) (v := .int .u8 22) (by rw [show (23 : Nat) = 2 ^ 22 * 285870213051353865 % 2 ^ 64 / 2 ^ 58 by decide +kernel]; exact hat) ?_
  conv => whnf
  exact ⟨rfl, rfl⟩
theorem tzc23 (h : Bool) (n : Nat) (hn : n < 2 ^ 64) (h0 : n ≠ 0) (hand : n &&& (18446744073709551616 - n) = 2 ^ 23) (S : St) : CallQ Tryd.prog (NC h) 30 [.int .u64 n] S fun r S1 => S1 = S ∧ r = .int .i64 (23 : Nat) := by
  have hat := tab_at 23 (by decide)
  refine CallQ.of rfl (by kernel_rfl : Tryd.prog.funcs[30]? = some Tryd.f30) rfl (by decide) ?_
  conv => whnf
  refine brEq (fun q => absurd (by omega) h0) (fun _ => ?_)
  conv => whnf
  rw [tz_neg h0 hn, and_u64 _ _ hn (by omega), hand]
  refine ⟨by decide, ?_⟩
  rw [show (IntKind.u64.wrap (((2 ^ 23 : Nat) : Int) * 285870213051353865)).fdiv (2 ^ min (58 : Int).toNat IntKind.u64.bits) = 46 by decide +kernel]
  conv => whnf
  refine ⟨by decide, by decide, ?_⟩
  refine partF_of (r := tabV[46]?) (v := .int .u8 23) (by rw [show (46 : Nat) = 2 ^ 23 * 285870213051353865 % 2 ^ 64 / 2 ^ 58 by decide +kernel]; exact hat) ?_
  conv => whnf
  exact ⟨rfl, rfl⟩
theorem tzc24 (h : Bool) (n : Nat) (hn : n < 2 ^ 64) (h0 : n ≠ 0) (hand : n &&& (18446744073709551616 - n) = 2 ^ 24) (S : St) : CallQ Tryd.prog (NC h) 30 [.int .u64 n] S fun r S1 => S1 = S ∧ r = .int .i64 (24 : Nat) := by
  have hat := tab_at 24 (by decide)
  refine CallQ.of rfl (by kernel_rfl : Tryd.prog.funcs[30]? = some Tryd.f30) rfl (by decide) ?_
  conv => whnf
  refine brEq (fun q => absurd (by omega) h0) (fun _ => ?_)
  conv => whnf
  rw [tz_neg h0 hn, and_u64 _ _ hn (by omega), hand]
  refine ⟨by decide, ?_⟩
  rw [show (IntKind.u64.wrap (((2 ^ 24 : Nat) : Int) * 285870213051353865)).fdiv (2 ^ min (58 : Int).toNat IntKind.u64.bits) = 28 by decide +kernel]
  conv => whnf
  refine ⟨by decide, by decide, ?_⟩
  refine partF_of (r := tabV[28]?) (v := .int .u8 24) (by rw [show (28 : Nat) = 2 ^ 24 * 285870213051353865 % 2 ^ 64 / 2 ^ 58 by decide +kernel]; exact hat) ?_
  conv => whnf
  exact ⟨rfl, rfl⟩
theorem tzc25 (h : Bool) (n : Nat) (hn : n < 2 ^ 64) (h0 : n ≠ 0) (hand : n &&& (18446744073709551616 - n) = 2 ^ 25) (S : St) : CallQ Tryd.prog (NC h) 30 [.int .u64 n] S fun r S1 => S1 = S ∧ r = .int .i64 (25 : Nat) := by
  have hat := tab_at 25 (by decide)
  refine CallQ.of rfl (by kernel_rfl : Tryd.prog.funcs[30]? = some Tryd.f30) rfl (by decide) ?_
  conv => whnf
  refine brEq (fun q => absurd (by omega) h0) (fun _ => ?_)
  conv => whnf
  rw [tz_neg h0 hn, and_u64 _ _ hn (by omega), hand]
  refine ⟨by decide, ?_⟩
  rw [show (IntKind.u64.wrap (((2 ^ 25 : Nat) : Int) * 285870213051353865)).fdiv (2 ^ min (58 : Int).toNat IntKind.u64.bits) = 56 by decide +kernel]
  conv => whnf
  refine ⟨by decide, by decide, ?_⟩
  refine partF_of (r := tabV[56]?) (v := .int .u8 25) (by rw [show (56 : Nat) = 2 ^ 25 * 285870213051353865 % 2 ^ 64 / 2 ^ 58 by decide +kernel]; exact hat) ?_
  conv => whnf
  exact ⟨rfl, rfl⟩
theorem tzc26 (h : Bool) (n : Nat) (hn : n < 2 ^ 64) (h0 : n ≠ 0) (hand : n &&& (18446744073709551616 - n) = 2 ^ 26) (S : St) : CallQ Tryd.prog (NC h) 30 [.int .u64 n] S fun r S1 => S1 = S ∧ r = .int .i64 (26 : Nat) := by
  have hat := tab_at 26 (by decide)
  refine CallQ.of rfl (by kernel_rfl : Tryd.prog.funcs[30]? = some Tryd.f30) rfl (by decide) ?_
  conv => whnf
  refine brEq (fun q => absurd (by omega) h0) (fun _ => ?_)
  conv => whnf
  rw [tz_neg h0 hn, and_u64 _ _ hn (by omega), hand]
  refine ⟨by decide, ?_⟩
  rw [show (IntKind.u64.wrap (((2 ^ 26 : Nat) : Int) * 285870213051353865)).fdiv (2 ^ min (58 : Int).toNat IntKind.u64.bits) = 49 by decide +kernel]
  conv => whnf
  refine ⟨by decide, by decide, ?_⟩
  refine partF_of (r := tabV[49]?) (v := .int .u8 26) (by rw [show (49 : Nat) = 2 ^ 26 * 285870213051353865 % 2 ^ 64 / 2 ^ 58 by decide +kernel]; exact hat) ?_
  conv => whnf
  exact ⟨rfl, rfl⟩
theorem tzc27 (h : Bool) (n : Nat) (hn : n < 2 ^ 64) (h0 : n ≠ 0) (hand : n &&& (18446744073709551616 - n) = 2 ^ 27) (S : St) : CallQ Tryd.prog (NC h) 30 [.int .u64 n] S fun r S1 => S1 = S ∧ r = .int .i64 (27 : Nat) := by
  have hat := tab_at 27 (by decide)
  refine CallQ.of rfl (by kernel_rfl : Tryd.prog.funcs[30]? = some Tryd.f30) rfl (by decide) ?_
  conv => whnf
  refine brEq (fun q => absurd (by omega) h0) (fun _ => ?_)
  conv => whnf
  rw [tz_neg h0 hn, and_u64 _ _ hn (by omega), hand]
  refine ⟨by decide, ?_⟩
  rw [show (IntKind.u64.wrap (((2 ^ 27 : Nat) : Int) * 285870213051353865)).fdiv (2 ^ min (58 : Int).toNat IntKind.u64.bits) = 35 by decide +kernel]
  conv => whnf
  refine ⟨by decide, by decide, ?_⟩
  refine partF_of (r := tabV[35]?) (v := .int .u8 27) (by rw [show (35 : Nat) = 2 ^ 27 * 285870213051353865 % 2 ^ 64 / 2 ^ 58 by decide +kernel]; exact hat) ?_
  conv => whnf
  exact ⟨rfl, rfl⟩
theorem tzc28 (h : Bool) (n : Nat) (hn : n < 2 ^ 64) (h0 : n ≠ 0) (hand : n &&& (18446744073709551616 - n) = 2 ^ 28) (S : St) : CallQ Tryd.prog (NC h) 30 [.int .u64 n] S fun r S1 => S1 = S ∧ r = .int .i64 (28 : Nat) := by
  have hat := tab_at 28 (by decide)
  refine CallQ.of rfl (by kernel_rfl : Tryd.prog.funcs[30]? = some Tryd.f30) rfl (by decide) ?_
  conv => whnf
  refine brEq (fun q => absurd (by omega) h0) (fun _ => ?_)
  conv => whnf
  rw [tz_neg h0 hn, and_u64 _ _ hn (by omega), hand]
  refine ⟨by decide, ?_⟩
  rw [show (IntKind.u64.wrap (((2 ^ 28 : Nat) : Int) * 285870213051353865)).fdiv (2 ^ min (58 : Int).toNat IntKind.u64.bits) = 6 by decide +kernel]
  conv => whnf
  refine ⟨by decide, by decide, ?_⟩
  refine partF_of (r := tabV[6]?) (v := .int .u8 28) (by rw [show (6 : Nat) = 2 ^ 28 * 285870213051353865 % 2 ^ 64 / 2 ^ 58 by decide +kernel]; exact hat) ?_
  conv => whnf
  exact ⟨rfl, rfl⟩
theorem tzc29 (h : Bool) (n : Nat) (hn : n < 2 ^ 64) (h0 : n ≠ 0) (hand : n &&& (18446744073709551616 - n) = 2 ^ 29) (S : St) : CallQ Tryd.prog (NC h) 30 [.int .u64 n] S fun r S1 => S1 = S ∧ r = .int .i64 (29 : Nat) := by
  have hat := tab_at 29 (by decide)
  refine CallQ.of rfl (by kernel_rfl : Tryd.prog.funcs[30]? = some Tryd.f30) rfl (by decide) ?_
  conv => whnf
  refine brEq (fun q => absurd (by omega) h0) (fun _ => ?_)
  conv => whnf
  rw [tz_neg h0 hn, and_u64 _ _ hn (by omega), hand]
  refine ⟨by decide, ?_⟩
  rw [show (IntKind.u64.wrap (((2 ^ 29 : Nat) : Int) * 285870213051353865)).fdiv (2 ^ min (58 : Int).toNat IntKind.u64.bits) = 13 by decide +kernel]
  conv => whnf
  refine ⟨by decide, by decide, ?_⟩
  refine partF_of (r := tabV[13]?) (v := .int .u8 29) (by rw [show (13 : Nat) = 2 ^ 29 * 285870213051353865 % 2 ^ 64 / 2 ^ 58 by decide +kernel]; exact hat) ?_
  conv => whnf
  exact ⟨rfl, rfl⟩
theorem tzc30 (h : Bool) (n : Nat) (hn : n < 2 ^ 64) (h0 : n ≠ 0) (hand : n &&& (18446744073709551616 - n) = 2 ^ 30) (S : St) : CallQ Tryd.prog (NC h) 30 [.int .u64 n] S fun r S1 => S1 = S ∧ r = .int .i64 (30 : Nat) := by
  have hat := tab_at 30 (by decide)
  refine CallQ.of rfl (by kernel_rfl : Tryd.prog.funcs[30]? = some Tryd.f30) rfl (by decide) ?_
  conv => whnf
  refine brEq (fun q => absurd (by omega) h0) (fun _ => ?_)
  conv => whnf
  rw [tz_neg h0 hn, and_u64 _ _ hn (by omega), hand]
  refine ⟨by decide, ?_⟩
  rw [show (IntKind.u64.wrap (((2 ^ 30 : Nat) : Int) * 285870213051353865)).fdiv (2 ^ min (58 : Int).toNat IntKind.u64.bits) = 27 by decide +kernel]
  conv => whnf
  refine ⟨by decide, by decide, ?_⟩
  refine partF_of (r := tabV[27]?) (v := .int .u8 30) (by rw [show (27 : Nat) = 2 ^ 30 * 285870213051353865 % 2 ^ 64 / 2 ^ 58 by decide +kernel]; exact hat) ?_
  conv => whnf
  exact ⟨rfl, rfl⟩
theorem tzc31 (h : Bool) (n : Nat) (hn : n < 2 ^ 64) (h0 : n ≠ 0) (hand : n &&& (18446744073709551616 - n) = 2 ^ 31) (S : St) : CallQ Tryd.prog (NC h) 30 [.int .u64 n] S fun r S1 => S1 = S ∧ r = .int .i64 (31 : Nat) := by
  have hat := tab_at 31 (by decide)
  refine CallQ.of rfl (by kernel_rfl : Tryd.prog.funcs[30]? = some Tryd.f30) rfl (by decide) ?_
  conv => whnf
  refine brEq (fun q => absurd (by omega) h0) (fun _ => ?_)
  conv => whnf
  rw [tz_neg h0 hn, and_u64 _ _ hn (by omega), hand]
  refine ⟨by decide, ?_⟩
  rw [show (IntKind.u64.wrap (((2 ^ 31 : Nat) : Int) * 285870213051353865)).fdiv (2 ^ min (58 : Int).toNat IntKind.u64.bits) = 54 by decide +kernel]
  conv => whnf
  refine ⟨by decide, by decide, ?_⟩
  refine partF_of (r := tabV[54]?) (v := .int .u8 31) (by rw [show (54 : Nat) = 2 ^ 31 * 285870213051353865 % 2 ^ 64 / 2 ^ 58 by decide +kernel]; exact hat) ?_
  conv => whnf
  exact ⟨rfl, rfl⟩
theorem tzc32 (h : Bool) (n : Nat) (hn : n < 2 ^ 64) (h0 : n ≠ 0) (hand : n &&& (18446744073709551616 - n) = 2 ^ 32) (S : St) : CallQ Tryd.prog (NC h) 30 [.int .u64 n] S fun r S1 => S1 = S ∧ r = .int .i64 (32 : Nat) := by
  have hat := tab_at 32 (by decide)
  refine CallQ.of rfl (by kernel_rfl : Tryd.prog.funcs[30]? = some Tryd.f30) rfl (by decide) ?_
  conv => whnf
  refine brEq (fun q => absurd (by omega) h0) (fun _ => ?_)
  conv => whnf
  rw [tz_neg h0 hn, and_u64 _ _ hn (by omega), hand]
  refine ⟨by decide, ?_⟩
  rw [show (IntKind.u64.wrap (((2 ^ 32 : Nat) : Int) * 285870213051353865)).fdiv (2 ^ min (58 : Int).toNat IntKind.u64.bits) = 45 by decide +kernel]
  conv => whnf
  refine ⟨by decide, by decide, ?_⟩
  refine partF_of (r := tabV[45]?) (v := .int .u8 32) (by rw [show (45 : Nat) = 2 ^ 32 * 285870213051353865 % 2 ^ 64 / 2 ^ 58 by decide +kernel]; exact hat) ?_
  conv => whnf
  exact ⟨rfl, rfl⟩
theorem tzc33 (h : Bool) (n : Nat) (hn : n < 2 ^ 64) (h0 : n ≠ 0) (hand : n &&& (18446744073709551616 - n) = 2 ^ 33) (S : St) : CallQ Tryd.prog (NC h) 30 [.int .u64 n] S fun r S1 => S1 = S ∧ r = .int .i64 (33 : Nat) := by
  have hat := tab_at 33 (by decide)
  refine CallQ.of rfl (by kernel_rfl : Tryd.prog.funcs[30]? = some Tryd.f30) rfl (by decide) ?_
  conv => whnf
  refine brEq (fun q => absurd (by omega) h0) (fun _ => ?_)
  conv => whnf
  rw [tz_neg h0 hn, and_u64 _ _ hn (by omega), hand]
  refine ⟨by decide, ?_⟩
  rw [show (IntKind.u64.wrap (((2 ^ 33 : Nat) : Int) * 285870213051353865)).fdiv (2 ^ min (58 : Int).toNat IntKind.u64.bits) = 26 by decide +kernel]
  conv => whnf
  refine ⟨by decide, by decide, ?_⟩
  refine partF_of (r := tabV[26]?) (v := .int .u8 33) (by rw [show (26 : Nat) = 2 ^ 33 * 285870213051353865 % 2 ^ 64 / 2 ^ 58 by decide +kernel]; exact hat) ?_
  conv => whnf
  exact ⟨rfl, rfl⟩
theorem tzc34 (h : Bool) (n : Nat) (hn : n < 2 ^ 64) (h0 : n ≠ 0) (hand : n &&& (18446744073709551616 - n) = 2 ^ 34) (S : St) : CallQ Tryd.prog (NC h) 30 [.int .u64 n] S fun r S1 => S1 = S ∧ r = .int .i64 (34 : Nat) := by
  have hat := tab_at 34 (by decide)
  refine CallQ.of rfl (by kernel_rfl : Tryd.prog.funcs[30]? = some Tryd.f30) rfl (by decide) ?_
  conv => whnf
  refine brEq (fun q => absurd (by omega) h0) (fun _ => ?_)
  conv => whnf
  rw [tz_neg h0 hn, and_u64 _ _ hn (by omega), hand]
  refine ⟨by decide, ?_⟩
  rw [show (IntKind.u64.wrap (((2 ^ 34 : Nat) : Int) * 285870213051353865)).fdiv (2 ^ min (58 : Int).toNat IntKind.u64.bits) = 52 by decide +kernel]
  conv => whnf
  refine ⟨by decide, by decide, ?_⟩
  refine partF_of (r := tabV[52]?) (v := .int .u8 34) (by rw [show (52 : Nat) = 2 ^ 34 * 285870213051353865 % 2 ^ 64 / 2 ^ 58 by decide +kernel]; exact hat) ?_
  conv => whnf
  exact ⟨rfl, rfl⟩
theorem tzc35 (h : Bool) (n : Nat) (hn : n < 2 ^ 64) (h0 : n ≠ 0) (hand : n &&& (18446744073709551616 - n) = 2 ^ 35) (S : St) : CallQ Tryd.prog (NC h) 30 [.int .u64 n] S fun r S1 => S1 = S ∧ r = .int .i64 (35 : Nat) := by
  have hat := tab_at 35 (by decide)
  refine CallQ.of rfl (by kernel_rfl : Tryd.prog.funcs[30]? = some Tryd.f30) rfl (by decide) ?_
  conv => whnf
  refine brEq (fun q => absurd (by omega) h0) (fun _ => ?_)
  conv => whnf
  rw [tz_neg h0 hn, and_u64 _ _ hn (by omega), hand]
  refine ⟨by decide, ?_⟩
  rw [show (IntKind.u64.wrap (((2 ^ 35 : Nat) : Int) * 285870213051353865)).fdiv (2 ^ min (58 : Int).toNat IntKind.u64.bits) = 41 by decide +kernel]
  conv => whnf
  refine ⟨by decide, by decide, ?_⟩
  refine partF_of (r := tabV[41]?) (v := .int .u8 35) (by rw [show (41 : Nat) = 2 ^ 35 * 285870213051353865 % 2 ^ 64 / 2 ^ 58 by decide +kernel]; exact hat) ?_
  conv => whnf
  exact ⟨rfl, rfl⟩
theorem tzc36 (h : Bool) (n : Nat) (hn : n < 2 ^ 64) (h0 : n ≠ 0) (hand : n &&& (18446744073709551616 - n) = 2 ^ 36) (S : St) : CallQ Tryd.prog (NC h) 30 [.int .u64 n] S fun r S1 => S1 = S ∧ r = .int .i64 (36 : Nat) := by
  have hat := tab_at 36 (by decide)
  refine CallQ.of rfl (by kernel_rfl : Tryd.prog.funcs[30]? = some Tryd.f30) rfl (by decide) ?_
  conv => whnf
  refine brEq (fun q => absurd (by omega) h0) (fun _ => ?_)
  conv => whnf
  rw [tz_neg h0 hn, and_u64 _ _ hn (by omega), hand]
  refine ⟨by decide, ?_⟩
  rw [show (IntKind.u64.wrap (((2 ^ 36 : Nat) : Int) * 285870213051353865)).fdiv (2 ^ min (58 : Int).toNat IntKind.u64.bits) = 19 by decide +kernel]
  conv => whnf
  refine ⟨by decide, by decide, ?_⟩
  refine partF_of (r := tabV[19]?) (v := .int .u8 36) (by rw [show (19 : Nat) = 2 ^ 36 * 285870213051353865 % 2 ^ 64 / 2 ^ 58 by decide +kernel]; exact hat) ?_
  conv => whnf
  exact ⟨rfl, rfl⟩
theorem tzc37 (h : Bool) (n : Nat) (hn : n < 2 ^ 64) (h0 : n ≠ 0) (hand : n &&& (18446744073709551616 - n) = 2 ^ 37) (S : St) : CallQ Tryd.prog (NC h) 30 [.int .u64 n] S fun r S1 => S1 = S ∧ r = .int .i64 (37 : Nat) := by
  have hat := tab_at 37 (by decide)
  refine CallQ.of rfl (by kernel_rfl : Tryd.prog.funcs[30]? = some Tryd.f30) rfl (by decide) ?_
  conv => whnf
  refine brEq (fun q => absurd (by omega) h0) (fun _ => ?_)
  conv => whnf
  rw [tz_neg h0 hn, and_u64 _ _ hn (by omega), hand]
  refine ⟨by decide, ?_⟩
  rw [show (IntKind.u64.wrap (((2 ^ 37 : Nat) : Int) * 285870213051353865)).fdiv (2 ^ min (58 : Int).toNat IntKind.u64.bits) = 38 by decide +kernel]
  conv => whnf
  refine ⟨by decide, by decide, ?_⟩
  refine partF_of (r := tabV[38]?) (v := .int .u8 37) (by rw [show (38 : Nat) = 2 ^ 37 * 285870213051353865 % 2 ^ 64 / 2 ^ 58 by decide +kernel]; exact hat) ?_
  conv => whnf
  exact ⟨rfl, rfl⟩
theorem tzc38 (h : Bool) (n : Nat) (hn : n < 2 ^ 64) (h0 : n ≠ 0) (hand : n &&& (18446744073709551616 - n) = 2 ^ 38) (S : St) : CallQ Tryd.prog (NC h) 30 [.int .u64 n] S fun r S1 => S1 = S ∧ r = .int .i64 (38 : Nat) := by
  have hat := tab_at 38 (by decide)
  refine CallQ.of rfl (by kernel_rfl : Tryd.prog.funcs[30]? = some Tryd.f30) rfl (by decide) ?_
  conv => whnf
  refine brEq (fun q => absurd (by omega) h0) (fun _ => ?_)
  conv => whnf
  rw [tz_neg h0 hn, and_u64 _ _ hn (by omega), hand]
  refine ⟨by decide, ?_⟩
  rw [show (IntKind.u64.wrap (((2 ^ 38 : Nat) : Int) * 285870213051353865)).fdiv (2 ^ min (58 : Int).toNat IntKind.u64.bits) = 12 by decide +kernel]
  conv => whnf
  refine ⟨by decide, by decide, ?_⟩
  refine partF_of (r := tabV[12]?) (v := .int .u8 38) (by rw [show (12 : Nat) = 2 ^ 38 * 285870213051353865 % 2 ^ 64 / 2 ^ 58 by decide +kernel]; exact hat) ?_
  conv => whnf
  exact ⟨rfl, rfl⟩
theorem tzc39 (h : Bool) (n : Nat) (hn : n < 2 ^ 64) (h0 : n ≠ 0) (hand : n &&& (18446744073709551616 - n) = 2 ^ 39) (S : St) : CallQ Tryd.prog (NC h) 30 [.int .u64 n] S fun r S1 => S1 = S ∧ r = .int .i64 (39 : Nat) := by
  have hat := tab_at 39 (by decide)
  refine CallQ.of rfl (by kernel_rfl : Tryd.prog.funcs[30]? = some Tryd.f30) rfl (by decide) ?_
  conv => whnf
  refine brEq (fun q => absurd (by omega) h0) (fun _ => ?_)
  conv => whnf
  rw [tz_neg h0 hn, and_u64 _ _ hn (by omega), hand]
  refine ⟨by decide, ?_⟩
  rw [show (IntKind.u64.wrap (((2 ^ 39 : Nat) : Int) * 285870213051353865)).fdiv (2 ^ min (58 : Int).toNat IntKind.u64.bits) = 25 by decide +kernel]
  conv => whnf
  refine ⟨by decide, by decide, ?_⟩
  refine partF_of (r := tabV[25]?) (v := .int .u8 39) (by rw [show (25 : Nat) = 2 ^ 39 * 285870213051353865 % 2 ^ 64 / 2 ^ 58 by decide +kernel]; exact hat) ?_
  conv => whnf
  exact ⟨rfl, rfl⟩
theorem tzc40 (h : Bool) (n : Nat) (hn : n < 2 ^ 64) (h0 : n ≠ 0) (hand : n &&& (18446744073709551616 - n) = 2 ^ 40) (S : St) : CallQ Tryd.prog (NC h) 30 [.int .u64 n] S fun r S1 => S1 = S ∧ r = .int .i64 (40 : Nat) := by
  have hat := tab_at 40 (by decide)
  refine CallQ.of rfl (by kernel_rfl : Tryd.prog.funcs[30]? = some Tryd.f30) rfl (by decide) ?_
  conv => whnf
  refine brEq (fun q => absurd (by omega) h0) (fun _ => ?_)
  conv => whnf
  rw [tz_neg h0 hn, and_u64 _ _ hn (by omega), hand]
  refine ⟨by decide, ?_⟩
  rw [show (IntKind.u64.wrap (((2 ^ 40 : Nat) : Int) * 285870213051353865)).fdiv (2 ^ min (58 : Int).toNat IntKind.u64.bits) = 50 by decide +kernel]
  conv => whnf
  refine ⟨by decide, by decide, ?_⟩
  refine partF_of (r := tabV[50]?) (v := .int .u8 40) (by rw [show (50 : Nat) = 2 ^ 40 * 285870213051353865 % 2 ^ 64 / 2 ^ 58 by decide +kernel]; exact hat) ?_
  conv => whnf
  exact ⟨rfl, rfl⟩
theorem tzc41 (h : Bool) (n : Nat) (hn : n < 2 ^ 64) (h0 : n ≠ 0) (hand : n &&& (18446744073709551616 - n) = 2 ^ 41) (S : St) : CallQ Tryd.prog (NC h) 30 [.int .u64 n] S fun r S1 => S1 = S ∧ r = .int .i64 (41 : Nat) := by
  have hat := tab_at 41 (by decide)
  refine CallQ.of rfl (by kernel_rfl : Tryd.prog.funcs[30]? = some Tryd.f30) rfl (by decide) ?_
  conv => whnf
  refine brEq (fun q => absurd (by omega) h0) (fun _ => ?_)
  conv => whnf
  rw [tz_neg h0 hn, and_u64 _ _ hn (by omega), hand]
  refine ⟨by decide, ?_⟩
  rw [show (IntKind.u64.wrap (((2 ^ 41 : Nat) : Int) * 285870213051353865)).fdiv (2 ^ min (58 : Int).toNat IntKind.u64.bits) = 37 by decide +kernel]
  conv => whnf
  refine ⟨by decide, by decide, ?_⟩
  refine partF_of (r := tabV[37]?) (v := .int .u8 41) (by rw [show (37 : Nat) = 2 ^ 41 * 285870213051353865 % 2 ^ 64 / 2 ^ 58 by decide +kernel]; exact hat) ?_
  conv => whnf
  exact ⟨rfl, rfl⟩
theorem tzc42 (h : Bool) (n : Nat) (hn : n < 2 ^ 64) (h0 : n ≠ 0) (hand : n &&& (18446744073709551616 - n) = 2 ^ 42) (S : St) : CallQ Tryd.prog (NC h) 30 [.int .u64 n] S fun r S1 => S1 = S ∧ r = .int .i64 (42 : Nat) := by
  have hat := tab_at 42 (by decide)
  refine CallQ.of rfl (by kernel_rfl : Tryd.prog.funcs[30]? = some Tryd.f30) rfl (by decide) ?_
  conv => whnf
  refine brEq (fun q => absurd (by omega) h0) (fun _ => ?_)
  conv => whnf
  rw [tz_neg h0 hn, and_u64 _ _ hn (by omega), hand]
  refine ⟨by decide, ?_⟩
  rw [show (IntKind.u64.wrap (((2 ^ 42 : Nat) : Int) * 285870213051353865)).fdiv (2 ^ min (58 : Int).toNat IntKind.u64.bits) = 10 by decide +kernel]
  conv => whnf
  refine ⟨by decide, by decide, ?_⟩
  refine partF_of (r := tabV[10]?) (v := .int .u8 42) (by rw [show (10 : Nat) = 2 ^ 42 * 285870213051353865 % 2 ^ 64 / 2 ^ 58 by decide +kernel]; exact hat) ?_
  conv => whnf
  exact ⟨rfl, rfl⟩
theorem tzc43 (h : Bool) (n : Nat) (hn : n < 2 ^ 64) (h0 : n ≠ 0) (hand : n &&& (18446744073709551616 - n) = 2 ^ 43) (S : St) : CallQ Tryd.prog (NC h) 30 [.int .u64 n] S fun r S1 => S1 = S ∧ r = .int .i64 (43 : Nat) := by
  have hat := tab_at 43 (by decide)
  refine CallQ.of rfl (by kernel_rfl : Tryd.prog.funcs[30]? = some Tryd.f30) rfl (by decide) ?_
  conv => whnf
  refine brEq (fun q => absurd (by omega) h0) (fun _ => ?_)
  conv => whnf
  rw [tz_neg h0 hn, and_u64 _ _ hn (by omega), hand]
  refine ⟨by decide, ?_⟩
  rw [show (IntKind.u64.wrap (((2 ^ 43 : Nat) : Int) * 285870213051353865)).fdiv (2 ^ min (58 : Int).toNat IntKind.u64.bits) = 21 by decide +kernel]
  conv => whnf
  refine ⟨by decide, by decide, ?_⟩
  refine partF_of (r := tabV[21]?) (v := .int .u8 43) (by rw [show (21 : Nat) = 2 ^ 43 * 285870213051353865 % 2 ^ 64 / 2 ^ 58 by decide +kernel]; exact hat) ?_
  conv => whnf
  exact ⟨rfl, rfl⟩
theorem tzc44 (h : Bool) (n : Nat) (hn : n < 2 ^ 64) (h0 : n ≠ 0) (hand : n &&& (18446744073709551616 - n) = 2 ^ 44) (S : St) : CallQ Tryd.prog (NC h) 30 [.int .u64 n] S fun r S1 => S1 = S ∧ r = .int .i64 (44 : Nat) := by
  have hat := tab_at 44 (by decide)
  refine CallQ.of rfl (by kernel_rfl : Tryd.prog.funcs[30]? = some Tryd.f30) rfl (by decide) ?_
  conv => whnf
  refine brEq (fun q => absurd (by omega) h0) (fun _ => ?_)
  conv => whnf
  rw [tz_neg h0 hn, and_u64 _ _ hn (by omega), hand]
  refine ⟨by decide, ?_⟩
  rw [show (IntKind.u64.wrap (((2 ^ 44 : Nat) : Int) * 285870213051353865)).fdiv (2 ^ min (58 : Int).toNat IntKind.u64.bits) = 42 by decide +kernel]
  conv => whnf
  refine ⟨by decide, by decide, ?_⟩
  refine partF_of (r := tabV[42]?) (v := .int .u8 44) (by rw [show (42 : Nat) = 2 ^ 44 * 285870213051353865 % 2 ^ 64 / 2 ^ 58 by decide +kernel]; exact hat) ?_
  conv => whnf
  exact ⟨rfl, rfl⟩
theorem tzc45 (h : Bool) (n : Nat) (hn : n < 2 ^ 64) (h0 : n ≠ 0) (hand : n &&& (18446744073709551616 - n) = 2 ^ 45) (S : St) : CallQ Tryd.prog (NC h) 30 [.int .u64 n] S fun r S1 => S1 = S ∧ r = .int .i64 (45 : Nat) := by
  have hat := tab_at 45 (by decide)
  refine CallQ.of rfl (by kernel_rfl : Tryd.prog.funcs[30]? = some Tryd.f30) rfl (by decide) ?_
  conv => whnf
  refine brEq (fun q => absurd (by omega) h0) (fun _ => ?_)
  conv => whnf
  rw [tz_neg h0 hn, and_u64 _ _ hn (by omega), hand]
  refine ⟨by decide, ?_⟩
  rw [show (IntKind.u64.wrap (((2 ^ 45 : Nat) : Int) * 285870213051353865)).fdiv (2 ^ min (58 : Int).toNat IntKind.u64.bits) = 20 by decide +kernel]
  conv => whnf
  refine ⟨by decide, by decide, ?_⟩
  refine partF_of (r := tabV[20]?) (v := .int .u8 45) (by rw [show (20 : Nat) = 2 ^ 45 * 285870213051353865 % 2 ^ 64 / 2 ^ 58 by decide +kernel]; exact hat) ?_
  conv => whnf
  exact ⟨rfl, rfl⟩
theorem tzc46 (h : Bool) (n : Nat) (hn : n < 2 ^ 64) (h0 : n ≠ 0) (hand : n &&& (18446744073709551616 - n) = 2 ^ 46) (S : St) : CallQ Tryd.prog (NC h) 30 [.int .u64 n] S fun r S1 => S1 = S ∧ r = .int .i64 (46 : Nat) := by
  have hat := tab_at 46 (by decide)
  refine CallQ.of rfl (by kernel_rfl : Tryd.prog.funcs[30]? = some Tryd.f30) rfl (by decide) ?_
  conv => whnf
  refine brEq (fun q => absurd (by omega) h0) (fun _ => ?_)
  conv => whnf
  rw [tz_neg h0 hn, and_u64 _ _ hn (by omega), hand]
  refine ⟨by decide, ?_⟩
  rw [show (IntKind.u64.wrap (((2 ^ 46 : Nat) : Int) * 285870213051353865)).fdiv (2 ^ min (58 : Int).toNat IntKind.u64.bits) = 40 by decide +kernel]
  conv => whnf
  refine ⟨by decide, by decide, ?_⟩
  refine partF_of (r := tabV[40]?) (v := .int .u8 46) (by rw [show (40 : Nat) = 2 ^ 46 * 285870213051353865 % 2 ^ 64 / 2 ^ 58 by decide +kernel]; exact hat) ?_
  conv => whnf
  exact ⟨rfl, rfl⟩
theorem tzc47 (h : Bool) (n : Nat) (hn : n < 2 ^ 64) (h0 : n ≠ 0) (hand : n &&& (18446744073709551616 - n) = 2 ^ 47) (S : St) : CallQ Tryd.prog (NC h) 30 [.int .u64 n] S fun r S1 => S1 = S ∧ r = .int .i64 (47 : Nat) := by
  have hat := tab_at 47 (by decide)
  refine CallQ.of rfl (by kernel_rfl : Tryd.prog.funcs[30]? = some Tryd.f30) rfl (by decide) ?_
  conv => whnf
  refine brEq (fun q => absurd (by omega) h0) (fun _ => ?_)
  conv => whnf
  rw [tz_neg h0 hn, and_u64 _ _ hn (by omega), hand]
  refine ⟨by decide, ?_⟩
  rw [show (IntKind.u64.wrap (((2 ^ 47 : Nat) : Int) * 285870213051353865)).fdiv (2 ^ min (58 : Int).toNat IntKind.u64.bits) = 17 by decide +kernel]
  conv => whnf
  refine ⟨by decide, by decide, ?_⟩
  refine partF_of (r := tabV[17]?) (v := .int .u8 47) (by rw [show (17 : Nat) = 2 ^ 47 * 285870213051353865 % 2 ^ 64 / 2 ^ 58 by decide +kernel]; exact hat) ?_
  conv => whnf
  exact ⟨rfl, rfl⟩
theorem tzc48 (h : Bool) (n : Nat) (hn : n < 2 ^ 64) (h0 : n ≠ 0) (hand : n &&& (18446744073709551616 - n) = 2 ^ 48) (S : St) : CallQ Tryd.prog (NC h) 30 [.int .u64 n] S fun r S1 => S1 = S ∧ r = .int .i64 (48 : Nat) := by
  have hat := tab_at 48 (by decide)
  refine CallQ.of rfl (by kernel_rfl : Tryd.prog.funcs[30]? = some Tryd.f30) rfl (by decide) ?_
  conv => whnf
  refine brEq (fun q => absurd (by omega) h0) (fun _ => ?_)
  conv => whnf
  rw [tz_neg h0 hn, and_u64 _ _ hn (by omega), hand]
  refine ⟨by decide, ?_⟩
  rw [show (IntKind.u64.wrap (((2 ^ 48 : Nat) : Int) * 285870213051353865)).fdiv (2 ^ min (58 : Int).toNat IntKind.u64.bits) = 34 by decide +kernel]
  conv => whnf
  refine ⟨by decide, by decide, ?_⟩
  refine partF_of (r := tabV[34]?) (v := .int .u8 48) (by rw [show (34 : Nat) = 2 ^ 48 * 285870213051353865 % 2 ^ 64 / 2 ^ 58 by decide +kernel]; exact hat) ?_
  conv => whnf
  exact ⟨rfl, rfl⟩
theorem tzc49 (h : Bool) (n : Nat) (hn : n < 2 ^ 64) (h0 : n ≠ 0) (hand : n &&& (18446744073709551616 - n) = 2 ^ 49) (S : St) : CallQ Tryd.prog (NC h) 30 [.int .u64 n] S fun r S1 => S1 = S ∧ r = .int .i64 (49 : Nat) := by
  have hat := tab_at 49 (by decide)
  refine CallQ.of rfl (by kernel_rfl : Tryd.prog.funcs[30]? = some Tryd.f30) rfl (by decide) ?_
  conv => whnf
  refine brEq (fun q => absurd (by omega) h0) (fun _ => ?_)
  conv => whnf
  rw [tz_neg h0 hn, and_u64 _ _ hn (by omega), hand]
  refine ⟨by decide, ?_⟩
  rw [show (IntKind.u64.wrap (((2 ^ 49 : Nat) : Int) * 285870213051353865)).fdiv (2 ^ min (58 : Int).toNat IntKind.u64.bits) = 5 by decide +kernel]
  conv => whnf
  refine ⟨by decide, by decide, ?_⟩
  refine partF_of (r := tabV[5]?) (v := .int .u8 49) (by rw [show (5 : Nat) = 2 ^ 49 * 285870213051353865 % 2 ^ 64 / 2 ^ 58 by decide +kernel]; exact hat) ?_
  conv => whnf
  exact ⟨rfl, rfl⟩
theorem tzc50 (h : Bool) (n : Nat) (hn : n < 2 ^ 64) (h0 : n ≠ 0) (hand : n &&& (18446744073709551616 - n) = 2 ^ 50) (S : St) : CallQ Tryd.prog (NC h) 30 [.int .u64 n] S fun r S1 => S1 = S ∧ r = .int .i64 (50 : Nat) := by
  have hat := tab_at 50 (by decide)
  refine CallQ.of rfl (by kernel_rfl : Tryd.prog.funcs[30]? = some Tryd.f30) rfl (by decide) ?_
  conv => whnf
  refine brEq (fun q => absurd (by omega) h0) (fun _ => ?_)
  conv => whnf
  rw [tz_neg h0 hn, and_u64 _ _ hn (by omega), hand]
  refine ⟨by decide, ?_⟩
  rw [show (IntKind.u64.wrap (((2 ^ 50 : Nat) : Int) * 285870213051353865)).fdiv (2 ^ min (58 : Int).toNat IntKind.u64.bits) = 11 by decide +kernel]
  conv => whnf
  refine ⟨by decide, by decide, ?_⟩
  refine partF_of (r := tabV[11]?) (v := .int .u8 50) (by rw [show (11 : Nat) = 2 ^ 50 * 285870213051353865 % 2 ^ 64 / 2 ^ 58 by decide +kernel]; exact hat) ?_
  conv => whnf
  exact ⟨rfl, rfl⟩
theorem tzc51 (h : Bool) (n : Nat) (hn : n < 2 ^ 64) (h0 : n ≠ 0) (hand : n &&& (18446744073709551616 - n) = 2 ^ 51) (S : St) : CallQ Tryd.prog (NC h) 30 [.int .u64 n] S fun r S1 => S1 = S ∧ r = .int .i64 (51 : Nat) := by
  have hat := tab_at 51 (by decide)
  refine CallQ.of rfl (by kernel_rfl : Tryd.prog.funcs[30]? = some Tryd.f30) rfl (by decide) ?_
  conv => whnf
  refine brEq (fun q => absurd (by omega) h0) (fun _ => ?_)
  conv => whnf
  rw [tz_neg h0 hn, and_u64 _ _ hn (by omega), hand]
  refine ⟨by decide, ?_⟩
  rw [show (IntKind.u64.wrap (((2 ^ 51 : Nat) : Int) * 285870213051353865)).fdiv (2 ^ min (58 : Int).toNat IntKind.u64.bits) = 22 by decide +kernel]
  conv => whnf
  refine ⟨by decide, by decide, ?_⟩
  refine partF_of (r := tabV[22]?) (v := .int .u8 51) (by rw [show (22 : Nat) = 2 ^ 51 * 285870213051353865 % 2 ^ 64 / 2 ^ 58 by decide +kernel]; exact hat) ?_
  conv => whnf
  exact ⟨rfl, rfl⟩
theorem tzc52 (h : Bool) (n : Nat) (hn : n < 2 ^ 64) (h0 : n ≠ 0) (hand : n &&& (18446744073709551616 - n) = 2 ^ 52) (S : St) : CallQ Tryd.prog (NC h) 30 [.int .u64 n] S fun r S1 => S1 = S ∧ r = .int .i64 (52 : Nat) := by
  have hat := tab_at 52 (by decide)
  refine CallQ.of rfl (by kernel_rfl : Tryd.prog.funcs[30]? = some Tryd.f30) rfl (by decide) ?_
  conv => whnf
  refine brEq (fun q => absurd (by omega) h0) (fun _ => ?_)
  conv => whnf
  rw [tz_neg h0 hn, and_u64 _ _ hn (by omega), hand]
  refine ⟨by decide, ?_⟩
  rw [show (IntKind.u64.wrap (((2 ^ 52 : Nat) : Int) * 285870213051353865)).fdiv (2 ^ min (58 : Int).toNat IntKind.u64.bits) = 44 by decide +kernel]
  conv => whnf
  refine ⟨by decide, by decide, ?_⟩
  refine partF_of (r := tabV[44]?) (v := .int .u8 52) (by rw [show (44 : Nat) = 2 ^ 52 * 285870213051353865 % 2 ^ 64 / 2 ^ 58 by decide +kernel]; exact hat) ?_
  conv => whnf
  exact ⟨rfl, rfl⟩
theorem tzc53 (h : Bool) (n : Nat) (hn : n < 2 ^ 64) (h0 : n ≠ 0) (hand : n &&& (18446744073709551616 - n) = 2 ^ 53) (S : St) : CallQ Tryd.prog (NC h) 30 [.int .u64 n] S fun r S1 => S1 = S ∧ r = .int .i64 (53 : Nat) := by
  have hat := tab_at 53 (by decide)
  refine CallQ.of rfl (by kernel_rfl : Tryd.prog.funcs[30]? = some Tryd.f30) rfl (by decide) ?_
  conv => whnf
  refine brEq (fun q => absurd (by omega) h0) (fun _ => ?_)
  conv => whnf
  rw [tz_neg h0 hn, and_u64 _ _ hn (by omega), hand]
  refine ⟨by decide, ?_⟩
  rw [show (IntKind.u64.wrap (((2 ^ 53 : Nat) : Int) * 285870213051353865)).fdiv (2 ^ min (58 : Int).toNat IntKind.u64.bits) = 24 by decide +kernel]
  conv => whnf
  refine ⟨by decide, by decide, ?_⟩
  refine partF_of (r := tabV[24]?) (v := .int .u8 53) (by rw [show (24 : Nat) = 2 ^ 53 * 285870213051353865 % 2 ^ 64 / 2 ^ 58 by decide +kernel]; exact hat) ?_
  conv => whnf
  exact ⟨rfl, rfl⟩
theorem tzc54 (h : Bool) (n : Nat) (hn : n < 2 ^ 64) (h0 : n ≠ 0) (hand : n &&& (18446744073709551616 - n) = 2 ^ 54) (S : St) : CallQ Tryd.prog (NC h) 30 [.int .u64 n] S fun r S1 => S1 = S ∧ r = .int .i64 (54 : Nat) := by
  have hat := tab_at 54 (by decide)
  refine CallQ.of rfl (by kernel_rfl : Tryd.prog.funcs[30]? = some Tryd.f30) rfl (by decide) ?_
  conv => whnf
  refine brEq (fun q => absurd (by omega) h0) (fun _ => ?_)
  conv => whnf
  rw [tz_neg h0 hn, and_u64 _ _ hn (by omega), hand]
  refine ⟨by decide, ?_⟩
  rw [show (IntKind.u64.wrap (((2 ^ 54 : Nat) : Int) * 285870213051353865)).fdiv (2 ^ min (58 : Int).toNat IntKind.u64.bits) = 48 by decide +kernel]
  conv => whnf
  refine ⟨by decide, by decide, ?_⟩
  refine partF_of (r := tabV[48]?) (v := .int .u8 54) (by rw [show (48 : Nat) = 2 ^ 54 * 285870213051353865 % 2 ^ 64 / 2 ^ 58 by decide +kernel]; exact hat) ?_
  conv => whnf
  exact ⟨rfl, rfl⟩
theorem tzc55 (h : Bool) (n : Nat) (hn : n < 2 ^ 64) (h0 : n ≠ 0) (hand : n &&& (18446744073709551616 - n) = 2 ^ 55) (S : St) : CallQ Tryd.prog (NC h) 30 [.int .u64 n] S fun r S1 => S1 = S ∧ r = .int .i64 (55 : Nat) := by
  have hat := tab_at 55 (by decide)
  refine CallQ.of rfl (by kernel_rfl : Tryd.prog.funcs[30]? = some Tryd.f30) rfl (by decide) ?_
  conv => whnf
  refine brEq (fun q => absurd (by omega) h0) (fun _ => ?_)
  conv => whnf
  rw [tz_neg h0 hn, and_u64 _ _ hn (by omega), hand]
  refine ⟨by decide, ?_⟩
  rw [show (IntKind.u64.wrap (((2 ^ 55 : Nat) : Int) * 285870213051353865)).fdiv (2 ^ min (58 : Int).toNat IntKind.u64.bits) = 33 by decide +kernel]
  conv => whnf
  refine ⟨by decide, by decide, ?_⟩
  refine partF_of (r := tabV[33]?) (v := .int .u8 55) (by rw [show (33 : Nat) = 2 ^ 55 * 285870213051353865 % 2 ^ 64 / 2 ^ 58 by decide +kernel]; exact hat) ?_
  conv => whnf
  exact ⟨rfl, rfl⟩
theorem tzc56 (h : Bool) (n : Nat) (hn : n < 2 ^ 64) (h0 : n ≠ 0) (hand : n &&& (18446744073709551616 - n) = 2 ^ 56) (S : St) : CallQ Tryd.prog (NC h) 30 [.int .u64 n] S fun r S1 => S1 = S ∧ r = .int .i64 (56 : Nat) := by
  have hat := tab_at 56 (by decide)
  refine CallQ.of rfl (by kernel_rfl : Tryd.prog.funcs[30]? = some Tryd.f30) rfl (by decide) ?_
  conv => whnf
  refine brEq (fun q => absurd (by omega) h0) (fun _ => ?_)
  conv => whnf
  rw [tz_neg h0 hn, and_u64 _ _ hn (by omega), hand]
  refine ⟨by decide, ?_⟩
  rw [show (IntKind.u64.wrap (((2 ^ 56 : Nat) : Int) * 285870213051353865)).fdiv (2 ^ min (58 : Int).toNat IntKind.u64.bits) = 2 by decide +kernel]
  conv => whnf
  refine ⟨by decide, by decide, ?_⟩
  refine partF_of (r := tabV[2]?) (v := .int .u8 56) (by rw [show (2 : Nat) = 2 ^ 56 * 285870213051353865 % 2 ^ 64 / 2 ^ 58 by decide +kernel]; exact hat) ?_
  conv => whnf
  exact ⟨rfl, rfl⟩
theorem tzc57 (h : Bool) (n : Nat) (hn : n < 2 ^ 64) (h0 : n ≠ 0) (hand : n &&& (18446744073709551616 - n) = 2 ^ 57) (S : St) : CallQ Tryd.prog (NC h) 30 [.int .u64 n] S fun r S1 => S1 = S ∧ r = .int .i64 (57 : Nat) := by
  have hat := tab_at 57 (by decide)
  refine CallQ.of rfl (by kernel_rfl : Tryd.prog.funcs[30]? = some Tryd.f30) rfl (by decide) ?_
  conv => whnf
  refine brEq (fun q => absurd (by omega) h0) (fun _ => ?_)
  conv => whnf
  rw [tz_neg h0 hn, and_u64 _ _ hn (by omega), hand]
  refine ⟨by decide, ?_⟩
  rw [show (IntKind.u64.wrap (((2 ^ 57 : Nat) : Int) * 285870213051353865)).fdiv (2 ^ min (58 : Int).toNat IntKind.u64.bits) = 4 by decide +kernel]
  conv => whnf
  refine ⟨by decide, by decide, ?_⟩
  refine partF_of (r := tabV[4]?) (v := .int .u8 57) (by rw [show (4 : Nat) = 2 ^ 57 * 285870213051353865 % 2 ^ 64 / 2 ^ 58 by decide +kernel]; exact hat) ?_
  conv => whnf
  exact ⟨rfl, rfl⟩
theorem tzc58 (h : Bool) (n : Nat) (hn : n < 2 ^ 64) (h0 : n ≠ 0) (hand : n &&& (18446744073709551616 - n) = 2 ^ 58) (S : St) : CallQ Tryd.prog (NC h) 30 [.int .u64 n] S fun r S1 => S1 = S ∧ r = .int .i64 (58 : Nat) := by
  have hat := tab_at 58 (by decide)
  refine CallQ.of rfl (by kernel_rfl : Tryd.prog.funcs[30]? = some Tryd.f30) rfl (by decide) ?_
  conv => whnf
  refine brEq (fun q => absurd (by omega) h0) (fun _ => ?_)
  conv => whnf
  rw [tz_neg h0 hn, and_u64 _ _ hn (by omega), hand]
  refine ⟨by decide, ?_⟩
  rw [show (IntKind.u64.wrap (((2 ^ 58 : Nat) : Int) * 285870213051353865)).fdiv (2 ^ min (58 : Int).toNat IntKind.u64.bits) = 9 by decide +kernel]
  conv => whnf
  refine ⟨by decide, by decide, ?_⟩
  refine partF_of (r := tabV[9]?) (v := .int .u8 58) (by rw [show (9 : Nat) = 2 ^ 58 * 285870213051353865 % 2 ^ 64 / 2 ^ 58 by decide +kernel]; exact hat) ?_
  conv => whnf
  exact ⟨rfl, rfl⟩
theorem tzc59 (h : Bool) (n : Nat) (hn : n < 2 ^ 64) (h0 : n ≠ 0) (hand : n &&& (18446744073709551616 - n) = 2 ^ 59) (S : St) : CallQ Tryd.prog (NC h) 30 [.int .u64 n] S fun r S1 => S1 = S ∧ r = .int .i64 (59 : Nat) := by
  have hat := tab_at 59 (by decide)
  refine CallQ.of rfl (by kernel_rfl : Tryd.prog.funcs[30]? = some Tryd.f30) rfl (by decide) ?_
  conv => whnf
  refine brEq (fun q => absurd (by omega) h0) (fun _ => ?_)
  conv => whnf
  rw [tz_neg h0 hn, and_u64 _ _ hn (by omega), hand]
  refine ⟨by decide, ?_⟩
  rw [show (IntKind.u64.wrap (((2 ^ 59 : Nat) : Int) * 285870213051353865)).fdiv (2 ^ min (58 : Int).toNat IntKind.u64.bits) = 18 by decide +kernel]
  conv => whnf
  refine ⟨by decide, by decide, ?_⟩
  refine partF_of (r := tabV[18]?) (v := .int .u8 59) (by rw [show (18 : Nat) = 2 ^ 59 * 285870213051353865 % 2 ^ 64 / 2 ^ 58 by decide +kernel]; exact hat) ?_
  conv => whnf
  exact ⟨rfl, rfl⟩
theorem tzc60 (h : Bool) (n : Nat) (hn : n < 2 ^ 64) (h0 : n ≠ 0) (hand : n &&& (18446744073709551616 - n) = 2 ^ 60) (S : St) : CallQ Tryd.prog (NC h) 30 [.int .u64 n] S fun r S1 => S1 = S ∧ r = .int .i64 (60 : Nat) := by
  have hat := tab_at 60 (by decide)
  refine CallQ.of rfl (by kernel_rfl : Tryd.prog.funcs[30]? = some Tryd.f30) rfl (by decide) ?_
  conv => whnf
  refine brEq (fun q => absurd (by omega) h0) (fun _ => ?_)
  conv => whnf
  rw [tz_neg h0 hn, and_u64 _ _ hn (by omega), hand]
  refine ⟨by decide, ?_⟩
  rw [show (IntKind.u64.wrap (((2 ^ 60 : Nat) : Int) * 285870213051353865)).fdiv (2 ^ min (58 : Int).toNat IntKind.u64.bits) = 36 by decide +kernel]
  conv => whnf
  refine ⟨by decide, by decide, ?_⟩
  refine partF_of (r := tabV[36]?) (v := .int .u8 60) (by rw [show (36 : Nat) = 2 ^ 60 * 285870213051353865 % 2 ^ 64 / 2 ^ 58 by decide +kernel]; exact hat) ?_
  conv => whnf
  exact ⟨rfl, rfl⟩
theorem tzc61 (h : Bool) (n : Nat) (hn : n < 2 ^ 64) (h0 : n ≠ 0) (hand : n &&& (18446744073709551616 - n) = 2 ^ 61) (S : St) : CallQ Tryd.prog (NC h) 30 [.int .u64 n] S fun r S1 => S1 = S ∧ r = .int .i64 (61 : Nat) := by
  have hat := tab_at 61 (by decide)
  refine CallQ.of rfl (by kernel_rfl : Tryd.prog.funcs[30]? = some Tryd.f30) rfl (by decide) ?_
  conv => whnf
  refine brEq (fun q => absurd (by omega) h0) (fun _ => ?_)
  conv => whnf
  rw [tz_neg h0 hn, and_u64 _ _ hn (by omega), hand]
  refine ⟨by decide, ?_⟩
  rw [show (IntKind.u64.wrap (((2 ^ 61 : Nat) : Int) * 285870213051353865)).fdiv (2 ^ min (58 : Int).toNat IntKind.u64.bits) = 8 by decide +kernel]
  conv => whnf
  refine ⟨by decide, by decide, ?_⟩
  refine partF_of (r := tabV[8]?) (v := .int .u8 61) (by rw [show (8 : Nat) = 2 ^ 61 * 285870213051353865 % 2 ^ 64 / 2 ^ 58 by decide +kernel]; exact hat) ?_
  conv => whnf
  exact ⟨rfl, rfl⟩
theorem tzc62 (h : Bool) (n : Nat) (hn : n < 2 ^ 64) (h0 : n ≠ 0) (hand : n &&& (18446744073709551616 - n) = 2 ^ 62) (S : St) : CallQ Tryd.prog (NC h) 30 [.int .u64 n] S fun r S1 => S1 = S ∧ r = .int .i64 (62 : Nat) := by
  have hat := tab_at 62 (by decide)
  refine CallQ.of rfl (by kernel_rfl : Tryd.prog.funcs[30]? = some Tryd.f30) rfl (by decide) ?_
  conv => whnf
  refine brEq (fun q => absurd (by omega) h0) (fun _ => ?_)
  conv => whnf
  rw [tz_neg h0 hn, and_u64 _ _ hn (by omega), hand]
  refine ⟨by decide, ?_⟩
  rw [show (IntKind.u64.wrap (((2 ^ 62 : Nat) : Int) * 285870213051353865)).fdiv (2 ^ min (58 : Int).toNat IntKind.u64.bits) = 16 by decide +kernel]
  conv => whnf
  refine ⟨by decide, by decide, ?_⟩
  refine partF_of (r := tabV[16]?) (v := .int .u8 62) (by rw [show (16 : Nat) = 2 ^ 62 * 285870213051353865 % 2 ^ 64 / 2 ^ 58 by decide +kernel]; exact hat) ?_
  conv => whnf
  exact ⟨rfl, rfl⟩
theorem tzc63 (h : Bool) (n : Nat) (hn : n < 2 ^ 64) (h0 : n ≠ 0) (hand : n &&& (18446744073709551616 - n) = 2 ^ 63) (S : St) : CallQ Tryd.prog (NC h) 30 [.int .u64 n] S fun r S1 => S1 = S ∧ r = .int .i64 (63 : Nat) := by
  have hat := tab_at 63 (by decide)
  refine CallQ.of rfl (by kernel_rfl : Tryd.prog.funcs[30]? = some Tryd.f30) rfl (by decide) ?_
  conv => whnf
  refine brEq (fun q => absurd (by omega) h0) (fun _ => ?_)
  conv => whnf
  rw [tz_neg h0 hn, and_u64 _ _ hn (by omega), hand]
  refine ⟨by decide, ?_⟩
  rw [show (IntKind.u64.wrap (((2 ^ 63 : Nat) : Int) * 285870213051353865)).fdiv (2 ^ min (58 : Int).toNat IntKind.u64.bits) = 32 by decide +kernel]
  conv => whnf
  refine ⟨by decide, by decide, ?_⟩
  refine partF_of (r := tabV[32]?) (v := .int .u8 63) (by rw [show (32 : Nat) = 2 ^ 63 * 285870213051353865 % 2 ^ 64 / 2 ^ 58 by decide +kernel]; exact hat) ?_
  conv => whnf
  exact ⟨rfl, rfl⟩
theorem t30 (h : Bool) (n : Nat) (hn : n < 2 ^ 64) (h0 : n ≠ 0) (S : St) : CallQ Tryd.prog (NC h) 30 [.int .u64 n] S fun r S1 => S1 = S ∧ r = .int .i64 (tz n : Nat) := by
  have ht := tz_lt h0 hn
  have hand : n &&& (18446744073709551616 - n) = 2 ^ tz n := and_neg (k := 64) h0 hn
  generalize tz n = t at *
  have hc : t = 0 ∨ t = 1 ∨ t = 2 ∨ t = 3 ∨ t = 4 ∨ t = 5 ∨ t = 6 ∨ t = 7 ∨ t = 8 ∨ t = 9 ∨ t = 10 ∨ t = 11 ∨ t = 12 ∨ t = 13 ∨ t = 14 ∨ t = 15 ∨ t = 16 ∨ t = 17 ∨ t = 18 ∨ t = 19 ∨ t = 20 ∨ t = 21 ∨ t = 22 ∨ t = 23 ∨ t = 24 ∨ t = 25 ∨ t = 26 ∨ t = 27 ∨ t = 28 ∨ t = 29 ∨ t = 30 ∨ t = 31 ∨ t = 32 ∨ t = 33 ∨ t = 34 ∨ t = 35 ∨ t = 36 ∨ t = 37 ∨ t = 38 ∨ t = 39 ∨ t = 40 ∨ t = 41 ∨ t = 42 ∨ t = 43 ∨ t = 44 ∨ t = 45 ∨ t = 46 ∨ t = 47 ∨ t = 48 ∨ t = 49 ∨ t = 50 ∨ t = 51 ∨ t = 52 ∨ t = 53 ∨ t = 54 ∨ t = 55 ∨ t = 56 ∨ t = 57 ∨ t = 58 ∨ t = 59 ∨ t = 60 ∨ t = 61 ∨ t = 62 ∨ t = 63 := by omega
  rcases hc with rfl | rfl | rfl | rfl | rfl | rfl | rfl | rfl | rfl | rfl | rfl | rfl | rfl | rfl | rfl | rfl | rfl | rfl | rfl | rfl | rfl | rfl | rfl | rfl | rfl | rfl | rfl | rfl | rfl | rfl | rfl | rfl | rfl | rfl | rfl | rfl | rfl | rfl | rfl | rfl | rfl | rfl | rfl | rfl | rfl | rfl | rfl | rfl | rfl | rfl | rfl | rfl | rfl | rfl | rfl | rfl | rfl | rfl | rfl | rfl | rfl | rfl | rfl | rfl
  · exact tzc0 h n hn h0 hand S
  · exact tzc1 h n hn h0 hand S
  · exact tzc2 h n hn h0 hand S
  · exact tzc3 h n hn h0 hand S
  · exact tzc4 h n hn h0 hand S
  · exact tzc5 h n hn h0 hand S
  · exact tzc6 h n hn h0 hand S
  · exact tzc7 h n hn h0 hand S
  · exact tzc8 h n hn h0 hand S
  · exact tzc9 h n hn h0 hand S
  · exact tzc10 h n hn h0 hand S
  · exact tzc11 h n hn h0 hand S
  · exact tzc12 h n hn h0 hand S
  · exact tzc13 h n hn h0 hand S
  · exact tzc14 h n hn h0 hand S
  · exact tzc15 h n hn h0 hand S
  · exact tzc16 h n hn h0 hand S
  · exact tzc17 h n hn h0 hand S
  · exact tzc18 h n hn h0 hand S
  · exact tzc19 h n hn h0 hand S
  · exact tzc20 h n hn h0 hand S
  · exact tzc21 h n hn h0 hand S
  · exact tzc22 h n hn h0 hand S
  · exact tzc23 h n hn h0 hand S
  · exact tzc24 h n hn h0 hand S
  · exact tzc25 h n hn h0 hand S
  · exact tzc26 h n hn h0 hand S
  · exact tzc27 h n hn h0 hand S
  · exact tzc28 h n hn h0 hand S
  · exact tzc29 h n hn h0 hand S
  · exact tzc30 h n hn h0 hand S
  · exact tzc31 h n hn h0 hand S
  · exact tzc32 h n hn h0 hand S
  · exact tzc33 h n hn h0 hand S
  · exact tzc34 h n hn h0 hand S
  · exact tzc35 h n hn h0 hand S
  · exact tzc36 h n hn h0 hand S
  · exact tzc37 h n hn h0 hand S
  · exact tzc38 h n hn h0 hand S
  · exact tzc39 h n hn h0 hand S
  · exact tzc40 h n hn h0 hand S
  · exact tzc41 h n hn h0 hand S
  · exact tzc42 h n hn h0 hand S
  · exact tzc43 h n hn h0 hand S
  · exact tzc44 h n hn h0 hand S
  · exact tzc45 h n hn h0 hand S
  · exact tzc46 h n hn h0 hand S
  · exact tzc47 h n hn h0 hand S
  · exact tzc48 h n hn h0 hand S
  · exact tzc49 h n hn h0 hand S
  · exact tzc50 h n hn h0 hand S
  · exact tzc51 h n hn h0 hand S
  · exact tzc52 h n hn h0 hand S
  · exact tzc53 h n hn h0 hand S
  · exact tzc54 h n hn h0 hand S
  · exact tzc55 h n hn h0 hand S
  · exact tzc56 h n hn h0 hand S
  · exact tzc57 h n hn h0 hand S
  · exact tzc58 h n hn h0 hand S
  · exact tzc59 h n hn h0 hand S
  · exact tzc60 h n hn h0 hand S
  · exact tzc61 h n hn h0 hand S
  · exact tzc62 h n hn h0 hand S
  · exact tzc63 h n hn h0 hand S
def finS (n : Nat) : Bool := !decide (exS 11 52 n = 2047)
theorem t15 (h : Bool) (n : Nat) (hn : n < 2 ^ 64) (S : St) : CallQ Tryd.prog (NC h) 15 [.int .u64 n] S fun r S1 => Keep S S1 ∧ r = .bool (finS n) := by
  refine CallQ.of rfl (by kernel_rfl : Tryd.prog.funcs[15]? = some Tryd.f15) rfl (by decide) ?_
  conv => whnf
  refine CallQ.mono (t26 h S) ?_
  rintro r S1 ⟨k1, rfl⟩
  conv => whnf
  refine CallQ.mono (t28 h fmW n hn S1) ?_
  rintro r S2 ⟨rfl, rfl⟩
  conv => whnf
  refine CallQ.mono (t26 h S2) ?_
  rintro r S3 ⟨k3, rfl⟩
  conv => whnf
  refine CallQ.mono (t35 h fmW S3) ?_
  rintro r S4 ⟨rfl, rfl⟩
  rw [show (2 ^ 11 - 1 : Nat) = 2047 from rfl]
  unfold finS
  conv => whnf
  refine brNe (fun q => ?_) (fun q => ?_)
  · rw [decide_eq_false (show ¬ exS 11 52 n = 2047 by omega)]
    conv => whnf
    exact ⟨k1.trans k3, rfl⟩
  · rw [decide_eq_true (show exS 11 52 n = 2047 by omega)]
    conv => whnf
    exact ⟨k1.trans k3, rfl⟩
theorem t18 (h : Bool) (n : Nat) (hn : n < 2 ^ 64) (S : St) : CallQ Tryd.prog (NC h) 18 [.int .u64 n] S fun r S1 => S1 = S ∧ r = .bool (finS n) := by
  have hd : n / 2 ^ 52 < 2 ^ 64 := Nat.lt_of_le_of_lt (Nat.div_le_self _ _) hn
  have hm := mask (n / 2 ^ 52) 11
  refine CallQ.of rfl (by kernel_rfl : Tryd.prog.funcs[18]? = some Tryd.f18) rfl (by decide) ?_
  conv => whnf
  refine ⟨by decide, ?_⟩
  rw [show (n : Int).fdiv (2 ^ min (52 : Int).toNat IntKind.u64.bits) = ((n / 2 ^ 52 : Nat) : Int) from shr_n n 52 (by decide)]
  conv => whnf
  rw [show (2047 : Int) = ((2 ^ 11 - 1 : Nat) : Int) from rfl, and_u64 _ _ hd (by decide), hm]
  unfold finS
  change ∀ c, c = (((exS 11 52 n : Nat) : Int) != ((2 ^ 11 - 1 : Nat) : Int)) → _
  refine brNe (fun q => ?_) (fun q => ?_)
  · rw [decide_eq_false (show ¬ exS 11 52 n = 2047 from fun e => q (by rw [e]))]
    conv => whnf
    exact ⟨rfl, rfl⟩
  · rw [decide_eq_true (show exS 11 52 n = 2047 from Int.ofNat.inj q)]
    conv => whnf
    exact ⟨rfl, rfl⟩
def negS (n : Nat) : Bool := decide (sgS 11 52 n = 1)
theorem t19 (h : Bool) (n : Nat) (hn : n < 2 ^ 64) (S : St) : CallQ Tryd.prog (NC h) 19 [.int .u64 n] S fun r S1 => S1 = S ∧ r = .bool (negS n) := by
  have hs := sg_le (e := 11) (w := 52) hn
  have e : n / 2 ^ 63 = sgS 11 52 n := rfl
  refine CallQ.of rfl (by kernel_rfl : Tryd.prog.funcs[19]? = some Tryd.f19) rfl (by decide) ?_
  conv => whnf
  refine ⟨by decide, ?_⟩
  rw [show (n : Int).fdiv (2 ^ min (63 : Int).toNat IntKind.u64.bits) = ((n / 2 ^ 63 : Nat) : Int) from shr_n n 63 (by decide), e]
  unfold negS
  conv => whnf
  refine brNe (fun q => ?_) (fun q => ?_)
  · rw [decide_eq_true (show sgS 11 52 n = 1 by omega)]
    conv => whnf
    exact ⟨rfl, rfl⟩
  · rw [decide_eq_false (show ¬ sgS 11 52 n = 1 by omega)]
    conv => whnf
    exact ⟨rfl, rfl⟩
theorem t20 (h : Bool) (n : Nat) (hn : n < 2 ^ 64) (S : St) : CallQ Tryd.prog (NC h) 20 [.int .u64 n] S fun r S1 => S1 = S ∧ r = .bool (negS n) := by
  have hs := sg_le (e := 11) (w := 52) hn
  have e : n / 2 ^ 63 = sgS 11 52 n := rfl
  refine CallQ.of rfl (by kernel_rfl : Tryd.prog.funcs[20]? = some Tryd.f20) rfl (by decide) ?_
  conv => whnf
  refine ⟨by decide, ?_⟩
  rw [show (n : Int).fdiv (2 ^ min (63 : Int).toNat IntKind.u64.bits) = ((n / 2 ^ 63 : Nat) : Int) from shr_n n 63 (by decide), e]
  unfold negS
  conv => whnf
  refine brEq (fun q => ?_) (fun q => ?_)
  · rw [decide_eq_true (show sgS 11 52 n = 1 by omega)]
    conv => whnf
    exact ⟨rfl, rfl⟩
  · rw [decide_eq_false (show ¬ sgS 11 52 n = 1 by omega)]
    conv => whnf
    exact ⟨rfl, rfl⟩
end Go.Proofs.YtojgnofagkekeaaDoor
