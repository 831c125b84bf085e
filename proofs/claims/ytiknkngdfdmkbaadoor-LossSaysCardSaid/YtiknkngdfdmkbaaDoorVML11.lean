import Derived.Test.YtiknkngdfdmkbaaDoorVML10
namespace Go.Proofs.YtiknkngdfdmkbaaDoor
open Go.Proofs.YtiknkngdfdmkbaaDoor.VM
set_option maxRecDepth 100000
set_option linter.unusedVariables false

theorem curShort_one {n : Nat} (h : n < 128) : curShort n = [UInt8.ofNat n] := by
  have : n / 128 = 0 := by omega
  unfold curShort
  rw [this]; unfold grp
  simp [Nat.mod_eq_of_lt h]

def aliveL : Ls := ⟨.lst ([1, 0].map I64) .lost, [1, 0], 4, 5⟩
theorem aliveL_ok : aliveL.Ok := ⟨.inr ⟨_, rfl⟩, by decide⟩
theorem aliveL_err : bErr [aliveL] = 0 := by
  have : ¬ ∃ l ∈ [aliveL], l.may = false := by
    rintro ⟨l, hl, h⟩
    obtain rfl : l = aliveL := by simpa using hl
    revert h; decide
  unfold bErr
  rw [if_neg (by simp), if_neg this]
theorem aliveL_bytes : bBytes [aliveL] = [1, 4, 5, 2, 1, 0] := by
  unfold bBytes
  rw [if_pos aliveL_err]
  simp [build, lossB, aliveL, curShort_one]
theorem dec_one {u : Nat} (h : u < 10) : Lib.decDigits u = [UInt8.ofNat (48 + u)] := by
  unfold Lib.decDigits
  rw [dif_pos h]
theorem itoa_01 : Lib.itoa 1 = [49] ∧ Lib.itoa 0 = [48] := by
  constructor
  · show Lib.decDigits 1 = _; rw [dec_one (by decide)]; rfl
  · show Lib.decDigits 0 = _; rw [dec_one (by decide)]; rfl
theorem b01 : ∀ p ∈ ([1, 0] : List Int), -9223372036854775808 ≤ p ∧ p ≤ 9223372036854775807 := fun p hp => by
  have : p = 1 ∨ p = 0 := by simpa using hp
  omega
theorem t11 (S : St) : CallQ Tryd.prog LC 11 [] S fun r S1 => Keep S S1 ∧ r = .bool true := by
  refine CallQ.of rfl (by kernel_rfl : Tryd.prog.funcs[11]? = some Tryd.f11) rfl (by decide) ?_
  conv => whnf
  refine ⟨_, _, cells_new _ _, store_agg rfl rfl rfl, ?_⟩
  conv => whnf
  refine ⟨_, cells_set _ _ _, ?_⟩
  conv => whnf
  refine CallQ.mono (t8 [aliveL] (fun l hl => by rw [List.mem_singleton.1 hl]; exact aliveL_ok) _ (.inr ⟨.full, rfl⟩) _) ?_
  rintro r S1 ⟨h1, v, rfl, h2⟩
  rw [aliveL_err]
  rw [aliveL_bytes] at h2
  conv => whnf
  intro c hc
  simp at hc
  subst hc
  conv => whnf
  refine CallQ.mono (t10 _ [1, 4, 5, 2, 1, 0] _ _ h2 (.inr ⟨.full, rfl⟩) S1) ?_
  rintro r S2 ⟨rfl, rfl⟩
  rw [show (([1, 4, 5, 2, 1, 0] : List UInt8) == [1, 4, 5, 2, 1, 0]) = true from by decide]
  conv => whnf
  have hk : Keep S ((S.new (.cells [.nils, .int .i64 0, .int .u64 0])).set S.next (some (.cells [.lst [.int .i64 1, .int .i64 0] .full, .int .i64 4, .int .u64 5]))) := ((Keep.refl S).new _).set _ _ (Nat.le_refl _)
  have hx : S2.cells S.next = some [.lst [.int .i64 1, .int .i64 0] .full, .int .i64 4, .int .u64 5] := by
    have := h1.mem S.next (Nat.lt_succ_self _)
    unfold St.cells
    rw [this]
    exact cells_set _ _ _
  refine ⟨_, hx, ?_⟩
  conv => whnf
  refine CallQ.mono (t12 Lib.itoa (.lst [.int .i64 1, .int .i64 0] .full) [1, 0] 4 5 (.inr ⟨_, rfl⟩) (by decide) (fun p hp => itoa_len (b01 p hp)) (fun p hp S => t24 p (b01 p hp) S) S2) ?_
  rintro r S3 ⟨h3, rfl⟩
  conv => whnf
  intro c hc
  conv => whnf
  refine ⟨(hk.trans h1).trans h3, ?_⟩
  rw [hc]
  refine congrArg AV.bool (?_ : (nameOf 4 ++ [32, 47] ++ jn Lib.itoa 0 [1, 0] == [116, 97, 103, 32, 47, 49, 47, 48]) = true)
  simp only [jn, itoa_01.1, itoa_01.2]
  decide
end Go.Proofs.YtiknkngdfdmkbaaDoor
