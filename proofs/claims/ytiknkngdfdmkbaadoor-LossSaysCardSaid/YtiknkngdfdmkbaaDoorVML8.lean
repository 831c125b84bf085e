import Derived.Test.YtiknkngdfdmkbaaDoorVML7
namespace Go.Proofs.YtiknkngdfdmkbaaDoor
open Go.Proofs.YtiknkngdfdmkbaaDoor.VM
set_option maxRecDepth 100000
set_option linter.unusedVariables false

theorem hi_shift (n i : Nat) : hi n (i + 1) = hi (n / 128) i := by
  have : n / 2 ^ (7 * (i + 1)) = n / 128 / 2 ^ (7 * i) := by
    rw [show 7 * (i + 1) = 7 + 7 * i by omega, Nat.pow_add, ← Nat.div_div_eq_div_mul]
  simp [hi, this]
theorem his_shift (n : Nat) : ∀ j, his n (j + 1) = his (n / 128) j ++ hi (n / 128) 0
  | 0 => by simp [his, hi_shift]
  | j + 1 => by
    show hi n (j + 2) ++ his n (j + 1) = (hi (n / 128) (j + 1) ++ his (n / 128) j) ++ _
    rw [his_shift n j, hi_shift n (j + 1)]; simp
theorem his_grp : ∀ (j n : Nat), n / 128 < 2 ^ (7 * (j + 1)) → his n (j + 1) = (grp (n / 128)).reverse
  | 0, n, h => by
    rw [his_shift]
    by_cases h0 : n / 128 = 0
    · rw [h0]; unfold grp; simp [his, hi]
    · unfold grp
      rw [dif_neg h0]
      have : n / 128 / 128 = 0 := by omega
      rw [this]; unfold grp
      simp [his, hi, h0]
  | j + 1, n, h => by
    rw [his_shift, his_grp j (n / 128) (by
      rw [show 7 * (j + 1 + 1) = 7 * (j + 1) + 7 by omega, Nat.pow_add] at h
      omega)]
    by_cases h0 : n / 128 = 0
    · rw [h0]; unfold grp; simp [hi]
    · conv => rhs; unfold grp
      rw [dif_neg h0]
      simp [hi, h0]
/-- The program's short form is the document's. -/
theorem short_eq {n : Nat} (h : n < 2 ^ 64) : refShort n = curShort n := by
  unfold refShort curShort
  rw [his_grp 8 n (by omega)]
  simp

theorem t22' (l : Ls) (hl : l.Ok) (S : St) : CallQ Tryd.prog LC 22 [.agg [l.s, .int .i64 l.kind, .int .u64 l.n]] S fun v S1 => S1 = S ∧ v = .bool l.may := by
  rcases hl.path with ⟨hs0, hp0⟩ | ⟨t', hs0⟩
  · have hp0 : l.ps = [] := by simpa using hp0
    rw [hs0, Ls.may, hp0]
    refine CallQ.of rfl (by kernel_rfl : Tryd.prog.funcs[22]? = some Tryd.f22) rfl (by decide) ?_
    conv => whnf
    intro c hc
    cases c
    rotate_left
    · conv => whnf
      simp at hc
      exact ⟨rfl, by show AV.bool false = AV.bool _; congr 1; simp [mayL]; omega⟩
    conv => whnf
    intro c1 hc1
    cases c1
    rotate_left
    · conv => whnf
      simp at hc1
      exact ⟨rfl, by show AV.bool false = AV.bool _; congr 1; simp [mayL]; omega⟩
    conv => whnf
    intro c2 hc2
    simp at hc2
    subst hc2
    conv => whnf
    simp at hc hc1
    refine CodeQ.loop (fun (i : Nat) => pat 39 [(1, .cptr [.nils, .int .i64 l.kind, .int .u64 l.n] 0), (3, .int .i64 0)]) (fun m i S1 => S1 = S) ?_ 0 0 _ _ rfl ⟨rfl, rfl, trivial⟩
    intro m i S1 d e
    subst e
    conv => whnf
    intro c3 hc3
    simp at hc3
    subst hc3
    conv => whnf
    exact ⟨rfl, by show AV.bool true = AV.bool _; congr 1; simp [mayL]; omega⟩
  · rw [hs0]
    exact t22 l.ps t' l.kind l.n S
theorem Own.down {S0 S0' S : St} {v : AV} {xs : List AV} (h : Own S0' S v xs) (k : S0.next ≤ S0'.next) : Own S0 S v xs := by
  rcases h with h | ⟨n, h1, h2⟩
  · exact .inl h
  · exact .inr ⟨n, by omega, h2⟩
end Go.Proofs.YtiknkngdfdmkbaaDoor
