import Derived.Test.YtfphpjinimfhfaaVMJ16
namespace Go.Proofs.Ytfphpjinimfhfaa
open Go.Proofs.Ytfphpjinimfhfaa.VM Go.RowKit
set_option maxRecDepth 100000
set_option linter.unusedVariables false
set_option maxHeartbeats 4000000
theorem t47 (h : Bool) (b : UInt8) (bs : List UInt8) (t : Tip) (S : St) :
    CallQ Try.prog (JC h) 47 [.lst ((b :: bs).map u8) t] S fun r S1 => Keep S S1 ∧ r = .tuple [.int .i32 (oneS (ib (b :: bs))).1, .int .i64 (oneS (ib (b :: bs))).2.1] := by
  have ho := t30 h b bs t S
  generalize oneS (ib (b :: bs)) = o at *
  obtain ⟨v, n, w⟩ := o
  refine CallQ.of rfl (by kernel_rfl : Try.prog.funcs[47]? = some Try.f47) rfl (by decide) ?_
  conv => whnf
  refine brEq (fun hz => absurd hz (by simp; omega)) (fun _ => ?_)
  conv => whnf
  refine CallQ.mono ho ?_
  rintro r S1 ⟨k1, rfl⟩
  conv => whnf
  exact ⟨k1, rfl⟩
def badU (n : Nat) (x : Lx) : Lx := if (wrongS n x).w = 5 then { wrongS n x with w := 6 } else wrongS n x
/-- A string's text, with fuel. -/
def textL (bs : List UInt8) : Nat → Lx → List UInt8 → Lx × List UInt8
  | 0, x, out => (x, out)
  | k + 1, x, out =>
    if x.well = false then (x, out)
    else if mayB bs [34] x = true then (x.up, out)
    else if (bs.getD x.at_ 0).toNat < 32 then textL bs k (wrongS bs.length x) out
    else if mayB bs [92] x = true then textL bs k (escS bs x.up).2 (if (escS bs x.up).2.well = true then out ++ encU (escS bs x.up).1.toNat else out)
    else if (oneS ((ib bs).drop x.at_)).2.1 = 0 then textL bs k (badU bs.length { x with at_ := x.at_ + (oneS ((ib bs).drop x.at_)).2.2.toNat }) out
    else textL bs k { x with at_ := x.at_ + (oneS ((ib bs).drop x.at_)).2.1.toNat } (out ++ encU (oneS ((ib bs).drop x.at_)).1.toNat)
/-- A string. -/
def textS (bs : List UInt8) (x : Lx) : Lx × List UInt8 := textL bs (bs.length + 2) (mustS bs [34] x) []
theorem wrong_bad {n : Nat} {x : Lx} : (wrongS n x).well = false := by
  unfold wrongS
  by_cases h : x.well = false
  · rw [if_pos h]; exact h
  · rw [if_neg h]
    split <;> rfl
theorem may_well {bs set : List UInt8} {x : Lx} (h : mayB bs set x = true) : x.well = true := by
  unfold mayB at h
  exact (Bool.and_eq_true _ _ ▸ h).1
theorem must_well {bs set : List UInt8} {x : Lx} (h : (mustS bs set x).well = true) : mayB bs set x = true := by
  cases hm : mayB bs set x
  · rw [must_no hm, wrong_bad] at h; cases h
  · rfl
theorem must_ge {bs set : List UInt8} {x : Lx} : x.at_ ≤ (mustS bs set x).at_ := by
  unfold mustS
  split
  · exact Nat.le_succ _
  · rw [wrong_at]; exact Nat.le_refl _
theorem unit_ge (bs : List UInt8) (low : Bool) : ∀ (k i n : Nat) (x : Lx), x.at_ ≤ (unitS bs low k i n x).2.at_
  | 0, i, n, x => Nat.le_refl _
  | k + 1, i, n, x => by
    unfold unitS
    split
    · exact Nat.le_trans must_ge (unit_ge bs low k _ _ _)
    · exact must_ge
theorem esc_ge {bs : List UInt8} {x : Lx} : x.at_ ≤ (escS bs x).2.at_ := by
  unfold escS
  have h1 := unit_ge bs false 4 0 0 x.up
  have h2 := unit_ge bs true 4 0 0 (unitS bs false 4 0 0 x.up).2.up.up
  have h3 := @must_ge bs [117] (unitS bs false 4 0 0 x.up).2.up
  have h4 := @must_ge bs [92] (unitS bs false 4 0 0 x.up).2
  have h5 : x.at_ ≤ x.up.at_ := Nat.le_succ _
  have h6 : (unitS bs false 4 0 0 x.up).2.at_ ≤ (unitS bs false 4 0 0 x.up).2.up.at_ := Nat.le_succ _
  have h7 : (unitS bs false 4 0 0 x.up).2.at_ ≤ (unitS bs false 4 0 0 x.up).2.up.up.at_ := Nat.le_trans (Nat.le_succ _) (Nat.le_succ _)
  split
  · split
    · exact h5
    · dsimp only
      split
      · split
        · split
          · dsimp only; omega
          · dsimp only; omega
        · dsimp only; omega
      · dsimp only; omega
  · exact must_ge
theorem esc_le {bs : List UInt8} {x : Lx} (h : x.at_ ≤ bs.length) : (escS bs x).2.at_ ≤ bs.length := by
  unfold escS
  split
  · rename_i hm
    have hlt : x.up.at_ ≤ bs.length := may_lt hm
    have hu := unit_le bs false 4 0 0 x.up hlt
    split
    · exact hlt
    · dsimp only
      split
      · split
        · rename_i hm2
          have h2 : (unitS bs false 4 0 0 x.up).2.up.at_ ≤ bs.length := may_lt hm2
          split
          · rename_i hm3
            exact unit_le bs true 4 0 0 _ (may_lt hm3)
          · exact must_le h2
        · exact must_le hu
      · exact hu
  · exact must_le h
/-- What a well-made unit is. -/
theorem unit_val {bs : List UInt8} {low : Bool} {x : Lx} (h : (unitS bs low 4 0 0 x).2.well = true) :
    ∃ a b c d : UInt8, hasB (setOf low 0 0) a = true ∧ hasB (setOf low 1 (hexv a)) b = true ∧ hexv a < 16 ∧ hexv b < 16 ∧ hexv c < 16 ∧ hexv d < 16 ∧ (unitS bs low 4 0 0 x).1 = ((hexv a * 16 + hexv b) * 16 + hexv c) * 16 + hexv d := by
  have hh : ∀ {set : List UInt8} {y : Lx}, mayB bs set y = true → hasB set (bs.getD y.at_ 0) = true := by
    intro set y hm
    have hlt := may_lt hm
    unfold mayB at hm
    rw [getd hlt] at hm
    simpa using (Bool.and_eq_true _ _ ▸ hm).2
  have e1 : unitS bs low 4 0 0 x = if mayB bs (setOf low 0 0) x = true then unitS bs low 3 1 (0 * 16 + hexv (bs.getD x.at_ 0)) (mustS bs (setOf low 0 0) x) else (0, mustS bs (setOf low 0 0) x) := rfl
  rw [e1] at h ⊢
  split at h
  case isFalse => rename_i hn; exact absurd (must_well h) hn
  rename_i m1
  rw [if_pos m1]
  have h1 := hh m1
  generalize bs.getD x.at_ 0 = a at *
  rw [Nat.zero_mul, Nat.zero_add] at h ⊢
  generalize mustS bs (setOf low 0 0) x = y at *
  have e2 : unitS bs low 3 1 (hexv a) y = if mayB bs (setOf low 1 (hexv a)) y = true then unitS bs low 2 2 (hexv a * 16 + hexv (bs.getD y.at_ 0)) (mustS bs (setOf low 1 (hexv a)) y) else (0, mustS bs (setOf low 1 (hexv a)) y) := rfl
  rw [e2] at h ⊢
  split at h
  case isFalse => rename_i hn; exact absurd (must_well h) hn
  rename_i m2
  rw [if_pos m2]
  have h2 := hh m2
  generalize bs.getD y.at_ 0 = b at *
  generalize mustS bs (setOf low 1 (hexv a)) y = z at *
  have e3 : unitS bs low 2 2 (hexv a * 16 + hexv b) z = if mayB bs (setOf low 2 (hexv a * 16 + hexv b)) z = true then unitS bs low 1 3 ((hexv a * 16 + hexv b) * 16 + hexv (bs.getD z.at_ 0)) (mustS bs (setOf low 2 (hexv a * 16 + hexv b)) z) else (0, mustS bs (setOf low 2 (hexv a * 16 + hexv b)) z) := rfl
  rw [e3] at h ⊢
  split at h
  case isFalse => rename_i hn; exact absurd (must_well h) hn
  rename_i m3
  rw [if_pos m3]
  have h3 := hex_in _ _ _ _ (hh m3)
  generalize bs.getD z.at_ 0 = c at *
  generalize mustS bs (setOf low 2 (hexv a * 16 + hexv b)) z = u at *
  have e4 : unitS bs low 1 3 ((hexv a * 16 + hexv b) * 16 + hexv c) u = if mayB bs (setOf low 3 ((hexv a * 16 + hexv b) * 16 + hexv c)) u = true then (((hexv a * 16 + hexv b) * 16 + hexv c) * 16 + hexv (bs.getD u.at_ 0), mustS bs (setOf low 3 ((hexv a * 16 + hexv b) * 16 + hexv c)) u) else (0, mustS bs (setOf low 3 ((hexv a * 16 + hexv b) * 16 + hexv c)) u) := rfl
  rw [e4] at h ⊢
  split at h
  case isFalse => rename_i hn; exact absurd (must_well h) hn
  rename_i m4
  rw [if_pos m4]
  have h4 := hex_in _ _ _ _ (hh m4)
  exact ⟨a, b, c, _, h1, h2, hex_in _ _ _ _ h1, hex_in _ _ _ _ h2, h3, h4, rfl⟩
theorem setB_lt (c : UInt8) : (hasB setB c = true → hexv c < 12) ∧ (hasB setD c = true → hexv c = 13) ∧ (hasB setC c = true → 12 ≤ hexv c) :=
  all_u8' (p := fun c => (hasB setB c = true → hexv c < 12) ∧ (hasB setD c = true → hexv c = 13) ∧ (hasB setC c = true → 12 ≤ hexv c)) (by decide +kernel) c
theorem unit_hi {bs : List UInt8} {x : Lx} (h : (unitS bs false 4 0 0 x).2.well = true) : (unitS bs false 4 0 0 x).1 < 65536 ∧ ¬ (56320 ≤ (unitS bs false 4 0 0 x).1 ∧ (unitS bs false 4 0 0 x).1 ≤ 57343) := by
  obtain ⟨a, b, c, d, h1, h2, h3, h4, h5, h6, h7⟩ := unit_val h
  rw [h7]
  refine ⟨by omega, ?_⟩
  rintro ⟨q1, q2⟩
  have ha : hexv a = 13 := by omega
  rw [ha] at h2
  have := (setB_lt b).1 h2
  omega
theorem unit_low {bs : List UInt8} {x : Lx} (h : (unitS bs true 4 0 0 x).2.well = true) : 56320 ≤ (unitS bs true 4 0 0 x).1 ∧ (unitS bs true 4 0 0 x).1 ≤ 57343 := by
  obtain ⟨a, b, c, d, h1, h2, h3, h4, h5, h6, h7⟩ := unit_val h
  rw [h7]
  have ha := (setB_lt a).2.1 h1
  have hb := (setB_lt b).2.2 h2
  omega
theorem escT_lt (i : Nat) : (escT.getD i 0).toNat < 128 := by
  rcases Nat.lt_or_ge i 8 with h | h
  · have : ∀ i : Fin 8, (escT.getD i.val 0).toNat < 128 := by decide
    exact this ⟨i, h⟩
  · simp [List.getD, List.getElem?_eq_none (show escT.length ≤ i from h)]
theorem esc_chr {bs : List UInt8} {x : Lx} (h : (escS bs x).2.well = true) : chr (escS bs x).1 := by
  unfold escS at h ⊢
  split at h
  case isFalse => rename_i hn; exact absurd (must_well h) hn
  rename_i hm
  rw [if_pos hm]
  split at h
  · rename_i hi
    rw [if_pos hi]
    have := escT_lt (Lib.indexByte escF (bs.getD x.at_ 0)).toNat
    exact ⟨by simp only; omega, by simp only; omega, by simp only; omega⟩
  · rename_i hi
    rw [if_neg hi]
    dsimp only at h ⊢
    split at h
    · rename_i h54
      rw [if_pos h54]
      split at h
      · rename_i hm2
        rw [if_pos hm2]
        split at h
        · rename_i hm3
          rw [if_pos hm3]
          obtain ⟨q1, q2⟩ := unit_low h
          exact ⟨by simp only; omega, by simp only; omega, by simp only; omega⟩
        · rename_i hm3; exact absurd (must_well h) hm3
      · rename_i hm2; exact absurd (must_well h) hm2
    · rename_i h54
      rw [if_neg h54]
      obtain ⟨q1, q2⟩ := unit_hi h
      exact ⟨by simp only; omega, by simp only; omega, by simp only; omega⟩
end Go.Proofs.Ytfphpjinimfhfaa
