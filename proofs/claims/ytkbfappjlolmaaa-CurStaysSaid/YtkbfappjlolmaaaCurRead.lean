/- What is read of a short number's bytes. -/
import Derived.Test.YtkbfappjlolmaaaPx0
import Derived.Test.YtkbfappjlolmaaaPx2
import Derived.Test.YtkbfappjlolmaaaPx7
import Derived.Test.YtkbfappjlolmaaaCurShort
namespace Go.Proofs.Ytkbfappjlolmaaa.Pure
open Go.RowKit Go.Proofs.Ytkbfappjlolmaaa.P Go.Proofs.YtkbfappjlolmaaaW.PrintWords Go.Proofs.YtkbfappjlolmaaaW.PrintLast Go.Proofs.YtkbfappjlolmaaaW.PrintMore
set_option linter.unusedVariables false
set_option linter.unusedSimpArgs false

/-- One more group. -/
theorem group_eq (m : Nat) (x : Int) (hm : m < 144115188075855872) (h0 : 0 ≤ x) (h1 : x < 256) : Go.bits .or .u64 (IntKind.u64.wrap ((m : Int) * 128)) (IntKind.u64.wrap (Go.bits .and .u8 x 127)) = (m : Int) * 128 + x % 128 := by
  rw [and127 x h0 h1, wrap_u64_id (by omega) (by omega), wrap_u64_id (by omega) (by omega), or7 _ _ (by omega) (by omega) (by omega) (by omega) (by omega)]
theorem read_lo7 (at_ : Int) (tail : List Int) (m : Nat) : m < 144115188075855872 → cur_Cursor_Short.g at_ ((lo7 m).reverse ++ tail) 0 0 = cur_Cursor_Short.g at_ tail ((lo7 m).length : Int) m := by
  induction m using Nat.strongRecOn generalizing tail with
  | ind m ih =>
    intro hm
    by_cases h0 : m = 0
    · subst h0; rw [lo7_zero]; simp
    · have h8 := lo7_len 8 (m / 128) (by omega)
      rw [lo7_pos h0, List.reverse_cons, List.append_assoc, ih (m / 128) (by omega) _ (by omega)]
      simp only [List.cons_append, List.nil_append, cur_Cursor_Short.g]
      rw [if_neg, if_neg (by omega), group_eq (m / 128) _ (by omega) (by omega) (by omega), List.length_cons]
      · congr 1 <;> omega
      · rintro (⟨h1, h2⟩ | ⟨h1, h2⟩ | h1)
        · have h3 : lo7 (m / 128) = [] := by apply List.length_eq_zero_iff.1; omega
          have h4 : m / 128 = 0 := by
            by_cases h5 : m / 128 = 0
            · exact h5
            · rw [lo7_pos h5] at h3; cases h3
          omega
        · omega
        · omega
theorem read_short (at_ : Int) (tail : List Int) (n : Nat) (hn : n < 18446744073709551616) : cur_Cursor_Short.g at_ (short n ++ tail) 0 0 = ((n : Int), at_ + ((short n).length : Int), 0, 0) := by
  unfold short
  rw [List.append_assoc, read_lo7 _ _ _ (by omega)]
  have h9 := lo7_len 9 (n / 128) (by omega)
  simp only [List.cons_append, List.nil_append, cur_Cursor_Short.g, List.length_append, List.length_reverse, List.length_cons, List.length_nil]
  rw [if_neg (by omega), if_pos (by omega), group_eq (n / 128) _ (by omega) (by omega) (by omega)]
  congr 1
  · omega
  · congr 1
    omega
/-- What is read whole is what would be put; else there is a fault, and the number is 0. -/
theorem read_one (at_ : Int) : ∀ (L : List Int) (m : Nat), Byt L → m < 18446744073709551616 →
    (cur_Cursor_Short.g at_ L ((lo7 m).length : Int) m).1 = 0 ∧ (cur_Cursor_Short.g at_ L ((lo7 m).length : Int) m).2.1 = at_ ∧ (cur_Cursor_Short.g at_ L ((lo7 m).length : Int) m).2.2.1 ≠ 0 ∨
    ∃ (n q : Nat), n < 18446744073709551616 ∧ 1 ≤ q ∧ q ≤ L.length ∧ cur_Cursor_Short.g at_ L ((lo7 m).length : Int) m = ((n : Int), at_ + ((lo7 m).length : Int) + q, 0, 0) ∧ (lo7 m).reverse ++ L.take q = short n := by
  intro L
  induction L with
  | nil => intro m _ _; exact .inl ⟨rfl, rfl, by simp [cur_Cursor_Short.g]⟩
  | cons x t ih =>
    intro m hb hm
    obtain ⟨⟨x0, x1⟩, ht⟩ := hb.cons
    simp only [cur_Cursor_Short.g]
    by_cases hf : ((lo7 m).length : Int) = 0 ∧ x = 128 ∨ ((lo7 m).length : Int) = 9 ∧ x > 127 ∨ (m : Int) / 144115188075855872 > 0
    · rw [if_pos hf]
      exact .inl ⟨rfl, rfl, by simp⟩
    · rw [if_neg hf]
      have hm2 : m < 144115188075855872 := by omega
      by_cases hx : x < 128
      · rw [if_pos hx, group_eq m x hm2 (by omega) (by omega)]
        refine .inr ⟨m * 128 + x.toNat, 1, by omega, by omega, by simp, ?_, ?_⟩
        · congr 1
          · omega
        · unfold short
          rw [show (m * 128 + x.toNat) / 128 = m by omega, show ((m * 128 + x.toNat) % 128 : Nat) = x.toNat by omega]
          simp only [List.take_succ_cons, List.take_zero]
          rw [Int.toNat_of_nonneg x0]
      · rw [if_neg hx, group_eq m x hm2 (by omega) (by omega)]
        have hne : m * 128 + (x % 128).toNat ≠ 0 := by
          intro h
          have h1 : m = 0 := by omega
          subst h1
          exact hf (.inl ⟨by rw [lo7_zero]; rfl, by omega⟩)
        have e : lo7 (m * 128 + (x % 128).toNat) = x :: lo7 m := by
          rw [lo7_pos hne, show (m * 128 + (x % 128).toNat) / 128 = m by omega]
          congr 1
          omega
        have h := ih (m * 128 + (x % 128).toNat) ht (by omega)
        rw [e, List.length_cons, show ((m * 128 + (x % 128).toNat : Nat) : Int) = (m : Int) * 128 + x % 128 by omega, show (((lo7 m).length + 1 : Nat) : Int) = ((lo7 m).length : Int) + 1 by omega] at h
        rcases h with h | ⟨n, q, h1, h2, h3, h4, h5⟩
        · exact .inl h
        · refine .inr ⟨n, q + 1, h1, by omega, by simp only [List.length_cons]; omega, ?_, ?_⟩
          · rw [h4]
            congr 1
            · congr 1
              omega
          · rw [← h5, List.take_succ_cons, List.reverse_cons, List.append_assoc]
            rfl
theorem cur_alive : gantlinelaw02_alive.f 40 = some true := by
  kernel_rfl
theorem cur_alive' (k : Nat) (hk : 40 ≤ k) : gantlinelaw02_alive.f k = some true := fuel_le gantlinelaw02_alive.mono hk cur_alive
end Go.Proofs.Ytkbfappjlolmaaa.Pure
