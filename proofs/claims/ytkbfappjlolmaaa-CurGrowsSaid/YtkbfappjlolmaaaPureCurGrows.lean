/- Of two numbers the greater one's short form has no fewer bytes: for any numbers of 64 bits. -/
import Derived.Test.YtkbfappjlolmaaaPx0
import Derived.Test.YtkbfappjlolmaaaPx9
import Derived.Test.YtkbfappjlolmaaaCurRead
import Derived.Test.YtkbfappjlolmaaaCurShort
namespace Go.Proofs.Ytkbfappjlolmaaa.Pure
open Go.RowKit Go.Proofs.Ytkbfappjlolmaaa.P Go.Proofs.YtkbfappjlolmaaaW.PrintWords Go.Proofs.YtkbfappjlolmaaaW.PrintLast Go.Proofs.YtkbfappjlolmaaaW.PrintMore
set_option linter.unusedVariables false
set_option linter.unusedSimpArgs false

theorem CurGrows : gantlinelaw02_CurGrows.Pure := by
  intro a b ha hb
  refine ⟨60, ?_⟩
  obtain ⟨a0, a1⟩ := u64_wf ha
  obtain ⟨b0, b1⟩ := u64_wf hb
  obtain ⟨p, hp⟩ : ∃ p : Nat, mn a b = p := ⟨(mn a b).toNat, by unfold mn; split <;> omega⟩
  obtain ⟨q, hq⟩ : ∃ q : Nat, mx a b = q := ⟨(mx a b).toNat, by unfold mx; split <;> omega⟩
  have h1 : p ≤ q ∧ q < 18446744073709551616 := by unfold mn at hp; unfold mx at hq; split at hp <;> split at hq <;> omega
  unfold gantlinelaw02_CurGrows.f
  rw [hp, hq, putshort_eq [] p (by omega) (by simp) 60 (by omega), putshort_eq [] q (by omega) (by simp) 60 (by omega)]
  simp only [Option.bind_some, List.nil_append]
  have := lo7_mono (p / 128) (q / 128) (Nat.div_le_div_right h1.1)
  rw [if_pos (by unfold short; simp only [List.length_append, List.length_reverse, List.length_cons, List.length_nil]; omega), cur_alive' 60 (by omega)]
  rfl
end Go.Proofs.Ytkbfappjlolmaaa.Pure
