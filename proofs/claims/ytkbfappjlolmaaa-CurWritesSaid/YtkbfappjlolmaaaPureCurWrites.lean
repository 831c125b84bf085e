/- Numbers are put behind any bytes as the document says, or refused: for any slice of bytes of the form's own size. -/
import Derived.Test.YtkbfappjlolmaaaPx0
import Derived.Test.YtkbfappjlolmaaaPx12
import Derived.Test.YtkbfappjlolmaaaCurRead
import Derived.Test.YtkbfappjlolmaaaCurShort
import Derived.Test.YtkbfappjlolmaaaCurWide
namespace Go.Proofs.Ytkbfappjlolmaaa.Pure
open Go.RowKit Go.Proofs.Ytkbfappjlolmaaa.P Go.Proofs.YtkbfappjlolmaaaW.PrintWords Go.Proofs.YtkbfappjlolmaaaW.PrintLast Go.Proofs.YtkbfappjlolmaaaW.PrintMore
set_option linter.unusedVariables false
set_option linter.unusedSimpArgs false

theorem CurWrites : gantlinelaw02_CurWrites.Pure := by
  intro l n w hm hl hb hn hw
  refine ⟨60, ?_⟩
  obtain ⟨n0, n1⟩ := u64_wf hn
  obtain ⟨m, rfl⟩ := Int.eq_ofNat_of_zero_le n0
  unfold gantlinelaw02_CurWrites.f
  by_cases h : (w = 1 ∨ w = 2 ∨ w = 4 ∨ w = 8) ∧ (m : Int) / 256 ^ w.toNat = 0
  · obtain ⟨j, rfl⟩ : ∃ j : Nat, w = j := ⟨w.toNat, by omega⟩
    rw [curwide_good l m j (by omega) n0 (by simpa using h.2) (by omega) 60 (by omega), refwide_good l m j (by omega) n1 n0 (by simpa using h.2) (by omega) 60 (by omega)]
    simp only [Option.bind_some]
    rw [same_self]
    simp only [Option.bind_some, if_true]
    rw [putshort_eq l m (by omega) (by omega) 60 (by omega), refshort_eq l m (by omega) (by omega) 60 (by omega)]
    simp only [Option.bind_some]
    rw [same_self]
    simp only [Option.bind_some, if_true]
    rw [cur_alive' 60 (by omega)]
    rfl
  · rw [curwide_bad l m w n0 h 60 (by omega), refwide_bad l m w n0 n1 h 60 (by omega)]
    simp only [Option.bind_some]
    rw [same_self]
    simp only [Option.bind_some, if_true]
    rw [putshort_eq l m (by omega) (by omega) 60 (by omega), refshort_eq l m (by omega) (by omega) 60 (by omega)]
    simp only [Option.bind_some]
    rw [same_self]
    simp only [Option.bind_some, if_true]
    rw [cur_alive' 60 (by omega)]
    rfl
end Go.Proofs.Ytkbfappjlolmaaa.Pure
