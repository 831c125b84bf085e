/- A number has one short form: what is read whole is what would be put: for any slice of bytes of the form's own size. -/
import Derived.Test.YtkbfappjlolmaaaPx0
import Derived.Test.YtkbfappjlolmaaaPx2
import Derived.Test.YtkbfappjlolmaaaPx8
import Derived.Test.YtkbfappjlolmaaaCurRead
import Derived.Test.YtkbfappjlolmaaaCurShort
namespace Go.Proofs.Ytkbfappjlolmaaa.Pure
open Go.RowKit Go.Proofs.Ytkbfappjlolmaaa.P Go.Proofs.YtkbfappjlolmaaaW.PrintWords Go.Proofs.YtkbfappjlolmaaaW.PrintLast Go.Proofs.YtkbfappjlolmaaaW.PrintMore
set_option linter.unusedVariables false
set_option linter.unusedSimpArgs false

theorem CurOne : gantlinelaw02_CurOne.Pure := by
  intro l hm hl hw
  refine ⟨60, ?_⟩
  have hb := byt_of_wf hw
  unfold gantlinelaw02_CurOne.f cur_New.f
  rw [if_pos (by omega)]
  simp only [Option.bind_some]
  unfold cur_Cursor_Short.f
  rw [if_pos ⟨rfl, rfl, rfl⟩, if_pos ⟨by omega, by omega, by omega⟩]
  simp only [Option.bind_some, Int.toNat_zero, List.drop_zero]
  have h := read_one 0 l 0 hb (by omega)
  rw [lo7_zero] at h
  simp only [List.length_nil, Int.natCast_zero] at h
  rcases h with ⟨h1, h2, h3⟩ | ⟨n, q, h1, h2, h3, h4, h5⟩
  · unfold cur_Cursor_Fault.f cur_Cursor_At.f
    simp only [if_true, Option.bind_some]
    rw [if_pos (by simp [h3]), if_pos h1, if_pos h2, cur_alive' 60 (by omega)]
    rfl
  · rw [h4]
    unfold cur_Cursor_Fault.f cur_Cursor_At.f
    simp only [if_true, Option.bind_some]
    rw [if_neg (by simp), if_pos (by omega), if_pos (by omega), putshort_eq [] n h1 (by simp) 60 (by omega)]
    simp only [Option.bind_some]
    rw [if_pos (by omega), show (0 + 0 + (q : Int)).toNat = q by omega, show l.take q = short n by simpa using h5]
    simp only [List.nil_append]
    rw [same_self]
    simp only [Option.bind_some, if_true]
    rw [cur_alive' 60 (by omega)]
    rfl
end Go.Proofs.Ytkbfappjlolmaaa.Pure
