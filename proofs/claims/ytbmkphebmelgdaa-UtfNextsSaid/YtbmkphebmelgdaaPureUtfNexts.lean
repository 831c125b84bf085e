/- The first character of any bytes, and how many bytes it has, are the document's: for any slice of bytes of the form's own size. -/
import Derived.Test.YtbmkphebmelgdaaPx0
import Derived.Test.YtbmkphebmelgdaaPx5
import Derived.Test.YtbmkphebmelgdaaPx10
import Derived.Test.YtbmkphebmelgdaaPx13
import Derived.Test.YtbmkphebmelgdaaUtfOne
import Derived.Test.YtbmkphebmelgdaaUtfRef
import Derived.Test.YtbmkphebmelgdaaUtfRun
namespace Go.Proofs.Ytbmkphebmelgdaa.Pure
open Go.RowKit Go.Proofs.Ytbmkphebmelgdaa.P Go.Proofs.YtbmkphebmelgdaaW.PrintWords Go.Proofs.YtbmkphebmelgdaaW.PrintLast Go.Proofs.YtbmkphebmelgdaaW.PrintMore
set_option linter.unusedVariables false
set_option linter.unusedSimpArgs false

theorem next_eq {l : List Int} (hb : Byt l) (hl : l ≠ []) : utf_Next.f 30 l = some ((oneS l).1, (oneS l).2.1) := by
  have hp : 0 < l.length := List.length_pos_iff.2 hl
  unfold utf_Next.f
  rw [if_neg (by omega), at_rounds (utf_one.mono _) (by omega) (one_eq l hl hb)]
  rfl
theorem refnext_eq {l : List Int} (hb : Byt l) (hl : l ≠ []) : gantlineref04_Next.f 30 l = some ((oneS l).1, (oneS l).2.1) := by
  have hp : 0 < l.length := List.length_pos_iff.2 hl
  unfold gantlineref04_Next.f
  rw [if_neg (by omega), at_rounds (gantlineref04_first.mono _) (by omega) (first_eq l hl)]
  simp only [Option.bind_some]
  by_cases h : (oneS l).2.2 < 0
  · have hg := one_good hb h
    simp only [if_pos h]
    rw [if_neg (by decide), if_pos (by omega), if_pos (by omega), value_eq hb h]
    simp only [Option.bind_some]
    rw [show wrap32 (oneS l).1 = (oneS l).1 by unfold wrap32; omega]
  · have hg := one_bad h
    simp only [if_neg h]
    rw [if_pos (by omega), hg.1, hg.2.1]

theorem UtfNexts : gantlinelaw04_UtfNexts.Pure := by
  intro l hm hl hw
  refine ⟨30, ?_⟩
  unfold gantlinelaw04_UtfNexts.f
  by_cases he : l = []
  · subst he
    rw [show utf_Next.f 30 [] = some (0, 0) from rfl, show gantlineref04_Next.f 30 [] = some (0, 0) from rfl]
    simp only [Option.bind_some, if_true]
    rw [utf_alive 30 (Nat.le_refl _)]
    rfl
  · rw [next_eq (byt_of_wf hw) he, refnext_eq (byt_of_wf hw) he]
    simp only [Option.bind_some, if_true]
    rw [utf_alive 30 (Nat.le_refl _)]
    rfl
end Go.Proofs.Ytbmkphebmelgdaa.Pure
