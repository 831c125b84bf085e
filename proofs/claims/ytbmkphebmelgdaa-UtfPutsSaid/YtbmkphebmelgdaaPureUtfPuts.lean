/- Any number's bytes, put behind any bytes, are the document's; a number that is no character is refused: for any slice of bytes of the form's own size. -/
import Derived.Test.YtbmkphebmelgdaaPx0
import Derived.Test.YtbmkphebmelgdaaPx3
import Derived.Test.YtbmkphebmelgdaaPx6
import Derived.Test.YtbmkphebmelgdaaUtfEnc
import Derived.Test.YtbmkphebmelgdaaUtfRun
namespace Go.Proofs.Ytbmkphebmelgdaa.Pure
open Go.RowKit Go.Proofs.Ytbmkphebmelgdaa.P Go.Proofs.YtbmkphebmelgdaaW.PrintWords Go.Proofs.YtbmkphebmelgdaaW.PrintLast Go.Proofs.YtbmkphebmelgdaaW.PrintMore
set_option linter.unusedVariables false
set_option linter.unusedSimpArgs false

theorem i32_wf {a : Int} (h : (Lit.int .i32 a).wf = true) : -2147483648 ≤ a ∧ a ≤ 2147483647 := by
  simpa [Lit.wf, IntKind.min, IntKind.max, IntKind.signed, IntKind.bits] using h

theorem refput_good {r : Int} (h : chr r) (l : List Int) (hl : l.length + 4 < 140737488355328) : gantlineref04_Put.f l r = some (l ++ encS r, 0) := by
  have := enc_len r
  have h2 := h
  obtain ⟨h0, h1, _⟩ := h2
  unfold gantlineref04_Put.f
  rw [show wrap64 r = r by unfold wrap64; omega, right_eq, decide_eq_true h]
  simp only [Option.bind_some, if_true, List.nil_append, List.length_nil, Nat.zero_add]
  rw [if_pos (by omega), refbytes_eq h]
  simp only [Option.bind_some]
  rw [if_pos (by omega)]
theorem refput_bad {r : Int} (hr : -2147483648 ≤ r ∧ r ≤ 2147483647) (h : ¬ chr r) (l : List Int) : gantlineref04_Put.f l r = some ([], 1) := by
  unfold gantlineref04_Put.f
  rw [show wrap64 r = r by unfold wrap64; omega, right_eq, decide_eq_false h]
  rfl

theorem UtfPuts : gantlinelaw04_UtfPuts.Pure := by
  intro l a hm hl hw ha
  refine ⟨30, ?_⟩
  unfold gantlinelaw04_UtfPuts.f
  by_cases h : chr a
  · rw [put_good h l (by omega), refput_good h l (by omega)]
    simp only [Option.bind_some]
    rw [sameb_self]
    simp only [Option.bind_some, if_true]
    rw [utf_alive 30 (Nat.le_refl _)]
    rfl
  · rw [put_bad h l, refput_bad (i32_wf ha) h l]
    simp only [Option.bind_some]
    rw [sameb_self]
    simp only [Option.bind_some, if_true]
    rw [utf_alive 30 (Nat.le_refl _)]
    rfl
end Go.Proofs.Ytbmkphebmelgdaa.Pure
