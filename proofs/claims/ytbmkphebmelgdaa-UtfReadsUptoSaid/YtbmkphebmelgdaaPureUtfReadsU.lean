/- The characters of any bytes, how many there are, or the place at which they go wrong, are the document's: for bytes of at most 1048576 values (the form's own bound of '..UptoSaid'). -/
import Derived.Test.YtbmkphebmelgdaaPx0
import Derived.Test.YtbmkphebmelgdaaPx11
import Derived.Test.YtbmkphebmelgdaaPx12
import Derived.Test.YtbmkphebmelgdaaUtfOne
import Derived.Test.YtbmkphebmelgdaaUtfRun
namespace Go.Proofs.Ytbmkphebmelgdaa.Pure
open Go.RowKit Go.Proofs.Ytbmkphebmelgdaa.P Go.Proofs.YtbmkphebmelgdaaW.PrintWords Go.Proofs.YtbmkphebmelgdaaW.PrintLast Go.Proofs.YtbmkphebmelgdaaW.PrintMore
set_option linter.unusedVariables false
set_option linter.unusedSimpArgs false

theorem UtfReadsU : gantlinelaw04_UtfReads.PureU := by
  intro l hm hl hw hU
  have hb := byt_of_wf hw
  have hlen := runS_len l.length l hb
  have hL : l.length < 4611686018427387904 := by omega
  have hA : (runS l.length l).1.length ≤ 35184372088832 := by omega
  refine ⟨l.length + 40, ?_⟩
  unfold gantlinelaw04_UtfReads.f utf_Count.f
  rw [runes_eq hb hL hA _ (by omega), ref_eq hb hL hA _ (by omega)]
  simp only [Option.bind_some]
  rw [same_self _ (by unfold tellS; split <;> simp <;> omega) _ (by unfold tellS; split <;> simp <;> omega)]
  simp only [Option.bind_some, if_true]
  rw [if_pos (by simp), check_eq hb hL _ (by omega)]
  simp only [Option.bind_some]
  rw [if_pos (by unfold tellS; by_cases q : (runS l.length l).2 < 0 <;> simp [q]), utf_alive _ (by omega)]
  simp
end Go.Proofs.Ytbmkphebmelgdaa.Pure
