/- A text and a text are a text, of both one's characters: for two slices of bytes of at most 1048576 values together. -/
import Derived.Test.YtbmkphebmelgdaaPx0
import Derived.Test.YtbmkphebmelgdaaPx7
import Derived.Test.YtbmkphebmelgdaaUtfMore
import Derived.Test.YtbmkphebmelgdaaUtfOne
import Derived.Test.YtbmkphebmelgdaaUtfRun
namespace Go.Proofs.Ytbmkphebmelgdaa.Pure
open Go.RowKit Go.Proofs.Ytbmkphebmelgdaa.P Go.Proofs.YtbmkphebmelgdaaW.PrintWords Go.Proofs.YtbmkphebmelgdaaW.PrintLast Go.Proofs.YtbmkphebmelgdaaW.PrintMore
set_option linter.unusedVariables false
set_option linter.unusedSimpArgs false

theorem UtfBothU : gantlinelaw04_UtfBoth.PureU := by
  intro a b hm hl hw hm2 hl2 hw2 hU
  have ha := byt_of_wf hw
  have hb := byt_of_wf hw2
  have hab := ha.append hb
  have la := runS_len a.length a ha
  have lb := runS_len b.length b hb
  have lab := runS_len (a ++ b).length (a ++ b) hab
  rw [List.length_append] at lab
  have pa := runS_place a.length a ha
  have pb := runS_place b.length b hb
  refine ⟨a.length + b.length + 41, ?_⟩
  have al := utf_alive (a.length + b.length + 40) (by omega)
  unfold gantlinelaw04_UtfBoth.f
  rw [runes_eq ha (by omega) (by omega) _ (by omega), runes_eq hb (by omega) (by omega) _ (by omega)]
  simp only [Option.bind_some, List.nil_append, List.length_nil, Nat.zero_add]
  rw [if_pos (by omega)]
  (try simp only [Option.bind_some])
  rw [if_pos (by omega), runes_eq hab (by rw [List.length_append]; omega) (by rw [List.length_append]; omega) _ (by rw [List.length_append]; omega)]
  (try simp only [Option.bind_some])
  by_cases fa : ¬ (runS a.length a).2 < 0
  · rw [if_pos (by simp [tellS, fa])]
    rw [gantlinelaw04_UtfBoth.j0, if_pos rfl, al]; rfl
  have fa : (runS a.length a).2 < 0 := by omega
  rw [if_neg (by simp [tellS, fa])]
  by_cases fb : ¬ (runS b.length b).2 < 0
  · have e : (!((tellS (runS b.length b) [] 0).2.1 == 0) || !((tellS (runS b.length b) [] 0).2.2 == 0)) = true := by simp [tellS, fb]
    rw [e]
    rw [gantlinelaw04_UtfBoth.j0, if_pos rfl, al]; rfl
  have fb : (runS b.length b).2 < 0 := by omega
  have e : (!((tellS (runS b.length b) [] 0).2.1 == 0) || !((tellS (runS b.length b) [] 0).2.2 == 0)) = false := by simp [tellS, fb]
  rw [e]
  have hr := runS_app a.length a b ha hb (Nat.le_refl _) fa
  rw [if_pos fb] at hr
  rw [List.length_append, hr]
  simp only [gantlinelaw04_UtfBoth.j0, tellS, if_pos fa, if_pos fb, if_pos (show (-1 : Int) < 0 by decide), List.nil_append, List.length_nil, Nat.zero_add]
  rw [if_neg (by decide), if_pos (by decide), if_pos (by omega)]
  (try simp only [Option.bind_some])
  rw [if_pos (by omega), same_self _ (by rw [List.length_append]; omega) _ (by rw [List.length_append]; omega)]
  simp only [Option.bind_some, if_true]
  rw [al]; rfl
end Go.Proofs.Ytbmkphebmelgdaa.Pure
