/- The fault of bytes hangs on the bytes up to it alone: for two slices of bytes of at most 1048576 values together. -/
import Derived.Test.YtbmkphebmelgdaaPx0
import Derived.Test.YtbmkphebmelgdaaPx8
import Derived.Test.YtbmkphebmelgdaaUtfMore
import Derived.Test.YtbmkphebmelgdaaUtfOne
import Derived.Test.YtbmkphebmelgdaaUtfRun
namespace Go.Proofs.Ytbmkphebmelgdaa.Pure
open Go.RowKit Go.Proofs.Ytbmkphebmelgdaa.P Go.Proofs.YtbmkphebmelgdaaW.PrintWords Go.Proofs.YtbmkphebmelgdaaW.PrintLast Go.Proofs.YtbmkphebmelgdaaW.PrintMore
set_option linter.unusedVariables false
set_option linter.unusedSimpArgs false

theorem UtfFirstU : gantlinelaw04_UtfFirst.PureU := by
  intro a b hm hl hw hm2 hl2 hw2 hU
  have ha := byt_of_wf hw
  have hb := byt_of_wf hw2
  have pa := runS_place a.length a ha
  refine ⟨a.length + b.length + 41, ?_⟩
  have al := utf_alive (a.length + b.length + 40) (by omega)
  unfold gantlinelaw04_UtfFirst.f
  rw [check_eq ha (by omega) _ (by omega)]
  simp only [Option.bind_some]
  by_cases fa : (runS a.length a).2 < 0
  · simp only [if_pos fa, if_true, gantlinelaw04_UtfFirst.j0]
    rw [al]; rfl
  simp only [if_neg fa]
  rw [if_neg (by decide)]
  by_cases hge : (runS a.length a).2 ≥ a.length
  · rw [decide_eq_true hge]
    simp only [if_true, gantlinelaw04_UtfFirst.j0]
    rw [al]; rfl
  rw [decide_eq_false hge]
  obtain ⟨q, hq⟩ : ∃ q : Nat, (runS a.length a).2 = q := ⟨(runS a.length a).2.toNat, by omega⟩
  rw [hq] at fa hge pa ⊢
  have w : wrap64 ((q : Int) + 1) = ((q + 1 : Nat) : Int) := by unfold wrap64; omega
  simp only [gantlinelaw04_UtfFirst.j0, w, Int.toNat_natCast, List.nil_append, List.length_nil, Nat.zero_add]
  have ht : (a.take (q + 1)).length = q + 1 := by rw [List.length_take]; omega
  rw [if_neg (by decide), if_pos (by omega), if_pos (by omega), if_pos (by omega)]
  simp only [Option.bind_some]
  have hc := (ha.take (q + 1)).append hb
  have hlen : (a.take (q + 1) ++ b).length = q + 1 + b.length := by rw [List.length_append, ht]
  rw [if_pos (by omega), check_eq hc (by omega) _ (by omega)]
  simp only [Option.bind_some]
  have key : (runS (a.take (q + 1) ++ b).length (a.take (q + 1) ++ b)).2 = q := by
    rw [← runS_more (a.take (q + 1) ++ b).length (a.length + b.length) _ hc (Nat.le_refl _) (by omega)]
    have e1 := runS_more a.length (a.length + b.length) a ha (Nat.le_refl _) (by omega)
    have := runS_cut (a.length + b.length) a (a.take (q + 1) ++ b) ha hc (by omega) (by omega) (by rw [e1, hq]; omega) (by rw [e1, hq]; omega) (by rw [e1, hq, Int.toNat_natCast, List.take_append_of_le_length (by omega), List.take_take, Nat.min_self])
    rw [this, e1, hq]
  rw [key, if_neg fa, if_pos (by simp), al]
  rfl
end Go.Proofs.Ytbmkphebmelgdaa.Pure
