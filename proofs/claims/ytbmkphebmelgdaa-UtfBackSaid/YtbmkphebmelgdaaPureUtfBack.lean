/- The bytes of characters, one behind the other, are a text of just these characters: for any slice of numbers of the form's own size. -/
import Derived.Test.YtbmkphebmelgdaaPx0
import Derived.Test.YtbmkphebmelgdaaPx11
import Derived.Test.YtbmkphebmelgdaaPx13
import Derived.Test.YtbmkphebmelgdaaUtfEnc
import Derived.Test.YtbmkphebmelgdaaUtfOne
import Derived.Test.YtbmkphebmelgdaaUtfRun
namespace Go.Proofs.Ytbmkphebmelgdaa.Pure
open Go.RowKit Go.Proofs.Ytbmkphebmelgdaa.P Go.Proofs.YtbmkphebmelgdaaW.PrintWords Go.Proofs.YtbmkphebmelgdaaW.PrintLast Go.Proofs.YtbmkphebmelgdaaW.PrintMore
set_option linter.unusedVariables false
set_option linter.unusedSimpArgs false

/-- The bytes of some characters. -/
def encsS : List Int → List Int
  | [] => []
  | r :: t => encS r ++ encsS t
theorem encsS_append (a b : List Int) : encsS (a ++ b) = encsS a ++ encsS b := by
  induction a with
  | nil => rfl
  | cons r t ih => simp only [List.cons_append, encsS, ih, List.append_assoc]
theorem encsS_len (a : List Int) : a.length ≤ (encsS a).length ∧ (encsS a).length ≤ 4 * a.length := by
  induction a with
  | nil => simp [encsS]
  | cons r t ih =>
    have := enc_len r
    simp only [encsS, List.length_append, List.length_cons]
    omega
theorem encsS_byt {a : List Int} (h : ∀ r ∈ a, chr r) : Byt (encsS a) := by
  induction a with
  | nil => exact Byt.nil
  | cons r t ih => exact (enc_byt (h r (by simp))).append (ih (fun x hx => h x (by simp [hx])))
theorem runS_encs (n : Nat) : ∀ a : List Int, (∀ r ∈ a, chr r) → (encsS a).length ≤ n → runS n (encsS a) = (a, -1) := by
  induction n with
  | zero =>
    intro a h hl
    have : a = [] := List.length_eq_zero_iff.1 (by have := encsS_len a; omega)
    subst this
    rfl
  | succ n ih =>
    intro a h hl
    match a with
    | [] => rfl
    | r :: t =>
      have hr := h r (by simp)
      have he := enc_len r
      have ho := one_enc hr (encsS t)
      have hne : encS r ++ encsS t ≠ [] := by
        intro e
        have := congrArg List.length e
        rw [List.length_append, List.length_nil] at this
        omega
      rw [show encsS (r :: t) = encS r ++ encsS t from rfl] at hl ⊢
      rw [List.length_append] at hl
      have hrec := ih t (fun x hx => h x (by simp [hx])) (by omega)
      rw [runS_good hne (by rw [ho]; show (-1 : Int) < 0; decide), ho]
      simp only [Int.toNat_natCast, List.drop_left, hrec]
      rfl

theorem back_loop (d : Nat) : ∀ (k i : Nat) (l b w : List Int), l.length - i ≤ d → d + 4 * l.length + 50 ≤ k → l.length ≤ 35184372087808 → i ≤ l.length → w.length ≤ i → (∀ r ∈ w, chr r) → b = encsS w →
    gantlinelaw04_UtfBack.l0 k b w l l.length i = some true := by
  induction d with
  | zero =>
    intro k i l b w hd hk hl hi hw hc hb
    obtain ⟨k, rfl⟩ : ∃ m, k = m + 1 := ⟨k - 1, by omega⟩
    have hlen := encsS_len w
    subst hb
    have hr := runS_encs (encsS w).length w hc (Nat.le_refl _)
    simp only [gantlinelaw04_UtfBack.l0]
    unfold utf_Count.f
    rw [if_neg (by omega), runes_eq (encsS_byt hc) (by omega) (by rw [hr]; simp only; omega) _ (by omega), hr]
    simp only [Option.bind_some, tellS, if_pos (show (-1 : Int) < 0 by decide), List.nil_append]
    rw [same_self w (by omega) _ (by omega)]
    simp only [Option.bind_some, if_true]
    rw [if_pos (by decide), utf_alive _ (by omega)]
    rfl
  | succ d ih =>
    intro k i l b w hd hk hl hi hw hc hb
    by_cases hlt : i < l.length
    · obtain ⟨k, rfl⟩ : ∃ m, k = m + 1 := ⟨k - 1, by omega⟩
      simp only [gantlinelaw04_UtfBack.l0]
      have hlen := encsS_len w
      have hw1 : wrap64 ((i : Int) + 1) = ((i + 1 : Nat) : Int) := by unfold wrap64; omega
      rw [if_pos (by omega), if_pos (by omega), if_pos (by omega), hw1]
      by_cases h : chr (rd l i)
      · rw [put_good h b (by rw [hb]; omega)]
        simp only [Option.bind_some, if_true]
        rw [if_pos (by omega)]
        exact ih k (i + 1) l _ _ (by omega) (by omega) hl (by omega) (by rw [List.length_append, List.length_singleton]; omega) (by intro r hr; rcases List.mem_append.1 hr with hr | hr; exact hc r hr; rw [List.mem_singleton.1 hr]; exact h) (by rw [encsS_append, hb]; simp [encsS])
      · rw [put_bad h b]
        simp only [Option.bind_some]
        rw [if_neg (by decide)]
        exact ih k (i + 1) l _ _ (by omega) (by omega) hl (by omega) (by omega) hc hb
    · exact ih k i l b w (by omega) (by omega) hl hi hw hc hb

theorem UtfBack : gantlinelaw04_UtfBack.Pure := by
  intro l hm hl hw
  refine ⟨l.length + 4 * l.length + 60, ?_⟩
  unfold gantlinelaw04_UtfBack.f
  exact back_loop l.length _ 0 l [] [] (by omega) (by omega) (by omega) (by omega) (by simp) (by simp) rfl
end Go.Proofs.Ytbmkphebmelgdaa.Pure
