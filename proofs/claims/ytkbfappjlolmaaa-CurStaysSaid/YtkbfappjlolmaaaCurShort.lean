/- What a short number's bytes are, in plain words: the program puts them, reads them, and so does the document. -/
import Derived.Test.YtkbfappjlolmaaaPx0
import Derived.Test.YtkbfappjlolmaaaPx2
import Derived.Test.YtkbfappjlolmaaaPx3
import Derived.Test.YtkbfappjlolmaaaPx4
namespace Go.Proofs.Ytkbfappjlolmaaa.Pure
open Go.RowKit Go.Proofs.Ytkbfappjlolmaaa.P Go.Proofs.YtkbfappjlolmaaaW.PrintWords Go.Proofs.YtkbfappjlolmaaaW.PrintLast Go.Proofs.YtkbfappjlolmaaaW.PrintMore
set_option linter.unusedVariables false
set_option linter.unusedSimpArgs false

theorem fuel_le {α : Type} {f : Nat → Option α} (h : ∀ k, LeO (f k) (f (k + 1))) {j k : Nat} (hk : j ≤ k) {r : α} (e : f j = some r) : f k = some r := by
  obtain ⟨d, rfl⟩ := Nat.exists_eq_add_of_le hk
  induction d with
  | zero => exact e
  | succ d ih => exact h _ r (ih (by omega))
def Byt (l : List Int) : Prop := ∀ x ∈ l, 0 ≤ x ∧ x ≤ 255
theorem Byt.cons {c : Int} {t : List Int} (h : Byt (c :: t)) : (0 ≤ c ∧ c ≤ 255) ∧ Byt t := ⟨h c (by simp), fun x hx => h x (by simp [hx])⟩
theorem byt_of_wf {l : List Int} (h : ∀ x ∈ l, (Lit.int .u8 x).wf = true) : Byt l := fun x hx => by
  have := h x hx
  simpa [Lit.wf, IntKind.min, IntKind.max, IntKind.signed, IntKind.bits] using this
theorem u64_wf {a : Int} (h : (Lit.int .u64 a).wf = true) : 0 ≤ a ∧ a < 18446744073709551616 := by
  have : 0 ≤ a ∧ a ≤ 18446744073709551615 := by simpa [Lit.wf, IntKind.min, IntKind.max, IntKind.signed, IntKind.bits] using h
  omega
theorem same_self (l : List Int) : gantlineref01_Same.f l l = some true := by unfold gantlineref01_Same.f; simp

theorem wu64 (n : Int) (h₀ : 0 ≤ n) (h₁ : n < 2 ^ 64) : IntKind.u64.wrap n = n := by
  rw [show IntKind.u64.wrap n = n % 18446744073709551616 by simp [IntKind.wrap, IntKind.bits, IntKind.signed]]
  omega
theorem or128 (a : Int) (h0 : 0 ≤ a) (h1 : a < 256) : Go.bits .or .u8 a 128 = 128 + a % 128 := by
  have h : ∀ b : Fin 256, Go.bits .or .u8 (b.val : Int) 128 = 128 + (b.val : Int) % 128 := by decide +kernel
  have := h ⟨a.toNat, by omega⟩
  simpa [Int.toNat_of_nonneg h0] using this
theorem and127 (a : Int) (h0 : 0 ≤ a) (h1 : a < 256) : Go.bits .and .u8 a 127 = a % 128 := bits_mask .u8 8 (by decide) wraps_u8 7 (by decide) a h0 h1
theorem and127w (a : Int) (h0 : 0 ≤ a) (h1 : a < 18446744073709551616) : Go.bits .and .u64 a 127 = a % 128 := bits_mask .u64 64 (by decide) wu64 7 (by decide) a h0 h1
theorem or7 (x y : Int) (hx₀ : 0 ≤ x) (hx : x % 128 = 0) (hx₁ : x < 18446744073709551616) (hy₀ : 0 ≤ y) (hy : y < 128) : Go.bits .or .u64 x y = x + y :=
  bits_join .u64 64 (by decide) wu64 7 x y hx₀ hx hx₁ hy₀ hy (by omega)
theorem or8 (x y : Int) (hx₀ : 0 ≤ x) (hx : x % 256 = 0) (hx₁ : x < 18446744073709551616) (hy₀ : 0 ≤ y) (hy : y < 256) : Go.bits .or .u64 x y = x + y :=
  bits_join .u64 64 (by decide) wu64 8 x y hx₀ hx hx₁ hy₀ hy (by omega)
theorem wrap_u64_id {x : Int} (h0 : 0 ≤ x) (h1 : x < 18446744073709551616) : IntKind.u64.wrap x = x := wu64 x h0 (by omega)

/-- The groups above the lowest one, the lowest of them first; each with its mark. -/
def lo7 (m : Nat) : List Int := if m = 0 then [] else (128 + (m % 128 : Nat) : Int) :: lo7 (m / 128)
termination_by m
decreasing_by omega
theorem lo7_zero : lo7 0 = [] := by rw [lo7, if_pos rfl]
theorem lo7_pos {m : Nat} (h : m ≠ 0) : lo7 m = (128 + (m % 128 : Nat) : Int) :: lo7 (m / 128) := by rw [lo7, if_neg h]
/-- How long. -/
theorem lo7_len (j : Nat) : ∀ m : Nat, m < 128 ^ j → (lo7 m).length ≤ j := by
  induction j with
  | zero => intro m h; rw [show m = 0 by simpa using h, lo7_zero]; simp
  | succ j ih =>
    intro m h
    by_cases h0 : m = 0
    · subst h0; rw [lo7_zero]; simp
    · rw [lo7_pos h0, List.length_cons]
      have := ih (m / 128) (by rw [Nat.pow_succ] at h; exact Nat.div_lt_of_lt_mul (by omega))
      omega
theorem lo7_mono (a : Nat) : ∀ b : Nat, a ≤ b → (lo7 a).length ≤ (lo7 b).length := by
  induction a using Nat.strongRecOn with
  | ind a ih =>
    intro b h
    by_cases h0 : a = 0
    · subst h0; rw [lo7_zero]; simp
    · rw [lo7_pos h0, lo7_pos (by omega : b ≠ 0), List.length_cons, List.length_cons]
      have := ih (a / 128) (by omega) (b / 128) (Nat.div_le_div_right h)
      omega
def short (n : Nat) : List Int := (lo7 (n / 128)).reverse ++ [((n % 128 : Nat) : Int)]
theorem short_len (n : Nat) (h : n < 18446744073709551616) : 1 ≤ (short n).length ∧ (short n).length ≤ 10 := by
  have := lo7_len 9 (n / 128) (by omega)
  unfold short
  simp only [List.length_append, List.length_reverse, List.length_cons, List.length_nil]
  omega

/-! ### Reverse -/
theorem set_getD (l : List Int) (a p : Nat) (v : Int) : (l.set a v).getD p 0 = if a = p ∧ p < l.length then v else l.getD p 0 := by
  simp only [List.getD_eq_getElem?_getD, List.getElem?_set]
  by_cases h : a = p
  · subst h
    by_cases h2 : a < l.length
    · simp [h2]
    · simp [h2]
  · simp [h]
theorem rev_loop (l : List Int) (hl : l.length < 4611686018427387904) : ∀ (k i : Nat) (x : List Int), x.length = l.length → l.length ≤ 2 * i + k + 1 → 2 * i ≤ l.length + 1 → (∀ p, p < l.length → x.getD p 0 = if p < i ∨ l.length < p + i + 1 then l.getD (l.length - 1 - p) 0 else l.getD p 0) →
    slices_Reverse_byte_byte.l0 (k + 1) x i ((l.length : Int) - 1 - i) = some l.reverse := by
  intro k
  induction k with
  | zero =>
    intro i x hx hk hi hp
    rw [slices_Reverse_byte_byte.l0, if_neg (by omega)]
    congr 1
    apply List.ext_getElem (by rw [List.length_reverse, hx])
    intro p h1 h2
    rw [List.getElem_reverse]
    have := hp p (by omega)
    rw [List.getD_eq_getElem?_getD, List.getElem?_eq_getElem h1, Option.getD_some] at this
    rw [this]
    by_cases h : p < i ∨ l.length < p + i + 1
    · rw [if_pos h, List.getD_eq_getElem?_getD, List.getElem?_eq_getElem (by omega), Option.getD_some]
    · rw [if_neg h, List.getD_eq_getElem?_getD, List.getElem?_eq_getElem (by omega), Option.getD_some]
      congr 1
      omega
  | succ k ih =>
    intro i x hx hk hi hp
    rw [slices_Reverse_byte_byte.l0]
    by_cases hlt : (i : Int) < (l.length : Int) - 1 - i
    · rw [if_pos hlt, if_pos (by omega), if_pos (by omega), if_pos (by omega), if_pos (by omega)]
      rw [show wrap64 ((i : Int) + 1) = ((i + 1 : Nat) : Int) by unfold wrap64; omega, show wrap64 ((l.length : Int) - 1 - i - 1) = (l.length : Int) - 1 - ((i + 1 : Nat) : Int) by unfold wrap64; omega]
      apply ih (i + 1) _ (by rw [List.length_set, List.length_set, hx]) (by omega) (by omega)
      intro p h1
      have e1 : ((l.length : Int) - 1 - (i : Int)).toNat = l.length - 1 - i := by omega
      simp only [Int.toNat_natCast, e1]
      rw [set_getD, set_getD, List.length_set]
      have hpi := hp i (by omega)
      have hpj := hp (l.length - 1 - i) (by omega)
      rw [if_neg (by omega)] at hpi hpj
      unfold rd
      rw [Int.toNat_natCast, e1, hpi, hpj, hx]
      by_cases c1 : l.length - 1 - i = p
      · rw [if_pos ⟨c1, h1⟩, if_pos (.inr (by omega))]
        congr 1
        omega
      · rw [if_neg (fun h => c1 h.1)]
        by_cases c2 : i = p
        · rw [if_pos ⟨c2, h1⟩, if_pos (.inl (by omega))]
          congr 1
          omega
        · rw [if_neg (fun h => c2 h.1), hp p h1]
          by_cases c3 : p < i ∨ l.length < p + i + 1
          · rw [if_pos c3, if_pos (by omega)]
          · rw [if_neg c3, if_neg (by omega)]
    · have := ih i x hx
      rw [if_neg hlt]
      congr 1
      apply List.ext_getElem (by rw [List.length_reverse, hx])
      intro p h1 h2
      rw [List.getElem_reverse]
      have := hp p (by omega)
      rw [List.getD_eq_getElem?_getD, List.getElem?_eq_getElem h1, Option.getD_some] at this
      rw [this]
      by_cases h : p < i ∨ l.length < p + i + 1
      · rw [if_pos h, List.getD_eq_getElem?_getD, List.getElem?_eq_getElem (by omega), Option.getD_some]
      · rw [if_neg h, List.getD_eq_getElem?_getD, List.getElem?_eq_getElem (by omega), Option.getD_some]
        congr 1
        omega
theorem reverse_eq (l : List Int) (hl : l.length < 4611686018427387904) (k : Nat) (hk : l.length ≤ k) : slices_Reverse_byte_byte.f (k + 1) l = some l.reverse := by
  unfold slices_Reverse_byte_byte.f
  rw [show wrap64 ((l.length : Int) - 1) = (l.length : Int) - 1 - ((0 : Nat) : Int) by unfold wrap64; omega]
  exact rev_loop l hl k 0 l rfl (by omega) (by omega) (fun p hp => by rw [if_neg (by omega)])

/-! ### What PutShort puts -/
theorem concat_eq (x y : List Int) (h : x.length + y.length < 140737488355328) : slices_Concat_byte_byte.f 9 [x, y] = some (x ++ y) := by
  have e1 : wrap64 (x.length : Int) = x.length := by unfold wrap64; omega
  have e2 : wrap64 ((x.length : Int) + y.length) = (x.length : Int) + y.length := by unfold wrap64; omega
  have e3 : wrap64 1 = 1 := by unfold wrap64; omega
  have e4 : wrap64 (1 + 1) = 2 := by unfold wrap64; omega
  have e5 : wrap64 2 = 2 := by unfold wrap64; omega
  have r0 : rd_L1 [x, y] 0 = x := rfl
  have r1 : rd_L1 [x, y] 1 = y := rfl
  have hl : (([x, y] : List (List Int)).length : Int) = 2 := rfl
  have n1 : ¬ ((x.length : Int) < 0) := by omega
  have n2 : ¬ ((x.length : Int) + y.length < 0) := by omega
  have n3 : (0 : Int) ≤ (x.length : Int) + y.length := by omega
  have g1 : (x.length : Int) + y.length ≤ 140737488355328 := by omega
  have m1 : x.length < 140737488355328 := by omega
  have q1 : (0 : Int) < 2 := by decide
  have q2 : (0 : Int) ≤ 0 := by decide
  have q3 : (1 : Int) < 2 := by decide
  have q4 : (0 : Int) ≤ 1 := by decide
  have q5 : ¬ ((2 : Int) < 2) := by decide
  simp only [slices_Concat_byte_byte.f, slices_Concat_byte_byte.l0, slices_Concat_byte_byte.l1, slices_Grow_byte_byte.f, hl, r0, r1, e1, e2, e3, e4, e5, n1, n2, g1, m1, h, q1, q2, q3, q4, q5, if_true, if_false, Option.bind_some, List.length_nil, List.nil_append, Int.natCast_zero, Int.cast_ofNat_Int, Int.zero_add, Nat.zero_add]
theorem putshort_loop (l : List Int) (m : Nat) : ∀ (K : Nat) (acc : List Int), 9 ≤ K → acc.length + (lo7 m).length + 1 ≤ K → K < 64 → l.length + K < 140737488355328 →
    cur_PutShort.l0 (K + 1 + (lo7 m).length) l m acc = some (l ++ (acc ++ lo7 m).reverse) := by
  induction m using Nat.strongRecOn with
  | ind m ih =>
    intro K acc h9 hK h64 hl
    by_cases h0 : m = 0
    · subst h0
      rw [lo7_zero] at hK ⊢
      simp only [List.length_nil, Nat.add_zero, List.append_nil]
      rw [cur_PutShort.l0, if_neg (by omega)]
      obtain ⟨K2, rfl⟩ : ∃ K2, K = K2 + 1 := ⟨K - 1, by omega⟩
      rw [reverse_eq acc (by omega) K2 (by simp only [List.length_nil, Nat.add_zero] at hK; omega), Option.bind_some, fuel_le (slices_Concat_byte_byte.mono _) (by omega : 9 ≤ K2 + 1) (concat_eq l acc.reverse (by rw [List.length_reverse]; omega))]
      rfl
    · rw [lo7_pos h0] at hK ⊢
      simp only [List.length_cons] at hK ⊢
      rw [show K + 1 + ((lo7 (m / 128)).length + 1) = (K + 1 + (lo7 (m / 128)).length) + 1 by omega, cur_PutShort.l0, if_pos (by omega), if_pos (by omega)]
      rw [or128 _ (by omega) (by omega), show (m : Int) / 128 = ((m / 128 : Nat) : Int) by omega, show (128 + (m : Int) % 256 % 128) = 128 + ((m % 128 : Nat) : Int) by omega]
      rw [ih (m / 128) (by omega) K _ h9 (by simp only [List.length_append, List.length_cons, List.length_nil]; omega) h64 hl]
      simp
theorem putshort_eq (l : List Int) (n : Nat) (hn : n < 18446744073709551616) (hl : l.length + 40 < 140737488355328) (k : Nat) (hk : 30 ≤ k) : cur_PutShort.f k l n = some (l ++ short n) := by
  have h9 := lo7_len 9 (n / 128) (by omega)
  have e : cur_PutShort.f (12 + 1 + (lo7 (n / 128)).length) l n = some (l ++ short n) := by
    unfold cur_PutShort.f
    rw [and127 _ (by omega) (by omega), show (n : Int) / 128 = ((n / 128 : Nat) : Int) by omega, putshort_loop l (n / 128) 12 _ (by omega) (by simp only [List.length_cons, List.length_nil]; omega) (by omega) (by omega)]
    unfold short
    rw [show ((n : Int) % 256 % 128) = ((n % 128 : Nat) : Int) by omega]
    simp
  exact fuel_le (cur_PutShort.mono _ _) (by omega) e
end Go.Proofs.Ytkbfappjlolmaaa.Pure
