/- What comes of bytes one behind the other, and where the first fault lies. -/
import Derived.Test.YtbmkphebmelgdaaPx0
import Derived.Test.YtbmkphebmelgdaaUtfOne
import Derived.Test.YtbmkphebmelgdaaUtfRef
import Derived.Test.YtbmkphebmelgdaaUtfRun
namespace Go.Proofs.Ytbmkphebmelgdaa.Pure
open Go.RowKit Go.Proofs.Ytbmkphebmelgdaa.P Go.Proofs.YtbmkphebmelgdaaW.PrintWords Go.Proofs.YtbmkphebmelgdaaW.PrintLast Go.Proofs.YtbmkphebmelgdaaW.PrintMore
set_option linter.unusedVariables false
set_option linter.unusedSimpArgs false

/-- More rounds than bytes tell the same. -/
theorem runS_more (n : Nat) : ∀ (m : Nat) (l : List Int), Byt l → l.length ≤ n → n ≤ m → runS m l = runS n l := by
  induction n with
  | zero =>
    intro m l hb hl hm
    have : l = [] := List.length_eq_zero_iff.1 (by omega)
    subst this
    rw [runS_nil, runS_nil]
  | succ n ih =>
    intro m l hb hl hm
    obtain ⟨m, rfl⟩ : ∃ j, m = j + 1 := ⟨m - 1, by omega⟩
    by_cases he : l = []
    · subst he; rw [runS_nil, runS_nil]
    by_cases h : (oneS l).2.2 < 0
    · have hg := one_good hb h
      rw [runS_good he h, runS_good he h, ih m (l.drop (oneS l).2.1.toNat) (hb.drop _) (by rw [List.length_drop]; omega) (by omega)]
    · rw [runS_bad he h, runS_bad he h]

/-- What is told hangs on the character's own bytes alone. -/
theorem one_app {l : List Int} (h : (oneS l).2.2 < 0) (t : List Int) : oneS (l ++ t) = oneS l := by
  revert h
  unfold oneS
  match l with
  | [] => simp
  | c :: u =>
    simp only [List.cons_append]
    by_cases a1 : c < 128
    · simp [a1]
    by_cases a2 : c < 194 ∨ 244 < c
    · simp [a1, a2]
    by_cases a3 : c < 224
    · simp only [if_neg a1, if_neg a2, if_pos a3]
      match u with
      | [] => simp
      | x :: u => simp
    simp only [if_neg a1, if_neg a2, if_neg a3]
    match u with
    | [] => simp
    | x :: u =>
      simp only [List.cons_append]
      by_cases b : x < loS c ∨ hiS c < x
      · simp [b]
      simp only [if_neg b]
      match u with
      | [] => simp
      | y :: u =>
        simp only [List.cons_append]
        by_cases d : y < 128 ∨ 191 < y
        · simp [d]
        simp only [if_neg d]
        by_cases a4 : c < 240
        · simp [a4]
        simp only [if_neg a4]
        match u with
        | [] => simp
        | z :: u => simp

/-- A fault hangs on the bytes up to it alone. -/
theorem one_cut {l m : List Int} (h : ¬ (oneS l).2.2 < 0) (hl : (oneS l).2.2 < l.length) (ht : m.take ((oneS l).2.2.toNat + 1) = l.take ((oneS l).2.2.toNat + 1)) : oneS m = oneS l := by
  revert h hl ht
  unfold oneS
  match l with
  | [] => simp
  | c :: u =>
    by_cases a1 : c < 128
    · simp [a1]
    by_cases a2 : c < 194 ∨ 244 < c
    · simp only [if_neg a1, if_pos a2]
      intro _ _ ht
      match m, ht with
      | [], ht => simp at ht
      | c2 :: m, ht =>
        obtain rfl : c2 = c := by simpa using ht
        simp [a1, a2]
    by_cases a3 : c < 224
    · simp only [if_neg a1, if_neg a2, if_pos a3]
      match u with
      | [] => simp
      | x :: u =>
        by_cases b : x < 128 ∨ 191 < x
        · simp only [if_pos b]
          intro _ _ ht
          match m, ht with
          | [], ht => simp at ht
          | [c2], ht => simp at ht
          | c2 :: x2 :: m, ht =>
            obtain ⟨rfl, rfl⟩ : c2 = c ∧ x2 = x := by simpa using ht
            simp only [if_neg a1, if_neg a2, if_pos a3, if_pos b]
        · simp [b]
    simp only [if_neg a1, if_neg a2, if_neg a3]
    match u with
    | [] => simp
    | x :: u =>
      by_cases b : x < loS c ∨ hiS c < x
      · simp only [if_pos b]
        intro _ _ ht
        match m, ht with
        | [], ht => simp at ht
        | [c2], ht => simp at ht
        | c2 :: x2 :: m, ht =>
          obtain ⟨rfl, rfl⟩ : c2 = c ∧ x2 = x := by simpa using ht
          simp only [if_neg a1, if_neg a2, if_neg a3, if_pos b]
      simp only [if_neg b]
      match u with
      | [] => simp
      | y :: u =>
        by_cases d : y < 128 ∨ 191 < y
        · simp only [if_pos d]
          intro _ _ ht
          match m, ht with
          | [], ht => simp at ht
          | [c2], ht => simp at ht
          | [c2, x2], ht => simp at ht
          | c2 :: x2 :: y2 :: m, ht =>
            obtain ⟨rfl, rfl, rfl⟩ : c2 = c ∧ x2 = x ∧ y2 = y := by simpa using ht
            simp only [if_neg a1, if_neg a2, if_neg a3, if_neg b, if_pos d]
        simp only [if_neg d]
        by_cases a4 : c < 240
        · simp [a4]
        simp only [if_neg a4]
        match u with
        | [] => simp
        | z :: u =>
          by_cases f : z < 128 ∨ 191 < z
          · simp only [if_pos f]
            intro _ _ ht
            match m, ht with
            | [], ht => simp at ht
            | [c2], ht => simp at ht
            | [c2, x2], ht => simp at ht
            | [c2, x2, y2], ht => simp at ht
            | c2 :: x2 :: y2 :: z2 :: m, ht =>
              obtain ⟨rfl, rfl, rfl, rfl⟩ : c2 = c ∧ x2 = x ∧ y2 = y ∧ z2 = z := by simpa using ht
              simp only [if_neg a1, if_neg a2, if_neg a3, if_neg b, if_neg d, if_neg a4, if_pos f]
          · simp [f]

/-- A text and anything behind it. -/
theorem runS_app (n : Nat) : ∀ (a b : List Int), Byt a → Byt b → a.length ≤ n → (runS n a).2 < 0 → runS (n + b.length) (a ++ b) = ((runS n a).1 ++ (runS b.length b).1, if (runS b.length b).2 < 0 then -1 else a.length + (runS b.length b).2) := by
  induction n with
  | zero =>
    intro a b ha hb hl hf
    have : a = [] := List.length_eq_zero_iff.1 (by omega)
    subst this
    have := runS_place b.length b hb
    simp only [List.nil_append, runS_nil, Nat.zero_add, List.length_nil]
    refine Prod.ext rfl ?_
    simp only
    split <;> omega
  | succ n ih =>
    intro a b ha hb hl hf
    by_cases he : a = []
    · subst he
      have := runS_place b.length b hb
      rw [runS_nil, List.nil_append, runS_more b.length (n + 1 + b.length) b hb (by omega) (by omega)]
      refine Prod.ext rfl ?_
      simp only [List.length_nil]
      split <;> omega
    by_cases h : (oneS a).2.2 < 0
    · have hg := one_good ha h
      have hab : a ++ b ≠ [] := by simp [he]
      have h1 := one_app h b
      rw [runS_good he h] at hf ⊢
      have hf2 : (runS n (a.drop (oneS a).2.1.toNat)).2 < 0 := by
        by_cases q : (runS n (a.drop (oneS a).2.1.toNat)).2 < 0
        · exact q
        · simp only [if_neg q] at hf; omega
      have := ih (a.drop (oneS a).2.1.toNat) b (ha.drop _) hb (by rw [List.length_drop]; omega) hf2
      have hd : (a ++ b).drop (oneS a).2.1.toNat = a.drop (oneS a).2.1.toNat ++ b := List.drop_append_of_le_length (by omega)
      rw [show n + 1 + b.length = n + b.length + 1 by omega, runS_good hab (by rw [h1]; exact h), h1, hd, this]
      refine Prod.ext rfl ?_
      simp only [List.length_drop]
      have hp := runS_place b.length b hb
      repeat' split
      all_goals omega
    · rw [runS_bad he h] at hf
      exact absurd hf (by simpa using h)

/-- A character's bytes alone tell it. -/
theorem one_self {l : List Int} (hb : Byt l) (h : (oneS l).2.2 < 0) : oneS (l.take (oneS l).2.1.toNat) = oneS l := by
  revert h
  unfold oneS
  match l, hb with
  | [], _ => simp
  | c :: u, hb =>
    by_cases a1 : c < 128
    · simp [a1]
    by_cases a2 : c < 194 ∨ 244 < c
    · simp [a1, a2]
    by_cases a3 : c < 224
    · simp only [if_neg a1, if_neg a2, if_pos a3]
      match u with
      | [] => simp
      | x :: u =>
        by_cases b : x < 128 ∨ 191 < x
        · simp [b]
        · simp only [if_neg b]; intro _
          simp [a1, a2, a3, b]
    simp only [if_neg a1, if_neg a2, if_neg a3]
    match u with
    | [] => simp
    | x :: u =>
      by_cases b : x < loS c ∨ hiS c < x
      · simp [b]
      simp only [if_neg b]
      match u with
      | [] => simp
      | y :: u =>
        by_cases d : y < 128 ∨ 191 < y
        · simp [d]
        simp only [if_neg d]
        by_cases a4 : c < 240
        · simp only [if_pos a4]; intro _
          simp [a1, a2, a3, b, d, a4]
        simp only [if_neg a4]
        match u with
        | [] => simp
        | z :: u =>
          by_cases f : z < 128 ∨ 191 < z
          · simp [f]
          · simp only [if_neg f]; intro _
            simp [a1, a2, a3, b, d, a4, f]

/-- The first fault hangs on the bytes up to it alone. -/
theorem runS_cut (n : Nat) : ∀ (l m : List Int), Byt l → Byt m → l.length ≤ n → m.length ≤ n → ¬ (runS n l).2 < 0 → (runS n l).2 < l.length → m.take ((runS n l).2.toNat + 1) = l.take ((runS n l).2.toNat + 1) → (runS n m).2 = (runS n l).2 := by
  induction n with
  | zero =>
    intro l m hb hm hl hml hf hlt ht
    simp [runS] at hf
  | succ n ih =>
    intro l m hb hm hl hml hf hlt ht
    by_cases he : l = []
    · subst he; simp [runS_nil] at hf
    have hme : m ≠ [] := by
      rintro rfl
      have := congrArg List.length ht
      simp only [List.take_nil, List.length_nil, List.length_take] at this
      omega
    by_cases h : (oneS l).2.2 < 0
    · have hg := one_good hb h
      rw [runS_good he h] at hf hlt ht ⊢
      by_cases q : (runS n (l.drop (oneS l).2.1.toNat)).2 < 0
      · simp [q] at hf
      simp only [if_neg q] at hf hlt ht ⊢
      have e : ((oneS l).2.1 + (runS n (l.drop (oneS l).2.1.toNat)).2).toNat + 1 = (oneS l).2.1.toNat + ((runS n (l.drop (oneS l).2.1.toNat)).2.toNat + 1) := by omega
      rw [e] at ht
      -- the first character is the same
      have h2 : oneS m = oneS l := by
        have t1 : m.take (oneS l).2.1.toNat = l.take (oneS l).2.1.toNat := by
          have := congrArg (List.take (oneS l).2.1.toNat) ht
          rwa [List.take_take, List.take_take, Nat.min_eq_left (by omega)] at this
        have h3 : oneS (l.take (oneS l).2.1.toNat) = oneS l := one_self hb h
        have h4 := one_app (l := m.take (oneS l).2.1.toNat) (by rw [t1, h3]; exact h) (m.drop (oneS l).2.1.toNat)
        rw [List.take_append_drop] at h4
        rw [h4, t1, h3]
      have hd : (m.drop (oneS l).2.1.toNat).take ((runS n (l.drop (oneS l).2.1.toNat)).2.toNat + 1) = (l.drop (oneS l).2.1.toNat).take ((runS n (l.drop (oneS l).2.1.toNat)).2.toNat + 1) := by
        have := congrArg (List.drop (oneS l).2.1.toNat) ht
        rwa [List.drop_take, List.drop_take, Nat.add_sub_cancel_left] at this
      have := ih (l.drop (oneS l).2.1.toNat) (m.drop (oneS l).2.1.toNat) (hb.drop _) (hm.drop _) (by rw [List.length_drop]; omega) (by rw [List.length_drop]; omega) q (by rw [List.length_drop]; omega) hd
      rw [runS_good hme (by rw [h2]; exact h), h2]
      simp only
      rw [this, if_neg q]
    · rw [runS_bad he h] at hf hlt ht ⊢
      have h2 := one_cut h hlt ht
      rw [runS_bad hme (by rw [h2]; exact h), h2]
end Go.Proofs.Ytbmkphebmelgdaa.Pure
