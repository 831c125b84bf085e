/- The document's 'first' and 'value' tell what 'one' tells. -/
import Derived.Test.YtbmkphebmelgdaaPx0
import Derived.Test.YtbmkphebmelgdaaPx9
import Derived.Test.YtbmkphebmelgdaaPx10
import Derived.Test.YtbmkphebmelgdaaUtfOne
namespace Go.Proofs.Ytbmkphebmelgdaa.Pure
open Go.RowKit Go.Proofs.Ytbmkphebmelgdaa.P Go.Proofs.YtbmkphebmelgdaaW.PrintWords Go.Proofs.YtbmkphebmelgdaaW.PrintLast Go.Proofs.YtbmkphebmelgdaaW.PrintMore
set_option linter.unusedVariables false
set_option linter.unusedSimpArgs false

theorem length_eq (c : Int) : gantlineref04_length.f 3 c = some (if c < 128 then 1 else if c < 194 ∨ 244 < c then 0 else if c < 224 then 2 else if c < 240 then 3 else 4) := by
  unfold gantlineref04_length.f
  simp only [gantlineref04_length.j0, gantlineref04_length.j1]
  by_cases a1 : c < 128
  · rw [if_pos a1, if_pos a1]
  rw [if_neg a1, if_neg a1]
  by_cases a2 : c < 194
  · rw [if_neg (by omega), if_pos (Or.inl a2)]
    simp [show ¬ c ≥ 224 by omega, show ¬ c ≥ 240 by omega]
  rw [if_pos (by omega)]
  by_cases a3 : 244 < c
  · rw [if_pos (Or.inr a3)]
    simp [show ¬ c ≤ 223 by omega, show c ≥ 224 by omega, show ¬ c ≤ 239 by omega, show c ≥ 240 by omega, show ¬ c ≤ 244 by omega]
  rw [if_neg (by omega : ¬ (c < 194 ∨ 244 < c))]
  by_cases a4 : c < 224
  · rw [if_pos a4]
    simp [show c ≤ 223 by omega]
  rw [if_neg a4]
  by_cases a5 : c < 240
  · rw [if_pos a5]
    simp [show ¬ c ≤ 223 by omega, show c ≥ 224 by omega, show c ≤ 239 by omega]
  · rw [if_neg a5]
    simp [show ¬ c ≤ 223 by omega, show c ≥ 224 by omega, show ¬ c ≤ 239 by omega, show c ≥ 240 by omega, show c ≤ 244 by omega]

theorem least_eq (c : Int) : gantlineref04_least.f c = some (loS c) := by
  unfold gantlineref04_least.f loS
  (repeat' split) <;> rfl
theorem most_eq (c : Int) : gantlineref04_most.f c = some (hiS c) := by
  unfold gantlineref04_most.f hiS
  (repeat' split) <;> rfl

theorem first_done (k : Nat) (l : List Int) (n i : Int) (h : ¬ i < n) : gantlineref04_first.l0 (k + 1) l n i = some (n, -1) := by
  simp only [gantlineref04_first.l0]; rw [if_neg h]
theorem first_short (k : Nat) (l : List Int) (n i : Int) (h : i < n) (hl : (l.length : Int) ≤ i) : gantlineref04_first.l0 (k + 1) l n i = some (0, (l.length : Int)) := by
  simp only [gantlineref04_first.l0]; rw [if_pos h, if_pos hl]
theorem first_one (k : Nat) (l : List Int) (n x c : Int) (h : 1 < n) (hl : 1 < l.length) (hc : rd l 0 = c) (hx : rd l 1 = x) : gantlineref04_first.l0 (k + 1) l n 1 = if x < loS c ∨ hiS c < x then some (0, 1) else gantlineref04_first.l0 k l n 2 := by
  simp only [gantlineref04_first.l0]
  rw [if_pos h, if_neg (by omega), if_pos trivial, if_pos (by omega), hc, hx, least_eq, most_eq]
  simp only [Option.bind_some]
  rw [if_pos (by decide : (0 : Int) ≤ 1), if_pos (by omega : (1 : Int) < l.length), show wrap64 (1 + 1) = 2 by unfold wrap64; omega]
  by_cases a : x < loS c
  · rw [if_pos a, if_pos (Or.inl a)]
  · rw [if_neg a]
    by_cases b : x > hiS c
    · rw [if_pos b, if_pos (Or.inr b)]
    · rw [if_neg b, if_neg (by omega)]
theorem first_more (k : Nat) (l : List Int) (n i x : Int) (h : i < n) (i2 : 2 ≤ i) (i3 : i ≤ 4) (hl : i < l.length) (hx : rd l i = x) : gantlineref04_first.l0 (k + 1) l n i = if x < 128 ∨ 191 < x then some (0, i) else gantlineref04_first.l0 k l n (i + 1) := by
  simp only [gantlineref04_first.l0]
  rw [if_pos h, if_neg (by omega), if_neg (by omega), if_pos (by omega), if_pos hl, hx, show wrap64 (i + 1) = i + 1 by unfold wrap64; omega]
  by_cases a : x < 128
  · rw [if_pos a, if_pos (Or.inl a)]
  · rw [if_neg a]
    by_cases b : x > 191
    · rw [if_pos b, if_pos (Or.inr b)]
    · rw [if_neg b, if_neg (by omega)]

theorem lo_hi_mid {c x : Int} (h : ¬ 224 ≤ c) (h2 : 194 ≤ c) : (x < loS c ∨ hiS c < x) ↔ (x < 128 ∨ 191 < x) := by
  unfold loS hiS
  rw [if_neg (by omega), if_neg (by omega), if_neg (by omega), if_neg (by omega)]

theorem first_eq (l : List Int) (hl : l ≠ []) : gantlineref04_first.f 8 l = some (if (oneS l).2.2 < 0 then ((oneS l).2.1, -1) else (0, (oneS l).2.2)) := by
  match l, hl with
  | c :: t, _ =>
    unfold gantlineref04_first.f
    rw [if_pos (by simp only [List.length_cons]; omega), show rd (c :: t) 0 = c from rfl, at_rounds (gantlineref04_length.mono c) (by omega) (length_eq c)]
    simp only [Option.bind_some]
    unfold oneS
    by_cases a1 : c < 128
    · simp only [if_pos a1]
      rw [if_neg (by decide), first_done 7 _ _ _ (by decide)]; rfl
    simp only [if_neg a1]
    by_cases a2 : c < 194 ∨ 244 < c
    · simp only [if_pos a2]; rfl
    simp only [if_neg a2]
    by_cases a3 : c < 224
    · simp only [if_pos a3]
      rw [if_neg (by decide)]
      cases t with
      | nil => rw [first_short 7 _ _ _ (by decide) (by simp)]; rfl
      | cons x t =>
        rw [first_one 7 _ _ x c (by decide) (by simp only [List.length_cons]; omega) rfl rfl]
        by_cases b : x < 128 ∨ 191 < x
        · rw [if_pos ((lo_hi_mid (by omega) (by omega)).2 b)]; simp only [if_pos b]; rfl
        · rw [if_neg (fun h => b ((lo_hi_mid (by omega) (by omega)).1 h))]; simp only [if_neg b]
          rw [first_done 6 _ _ _ (by decide)]; rfl
    simp only [if_neg a3]
    rw [if_neg (by split <;> decide)]
    have n1 : (1 : Int) < (if c < 240 then 3 else 4) := by split <;> decide
    have n2 : (2 : Int) < (if c < 240 then 3 else 4) := by split <;> decide
    cases t with
    | nil => rw [first_short 7 _ _ _ n1 (by simp)]; rfl
    | cons x t =>
      rw [first_one 7 _ _ x c n1 (by simp only [List.length_cons]; omega) rfl rfl]
      by_cases b : x < loS c ∨ hiS c < x
      · rw [if_pos b]; simp only [if_pos b]; rfl
      rw [if_neg b]; simp only [if_neg b]
      cases t with
      | nil => rw [first_short 6 _ _ _ n2 (by simp)]; rfl
      | cons y t =>
        rw [first_more 6 _ _ 2 y n2 (by decide) (by decide) (by simp only [List.length_cons]; omega) rfl]
        by_cases d : y < 128 ∨ 191 < y
        · rw [if_pos d]; simp only [if_pos d]; rfl
        rw [if_neg d]; simp only [if_neg d]
        by_cases a4 : c < 240
        · simp only [if_pos a4]
          rw [first_done 5 _ _ _ (by decide)]; rfl
        simp only [if_neg a4]
        cases t with
        | nil => rw [first_short 5 _ _ _ (by decide) (by simp)]; rfl
        | cons z t =>
          rw [first_more 5 _ _ (2 + 1) z (by decide) (by decide) (by decide) (by simp only [List.length_cons]; omega) rfl]
          by_cases f : z < 128 ∨ 191 < z
          · rw [if_pos f]; simp only [if_pos f]; rfl
          rw [if_neg f]; simp only [if_neg f]
          rw [first_done 4 _ _ _ (by decide)]; rfl

theorem wraps_i64 (n : Int) (h₀ : 0 ≤ n) (h₁ : n < 2 ^ 62) : IntKind.i64.wrap n = n := by rw [IntKind.wrap_i64]; omega
theorem or_i64 (i : Nat) (x y : Int) (hx₀ : 0 ≤ x) (hx : x % 2 ^ i = 0) (hx₁ : x < 2 ^ 62) (hy₀ : 0 ≤ y) (hy : y < 2 ^ i) (hy₁ : y < 2 ^ 62) : Go.bits .or .i64 x y = x + y :=
  bits_join .i64 62 (by decide) wraps_i64 i x y hx₀ hx hx₁ hy₀ hy hy₁
theorem w64 {x : Int} (h0 : 0 ≤ x) (h1 : x < 4611686018427387904) : wrap64 x = x := by unfold wrap64; omega

/-- What is right has one to four bytes, all there. -/
theorem one_good {l : List Int} (hb : Byt l) (h : (oneS l).2.2 < 0) : (oneS l).2.2 = -1 ∧ 1 ≤ (oneS l).2.1 ∧ (oneS l).2.1 ≤ 4 ∧ (oneS l).2.1 ≤ l.length ∧ 0 ≤ (oneS l).1 ∧ (oneS l).1 < 2097152 := by
  revert h
  unfold oneS
  match l, hb with
  | [], _ => simp
  | c :: t, hb =>
    obtain ⟨⟨c0, c1⟩, ht⟩ := hb.cons
    by_cases a1 : c < 128
    · simp [a1]; omega
    by_cases a2 : c < 194 ∨ 244 < c
    · simp [a1, a2]
    by_cases a3 : c < 224
    · simp only [if_neg a1, if_neg a2, if_pos a3]
      match t with
      | [] => simp
      | x :: t =>
        by_cases b : x < 128 ∨ 191 < x
        · simp [b]
        · simp only [if_neg b, List.length_cons]; intro _; exact ⟨trivial, by omega, by omega, by simp only [Int.natCast_add]; omega, by omega, by omega⟩
    simp only [if_neg a1, if_neg a2, if_neg a3]
    match t with
    | [] => simp
    | x :: t =>
      by_cases b : x < loS c ∨ hiS c < x
      · simp [b]
      simp only [if_neg b]
      match t with
      | [] => simp
      | y :: t =>
        by_cases d : y < 128 ∨ 191 < y
        · simp [d]
        simp only [if_neg d]
        by_cases a4 : c < 240
        · simp only [if_pos a4, List.length_cons]; intro _; exact ⟨trivial, by omega, by omega, by simp only [Int.natCast_add]; omega, by omega, by omega⟩
        simp only [if_neg a4]
        match t with
        | [] => simp
        | z :: t =>
          by_cases f : z < 128 ∨ 191 < z
          · simp [f]
          · simp only [if_neg f, List.length_cons]; intro _; exact ⟨trivial, by omega, by omega, by simp only [Int.natCast_add]; omega, by omega, by omega⟩

theorem one_bad {l : List Int} (h : ¬ (oneS l).2.2 < 0) : (oneS l).1 = 0 ∧ (oneS l).2.1 = 0 ∧ (oneS l).2.2 ≤ l.length := by
  revert h
  unfold oneS
  match l with
  | [] => simp
  | c :: t =>
    by_cases a1 : c < 128
    · simp [a1]
    by_cases a2 : c < 194 ∨ 244 < c
    · simp [a1, a2]; omega
    by_cases a3 : c < 224
    · simp only [if_neg a1, if_neg a2, if_pos a3]
      match t with
      | [] => simp
      | x :: t =>
        by_cases b : x < 128 ∨ 191 < x
        · simp [b]; omega
        · simp [b]
    simp only [if_neg a1, if_neg a2, if_neg a3]
    match t with
    | [] => simp
    | x :: t =>
      by_cases b : x < loS c ∨ hiS c < x
      · simp [b]; omega
      simp only [if_neg b]
      match t with
      | [] => simp
      | y :: t =>
        by_cases d : y < 128 ∨ 191 < y
        · simp [d]; omega
        simp only [if_neg d]
        by_cases a4 : c < 240
        · simp [a4]
        simp only [if_neg a4]
        match t with
        | [] => simp
        | z :: t =>
          by_cases f : z < 128 ∨ 191 < z
          · simp [f]; omega
          · simp [f]

theorem value_eq {l : List Int} (hb : Byt l) (h : (oneS l).2.2 < 0) : gantlineref04_value.f (l.take (oneS l).2.1.toNat) = some (oneS l).1 := by
  revert h
  unfold oneS
  match l, hb with
  | [], _ => simp
  | c :: t, hb =>
    obtain ⟨⟨c0, c1⟩, ht⟩ := hb.cons
    by_cases a1 : c < 128
    · intro
      simp only [if_pos a1]
      simp [gantlineref04_value.f, rd, w64 c0 (by omega)]
    by_cases a2 : c < 194 ∨ 244 < c
    · simp [a1, a2]
    by_cases a3 : c < 224
    · simp only [if_neg a1, if_neg a2, if_pos a3]
      match t, ht with
      | [], _ => simp
      | x :: t, ht =>
        obtain ⟨⟨x0, x1⟩, ht2⟩ := ht.cons
        by_cases b : x < 128 ∨ 191 < x
        · simp [b]
        · simp only [if_neg b]; intro
          simp [gantlineref04_value.f, rd, u8_and31 c c0 (by omega), u8_and63 x x0 (by omega)]
          rw [w64 (x := c % 32) (by omega) (by omega), w64 (x := c % 32 * 64) (by omega) (by omega), w64 (x := x % 64) (by omega) (by omega), or_i64 6 _ _ (by omega) (by omega) (by omega) (by omega) (by omega) (by omega)]
    simp only [if_neg a1, if_neg a2, if_neg a3]
    match t, ht with
    | [], _ => simp
    | x :: t, ht =>
      obtain ⟨⟨x0, x1⟩, ht2⟩ := ht.cons
      by_cases b : x < loS c ∨ hiS c < x
      · simp [b]
      simp only [if_neg b]
      match t, ht2 with
      | [], _ => simp
      | y :: t, ht2 =>
        obtain ⟨⟨y0, y1⟩, ht3⟩ := ht2.cons
        by_cases d : y < 128 ∨ 191 < y
        · simp [d]
        simp only [if_neg d]
        by_cases a4 : c < 240
        · simp only [if_pos a4]; intro
          simp [gantlineref04_value.f, rd, u8_and15 c c0 (by omega), u8_and63 x x0 (by omega), u8_and63 y y0 (by omega)]
          rw [w64 (x := c % 16) (by omega) (by omega), w64 (x := c % 16 * 4096) (by omega) (by omega), w64 (x := x % 64) (by omega) (by omega), w64 (x := x % 64 * 64) (by omega) (by omega), w64 (x := y % 64) (by omega) (by omega), or_i64 12 (c % 16 * 4096) (x % 64 * 64) (by omega) (by omega) (by omega) (by omega) (by omega) (by omega), or_i64 6 (c % 16 * 4096 + x % 64 * 64) (y % 64) (by omega) (by omega) (by omega) (by omega) (by omega) (by omega)]
          omega
        simp only [if_neg a4]
        match t, ht3 with
        | [], _ => simp
        | z :: t, ht3 =>
          obtain ⟨⟨z0, z1⟩, ht4⟩ := ht3.cons
          by_cases f : z < 128 ∨ 191 < z
          · simp [f]
          · simp only [if_neg f]; intro
            simp [gantlineref04_value.f, rd, u8_and7 c c0 (by omega), u8_and63 x x0 (by omega), u8_and63 y y0 (by omega), u8_and63 z z0 (by omega)]
            rw [w64 (x := c % 8) (by omega) (by omega), w64 (x := c % 8 * 262144) (by omega) (by omega), w64 (x := x % 64) (by omega) (by omega), w64 (x := x % 64 * 4096) (by omega) (by omega), w64 (x := y % 64) (by omega) (by omega), w64 (x := y % 64 * 64) (by omega) (by omega), w64 (x := z % 64) (by omega) (by omega), or_i64 18 (c % 8 * 262144) (x % 64 * 4096) (by omega) (by omega) (by omega) (by omega) (by omega) (by omega), or_i64 12 (c % 8 * 262144 + x % 64 * 4096) (y % 64 * 64) (by omega) (by omega) (by omega) (by omega) (by omega) (by omega), or_i64 6 (c % 8 * 262144 + x % 64 * 4096 + y % 64 * 64) (z % 64) (by omega) (by omega) (by omega) (by omega) (by omega) (by omega)]
            omega
end Go.Proofs.Ytbmkphebmelgdaa.Pure
