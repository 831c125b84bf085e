/- What one character's bytes tell, in plain words: the program's 'one' and the document's 'first' and 'value' answer it. -/
import Derived.Test.YtbmkphebmelgdaaPx0
import Derived.Test.YtbmkphebmelgdaaPx4
import Derived.Test.YtbmkphebmelgdaaPx5
namespace Go.Proofs.Ytbmkphebmelgdaa.Pure
open Go.RowKit Go.Proofs.Ytbmkphebmelgdaa.P Go.Proofs.YtbmkphebmelgdaaW.PrintWords Go.Proofs.YtbmkphebmelgdaaW.PrintLast Go.Proofs.YtbmkphebmelgdaaW.PrintMore
set_option linter.unusedVariables false
set_option linter.unusedSimpArgs false

def Byt (l : List Int) : Prop := ∀ x ∈ l, 0 ≤ x ∧ x ≤ 255
theorem Byt.cons {c : Int} {t : List Int} (h : Byt (c :: t)) : (0 ≤ c ∧ c ≤ 255) ∧ Byt t := ⟨h c (by simp), fun x hx => h x (by simp [hx])⟩
theorem Byt.drop {l : List Int} (h : Byt l) (n : Nat) : Byt (l.drop n) := fun x hx => h x (List.mem_of_mem_drop hx)
theorem Byt.take {l : List Int} (h : Byt l) (n : Nat) : Byt (l.take n) := fun x hx => h x (List.mem_of_mem_take hx)
theorem Byt.append {l m : List Int} (h : Byt l) (k : Byt m) : Byt (l ++ m) := fun x hx => by
  rcases List.mem_append.1 hx with hx | hx
  · exact h x hx
  · exact k x hx
theorem Byt.nil : Byt [] := fun x hx => by simp at hx
theorem byt_of_wf {l : List Int} (h : ∀ x ∈ l, (Lit.int .u8 x).wf = true) : Byt l := fun x hx => by
  have := h x hx
  simpa [Lit.wf, IntKind.min, IntKind.max, IntKind.signed, IntKind.bits] using this

def loS (c : Int) : Int := if c = 224 then 160 else if c = 240 then 144 else 128
def hiS (c : Int) : Int := if c = 237 then 159 else if c = 244 then 143 else 191

/-- The character, how many bytes it has, where it goes wrong (-1: nowhere). -/
def oneS : List Int → Int × Int × Int
  | [] => (0, 0, 0)
  | c :: t =>
    if c < 128 then (c, 1, -1)
    else if c < 194 ∨ 244 < c then (0, 0, 0)
    else if c < 224 then
      match t with
      | [] => (0, 0, 1)
      | x :: _ => if x < 128 ∨ 191 < x then (0, 0, 1) else (c % 32 * 64 + x % 64, 2, -1)
    else
      match t with
      | [] => (0, 0, 1)
      | x :: t =>
        if x < loS c ∨ hiS c < x then (0, 0, 1)
        else
          match t with
          | [] => (0, 0, 2)
          | y :: t =>
            if y < 128 ∨ 191 < y then (0, 0, 2)
            else if c < 240 then ((c % 16 * 64 + x % 64) * 64 + y % 64, 3, -1)
            else
              match t with
              | [] => (0, 0, 3)
              | z :: _ => if z < 128 ∨ 191 < z then (0, 0, 3) else (((c % 8 * 64 + x % 64) * 64 + y % 64) * 64 + z % 64, 4, -1)

theorem heads_eq (c : Int) (h0 : 0 ≤ c) (h1 : c ≤ 255) : utf_heads.f 3 c = some (if c < 128 then (0, c, 0, 0, true) else if c < 194 ∨ 244 < c then (0, 0, 0, 0, false) else if c < 224 then (1, c % 32, 128, 191, true) else (if c < 240 then 2 else 3, if c < 240 then c % 16 else c % 8, loS c, hiS c, true)) := by
  have e1 : wrap32 c = c := by unfold wrap32; omega
  have e2 : wrap32 (Go.bits .and .u8 c 31) = c % 32 := by rw [u8_and31 c h0 (by omega)]; unfold wrap32; omega
  have e3 : wrap32 (Go.bits .and .u8 c 15) = c % 16 := by rw [u8_and15 c h0 (by omega)]; unfold wrap32; omega
  have e4 : wrap32 (Go.bits .and .u8 c 7) = c % 8 := by rw [u8_and7 c h0 (by omega)]; unfold wrap32; omega
  unfold utf_heads.f
  rw [e1]
  by_cases a1 : c < 128
  · rw [if_pos a1, if_pos a1]
  rw [if_neg a1, if_neg a1]
  simp only [utf_heads.j0, utf_heads.j1, e2, e3, e4]
  by_cases a2 : c < 194
  · rw [if_pos a2, if_pos (Or.inl a2)]; simp
  rw [if_neg a2]
  by_cases a3 : 244 < c
  · rw [if_pos (Or.inr a3)]; simp [a3]
  rw [if_neg (by omega : ¬ (c < 194 ∨ 244 < c)), if_neg (by simp; omega)]
  by_cases a4 : c < 224
  · rw [if_pos a4, if_pos a4]
  rw [if_neg a4, if_neg a4]
  unfold loS hiS
  by_cases a5 : c < 240
  · rw [if_neg (by omega), if_pos a5, if_pos a5]
    by_cases b1 : c = 224
    · subst b1; simp
    by_cases b2 : c = 237
    · subst b2; simp
    simp [b1, b2, show ¬ c = 240 by omega, show ¬ c = 244 by omega]
  · rw [if_pos (by omega), if_neg a5, if_neg a5]
    by_cases b1 : c = 240
    · subst b1; simp
    by_cases b2 : c = 244
    · subst b2; simp
    simp [b1, b2, show ¬ c = 224 by omega, show ¬ c = 237 by omega]

theorem tail_bits {r x : Int} (r0 : 0 ≤ r) (r1 : r < 33554432) (x0 : 0 ≤ x) (x1 : x ≤ 255) : Go.bits .or .i32 (wrap32 (r * 64)) (wrap32 (Go.bits .and .u8 x 63)) = r * 64 + x % 64 := by
  rw [u8_and63 x x0 (by omega)]
  have e1 : wrap32 (r * 64) = r * 64 := by unfold wrap32; omega
  have e2 : wrap32 (x % 64) = x % 64 := by unfold wrap32; omega
  rw [e1, e2]
  exact i32_or6 _ _ (by omega) (by omega) (by omega) (by omega) (by omega)

theorem loS_le (c : Int) : 128 ≤ loS c ∧ loS c ≤ 160 := by unfold loS; repeat' split <;> omega
theorem hiS_le (c : Int) : 143 ≤ hiS c ∧ hiS c ≤ 191 := by unfold hiS; repeat' split <;> omega

/-- A step of the loop over the bytes that follow. -/
theorem one_step (k : Nat) (l : List Int) (r i more bits lo hi x : Int) (hb : Byt l) (r0 : 0 ≤ r) (r1 : r < 33554432) (i0 : 0 ≤ i) (i1 : i ≤ more) (i2 : i < l.length) (im : more ≤ 3) (hx : rd l i = x) (x0 : 0 ≤ x) (x1 : x ≤ 255) :
    utf_one.l0 (k + 1) l r i more bits lo hi = if x < lo ∨ hi < x then some (0, 0, i) else utf_one.l0 k l (r * 64 + x % 64) (i + 1) more bits 128 191 := by
  simp only [utf_one.l0]
  rw [if_pos i1, if_neg (by omega), if_pos i0, if_pos i2, hx]
  have e : wrap64 (i + 1) = i + 1 := by unfold wrap64; omega
  rw [tail_bits r0 r1 x0 x1, e]
  by_cases a : x < lo
  · rw [if_pos a, if_pos (Or.inl a)]
  · rw [if_neg a]
    by_cases b : x > hi
    · rw [if_pos b, if_pos (Or.inr b)]
    · rw [if_neg b, if_neg (by omega)]
theorem one_short (k : Nat) (l : List Int) (r i more bits lo hi : Int) (i1 : i ≤ more) (i2 : i = l.length) : utf_one.l0 (k + 1) l r i more bits lo hi = some (0, 0, i) := by
  simp only [utf_one.l0]
  rw [if_pos i1, if_pos i2]
theorem one_done (k : Nat) (l : List Int) (r i more bits lo hi : Int) (i1 : more < i) (m0 : 0 ≤ more) (m1 : more ≤ 3) : utf_one.l0 (k + 1) l r i more bits lo hi = some (r, more + 1, -1) := by
  simp only [utf_one.l0]
  rw [if_neg (by omega)]
  have e : wrap64 (more + 1) = more + 1 := by unfold wrap64; omega
  rw [e]

theorem one_eq (l : List Int) (hl : l ≠ []) (hb : Byt l) : utf_one.f 8 l = some (oneS l) := by
  match l, hl with
  | c :: t, _ =>
    obtain ⟨⟨c0, c1⟩, ht⟩ := hb.cons
    unfold utf_one.f
    rw [if_pos (by simp only [List.length_cons]; omega), show rd (c :: t) 0 = c from rfl, at_rounds (utf_heads.mono c) (by omega) (heads_eq c c0 c1)]
    simp only [Option.bind_some]
    unfold oneS
    by_cases a1 : c < 128
    · simp only [if_pos a1, if_true]
      exact one_done 7 _ _ _ _ _ _ _ (by omega) (by omega) (by omega)
    simp only [if_neg a1]
    by_cases a2 : c < 194 ∨ 244 < c
    · simp only [if_pos a2]
      rfl
    simp only [if_neg a2]
    by_cases a3 : c < 224
    · simp only [if_pos a3, if_true]
      cases t with
      | nil => exact one_short 7 _ _ _ _ _ _ _ (by omega) (by simp)
      | cons x t =>
        obtain ⟨⟨x0, x1⟩, ht2⟩ := ht.cons
        rw [one_step 7 _ _ 1 1 _ _ _ x hb (by omega) (by omega) (by omega) (by omega) (by simp only [List.length_cons]; omega) (by omega) rfl x0 x1]
        by_cases b : x < 128 ∨ 191 < x
        · rw [if_pos b]; simp only [if_pos b]
        · rw [if_neg b]; simp only [if_neg b]
          exact one_done 6 _ _ _ _ _ _ _ (by omega) (by omega) (by omega)
    simp only [if_neg a3, if_true]
    have hlo := loS_le c
    have hhi := hiS_le c
    cases t with
    | nil => exact one_short 7 _ _ _ _ _ _ _ (by split <;> omega) (by simp)
    | cons x t =>
      obtain ⟨⟨x0, x1⟩, ht2⟩ := ht.cons
      rw [one_step 7 _ _ 1 _ _ _ _ x hb (by split <;> omega) (by split <;> omega) (by omega) (by split <;> omega) (by simp only [List.length_cons]; omega) (by split <;> omega) rfl x0 x1]
      by_cases b : x < loS c ∨ hiS c < x
      · rw [if_pos b]; simp only [if_pos b]
      rw [if_neg b]; simp only [if_neg b]
      cases t with
      | nil => exact one_short 6 _ _ _ _ _ _ _ (by split <;> omega) (by simp)
      | cons y t =>
        obtain ⟨⟨y0, y1⟩, ht3⟩ := ht2.cons
        rw [one_step 6 _ _ (1 + 1) _ _ _ _ y hb (by split <;> omega) (by split <;> omega) (by omega) (by split <;> omega) (by simp only [List.length_cons]; omega) (by split <;> omega) rfl y0 y1]
        by_cases d : y < 128 ∨ 191 < y
        · rw [if_pos d]; simp only [if_pos d]; rfl
        rw [if_neg d]; simp only [if_neg d]
        by_cases a4 : c < 240
        · simp only [if_pos a4]
          exact one_done 5 _ _ _ _ _ _ _ (by omega) (by omega) (by omega)
        simp only [if_neg a4]
        cases t with
        | nil => exact one_short 5 _ _ _ _ _ _ _ (by omega) (by simp)
        | cons z t =>
          obtain ⟨⟨z0, z1⟩, ht4⟩ := ht3.cons
          rw [one_step 5 _ _ (1 + 1 + 1) _ _ _ _ z hb (by omega) (by omega) (by omega) (by omega) (by simp only [List.length_cons]; omega) (by omega) rfl z0 z1]
          by_cases f : z < 128 ∨ 191 < z
          · rw [if_pos f]; simp only [if_pos f]; rfl
          rw [if_neg f]; simp only [if_neg f]
          exact one_done 4 _ _ _ _ _ _ _ (by omega) (by omega) (by omega)
end Go.Proofs.Ytbmkphebmelgdaa.Pure
