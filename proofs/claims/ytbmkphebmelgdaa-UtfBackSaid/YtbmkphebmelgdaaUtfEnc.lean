/- A character's bytes. -/
import Derived.Test.YtbmkphebmelgdaaPx0
import Derived.Test.YtbmkphebmelgdaaPx2
import Derived.Test.YtbmkphebmelgdaaPx3
import Derived.Test.YtbmkphebmelgdaaUtfDec
import Derived.Test.YtbmkphebmelgdaaUtfOne
import Derived.Test.YtbmkphebmelgdaaUtfRef
namespace Go.Proofs.Ytbmkphebmelgdaa.Pure
open Go.RowKit Go.Proofs.Ytbmkphebmelgdaa.P Go.Proofs.YtbmkphebmelgdaaW.PrintWords Go.Proofs.YtbmkphebmelgdaaW.PrintLast Go.Proofs.YtbmkphebmelgdaaW.PrintMore
set_option linter.unusedVariables false
set_option linter.unusedSimpArgs false

/-- A character's bytes, as the document has them. -/
def encS (r : Int) : List Int :=
  if r < 128 then [r] else if r < 2048 then [192 + r / 64, 128 + r % 64] else if r < 65536 then [224 + r / 4096, 128 + r / 64 % 64, 128 + r % 64] else [240 + r / 262144, 128 + r / 4096 % 64, 128 + r / 64 % 64, 128 + r % 64]
def chr (r : Int) : Prop := 0 ≤ r ∧ r ≤ 1114111 ∧ ¬ (55296 ≤ r ∧ r ≤ 57343)

theorem u8_nat (n : Nat) (h : n < 256) : ((UInt8.ofNat n).toNat : Int) = n := by simp; omega

theorem enc_eq {r : Int} (h : chr r) : bytesOf (Utf8.encode r) = encS r := by
  obtain ⟨h0, h1, h2⟩ := h
  obtain ⟨n, rfl⟩ := Int.eq_ofNat_of_zero_le h0
  have hv : Utf8.valid (n : Int) = true := by rw [valid_okN]; exact decide_eq_true (by unfold okN; omega)
  unfold Utf8.encode encS
  simp only [hv, if_true, Int.toNat_natCast]
  by_cases a : n < 128
  · rw [if_pos a, if_pos (show (n : Int) < 128 by omega)]
    simp only [bytesOf, List.map_cons, List.map_nil, u8_nat n (by omega)]
  rw [if_neg a, if_neg (show ¬ (n : Int) < 128 by omega)]
  by_cases b : n < 2048
  · rw [if_pos (show n < 0x800 from b), if_pos (show (n : Int) < 2048 by omega)]
    simp only [bytesOf, List.map_cons, List.map_nil, u8_nat _ (show 0xC0 + n / 64 < 256 by omega), u8_nat _ (show 0x80 + n % 64 < 256 by omega)]
    rfl
  rw [if_neg (show ¬ n < 0x800 from b), if_neg (show ¬ (n : Int) < 2048 by omega)]
  by_cases c : n < 65536
  · rw [if_pos (show n < 0x10000 from c), if_pos (show (n : Int) < 65536 by omega)]
    simp only [bytesOf, List.map_cons, List.map_nil, u8_nat _ (show 0xE0 + n / 4096 < 256 by omega), u8_nat _ (show 0x80 + n / 64 % 64 < 256 by omega), u8_nat _ (show 0x80 + n % 64 < 256 by omega)]
    rfl
  rw [if_neg (show ¬ n < 0x10000 from c), if_neg (show ¬ (n : Int) < 65536 by omega)]
  simp only [bytesOf, List.map_cons, List.map_nil, u8_nat _ (show 0xF0 + n / 262144 < 256 by omega), u8_nat _ (show 0x80 + n / 4096 % 64 < 256 by omega), u8_nat _ (show 0x80 + n / 64 % 64 < 256 by omega), u8_nat _ (show 0x80 + n % 64 < 256 by omega)]
  rfl

theorem enc_byt {r : Int} (h : chr r) : Byt (encS r) := by
  obtain ⟨h0, h1, h2⟩ := h
  unfold encS Byt
  intro x hx
  repeat' split at hx
  all_goals
    simp only [List.mem_cons, List.not_mem_nil, or_false] at hx
    omega

theorem enc_len (r : Int) : 1 ≤ (encS r).length ∧ (encS r).length ≤ 4 := by
  unfold encS
  repeat' split
  all_goals simp

/-- A character's bytes begin with it. -/
theorem one_enc {r : Int} (h : chr r) (t : List Int) : oneS (encS r ++ t) = (r, ((encS r).length : Int), -1) := by
  obtain ⟨h0, h1, h2⟩ := h
  unfold encS
  by_cases a : r < 128
  · simp [a, oneS]
  by_cases b : r < 2048
  · simp only [if_neg a, if_pos b, List.cons_append, List.nil_append, oneS]
    rw [if_neg (by omega), if_neg (by omega), if_pos (by omega), if_neg (by omega)]
    exact Prod.ext (by simp only; omega) rfl
  by_cases c : r < 65536
  · simp only [if_neg a, if_neg b, if_pos c, List.cons_append, List.nil_append, oneS]
    have hl := loS_le (224 + r / 4096)
    rw [if_neg (by omega), if_neg (by omega), if_neg (by omega), if_neg (by unfold loS hiS; repeat' split <;> omega), if_neg (by omega), if_pos (by omega)]
    exact Prod.ext (by simp only; omega) rfl
  · simp only [if_neg a, if_neg b, if_neg c, List.cons_append, List.nil_append, oneS]
    rw [if_neg (by omega), if_neg (by omega), if_neg (by omega), if_neg (by unfold loS hiS; repeat' split <;> omega), if_neg (by omega), if_neg (by omega), if_neg (by omega)]
    exact Prod.ext (by simp only; omega) rfl

theorem low_eq (r i : Int) (h0 : 0 ≤ r) (h1 : r ≤ 1114111) (hi : i = 0 ∨ i = 1 ∨ i = 2) : gantlineref04_low.f r i = some (128 + r / 2 ^ (6 * i).toNat % 64) := by
  unfold gantlineref04_low.f
  have e : wrap64 (6 * i) = 6 * i := by unfold wrap64; omega
  have sh : shr .i64 r (6 * i) = r / 2 ^ (6 * i).toNat := by
    unfold shr
    rw [show min (6 * i).toNat (IntKind.i64.bits) = (6 * i).toNat from by rcases hi with rfl | rfl | rfl <;> decide]
  rw [e, if_pos (by omega), sh]
  have hq : 0 ≤ r / 2 ^ (6 * i).toNat ∧ r / 2 ^ (6 * i).toNat ≤ 1114111 := by
    rcases hi with rfl | rfl | rfl
    · show 0 ≤ r / 1 ∧ r / 1 ≤ 1114111; omega
    · show 0 ≤ r / 64 ∧ r / 64 ≤ 1114111; omega
    · show 0 ≤ r / 4096 ∧ r / 4096 ≤ 1114111; omega
  generalize r / 2 ^ (6 * i).toNat = q at hq ⊢
  have ha : Go.bits .and .i64 q 63 = q % 64 := bits_mask .i64 62 (by decide) wraps_i64 6 (by decide) q (by omega) (by omega)
  rw [ha, or_i64 6 128 (q % 64) (by decide) (by decide) (by decide) (by omega) (by omega) (by omega)]
  refine congrArg some ?_
  omega

theorem refbytes_eq {r : Int} (h : chr r) : gantlineref04_Bytes.f r = some (encS r) := by
  obtain ⟨h0, h1, h2⟩ := h
  unfold gantlineref04_Bytes.f encS
  by_cases a : r < 128
  · rw [if_pos a, if_pos a, show r % 256 = r by omega]
  rw [if_neg a, if_neg a, low_eq r 0 h0 h1 (by simp), low_eq r 1 h0 h1 (by simp), low_eq r 2 h0 h1 (by simp)]
  rw [show r / 2 ^ (6 * 0 : Int).toNat = r from by show r / 1 = r; omega, show r / 2 ^ (6 * 1 : Int).toNat = r / 64 from rfl, show r / 2 ^ (6 * 2 : Int).toNat = r / 4096 from rfl]
  simp only [Option.bind_some]
  by_cases b : r < 2048
  · rw [if_pos b, if_pos b, or_i64 6 192 (r / 64) (by decide) (by decide) (by decide) (by omega) (by omega) (by omega), show (192 + r / 64) % 256 = 192 + r / 64 by omega]
  rw [if_neg b, if_neg b]
  by_cases c : r < 65536
  · rw [if_pos c, if_pos c, or_i64 4 224 (r / 4096) (by decide) (by decide) (by decide) (by omega) (by omega) (by omega), show (224 + r / 4096) % 256 = 224 + r / 4096 by omega]
  · rw [if_neg c, if_neg c, or_i64 3 240 (r / 262144) (by decide) (by decide) (by decide) (by omega) (by omega) (by omega), show (240 + r / 262144) % 256 = 240 + r / 262144 by omega]

theorem put_good {r : Int} (h : chr r) (l : List Int) (hl : l.length + 4 < 140737488355328) : utf_Put.f l r = some (l ++ encS r, 0) := by
  have := enc_len r
  obtain ⟨h0, h1, h2⟩ := h
  unfold utf_Put.f
  rw [if_neg (by omega), enc_eq ⟨h0, h1, h2⟩, if_pos (by omega)]
theorem put_bad {r : Int} (h : ¬ chr r) (l : List Int) : utf_Put.f l r = some ([], 1) := by
  unfold chr at h
  unfold utf_Put.f
  rw [if_pos (by omega)]
instance (r : Int) : Decidable (chr r) := by unfold chr; infer_instance

theorem right_eq (r : Int) : gantlineref04_Right.f r = some (decide (chr r)) := by
  unfold gantlineref04_Right.f
  by_cases a : r ≥ 0
  · rw [if_pos a]
    by_cases b : r ≤ 1114111
    · rw [if_pos b]
      by_cases c : r < 55296
      · rw [if_pos c, decide_eq_true (show chr r from ⟨by omega, b, by omega⟩)]
      · rw [if_neg c]
        by_cases d : r > 57343
        · rw [decide_eq_true d, decide_eq_true (show chr r from ⟨by omega, b, by omega⟩)]
        · rw [decide_eq_false d, decide_eq_false (show ¬ chr r from fun h => by obtain ⟨_, _, h⟩ := h; omega)]
    · rw [if_neg b, decide_eq_false (show ¬ chr r from fun h => by obtain ⟨_, h, _⟩ := h; omega)]
  · rw [if_neg a, decide_eq_false (show ¬ chr r from fun h => by obtain ⟨h, _, _⟩ := h; omega)]
end Go.Proofs.Ytbmkphebmelgdaa.Pure
