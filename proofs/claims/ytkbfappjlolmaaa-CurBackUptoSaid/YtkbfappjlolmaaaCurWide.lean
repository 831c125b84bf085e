/- What a wide number's bytes are: the program's and the document's. -/
import Derived.Test.YtkbfappjlolmaaaPx0
import Derived.Test.YtkbfappjlolmaaaPx2
import Derived.Test.YtkbfappjlolmaaaPx3
import Derived.Test.YtkbfappjlolmaaaPx4
import Derived.Test.YtkbfappjlolmaaaPx6
import Derived.Test.YtkbfappjlolmaaaPx11
import Derived.Test.YtkbfappjlolmaaaPx12
import Derived.Test.YtkbfappjlolmaaaCurShort
namespace Go.Proofs.Ytkbfappjlolmaaa.Pure
open Go.RowKit Go.Proofs.Ytkbfappjlolmaaa.P Go.Proofs.YtkbfappjlolmaaaW.PrintWords Go.Proofs.YtkbfappjlolmaaaW.PrintLast Go.Proofs.YtkbfappjlolmaaaW.PrintMore
set_option linter.unusedVariables false
set_option linter.unusedSimpArgs false

/-- The lowest j bytes, the highest first. -/
def wide : Nat → Int → List Int
  | 0, _ => []
  | j + 1, n => n / 256 ^ j % 256 :: wide j n
theorem wide_len (j : Nat) (n : Int) : (wide j n).length = j := by
  induction j with
  | zero => rfl
  | succ j ih => rw [wide, List.length_cons, ih]
theorem pow256 (j : Nat) : (2 : Int) ^ (8 * j) = 256 ^ j := by rw [Int.pow_mul]; rfl
theorem shr_eq (n : Int) (j : Nat) (hj : j < 8) (a : Int) (ha : a = 8 * (j : Int)) : shr .u64 n a = n / 256 ^ j := by
  subst ha
  unfold shr
  rw [show min (8 * (j : Int)).toNat IntKind.u64.bits = 8 * j by rw [show IntKind.u64.bits = 64 from rfl]; omega, pow256]
theorem cur_loop (n : Int) : ∀ (j k : Nat) (acc : List Int), j ≤ 8 → j < k → acc.length + j < 140737488355328 → cur_PutWide.l0 k n acc (8 * (j : Int)) = some (acc ++ wide j n, 0) := by
  intro j
  induction j with
  | zero =>
    intro k acc _ hk _
    obtain ⟨k, rfl⟩ : ∃ k2, k = k2 + 1 := ⟨k - 1, by omega⟩
    rw [cur_PutWide.l0, if_neg (by omega), wide, List.append_nil]
  | succ j ih =>
    intro k acc hj hk ha
    obtain ⟨k, rfl⟩ : ∃ k2, k = k2 + 1 := ⟨k - 1, by omega⟩
    have e : wrap64 (8 * ((j + 1 : Nat) : Int) - 8) = 8 * (j : Int) := by unfold wrap64; omega
    rw [cur_PutWide.l0, if_pos (by omega), e, if_pos (by omega), if_pos (by omega), shr_eq n j (by omega) _ rfl, ih k _ (by omega) (by omega) (by simp only [List.length_append, List.length_cons, List.length_nil]; omega), wide, List.append_assoc]
    rfl
theorem ref_loop (n : Int) : ∀ (j k : Nat) (acc : List Int), j ≤ 8 → j < k → acc.length + j < 140737488355328 → gantlineref02_PutWide.l0 k n acc ((j : Int) - 1) = some (acc ++ wide j n, 0) := by
  intro j
  induction j with
  | zero =>
    intro k acc _ hk _
    obtain ⟨k, rfl⟩ : ∃ k2, k = k2 + 1 := ⟨k - 1, by omega⟩
    rw [gantlineref02_PutWide.l0, if_neg (by omega), wide, List.append_nil]
  | succ j ih =>
    intro k acc hj hk ha
    obtain ⟨k, rfl⟩ : ∃ k2, k = k2 + 1 := ⟨k - 1, by omega⟩
    have e0 : ((j + 1 : Nat) : Int) - 1 = j := by omega
    have e : wrap64 (8 * (j : Int)) = 8 * (j : Int) := by unfold wrap64; omega
    have e2 : wrap64 ((j : Int) - 1) = (j : Int) - 1 := by unfold wrap64; omega
    rw [gantlineref02_PutWide.l0, e0, if_pos (by omega), e, if_pos (by omega), if_pos (by omega), shr_eq n j (by omega) _ rfl, e2, ih k _ (by omega) (by omega) (by simp only [List.length_append, List.length_cons, List.length_nil]; omega), wide, List.append_assoc]
    rfl
theorem isw_eq (w : Int) : cur_isWidth.f w = some (decide (w = 1 ∨ w = 2 ∨ w = 4 ∨ w = 8)) := cur_Cursor_Wide.isw w
theorem refw_eq (w : Int) : gantlineref02_width.f w = some (decide (w = 1 ∨ w = 2 ∨ w = 4 ∨ w = 8)) := cur_Cursor_Wide.isw w
theorem shr2 (n : Int) (j : Nat) (hj : j = 1 ∨ j = 2 ∨ j = 4 ∨ j = 8) (h0 : 0 ≤ n) : shr .u64 (shr .u64 n (wrap64 (4 * (j : Int)))) (wrap64 (4 * (j : Int))) = n / 256 ^ j := by
  unfold shr
  rcases hj with rfl | rfl | rfl | rfl
  · rw [show min (wrap64 (4 * ((1 : Nat) : Int))).toNat IntKind.u64.bits = 4 by rw [show IntKind.u64.bits = 64 from rfl]; unfold wrap64; omega]; omega
  · rw [show min (wrap64 (4 * ((2 : Nat) : Int))).toNat IntKind.u64.bits = 8 by rw [show IntKind.u64.bits = 64 from rfl]; unfold wrap64; omega]; omega
  · rw [show min (wrap64 (4 * ((4 : Nat) : Int))).toNat IntKind.u64.bits = 16 by rw [show IntKind.u64.bits = 64 from rfl]; unfold wrap64; omega]; omega
  · rw [show min (wrap64 (4 * ((8 : Nat) : Int))).toNat IntKind.u64.bits = 32 by rw [show IntKind.u64.bits = 64 from rfl]; unfold wrap64; omega]; omega
theorem fits (n : Int) (j : Nat) (h : ¬ n / 256 ^ j = 0) : (n / 256 ^ j != 0) = true := by simpa using h
theorem clone_eq (l : List Int) (h : l.length < 140737488355328) : slices_Clone_byte_byte.f l = some l := by
  unfold slices_Clone_byte_byte.f
  rw [if_pos h]
theorem grow_eq (l : List Int) (a : Int) (h0 : 0 ≤ a) (h : (l.length : Int) + a ≤ 140737488355328) : slices_Grow_byte_byte.f l a = some l := by
  unfold slices_Grow_byte_byte.f
  rw [if_neg (by omega), if_pos h]
theorem curwide_j0 (l : List Int) (n : Int) (j : Nat) (hj : j = 1 ∨ j = 2 ∨ j = 4 ∨ j = 8) (hl : l.length + 8 < 140737488355328) (k : Nat) (hk : 20 ≤ k) : cur_PutWide.j0 (k + 1) l n j false = some (l ++ wide j n, 0) := by
  have e : wrap64 (8 * (j : Int)) = 8 * (j : Int) := by unfold wrap64; omega
  rw [cur_PutWide.j0, if_neg Bool.false_ne_true, clone_eq l (by omega), Option.bind_some, grow_eq l j (by omega) (by omega), Option.bind_some, e, cur_loop n j k l (by omega) (by omega) (by omega)]
theorem curwide_good (l : List Int) (n : Int) (j : Nat) (hj : j = 1 ∨ j = 2 ∨ j = 4 ∨ j = 8) (h0 : 0 ≤ n) (hz : n / 256 ^ j = 0) (hl : l.length + 8 < 140737488355328) (k : Nat) (hk : 30 ≤ k) : cur_PutWide.f k l n j = some (l ++ wide j n, 0) := by
  obtain ⟨k, rfl⟩ : ∃ k2, k = k2 + 1 := ⟨k - 1, by omega⟩
  have e := shr2 n j hj h0
  have e4 : 0 ≤ wrap64 (4 * (j : Int)) := by unfold wrap64; omega
  have e5 : (decide ((j : Int) = 1 ∨ (j : Int) = 2 ∨ (j : Int) = 4 ∨ (j : Int) = 8)) = true := decide_eq_true (by omega)
  unfold cur_PutWide.f
  rw [isw_eq, e5, Option.bind_some, if_pos rfl, if_pos e4, e, hz, show ((0 : Int) != 0) = false from rfl]
  exact curwide_j0 l n j hj hl k (by omega)
theorem curwide_bad (l : List Int) (n w : Int) (h0 : 0 ≤ n) (h : ¬ ((w = 1 ∨ w = 2 ∨ w = 4 ∨ w = 8) ∧ n / 256 ^ w.toNat = 0)) (k : Nat) (hk : 20 ≤ k) : cur_PutWide.f k l n w = some ([], 1) := by
  obtain ⟨k, rfl⟩ : ∃ k2, k = k2 + 1 := ⟨k - 1, by omega⟩
  unfold cur_PutWide.f
  rw [isw_eq]
  by_cases hw : w = 1 ∨ w = 2 ∨ w = 4 ∨ w = 8
  · rw [decide_eq_true hw]
    simp only [Option.bind_some, if_true]
    have e := shr2 n w.toNat (by omega) h0
    rw [show ((w.toNat : Nat) : Int) = w by omega] at e
    rw [if_pos (by unfold wrap64; omega), e, fits n _ (fun hz => h ⟨hw, hz⟩), cur_PutWide.j0, if_pos rfl]
  · rw [decide_eq_false hw]
    simp only [Option.bind_some]
    rw [if_neg (by simp), cur_PutWide.j0, if_pos rfl]
theorem refwide_good (l : List Int) (n : Int) (j : Nat) (hj : j = 1 ∨ j = 2 ∨ j = 4 ∨ j = 8) (hn : n < 18446744073709551616) (h0 : 0 ≤ n) (hz : n / 256 ^ j = 0) (hl : l.length + 8 < 140737488355328) (k : Nat) (hk : 20 ≤ k) : gantlineref02_PutWide.f k l n j = some (l ++ wide j n, 0) := by
  obtain ⟨k, rfl⟩ : ∃ k2, k = k2 + 1 := ⟨k - 1, by omega⟩
  unfold gantlineref02_PutWide.f
  rw [refw_eq, decide_eq_true (by omega)]
  simp only [Option.bind_some, if_true]
  have hj0 : gantlineref02_PutWide.j0 (k + 1) l n j false = some (l ++ wide j n, 0) := by
    rw [gantlineref02_PutWide.j0, if_neg (by simp), if_pos (by simp; omega), show wrap64 ((j : Int) - 1) = (j : Int) - 1 by unfold wrap64; omega, List.nil_append, ref_loop n j _ l (by omega) (by omega) (by omega)]
  by_cases h8 : (j : Int) < 8
  · rw [if_pos h8, if_pos (by unfold wrap64; omega), show wrap64 (8 * (j : Int)) = 8 * (j : Int) by unfold wrap64; omega, shr_eq n j (by omega) _ rfl, hz]
    exact hj0
  · rw [if_neg h8]
    exact hj0
theorem refwide_bad (l : List Int) (n w : Int) (h0 : 0 ≤ n) (hn : n < 18446744073709551616) (h : ¬ ((w = 1 ∨ w = 2 ∨ w = 4 ∨ w = 8) ∧ n / 256 ^ w.toNat = 0)) (k : Nat) (hk : 20 ≤ k) : gantlineref02_PutWide.f k l n w = some ([], 1) := by
  obtain ⟨k, rfl⟩ : ∃ k2, k = k2 + 1 := ⟨k - 1, by omega⟩
  unfold gantlineref02_PutWide.f
  rw [refw_eq]
  by_cases hw : w = 1 ∨ w = 2 ∨ w = 4 ∨ w = 8
  · have h8 : w < 8 := by
      rcases hw with rfl | rfl | rfl | rfl
      · decide
      · decide
      · decide
      · exact absurd ⟨.inr (.inr (.inr rfl)), by rw [show (8 : Int).toNat = 8 from rfl]; omega⟩ h
    rw [decide_eq_true hw]
    simp only [Option.bind_some, if_true]
    rw [if_pos h8, if_pos (by unfold wrap64; omega), shr_eq n w.toNat (by omega) _ (by unfold wrap64; omega), fits n _ (fun hz => h ⟨hw, hz⟩), gantlineref02_PutWide.j0, if_pos rfl]
  · rw [decide_eq_false hw]
    simp only [Option.bind_some]
    rw [if_neg (by simp), gantlineref02_PutWide.j0, if_pos rfl]
/-! ### The document's short form -/
theorem refshort_loop (n : Nat) (hn : n < 18446744073709551616) : ∀ (j k : Nat) (acc : List Int), j ≤ 9 → j < k → acc.length + 20 + j < 140737488355328 →
    gantlineref02_PutShort.l0 k n (acc ++ (lo7 (n / 128 ^ (j + 1))).reverse) j = some (acc ++ short n) := by
  intro j
  induction j with
  | zero =>
    intro k acc _ hk ha
    obtain ⟨k, rfl⟩ : ∃ k2, k = k2 + 1 := ⟨k - 1, by omega⟩
    have h9 := lo7_len 9 (n / 128) (by omega)
    rw [gantlineref02_PutShort.l0, if_neg (by omega), show n / 128 ^ (0 + 1) = n / 128 by simp, if_pos (by simp only [List.length_append, List.length_reverse]; omega), and127w _ (by omega) (by omega)]
    unfold short
    rw [List.append_assoc, show ((n : Int) % 128 % 256) = ((n % 128 : Nat) : Int) by omega]
  | succ j ih =>
    intro k acc hj hk ha
    obtain ⟨k, rfl⟩ : ∃ k2, k = k2 + 1 := ⟨k - 1, by omega⟩
    have ew : wrap64 (7 * ((j + 1 : Nat) : Int)) = 7 * ((j + 1 : Nat) : Int) := by unfold wrap64; omega
    have ew2 : wrap64 (((j + 1 : Nat) : Int) - 1) = (j : Int) := by unfold wrap64; omega
    have es : shr .u64 (n : Int) (7 * ((j + 1 : Nat) : Int)) = ((n / 128 ^ (j + 1) : Nat) : Int) := by
      unfold shr
      rw [show min (7 * ((j + 1 : Nat) : Int)).toNat IntKind.u64.bits = 7 * (j + 1) by rw [show IntKind.u64.bits = 64 from rfl]; omega]
      rw [show (2 : Int) ^ (7 * (j + 1)) = ((128 ^ (j + 1) : Nat) : Int) by rw [Int.pow_mul]; simp]
      exact (Int.natCast_ediv _ _).symm
    rw [gantlineref02_PutShort.l0, if_pos (by omega), ew, if_pos (by omega), es, ew2]
    have e2 : n / 128 ^ (j + 1 + 1) = n / 128 ^ (j + 1) / 128 := by rw [Nat.pow_succ 128 (j + 1), Nat.div_div_eq_div_mul]
    have hv : n / 128 ^ (j + 1) ≤ n := Nat.div_le_self _ _
    rw [e2]
    have hi := ih k acc (by omega) (by omega) (by omega)
    clear ih es
    generalize n / 128 ^ (j + 1) = v at hi hv ⊢
    by_cases h0 : v = 0
    · rw [if_pos (by omega), h0]
      rw [h0] at hi
      exact hi
    · have h9 := lo7_len 10 (v / 128) (by omega)
      rw [if_neg (by omega), if_pos (by simp only [List.length_append, List.length_reverse]; omega), or128 _ (by omega) (by omega)]
      rw [lo7_pos h0, List.reverse_cons, ← List.append_assoc] at hi
      rw [show (128 + (v : Int) % 256 % 128) = 128 + ((v % 128 : Nat) : Int) by omega]
      exact hi
theorem refshort_eq (l : List Int) (n : Nat) (hn : n < 18446744073709551616) (hl : l.length + 40 < 140737488355328) (k : Nat) (hk : 30 ≤ k) : gantlineref02_PutShort.f k l n = some (l ++ short n) := by
  unfold gantlineref02_PutShort.f
  rw [if_pos (by simp; omega)]
  have := refshort_loop n hn 9 k l (by omega) (by omega) (by omega)
  rw [show n / 128 ^ (9 + 1) = 0 by omega, lo7_zero] at this
  simpa using this
end Go.Proofs.Ytkbfappjlolmaaa.Pure
