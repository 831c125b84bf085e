/- The characters of bytes: what the program's loops, the document's loop and the range over a string come to. -/
import Derived.Test.YtbmkphebmelgdaaPx0
import Derived.Test.YtbmkphebmelgdaaPx2
import Derived.Test.YtbmkphebmelgdaaPx3
import Derived.Test.YtbmkphebmelgdaaPx5
import Derived.Test.YtbmkphebmelgdaaPx6
import Derived.Test.YtbmkphebmelgdaaPx10
import Derived.Test.YtbmkphebmelgdaaPx11
import Derived.Test.YtbmkphebmelgdaaUtfDec
import Derived.Test.YtbmkphebmelgdaaUtfOne
import Derived.Test.YtbmkphebmelgdaaUtfRef
namespace Go.Proofs.Ytbmkphebmelgdaa.Pure
open Go.RowKit Go.Proofs.Ytbmkphebmelgdaa.P Go.Proofs.YtbmkphebmelgdaaW.PrintWords Go.Proofs.YtbmkphebmelgdaaW.PrintLast Go.Proofs.YtbmkphebmelgdaaW.PrintMore
set_option linter.unusedVariables false
set_option linter.unusedSimpArgs false

/-- The characters up to the first fault, and its place (-1: none). -/
def runS : Nat → List Int → List Int × Int
  | 0, _ => ([], -1)
  | n + 1, l => if l = [] then ([], -1) else if (oneS l).2.2 < 0 then ((oneS l).1 :: (runS n (l.drop (oneS l).2.1.toNat)).1, if (runS n (l.drop (oneS l).2.1.toNat)).2 < 0 then -1 else (oneS l).2.1 + (runS n (l.drop (oneS l).2.1.toNat)).2) else ([], (oneS l).2.2)

theorem runS_nil (n : Nat) : runS n [] = ([], -1) := by cases n <;> rfl
theorem runS_bad {n : Nat} {l : List Int} (hl : l ≠ []) (h : ¬ (oneS l).2.2 < 0) : runS (n + 1) l = ([], (oneS l).2.2) := by
  rw [runS, if_neg hl, if_neg h]
theorem runS_good {n : Nat} {l : List Int} (hl : l ≠ []) (h : (oneS l).2.2 < 0) : runS (n + 1) l = ((oneS l).1 :: (runS n (l.drop (oneS l).2.1.toNat)).1, if (runS n (l.drop (oneS l).2.1.toNat)).2 < 0 then -1 else (oneS l).2.1 + (runS n (l.drop (oneS l).2.1.toNat)).2) := by
  rw [runS, if_neg hl, if_pos h]

theorem runS_len (n : Nat) : ∀ l : List Int, Byt l → (runS n l).1.length ≤ l.length := by
  induction n with
  | zero => intro l _; simp [runS]
  | succ n ih =>
    intro l hb
    by_cases hl : l = []
    · subst hl; simp [runS]
    by_cases h : (oneS l).2.2 < 0
    · rw [runS_good hl h]
      have hg := one_good hb h
      have := ih (l.drop (oneS l).2.1.toNat) (hb.drop _)
      rw [List.length_drop] at this
      simp only [List.length_cons]
      omega
    · rw [runS_bad hl h]; simp
theorem runS_place (n : Nat) : ∀ l : List Int, Byt l → -1 ≤ (runS n l).2 ∧ (runS n l).2 ≤ l.length := by
  induction n with
  | zero => intro l _; simp [runS]
  | succ n ih =>
    intro l hb
    by_cases hl : l = []
    · subst hl; simp [runS]
    by_cases h : (oneS l).2.2 < 0
    · rw [runS_good hl h]
      have hg := one_good hb h
      have := ih (l.drop (oneS l).2.1.toNat) (hb.drop _)
      rw [List.length_drop] at this
      simp only
      split <;> omega
    · rw [runS_bad hl h]
      have := one_bad h
      simp only
      omega

/-- What is told of it. -/
def tellS (r : List Int × Int) (acc : List Int) (p : Int) : List Int × Int × Int := if r.2 < 0 then (acc ++ r.1, 0, 0) else ([], 6, p + r.2)

theorem drop_ne {l : List Int} {p : Nat} (h : p < l.length) : l.drop p ≠ [] := fun e => by have := congrArg List.length e; simp at this; omega

theorem runes_loop (n : Nat) : ∀ (k p : Nat) (l acc : List Int), Byt l → p ≤ l.length → l.length - p ≤ n → n + 9 ≤ k → l.length < 4611686018427387904 → acc.length + (runS n (l.drop p)).1.length ≤ 35184372088832 →
    utf_Runes.l0 k l acc (p : Int) = some (tellS (runS n (l.drop p)) acc p) := by
  induction n with
  | zero =>
    intro k p l acc hb hp hn hk hL hA
    obtain ⟨k, rfl⟩ : ∃ m, k = m + 1 := ⟨k - 1, by omega⟩
    simp only [utf_Runes.l0]
    rw [if_neg (by omega)]
    simp [runS, tellS]
  | succ n ih =>
    intro k p l acc hb hp hn hk hL hA
    obtain ⟨k, rfl⟩ : ∃ m, k = m + 1 := ⟨k - 1, by omega⟩
    simp only [utf_Runes.l0]
    by_cases hlt : p < l.length
    · have hne := drop_ne hlt
      rw [if_pos (by omega), if_pos (by omega), if_pos (by omega), Int.toNat_natCast, at_rounds (utf_one.mono _) (by omega) (one_eq _ hne (hb.drop p))]
      simp only [Option.bind_some]
      by_cases h : (oneS (l.drop p)).2.2 < 0
      · have hg := one_good (hb.drop p) h
        rw [List.length_drop] at hg
        rw [runS_good hne h] at hA ⊢
        simp only [List.length_cons] at hA
        rw [if_neg (by omega), if_pos (by omega), show wrap64 ((p : Int) + (oneS (l.drop p)).2.1) = ((p + (oneS (l.drop p)).2.1.toNat : Nat) : Int) by unfold wrap64; omega]
        rw [List.drop_drop] at hA ⊢
        rw [ih k (p + (oneS (l.drop p)).2.1.toNat) l (acc ++ [(oneS (l.drop p)).1]) hb (by omega) (by omega) (by omega) hL (by rw [List.length_append, List.length_singleton]; omega)]
        unfold tellS
        simp only
        by_cases q : (runS n (l.drop (p + (oneS (l.drop p)).2.1.toNat))).2 < 0
        · rw [if_pos q, if_pos (by rw [if_pos q]; decide), List.append_assoc, List.singleton_append]
        · rw [if_neg q, if_neg (by rw [if_neg q]; omega), if_neg q]
          refine congrArg some (Prod.ext rfl (Prod.ext rfl ?_))
          simp only
          omega
      · have hbd := one_bad h
        rw [List.length_drop] at hbd
        rw [runS_bad hne h, if_pos (by omega)]
        unfold tellS
        rw [if_neg (by simpa using h), show wrap64 ((p : Int) + (oneS (l.drop p)).2.2) = p + (oneS (l.drop p)).2.2 by unfold wrap64; omega]
    · have he : l.drop p = [] := List.drop_of_length_le (by omega)
      rw [if_neg (by omega), he, runS_nil]
      simp [tellS]

theorem runes_eq {l : List Int} (hb : Byt l) (hL : l.length < 4611686018427387904) (hA : (runS l.length l).1.length ≤ 35184372088832) (k : Nat) (hk : l.length + 9 ≤ k) : utf_Runes.f k l = some (tellS (runS l.length l) [] 0) := by
  unfold utf_Runes.f
  have := runes_loop l.length k 0 l [] hb (by omega) (by omega) hk hL (by simpa using hA)
  simpa using this

theorem ref_loop (n : Nat) : ∀ (k p : Nat) (l acc : List Int), Byt l → p ≤ l.length → l.length - p ≤ n → n + 9 ≤ k → l.length < 4611686018427387904 → acc.length + (runS n (l.drop p)).1.length ≤ 35184372088832 →
    gantlineref04_Runes.l0 k l acc (p : Int) = some (tellS (runS n (l.drop p)) acc p) := by
  induction n with
  | zero =>
    intro k p l acc hb hp hn hk hL hA
    obtain ⟨k, rfl⟩ : ∃ m, k = m + 1 := ⟨k - 1, by omega⟩
    simp only [gantlineref04_Runes.l0]
    rw [if_neg (by omega)]
    simp [runS, tellS]
  | succ n ih =>
    intro k p l acc hb hp hn hk hL hA
    obtain ⟨k, rfl⟩ : ∃ m, k = m + 1 := ⟨k - 1, by omega⟩
    simp only [gantlineref04_Runes.l0]
    by_cases hlt : p < l.length
    · have hne := drop_ne hlt
      rw [if_pos (by omega), if_pos (by omega), if_pos (by omega), Int.toNat_natCast, at_rounds (gantlineref04_first.mono _) (by omega) (first_eq _ hne)]
      simp only [Option.bind_some]
      by_cases h : (oneS (l.drop p)).2.2 < 0
      · have hg := one_good (hb.drop p) h
        have hv := value_eq (hb.drop p) h
        rw [List.length_drop] at hg
        rw [runS_good hne h] at hA ⊢
        simp only [List.length_cons] at hA
        have hw : wrap64 ((p : Int) + (oneS (l.drop p)).2.1) = ((p + (oneS (l.drop p)).2.1.toNat : Nat) : Int) := by unfold wrap64; omega
        simp only [if_pos h]
        rw [if_neg (by decide), hw, if_pos (by omega), if_pos (by omega), Int.toNat_natCast, List.drop_take, Nat.add_sub_cancel_left, hv]
        simp only [Option.bind_some]
        rw [if_pos (by omega), show wrap32 (oneS (l.drop p)).1 = (oneS (l.drop p)).1 by unfold wrap32; omega]
        rw [List.drop_drop] at hA ⊢
        rw [ih k (p + (oneS (l.drop p)).2.1.toNat) l (acc ++ [(oneS (l.drop p)).1]) hb (by omega) (by omega) (by omega) hL (by rw [List.length_append, List.length_singleton]; omega)]
        unfold tellS
        simp only
        by_cases q : (runS n (l.drop (p + (oneS (l.drop p)).2.1.toNat))).2 < 0
        · rw [if_pos q, if_pos (by rw [if_pos q]; decide), List.append_assoc, List.singleton_append]
        · rw [if_neg q, if_neg (by rw [if_neg q]; omega), if_neg q]
          refine congrArg some (Prod.ext rfl (Prod.ext rfl ?_))
          simp only
          omega
      · have hbd := one_bad h
        rw [List.length_drop] at hbd
        simp only [if_neg h]
        rw [runS_bad hne h, if_pos (by omega)]
        unfold tellS
        rw [if_neg (by simpa using h), show wrap64 ((p : Int) + (oneS (l.drop p)).2.2) = p + (oneS (l.drop p)).2.2 by unfold wrap64; omega]
    · have he : l.drop p = [] := List.drop_of_length_le (by omega)
      rw [if_neg (by omega), he, runS_nil]
      simp [tellS]

theorem ref_eq {l : List Int} (hb : Byt l) (hL : l.length < 4611686018427387904) (hA : (runS l.length l).1.length ≤ 35184372088832) (k : Nat) (hk : l.length + 9 ≤ k) : gantlineref04_Runes.f k l = some (tellS (runS l.length l) [] 0) := by
  unfold gantlineref04_Runes.f
  have := ref_loop l.length k 0 l [] hb (by omega) (by omega) hk hL (by simpa using hA)
  simpa using this

theorem check_loop (n : Nat) : ∀ (k p : Nat) (l : List Int), Byt l → p ≤ l.length → l.length - p ≤ n → n + 9 ≤ k → l.length < 4611686018427387904 →
    utf_Check.l0 k l (strOfNums l) p = some (if (runS n (l.drop p)).2 < 0 then (0, 0) else (6, p + (runS n (l.drop p)).2)) := by
  induction n with
  | zero =>
    intro k p l hb hp hn hk hL
    obtain ⟨k, rfl⟩ : ∃ m, k = m + 1 := ⟨k - 1, by omega⟩
    simp only [utf_Check.l0]
    rw [strOfNums_size, if_neg (by omega)]
    simp [runS]
  | succ n ih =>
    intro k p l hb hp hn hk hL
    obtain ⟨k, rfl⟩ : ∃ m, k = m + 1 := ⟨k - 1, by omega⟩
    simp only [utf_Check.l0]
    rw [strOfNums_size]
    by_cases hlt : p < l.length
    · have hne := drop_ne hlt
      rw [if_pos hlt, decode_one hb hlt]
      by_cases h : (oneS (l.drop p)).2.2 < 0
      · have hg := one_good (hb.drop p) h
        rw [List.length_drop] at hg
        have next : utf_Check.l0 k l (strOfNums l) (p + (oneS (l.drop p)).2.1.toNat) = some (if (runS (n + 1) (l.drop p)).2 < 0 then (0, 0) else (6, p + (runS (n + 1) (l.drop p)).2)) := by
          rw [ih k (p + (oneS (l.drop p)).2.1.toNat) l hb (by omega) (by omega) (by omega) hL, runS_good hne h, List.drop_drop]
          simp only
          by_cases q : (runS n (l.drop (p + (oneS (l.drop p)).2.1.toNat))).2 < 0
          · rw [if_pos q, if_pos (by rw [if_pos q]; decide)]
          · rw [if_neg q, if_neg (by rw [if_neg q]; omega), if_neg q]
            refine congrArg some (Prod.ext rfl ?_)
            simp only
            omega
        simp only [if_pos h]
        split
        · rw [at_rounds (utf_one.mono _) (by omega) (one_eq _ hne (hb.drop p))]
          simp only [Option.bind_some]
          rw [if_neg (by omega)]
          exact next
        · exact next
      · have hbd := one_bad h
        rw [List.length_drop] at hbd
        simp only [if_neg h, if_true]
        rw [at_rounds (utf_one.mono _) (by omega) (one_eq _ hne (hb.drop p))]
        simp only [Option.bind_some]
        rw [if_pos (by omega), runS_bad hne h, if_neg (by simpa using h), show wrap64 ((p : Int) + (oneS (l.drop p)).2.2) = p + (oneS (l.drop p)).2.2 by unfold wrap64; omega]
    · have he : l.drop p = [] := List.drop_of_length_le (by omega)
      rw [if_neg hlt, he, runS_nil]
      rfl

theorem check_eq {l : List Int} (hb : Byt l) (hL : l.length < 4611686018427387904) (k : Nat) (hk : l.length + 9 ≤ k) : utf_Check.f k l = some (if (runS l.length l).2 < 0 then (0, 0) else (6, (runS l.length l).2)) := by
  unfold utf_Check.f
  have := check_loop l.length k 0 l hb (by omega) (by omega) hk hL
  simpa using this

theorem same_loop (d : Nat) : ∀ (k i : Nat) (l : List Int), l.length - i ≤ d → d < k → l.length < 4611686018427387904 → gantlineref04_Same.l0 k l l (i : Int) = some true := by
  induction d with
  | zero =>
    intro k i l hd hk hL
    obtain ⟨k, rfl⟩ : ∃ m, k = m + 1 := ⟨k - 1, by omega⟩
    simp only [gantlineref04_Same.l0]
    rw [if_neg (by omega)]
  | succ d ih =>
    intro k i l hd hk hL
    obtain ⟨k, rfl⟩ : ∃ m, k = m + 1 := ⟨k - 1, by omega⟩
    simp only [gantlineref04_Same.l0]
    by_cases h : (i : Int) < l.length
    · rw [if_pos h, if_pos (by omega), if_pos h, if_pos trivial, show wrap64 ((i : Int) + 1) = ((i + 1 : Nat) : Int) by unfold wrap64; omega]
      exact ih k (i + 1) l (by omega) (by omega) hL
    · rw [if_neg h]
theorem same_self (l : List Int) (hL : l.length < 4611686018427387904) (k : Nat) (hk : l.length < k) : gantlineref04_Same.f k l l = some true := by
  unfold gantlineref04_Same.f
  rw [if_pos rfl]
  exact same_loop l.length k 0 l (by omega) hk hL
theorem sameb_self (l : List Int) : gantlineref01_Same.f l l = some true := by unfold gantlineref01_Same.f; simp

theorem utf_alive (k : Nat) (hk : 30 ≤ k) : gantlinelaw04_alive.f k = some true := by
  have b1 : Byt [195, 169, 97] := by intro x hx; simp at hx; omega
  have b2 : Byt [224, 128] := by intro x hx; simp at hx; omega
  have r1 : runS 3 [195, 169, 97] = ([233, 97], -1) := by simp [runS, oneS]
  have r2 : (runS 2 [224, 128]).2 = 1 := by simp [runS, oneS, loS, hiS]
  have e : bytesOf (Utf8.encode 233) = [195, 169] := by decide
  unfold gantlinelaw04_alive.f
  rw [runes_eq b1 (by decide) (by rw [show ([195, 169, 97] : List Int).length = 3 from rfl, r1]; decide) k (by simp; omega)]
  rw [show ([195, 169, 97] : List Int).length = 3 from rfl, r1]
  unfold utf_Put.f
  rw [if_neg (by decide), e, if_pos (by decide)]
  simp only [Option.bind_some, tellS]
  rw [if_pos (by decide)]
  simp only [List.nil_append]
  rw [if_pos (by decide), same_self [233, 97] (by decide) k (by simp; omega)]
  simp only [Option.bind_some, if_true]
  rw [sameb_self]
  simp only [Option.bind_some, if_true]
  rw [check_eq b2 (by decide) k (by simp; omega), show ([224, 128] : List Int).length = 2 from rfl, r2]
  rfl
end Go.Proofs.Ytbmkphebmelgdaa.Pure
