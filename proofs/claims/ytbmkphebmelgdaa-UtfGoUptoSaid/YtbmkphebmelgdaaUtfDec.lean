/- What Go's own range tells of a string at a place, held against 'one'. -/
import Derived.Test.YtbmkphebmelgdaaPx0
import Derived.Test.YtbmkphebmelgdaaUtfOne
namespace Go.Proofs.Ytbmkphebmelgdaa.Pure
open Go.RowKit Go.Proofs.Ytbmkphebmelgdaa.P Go.Proofs.YtbmkphebmelgdaaW.PrintWords Go.Proofs.YtbmkphebmelgdaaW.PrintLast Go.Proofs.YtbmkphebmelgdaaW.PrintMore
set_option linter.unusedVariables false
set_option linter.unusedSimpArgs false

def okN (v : Nat) : Prop := v < 55296 ∨ (57344 ≤ v ∧ v ≤ 1114111)
instance (v : Nat) : Decidable (okN v) := by unfold okN; infer_instance
theorem valid_okN (v : Nat) : Utf8.valid (v : Int) = decide (okN v) := by
  have e : Utf8.valid (v : Int) = true ↔ okN v := by
    unfold Utf8.valid okN
    simp only [Bool.or_eq_true, Bool.and_eq_true, decide_eq_true_eq]
    omega
  by_cases h : okN v
  · rw [e.2 h, decide_eq_true h]
  · rw [decide_eq_false h]
    exact Bool.eq_false_iff.2 (fun k => h (e.1 k))
def decN (m c x y z : Nat) : Nat × Nat :=
  if c < 128 then (c, 1)
  else if c / 32 = 6 ∧ 1 < m ∧ x / 64 = 2 then (if 128 ≤ c % 32 * 64 + x % 64 then (c % 32 * 64 + x % 64, 2) else (65533, 1))
  else if c / 16 = 14 ∧ (1 < m ∧ x / 64 = 2) ∧ 2 < m ∧ y / 64 = 2 then
    (if 2048 ≤ c % 16 * 4096 + x % 64 * 64 + y % 64 ∧ okN (c % 16 * 4096 + x % 64 * 64 + y % 64) then (c % 16 * 4096 + x % 64 * 64 + y % 64, 3) else (65533, 1))
  else if c / 8 = 30 ∧ (1 < m ∧ x / 64 = 2) ∧ (2 < m ∧ y / 64 = 2) ∧ 3 < m ∧ z / 64 = 2 then
    (if 65536 ≤ c % 8 * 262144 + x % 64 * 4096 + y % 64 * 64 + z % 64 ∧ okN (c % 8 * 262144 + x % 64 * 4096 + y % 64 * 64 + z % 64) then (c % 8 * 262144 + x % 64 * 4096 + y % 64 * 64 + z % 64, 4) else (65533, 1))
  else (65533, 1)

theorem get_str {l : List Int} (hb : Byt l) (i : Nat) : ((strOfNums l).get! i).toNat = (l.getD i 0).toNat := by
  have e : (strOfNums l).get! i = (l.map fun n => UInt8.ofNat n.toNat).getD i 0 := by
    show (l.map fun n => UInt8.ofNat n.toNat).toArray[i]! = _
    rw [List.getElem!_toArray, List.getElem!_eq_getElem?_getD, List.getD_eq_getElem?_getD]
    rfl
  rw [e, List.getD_eq_getElem?_getD, List.getElem?_map, List.getD_eq_getElem?_getD]
  cases h : l[i]? with
  | none => rfl
  | some x =>
    have hx := hb x (List.mem_of_getElem? h)
    simp
    omega

theorem decode_eq {l : List Int} (hb : Byt l) (p : Nat) : Utf8.decode (strOfNums l) p = decN (l.length - p) (l.getD p 0).toNat (l.getD (p + 1) 0).toNat (l.getD (p + 2) 0).toNat (l.getD (p + 3) 0).toNat := by
  have hs : (strOfNums l).size = l.length := strOfNums_size l
  unfold Utf8.decode decN
  simp only [get_str hb, hs, valid_okN, Utf8.runeError, Nat.add_zero, Bool.and_eq_true, beq_iff_eq, decide_eq_true_eq, ge_iff_le, show ∀ k, (p + k < l.length) = (k < l.length - p) from fun k => by rw [eq_iff_iff]; omega, and_assoc]

theorem getD_drop (l : List Int) (p k : Nat) : l.getD (p + k) 0 = (l.drop p).getD k 0 := by
  rw [List.getD_eq_getElem?_getD, List.getD_eq_getElem?_getD, List.getElem?_drop]

theorem decode_drop {l : List Int} (hb : Byt l) (p : Nat) : Utf8.decode (strOfNums l) p = decN (l.drop p).length ((l.drop p).getD 0 0).toNat ((l.drop p).getD 1 0).toNat ((l.drop p).getD 2 0).toNat ((l.drop p).getD 3 0).toNat := by
  rw [decode_eq hb, ← getD_drop, ← getD_drop, ← getD_drop, ← getD_drop, List.length_drop]; rfl

theorem dec_one (l : List Int) (hl : l ≠ []) (hb : Byt l) : decN l.length (l.getD 0 0).toNat (l.getD 1 0).toNat (l.getD 2 0).toNat (l.getD 3 0).toNat = if (oneS l).2.2 < 0 then ((oneS l).1.toNat, (oneS l).2.1.toNat) else (65533, 1) := by
  match l, hl, hb with
  | c :: t, _, hb =>
    obtain ⟨⟨c0, c1⟩, ht⟩ := hb.cons
    obtain ⟨c, rfl⟩ := Int.eq_ofNat_of_zero_le c0
    unfold oneS
    by_cases a1 : (c : Int) < 128
    · simp only [if_pos a1]
      simp [decN, show c < 128 by omega]
    have n1 : ¬ c < 128 := by omega
    by_cases a2 : (c : Int) < 194 ∨ 244 < (c : Int)
    · simp only [if_neg a1, if_pos a2]
      simp only [List.getD_cons_zero, Int.toNat_natCast, decN, if_neg n1, okN]
      repeat' split
      all_goals first | rfl | (exfalso; omega)
    simp only [if_neg a1, if_neg a2]
    by_cases a3 : (c : Int) < 224
    · simp only [if_pos a3]
      match t, ht with
      | [], _ => simp [decN, n1]
      | x :: t, ht =>
        obtain ⟨⟨x0, x1⟩, ht2⟩ := ht.cons
        obtain ⟨x, rfl⟩ := Int.eq_ofNat_of_zero_le x0
        by_cases b : (x : Int) < 128 ∨ 191 < (x : Int)
        · simp only [if_pos b]
          simp only [List.getD_cons_zero, List.getD_cons_succ, Int.toNat_natCast, decN, if_neg n1, okN, List.length_cons]
          repeat' split
          all_goals first | rfl | (exfalso; omega)
        · simp only [if_neg b]
          simp only [List.getD_cons_zero, List.getD_cons_succ, Int.toNat_natCast, decN, if_neg n1, okN, List.length_cons]
          rw [if_pos ⟨by omega, by omega, by omega⟩, if_pos (by omega), if_pos (by decide)]
          exact Prod.ext (by simp only; omega) rfl
    simp only [if_neg a3]
    have hlo : loS (c : Int) = if c = 224 then 160 else if c = 240 then 144 else 128 := by unfold loS; repeat' split <;> omega
    have hhi : hiS (c : Int) = if c = 237 then 159 else if c = 244 then 143 else 191 := by unfold hiS; repeat' split <;> omega
    rw [hlo, hhi]
    clear hlo hhi
    match t, ht with
    | [], _ => simp [decN, n1]
    | x :: t, ht =>
      obtain ⟨⟨x0, x1⟩, ht2⟩ := ht.cons
      obtain ⟨x, rfl⟩ := Int.eq_ofNat_of_zero_le x0
      by_cases b : (x : Int) < (if c = 224 then 160 else if c = 240 then 144 else 128) ∨ (if c = 237 then 159 else if c = 244 then 143 else 191) < (x : Int)
      · simp only [if_pos b]
        simp only [List.getD_cons_zero, List.getD_cons_succ, Int.toNat_natCast, decN, if_neg n1, okN, List.length_cons]
        generalize (t.getD 0 0).toNat = y
        generalize (t.getD 1 0).toNat = z
        generalize t.length = m
        repeat' split at b
        all_goals
          repeat' split
          all_goals first | rfl | (exfalso; omega)
      simp only [if_neg b]
      match t, ht2 with
      | [], _ =>
        simp only [List.getD_cons_zero, List.getD_cons_succ, List.getD_nil, Int.toNat_natCast, Int.toNat_zero, decN, if_neg n1, okN, List.length_cons, List.length_nil]
        repeat' split
        all_goals first | rfl | (exfalso; omega)
      | y :: t, ht2 =>
        obtain ⟨⟨y0, y1⟩, ht3⟩ := ht2.cons
        obtain ⟨y, rfl⟩ := Int.eq_ofNat_of_zero_le y0
        by_cases d : (y : Int) < 128 ∨ 191 < (y : Int)
        · simp only [if_pos d]
          simp only [List.getD_cons_zero, List.getD_cons_succ, Int.toNat_natCast, decN, if_neg n1, okN, List.length_cons]
          generalize (t.getD 0 0).toNat = z
          generalize t.length = m
          clear b
          repeat' split
          all_goals first | rfl | (exfalso; omega)
        simp only [if_neg d]
        by_cases a4 : (c : Int) < 240
        · simp only [if_pos a4]
          simp only [List.getD_cons_zero, List.getD_cons_succ, Int.toNat_natCast, decN, if_neg n1, okN, List.length_cons]
          rw [if_neg (by omega), if_pos ⟨by omega, ⟨by omega, by repeat' split at b <;> omega⟩, by omega, by omega⟩, if_pos ⟨by repeat' split at b <;> omega, by repeat' split at b <;> omega⟩, if_pos (by decide)]
          exact Prod.ext (by simp only; omega) rfl
        simp only [if_neg a4]
        match t, ht3 with
        | [], _ =>
          simp only [List.getD_cons_zero, List.getD_cons_succ, List.getD_nil, Int.toNat_natCast, Int.toNat_zero, decN, if_neg n1, okN, List.length_cons, List.length_nil]
          clear b
          repeat' split
          all_goals first | rfl | (exfalso; omega)
        | z :: t, ht3 =>
          obtain ⟨⟨z0, z1⟩, ht4⟩ := ht3.cons
          obtain ⟨z, rfl⟩ := Int.eq_ofNat_of_zero_le z0
          by_cases f : (z : Int) < 128 ∨ 191 < (z : Int)
          · simp only [if_pos f]
            simp only [List.getD_cons_zero, List.getD_cons_succ, Int.toNat_natCast, decN, if_neg n1, okN, List.length_cons]
            generalize t.length = m
            clear b
            repeat' split
            all_goals first | rfl | (exfalso; omega)
          · simp only [if_neg f]
            simp only [List.getD_cons_zero, List.getD_cons_succ, Int.toNat_natCast, decN, if_neg n1, okN, List.length_cons]
            rw [if_neg (by omega), if_neg (by omega), if_pos ⟨by omega, ⟨by omega, by repeat' split at b <;> omega⟩, ⟨by omega, by omega⟩, by omega, by omega⟩, if_pos ⟨by repeat' split at b <;> omega, by repeat' split at b <;> omega⟩, if_pos (by decide)]
            exact Prod.ext (by simp only; omega) rfl

theorem decode_one {l : List Int} (hb : Byt l) {p : Nat} (hp : p < l.length) : Utf8.decode (strOfNums l) p = if (oneS (l.drop p)).2.2 < 0 then ((oneS (l.drop p)).1.toNat, (oneS (l.drop p)).2.1.toNat) else (65533, 1) := by
  rw [decode_drop hb, dec_one _ (by intro h; have := congrArg List.length h; simp at this; omega) (hb.drop p)]
end Go.Proofs.Ytbmkphebmelgdaa.Pure
