import Derived.Laws.BytesArg
/-! UTF-8 in plain words: one character, its bytes, Go's own range. -/
namespace Go.Proofs.Ytfphpjinimfhfaa.VM
set_option linter.unusedVariables false
set_option linter.unusedSimpArgs false

def Byt (l : List Int) : Prop := ∀ x ∈ l, 0 ≤ x ∧ x ≤ 255

theorem Byt.cons {c : Int} {t : List Int} (h : Byt (c :: t)) : (0 ≤ c ∧ c ≤ 255) ∧ Byt t := ⟨h c (by simp), fun x hx => h x (by simp [hx])⟩

theorem Byt.drop {l : List Int} (h : Byt l) (n : Nat) : Byt (l.drop n) := fun x hx => h x (List.mem_of_mem_drop hx)

theorem Byt.take {l : List Int} (h : Byt l) (n : Nat) : Byt (l.take n) := fun x hx => h x (List.mem_of_mem_take hx)

theorem Byt.append {l m : List Int} (h : Byt l) (k : Byt m) : Byt (l ++ m) := fun x hx => by
  rcases List.mem_append.1 hx with hx | hx
  · exact h x hx
  · exact k x hx

theorem Byt.nil : Byt [] := fun x hx => by simp at hx

def loS (c : Int) : Int := if c = 224 then 160 else if c = 240 then 144 else 128

def hiS (c : Int) : Int := if c = 237 then 159 else if c = 244 then 143 else 191

/-- The character, how many bytes it has, where it goes wrong (-1: nowhere). -/
def oneS : List Int → Int × Int × Int
  | [] => (0, 0, 0)
  | c :: t =>
    if c < 128 then (c, 1, -1)
    else if c < 194 ∨ 244 < c then (0, 0, 0)
    else if c < 224 then
      match t with
      | [] => (0, 0, 1)
      | x :: _ => if x < 128 ∨ 191 < x then (0, 0, 1) else (c % 32 * 64 + x % 64, 2, -1)
    else
      match t with
      | [] => (0, 0, 1)
      | x :: t =>
        if x < loS c ∨ hiS c < x then (0, 0, 1)
        else
          match t with
          | [] => (0, 0, 2)
          | y :: t =>
            if y < 128 ∨ 191 < y then (0, 0, 2)
            else if c < 240 then ((c % 16 * 64 + x % 64) * 64 + y % 64, 3, -1)
            else
              match t with
              | [] => (0, 0, 3)
              | z :: _ => if z < 128 ∨ 191 < z then (0, 0, 3) else (((c % 8 * 64 + x % 64) * 64 + y % 64) * 64 + z % 64, 4, -1)

theorem loS_le (c : Int) : 128 ≤ loS c ∧ loS c ≤ 160 := by unfold loS; repeat' split <;> omega

theorem hiS_le (c : Int) : 143 ≤ hiS c ∧ hiS c ≤ 191 := by unfold hiS; repeat' split <;> omega

/-- What is right has one to four bytes, all there. -/
theorem one_good {l : List Int} (hb : Byt l) (h : (oneS l).2.2 < 0) : (oneS l).2.2 = -1 ∧ 1 ≤ (oneS l).2.1 ∧ (oneS l).2.1 ≤ 4 ∧ (oneS l).2.1 ≤ l.length ∧ 0 ≤ (oneS l).1 ∧ (oneS l).1 < 2097152 := by
  revert h
  unfold oneS
  match l, hb with
  | [], _ => simp
  | c :: t, hb =>
    obtain ⟨⟨c0, c1⟩, ht⟩ := hb.cons
    by_cases a1 : c < 128
    · simp [a1]; omega
    by_cases a2 : c < 194 ∨ 244 < c
    · simp [a1, a2]
    by_cases a3 : c < 224
    · simp only [if_neg a1, if_neg a2, if_pos a3]
      match t with
      | [] => simp
      | x :: t =>
        by_cases b : x < 128 ∨ 191 < x
        · simp [b]
        · simp only [if_neg b, List.length_cons]; intro _; exact ⟨trivial, by omega, by omega, by simp only [Int.natCast_add]; omega, by omega, by omega⟩
    simp only [if_neg a1, if_neg a2, if_neg a3]
    match t with
    | [] => simp
    | x :: t =>
      by_cases b : x < loS c ∨ hiS c < x
      · simp [b]
      simp only [if_neg b]
      match t with
      | [] => simp
      | y :: t =>
        by_cases d : y < 128 ∨ 191 < y
        · simp [d]
        simp only [if_neg d]
        by_cases a4 : c < 240
        · simp only [if_pos a4, List.length_cons]; intro _; exact ⟨trivial, by omega, by omega, by simp only [Int.natCast_add]; omega, by omega, by omega⟩
        simp only [if_neg a4]
        match t with
        | [] => simp
        | z :: t =>
          by_cases f : z < 128 ∨ 191 < z
          · simp [f]
          · simp only [if_neg f, List.length_cons]; intro _; exact ⟨trivial, by omega, by omega, by simp only [Int.natCast_add]; omega, by omega, by omega⟩

theorem one_bad {l : List Int} (h : ¬ (oneS l).2.2 < 0) : (oneS l).1 = 0 ∧ (oneS l).2.1 = 0 ∧ (oneS l).2.2 ≤ l.length := by
  revert h
  unfold oneS
  match l with
  | [] => simp
  | c :: t =>
    by_cases a1 : c < 128
    · simp [a1]
    by_cases a2 : c < 194 ∨ 244 < c
    · simp [a1, a2]; omega
    by_cases a3 : c < 224
    · simp only [if_neg a1, if_neg a2, if_pos a3]
      match t with
      | [] => simp
      | x :: t =>
        by_cases b : x < 128 ∨ 191 < x
        · simp [b]; omega
        · simp [b]
    simp only [if_neg a1, if_neg a2, if_neg a3]
    match t with
    | [] => simp
    | x :: t =>
      by_cases b : x < loS c ∨ hiS c < x
      · simp [b]; omega
      simp only [if_neg b]
      match t with
      | [] => simp
      | y :: t =>
        by_cases d : y < 128 ∨ 191 < y
        · simp [d]; omega
        simp only [if_neg d]
        by_cases a4 : c < 240
        · simp [a4]
        simp only [if_neg a4]
        match t with
        | [] => simp
        | z :: t =>
          by_cases f : z < 128 ∨ 191 < z
          · simp [f]; omega
          · simp [f]

def okN (v : Nat) : Prop := v < 55296 ∨ (57344 ≤ v ∧ v ≤ 1114111)


instance (v : Nat) : Decidable (okN v) := by unfold okN; infer_instance
theorem valid_okN (v : Nat) : Utf8.valid (v : Int) = decide (okN v) := by
  have e : Utf8.valid (v : Int) = true ↔ okN v := by
    unfold Utf8.valid okN
    simp only [Bool.or_eq_true, Bool.and_eq_true, decide_eq_true_eq]
    omega
  by_cases h : okN v
  · rw [e.2 h, decide_eq_true h]
  · rw [decide_eq_false h]
    exact Bool.eq_false_iff.2 (fun k => h (e.1 k))

def decN (m c x y z : Nat) : Nat × Nat :=
  if c < 128 then (c, 1)
  else if c / 32 = 6 ∧ 1 < m ∧ x / 64 = 2 then (if 128 ≤ c % 32 * 64 + x % 64 then (c % 32 * 64 + x % 64, 2) else (65533, 1))
  else if c / 16 = 14 ∧ (1 < m ∧ x / 64 = 2) ∧ 2 < m ∧ y / 64 = 2 then
    (if 2048 ≤ c % 16 * 4096 + x % 64 * 64 + y % 64 ∧ okN (c % 16 * 4096 + x % 64 * 64 + y % 64) then (c % 16 * 4096 + x % 64 * 64 + y % 64, 3) else (65533, 1))
  else if c / 8 = 30 ∧ (1 < m ∧ x / 64 = 2) ∧ (2 < m ∧ y / 64 = 2) ∧ 3 < m ∧ z / 64 = 2 then
    (if 65536 ≤ c % 8 * 262144 + x % 64 * 4096 + y % 64 * 64 + z % 64 ∧ okN (c % 8 * 262144 + x % 64 * 4096 + y % 64 * 64 + z % 64) then (c % 8 * 262144 + x % 64 * 4096 + y % 64 * 64 + z % 64, 4) else (65533, 1))
  else (65533, 1)

theorem get_str {l : List Int} (hb : Byt l) (i : Nat) : ((strOfNums l).get! i).toNat = (l.getD i 0).toNat := by
  have e : (strOfNums l).get! i = (l.map fun n => UInt8.ofNat n.toNat).getD i 0 := by
    show (l.map fun n => UInt8.ofNat n.toNat).toArray[i]! = _
    rw [List.getElem!_toArray, List.getElem!_eq_getElem?_getD, List.getD_eq_getElem?_getD]
    rfl
  rw [e, List.getD_eq_getElem?_getD, List.getElem?_map, List.getD_eq_getElem?_getD]
  cases h : l[i]? with
  | none => rfl
  | some x =>
    have hx := hb x (List.mem_of_getElem? h)
    simp
    omega

theorem decode_eq {l : List Int} (hb : Byt l) (p : Nat) : Utf8.decode (strOfNums l) p = decN (l.length - p) (l.getD p 0).toNat (l.getD (p + 1) 0).toNat (l.getD (p + 2) 0).toNat (l.getD (p + 3) 0).toNat := by
  have hs : (strOfNums l).size = l.length := strOfNums_size l
  unfold Utf8.decode decN
  simp only [get_str hb, hs, valid_okN, Utf8.runeError, Nat.add_zero, Bool.and_eq_true, beq_iff_eq, decide_eq_true_eq, ge_iff_le, show ∀ k, (p + k < l.length) = (k < l.length - p) from fun k => by rw [eq_iff_iff]; omega, and_assoc]

theorem getD_drop (l : List Int) (p k : Nat) : l.getD (p + k) 0 = (l.drop p).getD k 0 := by
  rw [List.getD_eq_getElem?_getD, List.getD_eq_getElem?_getD, List.getElem?_drop]

theorem decode_drop {l : List Int} (hb : Byt l) (p : Nat) : Utf8.decode (strOfNums l) p = decN (l.drop p).length ((l.drop p).getD 0 0).toNat ((l.drop p).getD 1 0).toNat ((l.drop p).getD 2 0).toNat ((l.drop p).getD 3 0).toNat := by
  rw [decode_eq hb, ← getD_drop, ← getD_drop, ← getD_drop, ← getD_drop, List.length_drop]; rfl

theorem dec_one (l : List Int) (hl : l ≠ []) (hb : Byt l) : decN l.length (l.getD 0 0).toNat (l.getD 1 0).toNat (l.getD 2 0).toNat (l.getD 3 0).toNat = if (oneS l).2.2 < 0 then ((oneS l).1.toNat, (oneS l).2.1.toNat) else (65533, 1) := by
  match l, hl, hb with
  | c :: t, _, hb =>
    obtain ⟨⟨c0, c1⟩, ht⟩ := hb.cons
    obtain ⟨c, rfl⟩ := Int.eq_ofNat_of_zero_le c0
    unfold oneS
    by_cases a1 : (c : Int) < 128
    · simp only [if_pos a1]
      simp [decN, show c < 128 by omega]
    have n1 : ¬ c < 128 := by omega
    by_cases a2 : (c : Int) < 194 ∨ 244 < (c : Int)
    · simp only [if_neg a1, if_pos a2]
      simp only [List.getD_cons_zero, Int.toNat_natCast, decN, if_neg n1, okN]
      repeat' split
      all_goals first | rfl | (exfalso; omega)
    simp only [if_neg a1, if_neg a2]
    by_cases a3 : (c : Int) < 224
    · simp only [if_pos a3]
      match t, ht with
      | [], _ => simp [decN, n1]
      | x :: t, ht =>
        obtain ⟨⟨x0, x1⟩, ht2⟩ := ht.cons
        obtain ⟨x, rfl⟩ := Int.eq_ofNat_of_zero_le x0
        by_cases b : (x : Int) < 128 ∨ 191 < (x : Int)
        · simp only [if_pos b]
          simp only [List.getD_cons_zero, List.getD_cons_succ, Int.toNat_natCast, decN, if_neg n1, okN, List.length_cons]
          repeat' split
          all_goals first | rfl | (exfalso; omega)
        · simp only [if_neg b]
          simp only [List.getD_cons_zero, List.getD_cons_succ, Int.toNat_natCast, decN, if_neg n1, okN, List.length_cons]
          rw [if_pos ⟨by omega, by omega, by omega⟩, if_pos (by omega), if_pos (by decide)]
          exact Prod.ext (by simp only; omega) rfl
    simp only [if_neg a3]
    have hlo : loS (c : Int) = if c = 224 then 160 else if c = 240 then 144 else 128 := by unfold loS; repeat' split <;> omega
    have hhi : hiS (c : Int) = if c = 237 then 159 else if c = 244 then 143 else 191 := by unfold hiS; repeat' split <;> omega
    rw [hlo, hhi]
    clear hlo hhi
    match t, ht with
    | [], _ => simp [decN, n1]
    | x :: t, ht =>
      obtain ⟨⟨x0, x1⟩, ht2⟩ := ht.cons
      obtain ⟨x, rfl⟩ := Int.eq_ofNat_of_zero_le x0
      by_cases b : (x : Int) < (if c = 224 then 160 else if c = 240 then 144 else 128) ∨ (if c = 237 then 159 else if c = 244 then 143 else 191) < (x : Int)
      · simp only [if_pos b]
        simp only [List.getD_cons_zero, List.getD_cons_succ, Int.toNat_natCast, decN, if_neg n1, okN, List.length_cons]
        generalize (t.getD 0 0).toNat = y
        generalize (t.getD 1 0).toNat = z
        generalize t.length = m
        repeat' split at b
        all_goals
          repeat' split
          all_goals first | rfl | (exfalso; omega)
      simp only [if_neg b]
      match t, ht2 with
      | [], _ =>
        simp only [List.getD_cons_zero, List.getD_cons_succ, List.getD_nil, Int.toNat_natCast, Int.toNat_zero, decN, if_neg n1, okN, List.length_cons, List.length_nil]
        repeat' split
        all_goals first | rfl | (exfalso; omega)
      | y :: t, ht2 =>
        obtain ⟨⟨y0, y1⟩, ht3⟩ := ht2.cons
        obtain ⟨y, rfl⟩ := Int.eq_ofNat_of_zero_le y0
        by_cases d : (y : Int) < 128 ∨ 191 < (y : Int)
        · simp only [if_pos d]
          simp only [List.getD_cons_zero, List.getD_cons_succ, Int.toNat_natCast, decN, if_neg n1, okN, List.length_cons]
          generalize (t.getD 0 0).toNat = z
          generalize t.length = m
          clear b
          repeat' split
          all_goals first | rfl | (exfalso; omega)
        simp only [if_neg d]
        by_cases a4 : (c : Int) < 240
        · simp only [if_pos a4]
          simp only [List.getD_cons_zero, List.getD_cons_succ, Int.toNat_natCast, decN, if_neg n1, okN, List.length_cons]
          rw [if_neg (by omega), if_pos ⟨by omega, ⟨by omega, by repeat' split at b <;> omega⟩, by omega, by omega⟩, if_pos ⟨by repeat' split at b <;> omega, by repeat' split at b <;> omega⟩, if_pos (by decide)]
          exact Prod.ext (by simp only; omega) rfl
        simp only [if_neg a4]
        match t, ht3 with
        | [], _ =>
          simp only [List.getD_cons_zero, List.getD_cons_succ, List.getD_nil, Int.toNat_natCast, Int.toNat_zero, decN, if_neg n1, okN, List.length_cons, List.length_nil]
          clear b
          repeat' split
          all_goals first | rfl | (exfalso; omega)
        | z :: t, ht3 =>
          obtain ⟨⟨z0, z1⟩, ht4⟩ := ht3.cons
          obtain ⟨z, rfl⟩ := Int.eq_ofNat_of_zero_le z0
          by_cases f : (z : Int) < 128 ∨ 191 < (z : Int)
          · simp only [if_pos f]
            simp only [List.getD_cons_zero, List.getD_cons_succ, Int.toNat_natCast, decN, if_neg n1, okN, List.length_cons]
            generalize t.length = m
            clear b
            repeat' split
            all_goals first | rfl | (exfalso; omega)
          · simp only [if_neg f]
            simp only [List.getD_cons_zero, List.getD_cons_succ, Int.toNat_natCast, decN, if_neg n1, okN, List.length_cons]
            rw [if_neg (by omega), if_neg (by omega), if_pos ⟨by omega, ⟨by omega, by repeat' split at b <;> omega⟩, ⟨by omega, by omega⟩, by omega, by omega⟩, if_pos ⟨by repeat' split at b <;> omega, by repeat' split at b <;> omega⟩, if_pos (by decide)]
            exact Prod.ext (by simp only; omega) rfl

theorem decode_one {l : List Int} (hb : Byt l) {p : Nat} (hp : p < l.length) : Utf8.decode (strOfNums l) p = if (oneS (l.drop p)).2.2 < 0 then ((oneS (l.drop p)).1.toNat, (oneS (l.drop p)).2.1.toNat) else (65533, 1) := by
  rw [decode_drop hb, dec_one _ (by intro h; have := congrArg List.length h; simp at this; omega) (hb.drop p)]

/-- A character's bytes, as the document has them. -/
def encS (r : Int) : List Int :=
  if r < 128 then [r] else if r < 2048 then [192 + r / 64, 128 + r % 64] else if r < 65536 then [224 + r / 4096, 128 + r / 64 % 64, 128 + r % 64] else [240 + r / 262144, 128 + r / 4096 % 64, 128 + r / 64 % 64, 128 + r % 64]

def chr (r : Int) : Prop := 0 ≤ r ∧ r ≤ 1114111 ∧ ¬ (55296 ≤ r ∧ r ≤ 57343)
instance (r : Int) : Decidable (chr r) := by unfold chr; infer_instance

theorem u8_nat (n : Nat) (h : n < 256) : ((UInt8.ofNat n).toNat : Int) = n := by simp; omega

theorem enc_byt {r : Int} (h : chr r) : Byt (encS r) := by
  obtain ⟨h0, h1, h2⟩ := h
  unfold encS Byt
  intro x hx
  repeat' split at hx
  all_goals
    simp only [List.mem_cons, List.not_mem_nil, or_false] at hx
    omega

theorem enc_len (r : Int) : 1 ≤ (encS r).length ∧ (encS r).length ≤ 4 := by
  unfold encS
  repeat' split
  all_goals simp

/-- A character's bytes begin with it. -/
theorem one_enc {r : Int} (h : chr r) (t : List Int) : oneS (encS r ++ t) = (r, ((encS r).length : Int), -1) := by
  obtain ⟨h0, h1, h2⟩ := h
  unfold encS
  by_cases a : r < 128
  · simp [a, oneS]
  by_cases b : r < 2048
  · simp only [if_neg a, if_pos b, List.cons_append, List.nil_append, oneS]
    rw [if_neg (by omega), if_neg (by omega), if_pos (by omega), if_neg (by omega)]
    exact Prod.ext (by simp only; omega) rfl
  by_cases c : r < 65536
  · simp only [if_neg a, if_neg b, if_pos c, List.cons_append, List.nil_append, oneS]
    have hl := loS_le (224 + r / 4096)
    rw [if_neg (by omega), if_neg (by omega), if_neg (by omega), if_neg (by unfold loS hiS; repeat' split <;> omega), if_neg (by omega), if_pos (by omega)]
    exact Prod.ext (by simp only; omega) rfl
  · simp only [if_neg a, if_neg b, if_neg c, List.cons_append, List.nil_append, oneS]
    rw [if_neg (by omega), if_neg (by omega), if_neg (by omega), if_neg (by unfold loS hiS; repeat' split <;> omega), if_neg (by omega), if_neg (by omega), if_neg (by omega)]
    exact Prod.ext (by simp only; omega) rfl


/-- The characters up to the first fault, and its place (-1: none). -/
def runS : Nat → List Int → List Int × Int
  | 0, _ => ([], -1)
  | n + 1, l => if l = [] then ([], -1) else if (oneS l).2.2 < 0 then ((oneS l).1 :: (runS n (l.drop (oneS l).2.1.toNat)).1, if (runS n (l.drop (oneS l).2.1.toNat)).2 < 0 then -1 else (oneS l).2.1 + (runS n (l.drop (oneS l).2.1.toNat)).2) else ([], (oneS l).2.2)

theorem runS_nil (n : Nat) : runS n [] = ([], -1) := by cases n <;> rfl

theorem runS_bad {n : Nat} {l : List Int} (hl : l ≠ []) (h : ¬ (oneS l).2.2 < 0) : runS (n + 1) l = ([], (oneS l).2.2) := by
  rw [runS, if_neg hl, if_neg h]

theorem runS_good {n : Nat} {l : List Int} (hl : l ≠ []) (h : (oneS l).2.2 < 0) : runS (n + 1) l = ((oneS l).1 :: (runS n (l.drop (oneS l).2.1.toNat)).1, if (runS n (l.drop (oneS l).2.1.toNat)).2 < 0 then -1 else (oneS l).2.1 + (runS n (l.drop (oneS l).2.1.toNat)).2) := by
  rw [runS, if_neg hl, if_pos h]

theorem runS_len (n : Nat) : ∀ l : List Int, Byt l → (runS n l).1.length ≤ l.length := by
  induction n with
  | zero => intro l _; simp [runS]
  | succ n ih =>
    intro l hb
    by_cases hl : l = []
    · subst hl; simp [runS]
    by_cases h : (oneS l).2.2 < 0
    · rw [runS_good hl h]
      have hg := one_good hb h
      have := ih (l.drop (oneS l).2.1.toNat) (hb.drop _)
      rw [List.length_drop] at this
      simp only [List.length_cons]
      omega
    · rw [runS_bad hl h]; simp

theorem runS_place (n : Nat) : ∀ l : List Int, Byt l → -1 ≤ (runS n l).2 ∧ (runS n l).2 ≤ l.length := by
  induction n with
  | zero => intro l _; simp [runS]
  | succ n ih =>
    intro l hb
    by_cases hl : l = []
    · subst hl; simp [runS]
    by_cases h : (oneS l).2.2 < 0
    · rw [runS_good hl h]
      have hg := one_good hb h
      have := ih (l.drop (oneS l).2.1.toNat) (hb.drop _)
      rw [List.length_drop] at this
      simp only
      split <;> omega
    · rw [runS_bad hl h]
      have := one_bad h
      simp only
      omega

theorem drop_ne {l : List Int} {p : Nat} (h : p < l.length) : l.drop p ≠ [] := fun e => by have := congrArg List.length e; simp at this; omega

/-- More rounds than bytes tell the same. -/
theorem runS_more (n : Nat) : ∀ (m : Nat) (l : List Int), Byt l → l.length ≤ n → n ≤ m → runS m l = runS n l := by
  induction n with
  | zero =>
    intro m l hb hl hm
    have : l = [] := List.length_eq_zero_iff.1 (by omega)
    subst this
    rw [runS_nil, runS_nil]
  | succ n ih =>
    intro m l hb hl hm
    obtain ⟨m, rfl⟩ : ∃ j, m = j + 1 := ⟨m - 1, by omega⟩
    by_cases he : l = []
    · subst he; rw [runS_nil, runS_nil]
    by_cases h : (oneS l).2.2 < 0
    · have hg := one_good hb h
      rw [runS_good he h, runS_good he h, ih m (l.drop (oneS l).2.1.toNat) (hb.drop _) (by rw [List.length_drop]; omega) (by omega)]
    · rw [runS_bad he h, runS_bad he h]

/-- What is told hangs on the character's own bytes alone. -/
theorem one_app {l : List Int} (h : (oneS l).2.2 < 0) (t : List Int) : oneS (l ++ t) = oneS l := by
  revert h
  unfold oneS
  match l with
  | [] => simp
  | c :: u =>
    simp only [List.cons_append]
    by_cases a1 : c < 128
    · simp [a1]
    by_cases a2 : c < 194 ∨ 244 < c
    · simp [a1, a2]
    by_cases a3 : c < 224
    · simp only [if_neg a1, if_neg a2, if_pos a3]
      match u with
      | [] => simp
      | x :: u => simp
    simp only [if_neg a1, if_neg a2, if_neg a3]
    match u with
    | [] => simp
    | x :: u =>
      simp only [List.cons_append]
      by_cases b : x < loS c ∨ hiS c < x
      · simp [b]
      simp only [if_neg b]
      match u with
      | [] => simp
      | y :: u =>
        simp only [List.cons_append]
        by_cases d : y < 128 ∨ 191 < y
        · simp [d]
        simp only [if_neg d]
        by_cases a4 : c < 240
        · simp [a4]
        simp only [if_neg a4]
        match u with
        | [] => simp
        | z :: u => simp

/-- A fault hangs on the bytes up to it alone. -/
theorem one_cut {l m : List Int} (h : ¬ (oneS l).2.2 < 0) (hl : (oneS l).2.2 < l.length) (ht : m.take ((oneS l).2.2.toNat + 1) = l.take ((oneS l).2.2.toNat + 1)) : oneS m = oneS l := by
  revert h hl ht
  unfold oneS
  match l with
  | [] => simp
  | c :: u =>
    by_cases a1 : c < 128
    · simp [a1]
    by_cases a2 : c < 194 ∨ 244 < c
    · simp only [if_neg a1, if_pos a2]
      intro _ _ ht
      match m, ht with
      | [], ht => simp at ht
      | c2 :: m, ht =>
        obtain rfl : c2 = c := by simpa using ht
        simp [a1, a2]
    by_cases a3 : c < 224
    · simp only [if_neg a1, if_neg a2, if_pos a3]
      match u with
      | [] => simp
      | x :: u =>
        by_cases b : x < 128 ∨ 191 < x
        · simp only [if_pos b]
          intro _ _ ht
          match m, ht with
          | [], ht => simp at ht
          | [c2], ht => simp at ht
          | c2 :: x2 :: m, ht =>
            obtain ⟨rfl, rfl⟩ : c2 = c ∧ x2 = x := by simpa using ht
            simp only [if_neg a1, if_neg a2, if_pos a3, if_pos b]
        · simp [b]
    simp only [if_neg a1, if_neg a2, if_neg a3]
    match u with
    | [] => simp
    | x :: u =>
      by_cases b : x < loS c ∨ hiS c < x
      · simp only [if_pos b]
        intro _ _ ht
        match m, ht with
        | [], ht => simp at ht
        | [c2], ht => simp at ht
        | c2 :: x2 :: m, ht =>
          obtain ⟨rfl, rfl⟩ : c2 = c ∧ x2 = x := by simpa using ht
          simp only [if_neg a1, if_neg a2, if_neg a3, if_pos b]
      simp only [if_neg b]
      match u with
      | [] => simp
      | y :: u =>
        by_cases d : y < 128 ∨ 191 < y
        · simp only [if_pos d]
          intro _ _ ht
          match m, ht with
          | [], ht => simp at ht
          | [c2], ht => simp at ht
          | [c2, x2], ht => simp at ht
          | c2 :: x2 :: y2 :: m, ht =>
            obtain ⟨rfl, rfl, rfl⟩ : c2 = c ∧ x2 = x ∧ y2 = y := by simpa using ht
            simp only [if_neg a1, if_neg a2, if_neg a3, if_neg b, if_pos d]
        simp only [if_neg d]
        by_cases a4 : c < 240
        · simp [a4]
        simp only [if_neg a4]
        match u with
        | [] => simp
        | z :: u =>
          by_cases f : z < 128 ∨ 191 < z
          · simp only [if_pos f]
            intro _ _ ht
            match m, ht with
            | [], ht => simp at ht
            | [c2], ht => simp at ht
            | [c2, x2], ht => simp at ht
            | [c2, x2, y2], ht => simp at ht
            | c2 :: x2 :: y2 :: z2 :: m, ht =>
              obtain ⟨rfl, rfl, rfl, rfl⟩ : c2 = c ∧ x2 = x ∧ y2 = y ∧ z2 = z := by simpa using ht
              simp only [if_neg a1, if_neg a2, if_neg a3, if_neg b, if_neg d, if_neg a4, if_pos f]
          · simp [f]

/-- A text and anything behind it. -/
theorem runS_app (n : Nat) : ∀ (a b : List Int), Byt a → Byt b → a.length ≤ n → (runS n a).2 < 0 → runS (n + b.length) (a ++ b) = ((runS n a).1 ++ (runS b.length b).1, if (runS b.length b).2 < 0 then -1 else a.length + (runS b.length b).2) := by
  induction n with
  | zero =>
    intro a b ha hb hl hf
    have : a = [] := List.length_eq_zero_iff.1 (by omega)
    subst this
    have := runS_place b.length b hb
    simp only [List.nil_append, runS_nil, Nat.zero_add, List.length_nil]
    refine Prod.ext rfl ?_
    simp only
    split <;> omega
  | succ n ih =>
    intro a b ha hb hl hf
    by_cases he : a = []
    · subst he
      have := runS_place b.length b hb
      rw [runS_nil, List.nil_append, runS_more b.length (n + 1 + b.length) b hb (by omega) (by omega)]
      refine Prod.ext rfl ?_
      simp only [List.length_nil]
      split <;> omega
    by_cases h : (oneS a).2.2 < 0
    · have hg := one_good ha h
      have hab : a ++ b ≠ [] := by simp [he]
      have h1 := one_app h b
      rw [runS_good he h] at hf ⊢
      have hf2 : (runS n (a.drop (oneS a).2.1.toNat)).2 < 0 := by
        by_cases q : (runS n (a.drop (oneS a).2.1.toNat)).2 < 0
        · exact q
        · simp only [if_neg q] at hf; omega
      have := ih (a.drop (oneS a).2.1.toNat) b (ha.drop _) hb (by rw [List.length_drop]; omega) hf2
      have hd : (a ++ b).drop (oneS a).2.1.toNat = a.drop (oneS a).2.1.toNat ++ b := List.drop_append_of_le_length (by omega)
      rw [show n + 1 + b.length = n + b.length + 1 by omega, runS_good hab (by rw [h1]; exact h), h1, hd, this]
      refine Prod.ext rfl ?_
      simp only [List.length_drop]
      have hp := runS_place b.length b hb
      repeat' split
      all_goals omega
    · rw [runS_bad he h] at hf
      exact absurd hf (by simpa using h)

/-- A character's bytes alone tell it. -/
theorem one_self {l : List Int} (hb : Byt l) (h : (oneS l).2.2 < 0) : oneS (l.take (oneS l).2.1.toNat) = oneS l := by
  revert h
  unfold oneS
  match l, hb with
  | [], _ => simp
  | c :: u, hb =>
    by_cases a1 : c < 128
    · simp [a1]
    by_cases a2 : c < 194 ∨ 244 < c
    · simp [a1, a2]
    by_cases a3 : c < 224
    · simp only [if_neg a1, if_neg a2, if_pos a3]
      match u with
      | [] => simp
      | x :: u =>
        by_cases b : x < 128 ∨ 191 < x
        · simp [b]
        · simp only [if_neg b]; intro _
          simp [a1, a2, a3, b]
    simp only [if_neg a1, if_neg a2, if_neg a3]
    match u with
    | [] => simp
    | x :: u =>
      by_cases b : x < loS c ∨ hiS c < x
      · simp [b]
      simp only [if_neg b]
      match u with
      | [] => simp
      | y :: u =>
        by_cases d : y < 128 ∨ 191 < y
        · simp [d]
        simp only [if_neg d]
        by_cases a4 : c < 240
        · simp only [if_pos a4]; intro _
          simp [a1, a2, a3, b, d, a4]
        simp only [if_neg a4]
        match u with
        | [] => simp
        | z :: u =>
          by_cases f : z < 128 ∨ 191 < z
          · simp [f]
          · simp only [if_neg f]; intro _
            simp [a1, a2, a3, b, d, a4, f]

/-- The first fault hangs on the bytes up to it alone. -/
theorem runS_cut (n : Nat) : ∀ (l m : List Int), Byt l → Byt m → l.length ≤ n → m.length ≤ n → ¬ (runS n l).2 < 0 → (runS n l).2 < l.length → m.take ((runS n l).2.toNat + 1) = l.take ((runS n l).2.toNat + 1) → (runS n m).2 = (runS n l).2 := by
  induction n with
  | zero =>
    intro l m hb hm hl hml hf hlt ht
    simp [runS] at hf
  | succ n ih =>
    intro l m hb hm hl hml hf hlt ht
    by_cases he : l = []
    · subst he; simp [runS_nil] at hf
    have hme : m ≠ [] := by
      rintro rfl
      have := congrArg List.length ht
      simp only [List.take_nil, List.length_nil, List.length_take] at this
      omega
    by_cases h : (oneS l).2.2 < 0
    · have hg := one_good hb h
      rw [runS_good he h] at hf hlt ht ⊢
      by_cases q : (runS n (l.drop (oneS l).2.1.toNat)).2 < 0
      · simp [q] at hf
      simp only [if_neg q] at hf hlt ht ⊢
      have e : ((oneS l).2.1 + (runS n (l.drop (oneS l).2.1.toNat)).2).toNat + 1 = (oneS l).2.1.toNat + ((runS n (l.drop (oneS l).2.1.toNat)).2.toNat + 1) := by omega
      rw [e] at ht
      -- the first character is the same
      have h2 : oneS m = oneS l := by
        have t1 : m.take (oneS l).2.1.toNat = l.take (oneS l).2.1.toNat := by
          have := congrArg (List.take (oneS l).2.1.toNat) ht
          rwa [List.take_take, List.take_take, Nat.min_eq_left (by omega)] at this
        have h3 : oneS (l.take (oneS l).2.1.toNat) = oneS l := one_self hb h
        have h4 := one_app (l := m.take (oneS l).2.1.toNat) (by rw [t1, h3]; exact h) (m.drop (oneS l).2.1.toNat)
        rw [List.take_append_drop] at h4
        rw [h4, t1, h3]
      have hd : (m.drop (oneS l).2.1.toNat).take ((runS n (l.drop (oneS l).2.1.toNat)).2.toNat + 1) = (l.drop (oneS l).2.1.toNat).take ((runS n (l.drop (oneS l).2.1.toNat)).2.toNat + 1) := by
        have := congrArg (List.drop (oneS l).2.1.toNat) ht
        rwa [List.drop_take, List.drop_take, Nat.add_sub_cancel_left] at this
      have := ih (l.drop (oneS l).2.1.toNat) (m.drop (oneS l).2.1.toNat) (hb.drop _) (hm.drop _) (by rw [List.length_drop]; omega) (by rw [List.length_drop]; omega) q (by rw [List.length_drop]; omega) hd
      rw [runS_good hme (by rw [h2]; exact h), h2]
      simp only
      rw [this, if_neg q]
    · rw [runS_bad he h] at hf hlt ht ⊢
      have h2 := one_cut h hlt ht
      rw [runS_bad hme (by rw [h2]; exact h), h2]

/-- The bytes of some characters. -/
def encsS : List Int → List Int
  | [] => []
  | r :: t => encS r ++ encsS t

theorem encsS_append (a b : List Int) : encsS (a ++ b) = encsS a ++ encsS b := by
  induction a with
  | nil => rfl
  | cons r t ih => simp only [List.cons_append, encsS, ih, List.append_assoc]

theorem encsS_len (a : List Int) : a.length ≤ (encsS a).length ∧ (encsS a).length ≤ 4 * a.length := by
  induction a with
  | nil => simp [encsS]
  | cons r t ih =>
    have := enc_len r
    simp only [encsS, List.length_append, List.length_cons]
    omega

theorem encsS_byt {a : List Int} (h : ∀ r ∈ a, chr r) : Byt (encsS a) := by
  induction a with
  | nil => exact Byt.nil
  | cons r t ih => exact (enc_byt (h r (by simp))).append (ih (fun x hx => h x (by simp [hx])))

theorem runS_encs (n : Nat) : ∀ a : List Int, (∀ r ∈ a, chr r) → (encsS a).length ≤ n → runS n (encsS a) = (a, -1) := by
  induction n with
  | zero =>
    intro a h hl
    have : a = [] := List.length_eq_zero_iff.1 (by have := encsS_len a; omega)
    subst this
    rfl
  | succ n ih =>
    intro a h hl
    match a with
    | [] => rfl
    | r :: t =>
      have hr := h r (by simp)
      have he := enc_len r
      have ho := one_enc hr (encsS t)
      have hne : encS r ++ encsS t ≠ [] := by
        intro e
        have := congrArg List.length e
        rw [List.length_append, List.length_nil] at this
        omega
      rw [show encsS (r :: t) = encS r ++ encsS t from rfl] at hl ⊢
      rw [List.length_append] at hl
      have hrec := ih t (fun x hx => h x (by simp [hx])) (by omega)
      rw [runS_good hne (by rw [ho]; show (-1 : Int) < 0; decide), ho]
      simp only [Int.toNat_natCast, List.drop_left, hrec]
      rfl
end Go.Proofs.Ytfphpjinimfhfaa.VM
