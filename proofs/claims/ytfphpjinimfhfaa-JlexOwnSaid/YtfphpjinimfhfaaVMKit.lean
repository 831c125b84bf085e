import Derived.Test.YtfphpjinimfhfaaVMWp
/-! Small things that proofs over the machine need again and again. -/
namespace Go.Proofs.Ytfphpjinimfhfaa.VM
set_option linter.unusedSimpArgs false
set_option linter.unusedVariables false
set_option linter.unusedSectionVars false
open Go.RowKit
variable [Glob]

theorem wrap_i64 {x : Int} (h : -9223372036854775808 ≤ x) (h2 : x < 9223372036854775808) : IntKind.i64.wrap x = x := by
  simp [IntKind.wrap, IntKind.bits, IntKind.signed]
  split <;> omega
theorem wrap_u64 {x : Int} (h : 0 ≤ x) (h2 : x < 18446744073709551616) : IntKind.u64.wrap x = x := by
  simp [IntKind.wrap, IntKind.bits, IntKind.signed]
  omega
theorem wrap_u8 {x : Int} (h : 0 ≤ x) (h2 : x < 256) : IntKind.u8.wrap x = x := by
  simp [IntKind.wrap, IntKind.bits, IntKind.signed]
  omega

theorem bits_u64 : IntKind.u64.bits = 64 := rfl
theorem bits_u8 : IntKind.u8.bits = 8 := rfl
theorem bits_i64 : IntKind.i64.bits = 64 := rfl
theorem and_u64 (n m : Nat) (hn : n < 2 ^ 64) (hm : m < 2 ^ 64) : IntKind.u64.wrap ((BitVec.ofInt IntKind.u64.bits (n : Int) &&& BitVec.ofInt IntKind.u64.bits (m : Int)).toNat : Int) = ((n &&& m : Nat) : Int) := by
  have h1 : (BitVec.ofInt IntKind.u64.bits (n : Int) &&& BitVec.ofInt IntKind.u64.bits (m : Int)).toNat = n &&& m := by
    rw [bits_u64]
    simp only [BitVec.toNat_and, BitVec.ofInt_natCast, BitVec.toNat_ofNat]
    rw [Nat.mod_eq_of_lt hn, Nat.mod_eq_of_lt hm]
  rw [h1]
  have : n &&& m ≤ n := Nat.and_le_left
  exact wrap_u64 (by omega) (by omega)
theorem or_u8 (n m : Nat) (hn : n < 2 ^ 8) (hm : m < 2 ^ 8) : IntKind.u8.wrap ((BitVec.ofInt IntKind.u8.bits (n : Int) ||| BitVec.ofInt IntKind.u8.bits (m : Int)).toNat : Int) = ((n ||| m : Nat) : Int) := by
  have h1 : (BitVec.ofInt IntKind.u8.bits (n : Int) ||| BitVec.ofInt IntKind.u8.bits (m : Int)).toNat = n ||| m := by
    rw [bits_u8]
    simp only [BitVec.toNat_or, BitVec.ofInt_natCast, BitVec.toNat_ofNat]
    rw [Nat.mod_eq_of_lt hn, Nat.mod_eq_of_lt hm]
  rw [h1]
  have : n ||| m < 2 ^ 8 := Nat.or_lt_two_pow hn hm
  exact wrap_u8 (by omega) (by omega)
theorem and_u8 (n m : Nat) (hn : n < 2 ^ 8) (hm : m < 2 ^ 8) : IntKind.u8.wrap ((BitVec.ofInt IntKind.u8.bits (n : Int) &&& BitVec.ofInt IntKind.u8.bits (m : Int)).toNat : Int) = ((n &&& m : Nat) : Int) := by
  have h1 : (BitVec.ofInt IntKind.u8.bits (n : Int) &&& BitVec.ofInt IntKind.u8.bits (m : Int)).toNat = n &&& m := by
    rw [bits_u8]
    simp only [BitVec.toNat_and, BitVec.ofInt_natCast, BitVec.toNat_ofNat]
    rw [Nat.mod_eq_of_lt hn, Nat.mod_eq_of_lt hm]
  rw [h1]
  have : n &&& m ≤ n := Nat.and_le_left
  exact wrap_u8 (by omega) (by omega)
theorem wrap_u8_nat (n : Nat) : IntKind.u8.wrap (n : Int) = ((UInt8.ofNat n).toNat : Int) := by
  simp [IntKind.wrap, IntKind.bits, IntKind.signed]
theorem shr_nat (n i : Nat) : (n : Int).fdiv (2 ^ i) = ((n / 2 ^ i : Nat) : Int) := by
  rw [Int.fdiv_eq_ediv_of_nonneg _ (by exact_mod_cast Nat.zero_le (2 ^ i))]
  push_cast
  rfl

/-- A byte. -/
def u8 (b : UInt8) : AV := .int .u8 b.toNat

theorem bytesOfA_u8 : ∀ bs : List UInt8, bytesOfA (bs.map u8) = some bs
  | [] => rfl
  | b :: bs => by
    show (bytesOfA (bs.map u8)).map (UInt8.ofNat ((b.toNat : Nat) : Int).toNat :: ·) = _
    rw [bytesOfA_u8 bs]
    simp

/-- Each fills so many cells, and may be stored. -/
structure Elem (P : Program) (t : TypeId) (e : TypeId) (s by_ : Nat) (ag : Bool) (z : AV) : Prop where
  und : P.underlying t = some (.slice e)
  size : szA P e = some s
  agg : isAggA P e = some ag
  bytes : bytesA P e = some by_
  zero : zeroA P e = some z
  zlen : z.cells.length = s
  pos : 0 < s

/-- A list that this run made, or none. -/
def IsOut (e : TypeId) (S : St) (v : AV) (xs : List AV) : Prop := (v = .nils ∧ xs = []) ∨ ∃ n, v = .lst xs (.tag n) ∧ S.mem n = some (.tip e)

section
variable {P : Program} {C : Cfg} {f : FuncId}

theorem shed_leaf_list {xs : List AV} (h : ∀ x ∈ xs, x.shed = x) : xs.map AV.shed = xs := by
  conv => rhs; rw [← List.map_id xs]
  exact List.map_congr_left h

/-- Appending what is not empty to what this run made. -/
theorem append_out {t e : TypeId} {s by_ : Nat} {ag : Bool} {z : AV} (hE : Elem P t e s by_ ag z) (hh : C.hnd f = false) {S : St} {v y : AV} {xs ys : List AV} (hv : IsOut e S v xs) (hy : elemsA S ag s y = some ys) (hsh : ys.map AV.shed = ys)
    (hw : wellA s xs = true) (hw2 : wellA s ys = true) (hne : ys ≠ []) (hs : (xs.length + ys.length) * by_ ≤ 140737488355328 ∧ xs.length + ys.length ≤ 140737488355328) :
    ∃ S1, builtinA P C f .append #[t, t] [v, y] S = some (.ret (.lst (xs ++ ys) (.tag S.next)), S1) ∧ S1.mem S.next = some (.tip e) ∧ S1.next = S.next + 1 ∧ (∀ n, n < S.next → v ≠ .lst xs (.tag n) → S1.mem n = S.mem n) := by
  have hl : ys.length ≠ 0 := fun h => hne (List.length_eq_zero_iff.1 h)
  have hun := hE.und
  have helem : elemA P t = some e := by simp [elemA, hun]
  have hso : ∀ n, n ≤ xs.length + ys.length → sizeOk by_ n = true := fun n hn => by
    unfold sizeOk
    have : n * by_ ≤ (xs.length + ys.length) * by_ := Nat.mul_le_mul_right _ hn
    simp; omega
  rcases hv with ⟨rfl, rfl⟩ | ⟨n, rfl, hn⟩
  · refine ⟨S.new (.tip e), ?_, by simp [St.new, upd], rfl, fun m hm _ => by simp [St.new, upd]; omega⟩
    simp only [builtinA, appendA, helem, hE.size, hE.agg, hE.bytes, hE.zero, hun, Option.bind_some, appendB, hy, hsh]
    rw [if_pos ⟨hE.pos, hE.zlen, hw2⟩]
    simp only [if_neg hl]
    rw [if_pos (hso _ (by simp))]
    simp [freshA, hh, retA]
  · refine ⟨(S.set n none).new (.tip e), ?_, by simp [St.new, upd, St.set], rfl, fun m hm hne' => ?_⟩
    · simp only [builtinA, appendA, helem, hE.size, hE.agg, hE.bytes, hE.zero, hun, Option.bind_some, appendB, hy, hsh]
      rw [if_pos ⟨hE.pos, hE.zlen, hw2⟩]
      simp only [if_neg hl, hn]
      rw [if_pos ⟨hso _ (Nat.le_refl _), hw⟩]
      simp [retA]
    · have : m ≠ n := fun e => hne' (by rw [e])
      simp [St.new, upd, St.set, this]
      omega

/-- What this run made since S0. -/
def Own (e : TypeId) (S0 S : St) (v : AV) (xs : List AV) : Prop := (v = .nils ∧ xs = []) ∨ ∃ n, S0.next ≤ n ∧ n < S.next ∧ v = .lst xs (.tag n) ∧ S.mem n = some (.tip e)
/-- A list, whoever made it. -/
def Elems (v : AV) (xs : List AV) : Prop := (v = .nils ∧ xs = []) ∨ ∃ t, v = .lst xs t
theorem Elems.run {v : AV} {xs : List AV} (h : Elems v xs) (S : St) (ag : Bool) (s : Nat) : elemsA S ag s v = some xs := by
  rcases h with ⟨rfl, rfl⟩ | ⟨t, rfl⟩ <;> rfl
theorem Own.elems {e : TypeId} {S0 S : St} {v : AV} {xs : List AV} (h : Own e S0 S v xs) : Elems v xs := by
  rcases h with ⟨rfl, rfl⟩ | ⟨n, _, _, rfl, _⟩
  · exact .inl ⟨rfl, rfl⟩
  · exact .inr ⟨_, rfl⟩
theorem Own.nil (e : TypeId) (S0 S : St) : Own e S0 S .nils [] := .inl ⟨rfl, rfl⟩

theorem Own.append {t e : TypeId} {s by_ : Nat} {ag : Bool} {z : AV} (hE : Elem P t e s by_ ag z) (hh : C.hnd f = false) {S0 S : St} {v y : AV} {xs ys : List AV} (hv : Own e S0 S v xs) (hk : Keep S0 S) (hy : elemsA S ag s y = some ys) (hsh : ys.map AV.shed = ys)
    (hw : wellA s xs = true) (hw2 : wellA s ys = true) (hs : (xs.length + ys.length) * by_ ≤ 140737488355328 ∧ xs.length + ys.length ≤ 140737488355328) :
    ∃ r S1, builtinA P C f .append #[t, t] [v, y] S = some (.ret r, S1) ∧ Own e S0 S1 r (xs ++ ys) ∧ Keep S0 S1 := by
  by_cases hne : ys = []
  · subst hne
    have hun := hE.und
    have helem : elemA P t = some e := by simp [elemA, hun]
    refine ⟨v, S, ?_, by simpa using hv, hk⟩
    rcases hv with ⟨rfl, rfl⟩ | ⟨n, _, _, rfl, _⟩
    · simp only [builtinA, appendA, helem, hE.size, hE.agg, hE.bytes, hE.zero, hun, Option.bind_some, appendB, hy]
      rw [if_pos ⟨hE.pos, hE.zlen, by simp [wellA]⟩]; rfl
    · simp only [builtinA, appendA, helem, hE.size, hE.agg, hE.bytes, hE.zero, hun, Option.bind_some, appendB, hy]
      rw [if_pos ⟨hE.pos, hE.zlen, by simp [wellA]⟩]; rfl
  · have hv' : IsOut e S v xs := by
      rcases hv with h | ⟨n, _, _, h1, h2⟩
      · exact .inl h
      · exact .inr ⟨n, h1, h2⟩
    obtain ⟨S1, h1, h2, h3, h4⟩ := append_out hE hh hv' hy hsh hw hw2 hne hs
    refine ⟨_, S1, h1, .inr ⟨S.next, hk.next, by omega, rfl, h2⟩, ⟨by have := hk.next; omega, fun n hn => ?_⟩⟩
    rw [h4 n (by have := hk.next; omega), hk.mem n hn]
    rintro rfl
    rcases hv with ⟨h, _⟩ | ⟨m, a1, a2, h, _⟩
    · cases h
    · cases h; omega

theorem Own.keep {e : TypeId} {S0 S S1 : St} {v : AV} {xs : List AV} (h : Own e S0 S v xs) (k : Keep S S1) : Own e S0 S1 v xs := by
  rcases h with h | ⟨n, h1, h2, h3, h4⟩
  · exact .inl h
  · exact .inr ⟨n, h1, by have := k.next; omega, h3, by rw [k.mem n h2]; exact h4⟩

/-- Own.append, and what is in cells stays. -/
theorem Own.append' {t e : TypeId} {s by_ : Nat} {ag : Bool} {z : AV} (hE : Elem P t e s by_ ag z) (hh : C.hnd f = false) {S0 S : St} {v y : AV} {xs ys : List AV} (hv : Own e S0 S v xs) (hk : Keep S0 S) (hy : elemsA S ag s y = some ys) (hsh : ys.map AV.shed = ys)
    (hw : wellA s xs = true) (hw2 : wellA s ys = true) (hs : (xs.length + ys.length) * by_ ≤ 140737488355328 ∧ xs.length + ys.length ≤ 140737488355328) :
    ∃ r S1, builtinA P C f .append #[t, t] [v, y] S = some (.ret r, S1) ∧ Own e S0 S1 r (xs ++ ys) ∧ Keep S0 S1 ∧ S.next ≤ S1.next ∧ ∀ j cs, j < S.next → S.cells j = some cs → S1.cells j = some cs := by
  by_cases hne : ys = []
  · subst hne
    have hun := hE.und
    have helem : elemA P t = some e := by simp [elemA, hun]
    refine ⟨v, S, ?_, by simpa using hv, hk, Nat.le_refl _, fun _ _ _ h => h⟩
    rcases hv with ⟨rfl, rfl⟩ | ⟨n, _, _, rfl, _⟩
    · simp only [builtinA, appendA, helem, hE.size, hE.agg, hE.bytes, hE.zero, hun, Option.bind_some, appendB, hy]
      rw [if_pos ⟨hE.pos, hE.zlen, by simp [wellA]⟩]; rfl
    · simp only [builtinA, appendA, helem, hE.size, hE.agg, hE.bytes, hE.zero, hun, Option.bind_some, appendB, hy]
      rw [if_pos ⟨hE.pos, hE.zlen, by simp [wellA]⟩]; rfl
  · have hv' : IsOut e S v xs := by
      rcases hv with h | ⟨n, _, _, h1, h2⟩
      · exact .inl h
      · exact .inr ⟨n, h1, h2⟩
    obtain ⟨S1, h1, h2, h3, h4⟩ := append_out hE hh hv' hy hsh hw hw2 hne hs
    refine ⟨_, S1, h1, .inr ⟨S.next, hk.next, by omega, rfl, h2⟩, ⟨by have := hk.next; omega, fun n hn => ?_⟩, by omega, fun j cs hj hc => ?_⟩
    · rw [h4 n (by have := hk.next; omega), hk.mem n hn]
      rintro rfl
      rcases hv with ⟨h, _⟩ | ⟨m, a1, a2, h, _⟩
      · cases h
      · cases h; omega
    · unfold St.cells at *
      rw [h4 j hj]
      · exact hc
      · rintro rfl
        rcases hv with ⟨h, _⟩ | ⟨m, a1, a2, h, h5⟩
        · cases h
        · cases h; rw [h5] at hc; cases hc

theorem stab_load {cf : CF} {ops : Array Oper} {env : List AV} {S' : St} {r : Nat} {q : Oper} {d : Tmp} {u : AV} {t : TypeId} {a : Operand} (h1 : ops[r]? = some q) (h2 : wantedA ops env q = some true) (h3 : q.dst = some d) (h4 : env[d]? = some u) (h5 : q.op = .load t a) (h6 : loadA P S' t (evA env a) = some u) :
    StabOk P C cf f ops env S' r := ⟨q, h1, .inr ⟨d, u, S', h2, h3, h4, by simp [opA, h5, h6, retA]⟩⟩
theorem setsA_all : ∀ (cs pre old : List AV), old.length = cs.length → setsA (pre ++ old) pre.length cs = pre ++ cs
  | [], pre, old, h => by
    have : old = [] := List.length_eq_zero_iff.1 h
    subst this; rfl
  | c :: cs, pre, [], h => by simp at h
  | c :: cs, pre, o :: old, h => by
    show setsA ((pre ++ o :: old).set pre.length c) (pre.length + 1) cs = _
    have h1 : (pre ++ o :: old).set pre.length c = (pre ++ [c]) ++ old := by simp
    have h2 := setsA_all cs (pre ++ [c]) old (by simpa using h)
    rw [h1]
    simpa using h2
/-- A struct's store over the whole of a variable. -/
theorem store_agg {cs old : List AV} {s : Nat} (hl : cs.length = s) (hq : old.length = s) (h : cs.all AV.leafOk = true) :
    (if (AV.agg cs).cells.length = s ∧ (AV.agg cs).cells.all AV.leafOk = true ∧ 0 + s ≤ old.length then some (setsA old 0 (AV.agg cs).cells) else none) = some cs := by
  rw [if_pos ⟨hl, h, by omega⟩]
  have := setsA_all cs [] old (by omega)
  simpa [AV.cells] using this
theorem wellA_u8 (bs : List UInt8) : wellA 1 (bs.map u8) = true := by
  unfold wellA
  simp [u8, AV.cells, AV.leafOk]
theorem shed_u8 (bs : List UInt8) : (bs.map u8).map AV.shed = bs.map u8 := by
  simp [u8, AV.shed, AV.shedLeaf]

theorem slice_lo {t e : TypeId} {s : Nat} (hu : P.underlying t = some (.slice e)) (hs : szA P e = some s) (xs : List AV) (tp : Tip) (hh : headOk s xs = true) (i : Nat) (hi : i ≤ xs.length) (k : IntKind) :
    ∃ tp', sliceA P t (.lst xs tp) (some (.int k i)) none none = some (.lst (xs.drop i) tp') := by
  unfold sliceA
  simp only [hu, hs, Option.bind_some, hh, if_true, boundA]
  rw [if_pos ⟨by omega, by omega⟩]
  simp only [Option.bind_some, List.take_length, Int.toNat_natCast]
  exact ⟨_, rfl⟩
theorem slice_hi {t e : TypeId} {s : Nat} (hu : P.underlying t = some (.slice e)) (hs : szA P e = some s) (xs : List AV) (tp : Tip) (hh : headOk s xs = true) (i : Nat) (hi : i ≤ xs.length) (k : IntKind) :
    ∃ tp', sliceA P t (.lst xs tp) none (some (.int k i)) none = some (.lst (xs.take i) tp') := by
  unfold sliceA
  simp only [hu, hs, Option.bind_some, hh, if_true, boundA]
  rw [if_pos ⟨by omega, by omega⟩]
  simp only [Option.bind_some, List.drop_zero, Int.toNat_natCast]
  exact ⟨_, rfl⟩
theorem headOk_u8 (bs : List UInt8) : headOk 1 (bs.map u8) = true := by cases bs <;> rfl
theorem or_u64 (n m : Nat) (hn : n < 2 ^ 64) (hm : m < 2 ^ 64) : IntKind.u64.wrap ((BitVec.ofInt IntKind.u64.bits (n : Int) ||| BitVec.ofInt IntKind.u64.bits (m : Int)).toNat : Int) = ((n ||| m : Nat) : Int) := by
  have h1 : (BitVec.ofInt IntKind.u64.bits (n : Int) ||| BitVec.ofInt IntKind.u64.bits (m : Int)).toNat = n ||| m := by
    rw [bits_u64]
    simp only [BitVec.toNat_or, BitVec.ofInt_natCast, BitVec.toNat_ofNat]
    rw [Nat.mod_eq_of_lt hn, Nat.mod_eq_of_lt hm]
  rw [h1]
  have : n ||| m < 2 ^ 64 := Nat.or_lt_two_pow hn hm
  exact wrap_u64 (by omega) (by omega)
theorem or_seven (n m : Nat) (hm : m < 128) : (n * 128 ||| m) = n * 128 + m := by
  have := Nat.two_pow_add_eq_or_of_lt (i := 7) (b := m) hm n
  rw [Nat.mul_comm, show (128 : Nat) = 2 ^ 7 from rfl]
  exact this.symm
theorem partF_of {r : Option AV} {v : AV} {K : AV → Prop} (h : r = some v) (k : K v) : partF false r K := by subst h; exact k

theorem chunk_one : ∀ cs : List AV, chunk false 1 cs.length cs = cs
  | [] => rfl
  | x :: cs => by
    show (if false then _ else (x :: cs).headD .undef) :: chunk false 1 cs.length ((x :: cs).drop 1) = _
    simp [chunk_one cs]
theorem flat_u8 (bs : List UInt8) : flat (bs.map u8) = bs.map u8 := by
  induction bs with
  | nil => rfl
  | cons b bs ih => simp [flat, u8, AV.cells] at ih ⊢; exact ih
theorem plain_u8 (bs : List UInt8) : (bs.map u8).all AV.plain = true := by simp [u8, AV.plain]
theorem leaf_u8 (bs : List UInt8) : (bs.map u8).all AV.leafOk = true := by simp [u8, AV.leafOk]
/-- A written array of bytes, whole. -/
theorem elems_hnd {S : St} {k : Nat} {bs : List UInt8} (h : S.cells k = some (bs.map u8)) : elemsA S false 1 (.hnd k 0 bs.length 1) = some (bs.map u8) := by
  simp only [elemsA, h, Option.bind_some]
  rw [if_pos ⟨trivial, by simp, by unfold chunkOk; rw [plain_u8]; rfl⟩]
  have := chunk_one (bs.map u8)
  simp only [List.length_map] at this
  simp [this]
/-- Appending bytes to a written array. -/
theorem append_hnd {t e : TypeId} {z : AV} (hE : Elem P t e 1 1 false z) {S : St} {n : Nat} {y : AV} {ds bs : List UInt8} {rest : List AV} (hn : S.cells n = some (ds.map u8 ++ rest)) (hr : rest.all AV.leafOk = true) (hy : elemsA S false 1 y = some (bs.map u8)) (hne : bs ≠ [])
    (hs : ds.length + bs.length ≤ 2 ^ 40) :
    builtinA P C f .append #[t, t] [.hnd n 0 ds.length 1, y] S = some (.ret (.hnd S.next 0 (ds.length + bs.length) 1), (S.set n none).new (.cells ((ds ++ bs).map u8))) := by
  have hun := hE.und
  have helem : elemA P t = some e := by simp [elemA, hun]
  have hl : bs.length ≠ 0 := fun h => hne (List.length_eq_zero_iff.1 h)
  simp only [builtinA, appendA, helem, hE.size, hE.agg, hE.bytes, hE.zero, hun, Option.bind_some, appendB, hy, shed_u8]
  rw [if_pos ⟨by omega, hE.zlen, wellA_u8 bs⟩]
  simp only [List.length_map, if_neg hl, hn, Option.bind_some]
  rw [if_pos ⟨trivial, by simp [sizeOk]; omega, by simp, by rw [List.all_append, leaf_u8, hr]; rfl⟩]
  simp only [Option.bind_some, retA, List.drop_zero, Nat.mul_one, flat_u8, List.map_append]
  rw [List.take_append_of_le_length (by simp), List.take_of_length_le (by simp)]
theorem append_none {t e : TypeId} {z : AV} (hE : Elem P t e 1 1 false z) {S : St} {n len : Nat} {y : AV} (hy : elemsA S false 1 y = some []) :
    builtinA P C f .append #[t, t] [.hnd n 0 len 1, y] S = some (.ret (.hnd n 0 len 1), S) := by
  have hun := hE.und
  have helem : elemA P t = some e := by simp [elemA, hun]
  simp only [builtinA, appendA, helem, hE.size, hE.agg, hE.bytes, hE.zero, hun, Option.bind_some, appendB, hy]
  rw [if_pos ⟨by omega, hE.zlen, rfl⟩]
  rfl
end
end Go.Proofs.Ytfphpjinimfhfaa.VM
