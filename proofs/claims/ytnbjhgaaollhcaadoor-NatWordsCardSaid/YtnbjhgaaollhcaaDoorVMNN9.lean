import Derived.Test.YtnbjhgaaollhcaaDoorVMNN6
namespace Go.Proofs.YtnbjhgaaollhcaaDoor
open Go.Proofs.YtnbjhgaaollhcaaDoor.VM Go.RowKit
set_option maxRecDepth 100000
set_option linter.unusedVariables false
set_option maxHeartbeats 2000000
theorem cmp_self : ∀ a : List UInt8, Lib.compareBytes a a = 0
  | [] => rfl
  | x :: a => by unfold Lib.compareBytes; rw [if_neg (UInt8.lt_irrefl x), if_neg (UInt8.lt_irrefl x)]; exact cmp_self a
theorem cmp_zero : ∀ {a b : List UInt8}, Lib.compareBytes a b = 0 → a = b
  | [], [], _ => rfl
  | [], _ :: _, h => by cases h
  | _ :: _, [], h => by cases h
  | x :: a, y :: b, h => by
    unfold Lib.compareBytes at h
    split at h
    · cases h
    split at h
    · cases h
    · rename_i h1 h2
      have e : x = y := UInt8.le_antisymm (UInt8.not_lt.1 h2) (UInt8.not_lt.1 h1)
      rw [e, cmp_zero h]
theorem cmp_val : ∀ (a b : List UInt8), Lib.compareBytes a b = -1 ∨ Lib.compareBytes a b = 0 ∨ Lib.compareBytes a b = 1
  | [], [] => .inr (.inl rfl)
  | [], _ :: _ => .inl rfl
  | _ :: _, [] => .inr (.inr rfl)
  | x :: a, y :: b => by
    unfold Lib.compareBytes
    split
    · exact .inl rfl
    split
    · exact .inr (.inr rfl)
    · exact cmp_val a b
theorem less_cmp : ∀ (a b : List UInt8), Op.bytesLess a b = decide (Lib.compareBytes a b = -1)
  | [], [] => rfl
  | [], _ :: _ => rfl
  | _ :: _, [] => rfl
  | x :: a, y :: b => by
    unfold Op.bytesLess Lib.compareBytes
    by_cases h1 : x < y
    · simp [h1]
    · by_cases h2 : y < x
      · have : x ≠ y := fun e => h1 (by rw [e] at h2; exact absurd h2 (UInt8.lt_irrefl _))
        simp [h1, h2, this]
      · have e : x = y := UInt8.le_antisymm (UInt8.not_lt.1 h2) (UInt8.not_lt.1 h1)
        simp [h1, h2, e, less_cmp a b]
theorem t49 (h : Bool) (a b : List UInt8) (ha : a.length ≤ 2 ^ 47) (hb : b.length ≤ 2 ^ 47) (S : St) : CallQ Tryd.prog (NC h) 49 [.str a, .str b] S fun r S1 => S1 = S ∧ r = .int .i64 (ordS a b) := by
  refine CallQ.of rfl (by kernel_rfl : Tryd.prog.funcs[49]? = some Tryd.f49) rfl (by decide) ?_
  conv => whnf
  refine br (fun h0 => ?_) (fun h0 => ?_)
  · have h0 : a.length < b.length := by omega
    conv => whnf
    exact ⟨rfl, by unfold ordS; rw [if_neg (by omega), if_pos h0]; rfl⟩
  have h0 : ¬ a.length < b.length := by omega
  conv => whnf
  refine brEq (fun h1 => ?_) (fun h1 => ?_)
  · have h1 : a.length = b.length := by omega
    conv => whnf
    rw [less_cmp]
    refine br (fun h2 => ?_) (fun h2 => ?_)
    · conv => whnf
      exact ⟨rfl, by unfold ordS; rw [if_pos h1, h2]; rfl⟩
    conv => whnf
    refine brSEq (fun h3 => ?_) (fun h3 => ?_)
    · conv => whnf
      exact ⟨rfl, by unfold ordS; rw [if_pos h1, h3, cmp_self]; rfl⟩
    conv => whnf
    have hv : Lib.compareBytes a b = 1 := by
      rcases cmp_val a b with q | q | q
      · exact absurd q h2
      · exact absurd (cmp_zero q) h3
      · exact q
    exact ⟨rfl, by unfold ordS; rw [if_pos h1, hv]; rfl⟩
  have h1 : a.length ≠ b.length := by omega
  conv => whnf
  refine brSEq (fun h3 => absurd (by rw [h3]) h1) (fun h3 => ?_)
  conv => whnf
  exact ⟨rfl, by unfold ordS; rw [if_neg h1, if_neg h0]; rfl⟩
end Go.Proofs.YtnbjhgaaollhcaaDoor
namespace Go.Proofs.YtnbjhgaaollhcaaDoor
open Go.Proofs.YtnbjhgaaollhcaaDoor.VM Go.RowKit
set_option maxRecDepth 100000
set_option linter.unusedVariables false
set_option maxHeartbeats 2000000
theorem set_at (c : UInt8) : setL[c.toNat]? = some (.bool (isD c)) := by
  unfold setL
  rw [List.getElem?_map, List.getElem?_range (by have := c.toNat_lt; omega)]
  rfl
theorem t73 (h : Bool) (c : UInt8) (p : Nat) (S : St) (hp : S.cells p = some setL) : CallQ Tryd.prog (NC h) 73 [.ptr p 0, u8 c] S fun r S1 => S1 = S ∧ r = .bool (isD c) := by
  have hlt := c.toNat_lt
  refine CallQ.of rfl (by kernel_rfl : Tryd.prog.funcs[73]? = some Tryd.f73) rfl (by decide) ?_
  conv => whnf
  refine ⟨by omega, by simp; omega, ?_⟩
  conv => whnf
  refine ⟨_, hp, partF_of (v := .bool (isD c)) ?_ ?_⟩
  · show setL[0 + ((c.toNat : Nat) : Int).toNat * 1]? = _
    rw [show 0 + ((c.toNat : Nat) : Int).toNat * 1 = c.toNat by simp]
    exact set_at c
  conv => whnf
  exact ⟨rfl, rfl⟩
theorem und9 : Tryd.prog.underlying 9 = some .string := by kernel_rfl
theorem str_from (s : List UInt8) (i : Nat) (hi : i ≤ s.length) (b : Int) (hb : b = i) : sliceA Tryd.prog 9 (.str s) (some (.int .i64 b)) none none = some (.str (s.drop i)) := by
  subst hb
  unfold sliceA
  simp only [und9, Option.isSome_none, Bool.false_eq_true, if_false, boundA, Option.bind_some]
  rw [if_pos ⟨by omega, by omega⟩]
  simp only [Option.bind_some, Int.toNat_natCast, List.take_length]
theorem str_to (s : List UInt8) (i : Nat) (hi : i ≤ s.length) (b : Int) (hb : b = i) : sliceA Tryd.prog 9 (.str s) none (some (.int .i64 b)) none = some (.str (s.take i)) := by
  subst hb
  unfold sliceA
  simp only [und9, Option.isSome_none, Bool.false_eq_true, if_false, boundA]
  rw [if_pos ⟨by omega, by omega⟩]
  simp only [Option.bind_some, Int.toNat_natCast, List.drop_zero]
theorem t63 (h : Bool) (s : List UInt8) (p : Nat) (S : St) (hp : S.cells p = some setL) : CallQ Tryd.prog (NC h) 63 [.str s, .ptr p 0] S fun r S1 => S1 = S ∧ r = .str (s.dropWhile isD) := by
  refine CallQ.of rfl (by kernel_rfl : Tryd.prog.funcs[63]? = some Tryd.f63) rfl (by decide) ?_
  conv => whnf
  refine CodeQ.loop (fun (x : List UInt8) => pat 16 [(0, .str x), (1, .ptr p 0)]) (fun m x S1 => S1 = S ∧ m = x.length ∧ s.dropWhile isD = x.dropWhile isD) ?_ _ s _ _ ⟨rfl, rfl, rfl⟩ ⟨rfl, rfl, trivial⟩
  rintro m x S1 d ⟨rfl, hm, ha⟩
  dsimp only at *
  conv => whnf
  refine br (fun h5 => ?_) (fun h5 => ?_)
  rotate_left
  · have h5 : x = [] := List.length_eq_zero_iff.1 (by omega)
    subst h5
    conv => whnf
    exact ⟨rfl, by rw [ha]; rfl⟩
  obtain ⟨c, x, rfl⟩ : ∃ c t, x = c :: t := by cases x with | nil => simp at h5 | cons c t => exact ⟨c, t, rfl⟩
  conv => whnf
  refine ⟨by decide, c, rfl, ?_⟩
  conv => whnf
  refine CallQ.mono (t73 h c p S1 hp) ?_
  rintro r S2 ⟨rfl, rfl⟩
  rw [List.dropWhile_cons] at ha
  cases hd : isD c
  · rw [hd] at ha
    conv => whnf
    exact ⟨rfl, by rw [ha]; rfl⟩
  rw [hd] at ha
  conv => whnf
  refine ⟨_, str_from (c :: x) 1 (by simp) 1 rfl, ?_⟩
  conv => whnf
  exact ⟨x.length, x, by simp at hm; omega, ⟨rfl, rfl, ha⟩, ⟨rfl, rfl, trivial⟩⟩
/-- Without what stands behind. -/
def trimR (s : List UInt8) : List UInt8 := (s.reverse.dropWhile isD).reverse
theorem t64 (h : Bool) (s : List UInt8) (hl : s.length ≤ 2 ^ 47) (p : Nat) (S : St) (hp : S.cells p = some setL) : CallQ Tryd.prog (NC h) 64 [.str s, .ptr p 0] S fun r S1 => S1 = S ∧ r = .str (trimR s) := by
  refine CallQ.of rfl (by kernel_rfl : Tryd.prog.funcs[64]? = some Tryd.f64) rfl (by decide) ?_
  conv => whnf
  refine CodeQ.loop (fun (x : List UInt8) => pat 22 [(0, .str x), (1, .ptr p 0)]) (fun m x S1 => S1 = S ∧ m = x.length ∧ x.length ≤ 2 ^ 47 ∧ trimR s = trimR x) ?_ _ s _ _ ⟨rfl, rfl, hl, rfl⟩ ⟨rfl, rfl, trivial⟩
  rintro m x S1 d ⟨rfl, hm, hx, ha⟩
  dsimp only at *
  conv => whnf
  refine br (fun h5 => ?_) (fun h5 => ?_)
  rotate_left
  · have h5 : x = [] := List.length_eq_zero_iff.1 (by omega)
    subst h5
    conv => whnf
    exact ⟨rfl, by rw [ha]; rfl⟩
  obtain ⟨x, c, rfl⟩ : ∃ t c, x = t ++ [c] := ⟨x.dropLast, x.getLast (by intro q; subst q; simp at h5), (List.dropLast_concat_getLast _).symm⟩
  have hlen : (x ++ [c]).length = x.length + 1 := by simp
  conv => whnf
  rw [wrap_i64 (by omega) (by omega)]
  refine ⟨by omega, c, ?_, ?_⟩
  · rw [show (((x ++ [c]).length : Int) - 1).toNat = x.length by omega]; simp
  conv => whnf
  refine CallQ.mono (t73 h c p S1 hp) ?_
  rintro r S2 ⟨rfl, rfl⟩
  have ht : trimR (x ++ [c]) = if isD c = true then trimR x else x ++ [c] := by
    unfold trimR
    rw [List.reverse_append, List.reverse_singleton, List.singleton_append, List.dropWhile_cons]
    split
    · rfl
    · simp
  rw [ht] at ha
  cases hd : isD c
  · rw [hd] at ha
    conv => whnf
    exact ⟨rfl, by rw [ha]; rfl⟩
  rw [hd] at ha
  conv => whnf
  refine ⟨_, str_to (x ++ [c]) x.length (by simp) _ (by rw [wrap_i64 (by omega) (by omega)]; omega), ?_⟩
  rw [List.take_left]
  conv => whnf
  exact ⟨x.length, x, by omega, ⟨rfl, rfl, by omega, ha⟩, ⟨rfl, rfl, trivial⟩⟩
end Go.Proofs.YtnbjhgaaollhcaaDoor
namespace Go.Proofs.YtnbjhgaaollhcaaDoor
open Go.Proofs.YtnbjhgaaollhcaaDoor.VM Go.RowKit
set_option maxRecDepth 100000
set_option linter.unusedVariables false
set_option maxHeartbeats 2000000
def trimS (s : List UInt8) : List UInt8 := (trimR s).dropWhile isD
theorem trim_len (s : List UInt8) : (trimR s).length ≤ s.length := by
  unfold trimR
  have := (List.dropWhile_suffix (l := s.reverse) isD).length_le
  simp at this ⊢
  exact this
theorem t51 (h : Bool) (s : List UInt8) (hl : s.length ≤ 2 ^ 47) (S : St) : CallQ Tryd.prog (NC h) 51 [.str s, .str digs10] S fun r S1 => Keep S S1 ∧ r = .str (trimS s) := by
  refine CallQ.of rfl (by kernel_rfl : Tryd.prog.funcs[51]? = some Tryd.f51) rfl (by decide) ?_
  conv => whnf
  refine brSEq (fun h0 => ?_) (fun h0 => ?_)
  · have h0 : s = [] := h0
    subst h0
    conv => whnf
    exact ⟨.refl _, rfl⟩
  conv => whnf
  refine brSEq (fun h1 => absurd h1 (by decide)) (fun _ => ?_)
  conv => whnf
  refine brEq (fun h1 => absurd h1 (by decide)) (fun _ => ?_)
  conv => whnf
  refine CallQ.intr (g := setG) rfl rfl ?_
  conv => whnf
  refine ⟨_, _, cells_new _ _, store_agg rfl rfl rfl, ?_⟩
  conv => whnf
  generalize hS1 : (S.new _).set _ _ = S1
  have k1 : Keep S S1 := by rw [← hS1]; exact ((Keep.refl S).new _).set _ _ (Nat.le_refl _)
  have c1 : S1.cells S.next = some setL := by rw [← hS1, cells_set]
  clear hS1
  refine CallQ.mono (t64 h s hl S.next S1 c1) ?_
  rintro r S2 ⟨rfl, rfl⟩
  conv => whnf
  refine CallQ.mono (t63 h (trimR s) S.next S2 c1) ?_
  rintro r S3 ⟨rfl, rfl⟩
  conv => whnf
  exact ⟨k1, rfl⟩
theorem dropW_nil {p : UInt8 → Bool} : ∀ {l : List UInt8}, l.dropWhile p = [] ↔ ∀ x ∈ l, p x = true
  | [] => by simp
  | x :: l => by
    rw [List.dropWhile_cons]
    split
    · rename_i h; rw [dropW_nil]; simp [h]
    · rename_i h
      constructor
      · intro q; cases q
      · intro q; exact absurd (q x (by simp)) h
theorem trim_all (s : List UInt8) : (trimS s = []) = (s.all isD = true) := by
  unfold trimS trimR
  apply propext
  constructor
  · intro h
    rw [dropW_nil] at h
    rw [List.all_eq_true]
    intro x hx
    by_cases q : x ∈ (s.reverse.dropWhile isD).reverse
    · exact h x q
    · have e := List.takeWhile_append_dropWhile (p := isD) (l := s.reverse)
      have hx2 : x ∈ s.reverse := List.mem_reverse.2 hx
      rw [← e] at hx2
      rcases List.mem_append.1 hx2 with q2 | q2
      · exact List.all_eq_true.1 List.all_takeWhile x q2
      · exact absurd (List.mem_reverse.2 q2) q
  · intro h
    have h2 : s.reverse.dropWhile isD = [] := by
      rw [dropW_nil]
      intro x hx
      exact List.all_eq_true.1 h x (List.mem_reverse.1 hx)
    rw [h2]; rfl
theorem t33 (h : Bool) (s : List UInt8) (hl : s.length ≤ 2 ^ 47) (S : St) : CallQ Tryd.prog (NC h) 33 [.str s] S fun r S1 => Keep S S1 ∧ r = .bool (rightS s) := by
  refine CallQ.of rfl (by kernel_rfl : Tryd.prog.funcs[33]? = some Tryd.f33) rfl (by decide) ?_
  conv => whnf
  refine brSEq (fun h0 => ?_) (fun h0 => ?_)
  · have h0 : s = [] := h0
    subst h0
    conv => whnf
    exact ⟨.refl _, rfl⟩
  have h0 : 0 < s.length := List.length_pos_iff.2 (fun q => h0 q)
  conv => whnf
  refine br (fun h1 => ?_) (fun h1 => ?_)
  · have h1 : ¬ s.length ≤ 800 := by omega
    conv => whnf
    exact ⟨.refl _, by show AV.bool false = AV.bool _; unfold rightS; simp [h1]⟩
  have h1 : s.length ≤ 800 := by omega
  conv => whnf
  refine ⟨by decide, s.getD 0 0, getd h0, ?_⟩
  have hlp : s.getD 0 0 = 48 ∧ 1 < s.length ∨ rightS s = s.all isD := by
    by_cases q : s.getD 0 0 = 48 ∧ 1 < s.length
    · exact .inl q
    · right
      unfold rightS
      have : (decide (s.getD 0 0 = 48) && decide (1 < s.length)) = false := by simpa using q
      rw [this]
      simp [h1]; omega
  conv => whnf
  refine brEq (fun h2 => ?_) (fun h2 => ?_)
  · have h2 : s.getD 0 0 = 48 := UInt8.toNat_inj.1 (show (s.getD 0 0).toNat = (48 : UInt8).toNat by have : (48 : UInt8).toNat = 48 := rfl; omega)
    conv => whnf
    refine brSNe (fun h3 => ?_) (fun h3 => ?_)
    · have h3 : s ≠ [48] := h3
      have h4 : 1 < s.length := by
        match s, h0, h2, h3 with
        | [c], _, h2, h3 => exact absurd (by simpa using h2) h3
        | _ :: _ :: _, _, _, _ => simp
      conv => whnf
      exact ⟨.refl _, by show AV.bool false = AV.bool _; unfold rightS; rw [decide_eq_true h2, decide_eq_true h4]; simp⟩
    have h3 : s = [48] := h3
    have hr : rightS s = s.all isD := hlp.resolve_left fun q => by rw [h3] at q; exact absurd q.2 (by decide)
    rw [hr]
    conv => whnf
    refine CallQ.mono (t51 h s hl S) ?_
    rintro r S1 ⟨k1, rfl⟩
    conv => whnf
    refine brSEq (fun h3 => ?_) (fun h3 => ?_)
    · have h3 : trimS s = [] := h3
      conv => whnf
      exact ⟨k1, by rw [trim_all] at h3; rw [h3]; rfl⟩
    · have h3 : ¬ trimS s = [] := h3
      conv => whnf
      exact ⟨k1, by rw [trim_all] at h3; rw [Bool.not_eq_true] at h3; rw [h3]; rfl⟩
  have h2 : s.getD 0 0 ≠ 48 := fun q => h2 (by rw [q]; rfl)
  have hr : rightS s = s.all isD := hlp.resolve_left fun q => h2 q.1
  rw [hr]
  conv => whnf
  refine CallQ.mono (t51 h s hl S) ?_
  rintro r S1 ⟨k1, rfl⟩
  conv => whnf
  refine brSEq (fun h3 => ?_) (fun h3 => ?_)
  · have h3 : trimS s = [] := h3
    conv => whnf
    exact ⟨k1, by rw [trim_all] at h3; rw [h3]; rfl⟩
  · have h3 : ¬ trimS s = [] := h3
    conv => whnf
    exact ⟨k1, by rw [trim_all] at h3; rw [Bool.not_eq_true] at h3; rw [h3]; rfl⟩
end Go.Proofs.YtnbjhgaaollhcaaDoor
