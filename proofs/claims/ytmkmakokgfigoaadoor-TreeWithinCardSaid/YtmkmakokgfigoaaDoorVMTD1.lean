import Derived.Test.YtmkmakokgfigoaaDoorVMTN2
import Derived.Test.YtmkmakokgfigoaaDoorVMKit3
namespace Go.Proofs.YtmkmakokgfigoaaDoor
open Go.Proofs.YtmkmakokgfigoaaDoor.VM Go.RowKit
set_option maxRecDepth 100000
set_option linter.unusedVariables false
set_option maxHeartbeats 2000000
theorem leaf_cells {v : AV} (h : v.leafOk = true) : v.cells = [v] := by cases v <;> simp_all [AV.leafOk, AV.cells]
theorem store_leaf {v : AV} (h : v.leafOk = true) {cs : List AV} {off i : Nat} (ho : off = i) (hi : i < cs.length) : (if v.cells.length = 1 ∧ v.cells.all AV.leafOk = true ∧ off + 1 ≤ cs.length then some (setsA cs off v.cells) else none) = some (cs.set i v) := by
  subst ho
  rw [leaf_cells h, if_pos ⟨rfl, by simp [h], by omega⟩]
  rfl

end Go.Proofs.YtmkmakokgfigoaaDoor
namespace Go.Proofs.YtmkmakokgfigoaaDoor
open Go.Proofs.YtmkmakokgfigoaaDoor.VM Go.RowKit
set_option maxRecDepth 100000
set_option linter.unusedVariables false
set_option maxHeartbeats 2000000
/-- A number's digits. -/
def decD (n : Nat) : List UInt8 := if h : n < 10 then [UInt8.ofNat (48 + n)] else decD (n / 10) ++ [UInt8.ofNat (48 + n % 10)]
termination_by n
decreasing_by omega
def dec0 (n : Nat) : List UInt8 := if n = 0 then [] else decD n
theorem dec_step (n : Nat) : decD n = dec0 (n / 10) ++ [UInt8.ofNat (48 + n % 10)] := by
  conv => lhs; unfold decD
  split
  · rename_i h
    have h1 : n / 10 = 0 := by omega
    have h2 : n % 10 = n := by omega
    rw [h1, h2]; rfl
  · have h1 : n / 10 ≠ 0 := by omega
    unfold dec0
    rw [if_neg h1]
theorem dec_len : ∀ (k n : Nat), n < 10 ^ (k + 1) → (decD n).length ≤ k + 1
  | 0, n, h => by
    rw [dec_step, show n / 10 = 0 by omega]; simp [dec0]
  | k + 1, n, h => by
    rw [dec_step]
    by_cases h0 : n / 10 = 0
    · simp [dec0, h0]
    · have := dec_len k (n / 10) (by rw [Nat.pow_succ] at h; omega)
      simp [dec0, h0]; omega
theorem elB : Elem Tryd.prog 23 5 1 1 false (.int .u8 0) := ⟨by kernel_rfl, by kernel_rfl, by kernel_rfl, by kernel_rfl, by kernel_rfl, rfl, by decide⟩
theorem nums_u8 (bs : List UInt8) : Nums (bs.map u8) := fun x hx => by obtain ⟨b, _, rfl⟩ := List.mem_map.1 hx; exact ⟨_, _, rfl⟩
theorem conv_hnd {S : St} {n l : Nat} (bs : List UInt8) (h : S.cells n = some (bs.map u8)) (hl : l = bs.length) : convertA Tryd.prog S 23 9 (.hnd n 0 l 1) = some (.str bs) := by
  show ((S.cells n).bind fun cs => if 1 = 1 ∧ 0 + l ≤ cs.length then (bytesOfA ((cs.drop 0).take l)).map AV.str else none) = _
  subst hl
  rw [h]
  simp only [Option.bind_some, List.drop_zero]
  rw [if_pos ⟨trivial, by simp⟩, List.take_of_length_le (by simp), bytesOfA_u8]
  rfl
end Go.Proofs.YtmkmakokgfigoaaDoor
namespace Go.Proofs.YtmkmakokgfigoaaDoor
open Go.Proofs.YtmkmakokgfigoaaDoor.VM Go.RowKit
set_option maxRecDepth 100000
set_option linter.unusedVariables false
set_option maxHeartbeats 2000000
theorem conv_u8 (bs : List UInt8) (t : Tip) (S : St) : convertA Tryd.prog S 23 9 (.lst (bs.map u8) t) = some (.str bs) := by
  have : convertA Tryd.prog S 23 9 (.lst (bs.map u8) t) = (bytesOfA (bs.map u8)).map AV.str := rfl
  rw [this, bytesOfA_u8]; rfl
end Go.Proofs.YtmkmakokgfigoaaDoor
namespace Go.Proofs.YtmkmakokgfigoaaDoor
open Go.Proofs.YtmkmakokgfigoaaDoor.VM Go.RowKit
set_option maxRecDepth 100000
set_option linter.unusedVariables false
set_option maxHeartbeats 2000000
def isD (c : UInt8) : Bool := decide (48 ≤ c.toNat ∧ c.toNat ≤ 57)
/-- A text is a number's digits. -/
def rightS (s : List UInt8) : Bool := decide (1 ≤ s.length) && decide (s.length ≤ 800) && !(decide (s.getD 0 0 = 48) && decide (1 < s.length)) && s.all isD
theorem isD_no {c : UInt8} (h : c.toNat < 48 ∨ 57 < c.toNat) : isD c = false := decide_eq_false (by omega)
theorem isD_yes {c : UInt8} (h : 48 ≤ c.toNat) (h2 : c.toNat ≤ 57) : isD c = true := decide_eq_true ⟨h, h2⟩
theorem all_step (s : List UInt8) (i : Nat) (h : i < s.length) : (s.drop i).all isD = (isD (s.getD i 0) && (s.drop (i + 1)).all isD) := by
  rw [List.drop_eq_getElem_cons h, List.all_cons, List.getD_eq_getElem?_getD, List.getElem?_eq_getElem h]
  rfl
theorem getd {l : List UInt8} {i : Nat} (h : i < l.length) : l[i]? = some (l.getD i 0) := by simp [List.getD, h]
/-- How two texts stand, by length and then by bytes. -/
def ordS (a b : List UInt8) : Int := if a.length = b.length then Lib.compareBytes a b else if a.length < b.length then -1 else 1
end Go.Proofs.YtmkmakokgfigoaaDoor
namespace Go.Proofs.YtmkmakokgfigoaaDoor
open Go.Proofs.YtmkmakokgfigoaaDoor.VM Go.RowKit
set_option maxRecDepth 100000
set_option linter.unusedVariables false
set_option maxHeartbeats 2000000
theorem cmp_self : ∀ a : List UInt8, Lib.compareBytes a a = 0
  | [] => rfl
  | x :: a => by unfold Lib.compareBytes; rw [if_neg (UInt8.lt_irrefl x), if_neg (UInt8.lt_irrefl x)]; exact cmp_self a
theorem cmp_zero : ∀ {a b : List UInt8}, Lib.compareBytes a b = 0 → a = b
  | [], [], _ => rfl
  | [], _ :: _, h => by cases h
  | _ :: _, [], h => by cases h
  | x :: a, y :: b, h => by
    unfold Lib.compareBytes at h
    split at h
    · cases h
    split at h
    · cases h
    · rename_i h1 h2
      have e : x = y := UInt8.le_antisymm (UInt8.not_lt.1 h2) (UInt8.not_lt.1 h1)
      rw [e, cmp_zero h]
theorem cmp_val : ∀ (a b : List UInt8), Lib.compareBytes a b = -1 ∨ Lib.compareBytes a b = 0 ∨ Lib.compareBytes a b = 1
  | [], [] => .inr (.inl rfl)
  | [], _ :: _ => .inl rfl
  | _ :: _, [] => .inr (.inr rfl)
  | x :: a, y :: b => by
    unfold Lib.compareBytes
    split
    · exact .inl rfl
    split
    · exact .inr (.inr rfl)
    · exact cmp_val a b
theorem less_cmp : ∀ (a b : List UInt8), Op.bytesLess a b = decide (Lib.compareBytes a b = -1)
  | [], [] => rfl
  | [], _ :: _ => rfl
  | _ :: _, [] => rfl
  | x :: a, y :: b => by
    unfold Op.bytesLess Lib.compareBytes
    by_cases h1 : x < y
    · simp [h1]
    · by_cases h2 : y < x
      · have : x ≠ y := fun e => h1 (by rw [e] at h2; exact absurd h2 (UInt8.lt_irrefl _))
        simp [h1, h2, this]
      · have e : x = y := UInt8.le_antisymm (UInt8.not_lt.1 h2) (UInt8.not_lt.1 h1)
        simp [e, less_cmp a b]
end Go.Proofs.YtmkmakokgfigoaaDoor
namespace Go.Proofs.YtmkmakokgfigoaaDoor
open Go.Proofs.YtmkmakokgfigoaaDoor.VM Go.RowKit
set_option maxRecDepth 100000
set_option linter.unusedVariables false
set_option maxHeartbeats 2000000
theorem set_at (c : UInt8) : setL[c.toNat]? = some (.bool (isD c)) := by
  unfold setL
  rw [List.getElem?_map, List.getElem?_range (by have := c.toNat_lt; omega)]
  rfl
theorem t77 (h : Bool) (c : UInt8) (p : Nat) (S : St) (hp : S.cells p = some setL) : CallQ Tryd.prog (NC h) 77 [.ptr p 0, u8 c] S fun r S1 => S1 = S ∧ r = .bool (isD c) := by
  have hlt := c.toNat_lt
  refine CallQ.of rfl (by kernel_rfl : Tryd.prog.funcs[77]? = some Tryd.f77) rfl (by decide) ?_
  conv => whnf
  refine ⟨by omega, by simp; omega, ?_⟩
  conv => whnf
  refine ⟨_, hp, partF_of (v := .bool (isD c)) ?_ ?_⟩
  · show setL[0 + ((c.toNat : Nat) : Int).toNat * 1]? = _
    rw [show 0 + ((c.toNat : Nat) : Int).toNat * 1 = c.toNat by simp]
    exact set_at c
  conv => whnf
  exact ⟨rfl, rfl⟩
theorem und9 : Tryd.prog.underlying 9 = some .string := by kernel_rfl
theorem str_from (s : List UInt8) (i : Nat) (hi : i ≤ s.length) (b : Int) (hb : b = i) : sliceA Tryd.prog 9 (.str s) (some (.int .i64 b)) none none = some (.str (s.drop i)) := by
  subst hb
  unfold sliceA
  simp only [und9, Option.isSome_none, Bool.false_eq_true, if_false, boundA, Option.bind_some]
  rw [if_pos ⟨by omega, by omega⟩]
  simp only [Option.bind_some, Int.toNat_natCast, List.take_length]
theorem str_to (s : List UInt8) (i : Nat) (hi : i ≤ s.length) (b : Int) (hb : b = i) : sliceA Tryd.prog 9 (.str s) none (some (.int .i64 b)) none = some (.str (s.take i)) := by
  subst hb
  unfold sliceA
  simp only [und9, Option.isSome_none, Bool.false_eq_true, if_false, boundA]
  rw [if_pos ⟨by omega, by omega⟩]
  simp only [Option.bind_some, Int.toNat_natCast, List.drop_zero]
theorem t66 (h : Bool) (s : List UInt8) (p : Nat) (S : St) (hp : S.cells p = some setL) : CallQ Tryd.prog (NC h) 66 [.str s, .ptr p 0] S fun r S1 => S1 = S ∧ r = .str (s.dropWhile isD) := by
  refine CallQ.of rfl (by kernel_rfl : Tryd.prog.funcs[66]? = some Tryd.f66) rfl (by decide) ?_
  conv => whnf
  refine CodeQ.loop (fun (x : List UInt8) => pat 16 [(0, .str x), (1, .ptr p 0)]) (fun m x S1 => S1 = S ∧ m = x.length ∧ s.dropWhile isD = x.dropWhile isD) ?_ _ s _ _ ⟨rfl, rfl, rfl⟩ ⟨rfl, rfl, trivial⟩
  rintro m x S1 d ⟨rfl, hm, ha⟩
  dsimp only at *
  conv => whnf
  refine br (fun h5 => ?_) (fun h5 => ?_)
  rotate_left
  · have h5 : x = [] := List.length_eq_zero_iff.1 (by omega)
    subst h5
    conv => whnf
    exact ⟨rfl, by rw [ha]; rfl⟩
  obtain ⟨c, x, rfl⟩ : ∃ c t, x = c :: t := by cases x with | nil => simp at h5 | cons c t => exact ⟨c, t, rfl⟩
  conv => whnf
  refine ⟨by decide, c, rfl, ?_⟩
  conv => whnf
  refine CallQ.mono (t77 h c p S1 hp) ?_
  rintro r S2 ⟨rfl, rfl⟩
  rw [List.dropWhile_cons] at ha
  cases hd : isD c
  · rw [hd] at ha
    conv => whnf
    exact ⟨rfl, by rw [ha]; rfl⟩
  rw [hd] at ha
  conv => whnf
  refine ⟨_, str_from (c :: x) 1 (by simp) 1 rfl, ?_⟩
  conv => whnf
  exact ⟨x.length, x, by simp at hm; omega, ⟨rfl, rfl, ha⟩, ⟨rfl, rfl, trivial⟩⟩
/-- Without what stands behind. -/
def trimR (s : List UInt8) : List UInt8 := (s.reverse.dropWhile isD).reverse
theorem t67 (h : Bool) (s : List UInt8) (hl : s.length ≤ 2 ^ 47) (p : Nat) (S : St) (hp : S.cells p = some setL) : CallQ Tryd.prog (NC h) 67 [.str s, .ptr p 0] S fun r S1 => S1 = S ∧ r = .str (trimR s) := by
  refine CallQ.of rfl (by kernel_rfl : Tryd.prog.funcs[67]? = some Tryd.f67) rfl (by decide) ?_
  conv => whnf
  refine CodeQ.loop (fun (x : List UInt8) => pat 22 [(0, .str x), (1, .ptr p 0)]) (fun m x S1 => S1 = S ∧ m = x.length ∧ x.length ≤ 2 ^ 47 ∧ trimR s = trimR x) ?_ _ s _ _ ⟨rfl, rfl, hl, rfl⟩ ⟨rfl, rfl, trivial⟩
  rintro m x S1 d ⟨rfl, hm, hx, ha⟩
  dsimp only at *
  conv => whnf
  refine br (fun h5 => ?_) (fun h5 => ?_)
  rotate_left
  · have h5 : x = [] := List.length_eq_zero_iff.1 (by omega)
    subst h5
    conv => whnf
    exact ⟨rfl, by rw [ha]; rfl⟩
  obtain ⟨x, c, rfl⟩ : ∃ t c, x = t ++ [c] := ⟨x.dropLast, x.getLast (by intro q; subst q; simp at h5), (List.dropLast_concat_getLast _).symm⟩
  have hlen : (x ++ [c]).length = x.length + 1 := by simp
  conv => whnf
  rw [wrap_i64 (by omega) (by omega)]
  refine ⟨by omega, c, ?_, ?_⟩
  · rw [show (((x ++ [c]).length : Int) - 1).toNat = x.length by omega]; simp
  conv => whnf
  refine CallQ.mono (t77 h c p S1 hp) ?_
  rintro r S2 ⟨rfl, rfl⟩
  have ht : trimR (x ++ [c]) = if isD c = true then trimR x else x ++ [c] := by
    unfold trimR
    rw [List.reverse_append, List.reverse_singleton, List.singleton_append, List.dropWhile_cons]
    split
    · rfl
    · simp
  rw [ht] at ha
  cases hd : isD c
  · rw [hd] at ha
    conv => whnf
    exact ⟨rfl, by rw [ha]; rfl⟩
  rw [hd] at ha
  conv => whnf
  refine ⟨_, str_to (x ++ [c]) x.length (by simp) _ (by rw [wrap_i64 (by omega) (by omega)]; omega), ?_⟩
  rw [List.take_left]
  conv => whnf
  exact ⟨x.length, x, by omega, ⟨rfl, rfl, by omega, ha⟩, ⟨rfl, rfl, trivial⟩⟩
end Go.Proofs.YtmkmakokgfigoaaDoor
namespace Go.Proofs.YtmkmakokgfigoaaDoor
open Go.Proofs.YtmkmakokgfigoaaDoor.VM Go.RowKit
set_option maxRecDepth 100000
set_option linter.unusedVariables false
set_option maxHeartbeats 2000000
def trimS (s : List UInt8) : List UInt8 := (trimR s).dropWhile isD
theorem trim_len (s : List UInt8) : (trimR s).length ≤ s.length := by
  unfold trimR
  have := (List.dropWhile_suffix (l := s.reverse) isD).length_le
  simp at this ⊢
  exact this
theorem t59 (h : Bool) (s : List UInt8) (hl : s.length ≤ 2 ^ 47) (S : St) : CallQ Tryd.prog (NC h) 59 [.str s, .str digs10] S fun r S1 => Keep S S1 ∧ r = .str (trimS s) := by
  refine CallQ.of rfl (by kernel_rfl : Tryd.prog.funcs[59]? = some Tryd.f59) rfl (by decide) ?_
  conv => whnf
  refine brSEq (fun h0 => ?_) (fun h0 => ?_)
  · have h0 : s = [] := h0
    subst h0
    conv => whnf
    exact ⟨.refl _, rfl⟩
  conv => whnf
  refine brSEq (fun h1 => absurd h1 (by decide)) (fun _ => ?_)
  conv => whnf
  refine brEq (fun h1 => absurd h1 (by decide)) (fun _ => ?_)
  conv => whnf
  refine CallQ.intr (g := setG) rfl rfl ?_
  conv => whnf
  refine ⟨_, _, cells_new _ _, store_agg rfl rfl rfl, ?_⟩
  conv => whnf
  generalize hS1 : (S.new _).set _ _ = S1
  have k1 : Keep S S1 := by rw [← hS1]; exact ((Keep.refl S).new _).set _ _ (Nat.le_refl _)
  have c1 : S1.cells S.next = some setL := by rw [← hS1, cells_set]
  clear hS1
  refine CallQ.mono (t67 h s hl S.next S1 c1) ?_
  rintro r S2 ⟨rfl, rfl⟩
  conv => whnf
  refine CallQ.mono (t66 h (trimR s) S.next S2 c1) ?_
  rintro r S3 ⟨rfl, rfl⟩
  conv => whnf
  exact ⟨k1, rfl⟩
theorem dropW_nil {p : UInt8 → Bool} : ∀ {l : List UInt8}, l.dropWhile p = [] ↔ ∀ x ∈ l, p x = true
  | [] => by simp
  | x :: l => by
    rw [List.dropWhile_cons]
    split
    · rename_i h; rw [dropW_nil]; simp [h]
    · rename_i h
      constructor
      · intro q; cases q
      · intro q; exact absurd (q x (by simp)) h
theorem trim_all (s : List UInt8) : (trimS s = []) = (s.all isD = true) := by
  unfold trimS trimR
  apply propext
  constructor
  · intro h
    rw [dropW_nil] at h
    rw [List.all_eq_true]
    intro x hx
    by_cases q : x ∈ (s.reverse.dropWhile isD).reverse
    · exact h x q
    · have e := List.takeWhile_append_dropWhile (p := isD) (l := s.reverse)
      have hx2 : x ∈ s.reverse := List.mem_reverse.2 hx
      rw [← e] at hx2
      rcases List.mem_append.1 hx2 with q2 | q2
      · exact List.all_eq_true.1 List.all_takeWhile x q2
      · exact absurd (List.mem_reverse.2 q2) q
  · intro h
    have h2 : s.reverse.dropWhile isD = [] := by
      rw [dropW_nil]
      intro x hx
      exact List.all_eq_true.1 h x (List.mem_reverse.1 hx)
    rw [h2]; rfl
theorem t54 (h : Bool) (s : List UInt8) (hl : s.length ≤ 2 ^ 47) (S : St) : CallQ Tryd.prog (NC h) 54 [.str s] S fun r S1 => Keep S S1 ∧ r = .bool (rightS s) := by
  refine CallQ.of rfl (by kernel_rfl : Tryd.prog.funcs[54]? = some Tryd.f54) rfl (by decide) ?_
  conv => whnf
  refine brSEq (fun h0 => ?_) (fun h0 => ?_)
  · have h0 : s = [] := h0
    subst h0
    conv => whnf
    exact ⟨.refl _, rfl⟩
  have h0 : 0 < s.length := List.length_pos_iff.2 (fun q => h0 q)
  conv => whnf
  refine br (fun h1 => ?_) (fun h1 => ?_)
  · have h1 : ¬ s.length ≤ 800 := by omega
    conv => whnf
    exact ⟨.refl _, by show AV.bool false = AV.bool _; unfold rightS; simp [h1]⟩
  have h1 : s.length ≤ 800 := by omega
  conv => whnf
  refine ⟨by decide, s.getD 0 0, getd h0, ?_⟩
  have hlp : s.getD 0 0 = 48 ∧ 1 < s.length ∨ rightS s = s.all isD := by
    by_cases q : s.getD 0 0 = 48 ∧ 1 < s.length
    · exact .inl q
    · right
      unfold rightS
      have : (decide (s.getD 0 0 = 48) && decide (1 < s.length)) = false := by simpa using q
      rw [this]
      simp [h1]; omega
  conv => whnf
  refine brEq (fun h2 => ?_) (fun h2 => ?_)
  · have h2 : s.getD 0 0 = 48 := UInt8.toNat_inj.1 (show (s.getD 0 0).toNat = (48 : UInt8).toNat by have : (48 : UInt8).toNat = 48 := rfl; omega)
    conv => whnf
    refine brSNe (fun h3 => ?_) (fun h3 => ?_)
    · have h3 : s ≠ [48] := h3
      have h4 : 1 < s.length := by
        match s, h0, h2, h3 with
        | [c], _, h2, h3 => exact absurd (by simpa using h2) h3
        | _ :: _ :: _, _, _, _ => simp
      conv => whnf
      exact ⟨.refl _, by show AV.bool false = AV.bool _; unfold rightS; rw [decide_eq_true h2, decide_eq_true h4]; simp⟩
    have h3 : s = [48] := h3
    have hr : rightS s = s.all isD := hlp.resolve_left fun q => by rw [h3] at q; exact absurd q.2 (by decide)
    rw [hr]
    conv => whnf
    refine CallQ.mono (t59 h s hl S) ?_
    rintro r S1 ⟨k1, rfl⟩
    conv => whnf
    refine brSEq (fun h3 => ?_) (fun h3 => ?_)
    · have h3 : trimS s = [] := h3
      conv => whnf
      exact ⟨k1, by rw [trim_all] at h3; rw [h3]; rfl⟩
    · have h3 : ¬ trimS s = [] := h3
      conv => whnf
      exact ⟨k1, by rw [trim_all] at h3; rw [Bool.not_eq_true] at h3; rw [h3]; rfl⟩
  have h2 : s.getD 0 0 ≠ 48 := fun q => h2 (by rw [q]; rfl)
  have hr : rightS s = s.all isD := hlp.resolve_left fun q => h2 q.1
  rw [hr]
  conv => whnf
  refine CallQ.mono (t59 h s hl S) ?_
  rintro r S1 ⟨k1, rfl⟩
  conv => whnf
  refine brSEq (fun h3 => ?_) (fun h3 => ?_)
  · have h3 : trimS s = [] := h3
    conv => whnf
    exact ⟨k1, by rw [trim_all] at h3; rw [h3]; rfl⟩
  · have h3 : ¬ trimS s = [] := h3
    conv => whnf
    exact ⟨k1, by rw [trim_all] at h3; rw [Bool.not_eq_true] at h3; rw [h3]; rfl⟩
end Go.Proofs.YtmkmakokgfigoaaDoor
namespace Go.Proofs.YtmkmakokgfigoaaDoor
open Go.Proofs.YtmkmakokgfigoaaDoor.VM Go.RowKit
set_option maxRecDepth 100000
set_option linter.unusedVariables false
set_option maxHeartbeats 4000000
def is0 (c : UInt8) : Bool := c == 48
/-- Without zeros ahead, and behind. -/
def tl0 (s : List UInt8) : List UInt8 := s.dropWhile is0
def tr0 (s : List UInt8) : List UInt8 := (s.reverse.dropWhile is0).reverse
theorem is0_of {c : UInt8} (h : (c.toNat : Int) = 48) : is0 c = true := by
  have : c = 48 := UInt8.toNat_inj.1 (show c.toNat = (48 : UInt8).toNat by have : (48 : UInt8).toNat = 48 := rfl; omega)
  rw [this]; rfl
theorem is0_not {c : UInt8} (h : (c.toNat : Int) ≠ 48) : is0 c = false := by
  unfold is0
  have : c ≠ 48 := fun q => h (by rw [q]; rfl)
  simpa using this
theorem t63 (h : Bool) (s : List UInt8) (S : St) : CallQ Tryd.prog (NC h) 63 [.str s, .int .u8 48] S fun r S1 => S1 = S ∧ r = .str (tl0 s) := by
  refine CallQ.of rfl (by kernel_rfl : Tryd.prog.funcs[63]? = some Tryd.f63) rfl (by decide) ?_
  conv => whnf
  refine CodeQ.loop (fun (x : List UInt8) => pat 17 [(0, .str x), (1, .int .u8 48)]) (fun m x S1 => S1 = S ∧ m = x.length ∧ tl0 s = tl0 x) ?_ _ s _ _ ⟨rfl, rfl, rfl⟩ ⟨rfl, rfl, trivial⟩
  rintro m x S1 d ⟨rfl, hm, ha⟩
  dsimp only at *
  conv => whnf
  refine br (fun h5 => ?_) (fun h5 => ?_)
  rotate_left
  · have h5 : x = [] := List.length_eq_zero_iff.1 (by omega)
    subst h5
    conv => whnf
    exact ⟨rfl, by rw [ha]; rfl⟩
  obtain ⟨c, x, rfl⟩ : ∃ c t, x = c :: t := by cases x with | nil => simp at h5 | cons c t => exact ⟨c, t, rfl⟩
  conv => whnf
  refine ⟨by decide, c, rfl, ?_⟩
  have hst : tl0 (c :: x) = if is0 c = true then tl0 x else c :: x := by unfold tl0; rw [List.dropWhile_cons]
  rw [hst] at ha
  conv => whnf
  refine brEq (fun h6 => ?_) (fun h6 => ?_)
  · rw [if_pos (is0_of h6)] at ha
    conv => whnf
    refine ⟨_, str_from (c :: x) 1 (by simp) 1 rfl, ?_⟩
    conv => whnf
    exact ⟨x.length, x, by simp at hm; omega, ⟨rfl, rfl, ha⟩, ⟨rfl, rfl, trivial⟩⟩
  · rw [if_neg (by rw [is0_not h6]; decide)] at ha
    conv => whnf
    exact ⟨rfl, by rw [ha]; rfl⟩
theorem t64 (h : Bool) (s : List UInt8) (hl : s.length ≤ 2 ^ 47) (S : St) : CallQ Tryd.prog (NC h) 64 [.str s, .int .u8 48] S fun r S1 => S1 = S ∧ r = .str (tr0 s) := by
  refine CallQ.of rfl (by kernel_rfl : Tryd.prog.funcs[64]? = some Tryd.f64) rfl (by decide) ?_
  conv => whnf
  refine CodeQ.loop (fun (x : List UInt8) => pat 23 [(0, .str x), (1, .int .u8 48)]) (fun m x S1 => S1 = S ∧ m = x.length ∧ x.length ≤ 2 ^ 47 ∧ tr0 s = tr0 x) ?_ _ s _ _ ⟨rfl, rfl, hl, rfl⟩ ⟨rfl, rfl, trivial⟩
  rintro m x S1 d ⟨rfl, hm, hx, ha⟩
  dsimp only at *
  conv => whnf
  refine br (fun h5 => ?_) (fun h5 => ?_)
  rotate_left
  · have h5 : x = [] := List.length_eq_zero_iff.1 (by omega)
    subst h5
    conv => whnf
    exact ⟨rfl, by rw [ha]; rfl⟩
  obtain ⟨x, c, rfl⟩ : ∃ t c, x = t ++ [c] := ⟨x.dropLast, x.getLast (by intro q; subst q; simp at h5), (List.dropLast_concat_getLast _).symm⟩
  have hlen : (x ++ [c]).length = x.length + 1 := by simp
  have w0 : IntKind.i64.wrap (((x ++ [c]).length : Int) - 1) = (x.length : Int) := by rw [wrap_i64 (by omega) (by omega)]; omega
  have hst : tr0 (x ++ [c]) = if is0 c = true then tr0 x else x ++ [c] := by
    unfold tr0
    rw [List.reverse_append, List.reverse_singleton, List.singleton_append, List.dropWhile_cons]
    split
    · rfl
    · simp
  rw [hst] at ha
  conv => whnf
  rw [w0]
  refine ⟨by omega, c, by simp, ?_⟩
  conv => whnf
  refine brEq (fun h6 => ?_) (fun h6 => ?_)
  · rw [if_pos (is0_of h6)] at ha
    conv => whnf
    refine ⟨_, str_to (x ++ [c]) x.length (by simp) _ w0, ?_⟩
    rw [List.take_left]
    conv => whnf
    exact ⟨x.length, x, by omega, ⟨rfl, rfl, by omega, ha⟩, ⟨rfl, rfl, trivial⟩⟩
  · rw [if_neg (by rw [is0_not h6]; decide)] at ha
    conv => whnf
    exact ⟨rfl, by rw [ha]; rfl⟩
/-- Does a text end with a zero? -/
def ends0 (s : List UInt8) : Bool := match s.getLast? with
  | some c => is0 c
  | none => false
theorem ends_snoc (x : List UInt8) (c : UInt8) : ends0 (x ++ [c]) = is0 c := by unfold ends0; simp
theorem t76 (h : Bool) (s : List UInt8) (hl : s.length ≤ 2 ^ 47) (S : St) : CallQ Tryd.prog (NC h) 76 [.str s, .str [48]] S fun r S1 => S1 = S ∧ r = .bool (ends0 s) := by
  refine CallQ.of rfl (by kernel_rfl : Tryd.prog.funcs[76]? = some Tryd.f76) rfl (by decide) ?_
  conv => whnf
  refine br (fun h0 => ?_) (fun h0 => ?_)
  rotate_left
  · obtain rfl : s = [] := List.length_eq_zero_iff.1 (by simp at h0; omega)
    conv => whnf
    exact ⟨rfl, rfl⟩
  obtain ⟨x, c, rfl⟩ : ∃ t c, s = t ++ [c] := ⟨s.dropLast, s.getLast (by intro q; subst q; simp at h0), (List.dropLast_concat_getLast _).symm⟩
  have hlen : (x ++ [c]).length = x.length + 1 := by simp
  have w0 : IntKind.i64.wrap (((x ++ [c]).length : Int) - (([48] : List UInt8).length : Int)) = (x.length : Int) := by
    rw [show (([48] : List UInt8).length : Int) = 1 from rfl, wrap_i64 (by omega) (by omega)]; omega
  rw [ends_snoc]
  conv => whnf
  refine ⟨_, str_from (x ++ [c]) x.length (by simp) _ w0, ?_⟩
  rw [List.drop_left]
  conv => whnf
  refine brSEq (fun q => ?_) (fun q => ?_)
  · have : c = 48 := by simpa using q
    subst this
    conv => whnf
    exact ⟨rfl, rfl⟩
  · have hc : is0 c = false := by
      unfold is0
      have : c ≠ 48 := fun e => q (by rw [e])
      simpa using this
    rw [hc]
    conv => whnf
    exact ⟨rfl, rfl⟩
theorem t61 (h : Bool) (s : List UInt8) (hl : s.length ≤ 2 ^ 47) (S : St) : CallQ Tryd.prog (NC h) 61 [.str s, .str [48]] S fun r S1 => S1 = S ∧ r = .bool (ends0 s) := by
  refine CallQ.of rfl (by kernel_rfl : Tryd.prog.funcs[61]? = some Tryd.f61) rfl (by decide) ?_
  conv => whnf
  refine CallQ.mono (t76 h s hl S) ?_
  rintro r S1 ⟨rfl, rfl⟩
  conv => whnf
  exact ⟨rfl, rfl⟩
/-- A number as it stands. -/
def numV (neg : Bool) (ds : List UInt8) (e : Int) : AV := .agg [.bool neg, .str ds, .int .i64 e]
/-- Which numbers may be. -/
def rightN (neg : Bool) (ds : List UInt8) (e : Int) : Bool := rightS ds && (if ds = [48] then !neg && decide (e = 0) else !ends0 ds && decide (-2000 ≤ e) && decide (e ≤ 2000))
theorem eqNum0 (neg : Bool) (e : Int) : eqF Tryd.prog 65 (.agg [.bool neg, .str [48], .int .i64 e]) (.agg [ofLeaf (Value.bool false), AV.str ({ data := #[48] } : ByteArray).data.toList, ofLeaf (Value.int IntKind.i64 0)]) = some ((neg == false) && ((([48] : List UInt8) == [48]) && ((e == 0) && true))) := by kernel_rfl
theorem eqNum1 (neg : Bool) (e : Int) : ((neg == false) && ((([48] : List UInt8) == [48]) && ((e == 0) && true))) = (true && (!neg && decide (e = 0))) := by
  cases neg
  · by_cases h : e = 0
    · subst h; rfl
    · have : (e == 0) = false := by simpa using h
      rw [this, decide_eq_false h]; rfl
  · rfl
theorem t56 (h : Bool) (neg : Bool) (ds : List UInt8) (e : Int) (hl : ds.length ≤ 2 ^ 47) (S : St) : CallQ Tryd.prog (NC h) 56 [numV neg ds e] S fun r S1 => Keep S S1 ∧ r = .bool (rightN neg ds e) := by
  unfold rightN
  refine CallQ.of rfl (by kernel_rfl : Tryd.prog.funcs[56]? = some Tryd.f56) rfl (by decide) ?_
  conv => whnf
  refine CallQ.mono (t54 h ds hl S) ?_
  rintro r S1 ⟨k1, rfl⟩
  cases hr : rightS ds
  · conv => whnf
    exact ⟨k1, rfl⟩
  conv => whnf
  refine brSEq (fun h1 => ?_) (fun h1 => ?_)
  · have h1 : ds = [48] := h1
    subst h1
    rw [if_pos rfl]
    conv => whnf
    rw [eqNum0]
    conv => whnf
    rintro c rfl
    conv => whnf
    refine ⟨k1, ?_⟩
    show AV.bool _ = AV.bool _
    rw [eqNum1]
  have h1 : ds ≠ [48] := h1
  rw [if_neg h1]
  conv => whnf
  refine CallQ.mono (t61 h ds hl S1) ?_
  rintro r S2 ⟨rfl, rfl⟩
  cases ends0 ds
  rotate_left
  · conv => whnf
    exact ⟨k1, rfl⟩
  conv => whnf
  refine br (fun h2 => ?_) (fun h2 => ?_)
  rotate_left
  · conv => whnf
    exact ⟨k1, by show AV.bool false = _; rw [decide_eq_false (by omega)]; rfl⟩
  conv => whnf
  refine br (fun h3 => ?_) (fun h3 => ?_)
  · conv => whnf
    exact ⟨k1, by show AV.bool true = _; rw [decide_eq_true (by omega), decide_eq_true (by omega)]; rfl⟩
  · conv => whnf
    exact ⟨k1, by show AV.bool false = _; rw [decide_eq_true (show -2000 ≤ e by omega), decide_eq_false (by omega)]; rfl⟩
end Go.Proofs.YtmkmakokgfigoaaDoor
