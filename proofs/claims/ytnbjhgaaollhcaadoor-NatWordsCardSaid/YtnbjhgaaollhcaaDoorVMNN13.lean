import Derived.Test.YtnbjhgaaollhcaaDoorVMNN9
namespace Go.Proofs.YtnbjhgaaollhcaaDoor
open Go.Proofs.YtnbjhgaaollhcaaDoor.VM Go.RowKit
set_option maxRecDepth 100000
set_option linter.unusedVariables false
set_option maxHeartbeats 2000000
/-- A text's number, in 64 bits. -/
def wstep (n : Nat) (c : UInt8) : Nat := (n * 10 + (c.toNat - 48)) % 2 ^ 64
def wval (s : List UInt8) : Nat := s.foldl wstep 0
def maxD : List UInt8 := [49, 56, 52, 52, 54, 55, 52, 52, 48, 55, 51, 55, 48, 57, 53, 53, 49, 54, 49, 53]
def wordV (s : List UInt8) : AV := if rightS s = true ∧ ¬ ordS s maxD > 0 then .tuple [.int .u64 (wval s), .bool true] else .tuple [.int .u64 0, .bool false]
theorem wrap_mod (x : Int) : IntKind.u64.wrap x = x % 18446744073709551616 := by simp [IntKind.wrap, IntKind.bits, IntKind.signed]
theorem word_step (n : Nat) (c : UInt8) (h : 48 ≤ c.toNat) (h2 : c.toNat ≤ 57) : IntKind.u64.wrap (IntKind.u64.wrap ((n : Int) * 10) + IntKind.u64.wrap (IntKind.u8.wrap ((c.toNat : Int) - 48))) = ((wstep n c : Nat) : Int) := by
  rw [wrap_u8 (by omega) (by omega), wrap_mod, wrap_mod, wrap_mod]
  unfold wstep
  omega
theorem right_all {s : List UInt8} (h : rightS s = true) : s.length ≤ 800 ∧ ∀ c ∈ s, 48 ≤ c.toNat ∧ c.toNat ≤ 57 := by
  unfold rightS at h
  simp only [Bool.and_eq_true, decide_eq_true_eq] at h
  exact ⟨h.1.1.2, fun c hc => of_decide_eq_true (List.all_eq_true.1 h.2 c hc)⟩
theorem t22 (h : Bool) (s : List UInt8) (hl : s.length ≤ 2 ^ 47) (S : St) : CallQ Tryd.prog (NC h) 22 [.str s] S fun r S1 => S1 = S ∧ r = wordV s := by
  refine CallQ.of rfl (by kernel_rfl : Tryd.prog.funcs[22]? = some Tryd.f22) rfl (by decide) ?_
  conv => whnf
  refine CallQ.mono (t34 h s S) ?_
  rintro r S1 ⟨rfl, rfl⟩
  cases hr : rightS s
  · conv => whnf
    exact ⟨rfl, by unfold wordV; rw [if_neg (fun q => by rw [hr] at q; cases q.1)]; rfl⟩
  conv => whnf
  refine CallQ.mono (t49 h s maxD hl (by decide) S1) ?_
  rintro r S2 ⟨rfl, rfl⟩
  conv => whnf
  refine br (fun h1 => ?_) (fun h1 => ?_)
  · conv => whnf
    exact ⟨rfl, by unfold wordV; rw [if_neg (fun q => q.2 h1)]; rfl⟩
  have hv : wordV s = .tuple [.int .u64 (wval s), .bool true] := by unfold wordV; rw [if_pos ⟨hr, h1⟩]
  rw [hv]
  obtain ⟨hlen, hd⟩ := right_all hr
  conv => whnf
  refine CodeQ.loop (fun (i : Nat) => pat 29 [(0, .str s), (4, .int .u64 (wval (s.take i))), (5, .int .i64 i)]) (fun m i S1 => S1 = S2 ∧ i ≤ s.length ∧ m = s.length - i) ?_ _ 0 _ _ ⟨rfl, Nat.zero_le _, rfl⟩ ⟨rfl, rfl, rfl, trivial⟩
  rintro m i S1 d ⟨rfl, hi, hm⟩
  dsimp only at *
  conv => whnf
  refine br (fun h5 => ?_) (fun h5 => ?_)
  rotate_left
  · have h5 : i = s.length := by omega
    subst h5
    conv => whnf
    exact ⟨rfl, by rw [List.take_length]; rfl⟩
  have h5 : i < s.length := by omega
  have hc := hd (s.getD i 0) (by rw [List.getD_eq_getElem?_getD, List.getElem?_eq_getElem h5]; exact List.getElem_mem h5)
  have hstep : wval (s.take (i + 1)) = wstep (wval (s.take i)) (s.getD i 0) := by
    unfold wval
    rw [List.take_succ_eq_append_getElem h5, List.foldl_append, List.getD_eq_getElem?_getD, List.getElem?_eq_getElem h5]
    rfl
  conv => whnf
  refine ⟨by omega, s.getD i 0, getd h5, ?_⟩
  conv => whnf
  refine ⟨s.length - (i + 1), i + 1, by omega, ⟨rfl, h5, rfl⟩, ⟨rfl, ?_, ?_, trivial⟩⟩
  · rw [word_step _ _ hc.1 hc.2, hstep]
  · rw [wrap_i64 (by omega) (by omega)]; rfl
end Go.Proofs.YtnbjhgaaollhcaaDoor
namespace Go.Proofs.YtnbjhgaaollhcaaDoor
open Go.Proofs.YtnbjhgaaollhcaaDoor.VM Go.RowKit
set_option maxRecDepth 100000
set_option linter.unusedVariables false
set_option maxHeartbeats 2000000
theorem dec_low (s : List UInt8) (p : Nat) (h : p < s.length) (hc : (s.getD p 0).toNat < 128) : Utf8.decode ⟨s.toArray⟩ p = ((s.getD p 0).toNat, 1) := by
  have e : (ByteArray.mk s.toArray).get! p = s.getD p 0 := by
    show s.toArray[p]! = _
    simp [List.getD, h]
  unfold Utf8.decode
  dsimp only
  have e2 : ((ByteArray.mk s.toArray).get! (p + 0)).toNat = (s.getD p 0).toNat := by rw [Nat.add_zero, e]
  rw [if_pos (by rw [e2]; exact hc), e2]
theorem word_step32 (n : Nat) (c : UInt8) (h : 48 ≤ c.toNat) (h2 : c.toNat ≤ 57) : IntKind.u64.wrap (IntKind.u64.wrap ((n : Int) * 10) + IntKind.u64.wrap (IntKind.i32.wrap ((c.toNat : Int) - 48))) = ((wstep n c : Nat) : Int) := by
  have e : IntKind.i32.wrap ((c.toNat : Int) - 48) = (c.toNat : Int) - 48 := by
    simp [IntKind.wrap, IntKind.bits, IntKind.signed]
    split <;> omega
  rw [e, wrap_mod, wrap_mod, wrap_mod]
  unfold wstep
  omega
theorem max_dec : decD 18446744073709551615 = maxD := by decide +kernel
theorem t21 (h : Bool) (s : List UInt8) (hl : s.length ≤ 2 ^ 47) (S : St) : CallQ Tryd.prog (NC h) 21 [.str s] S fun r S1 => Keep S S1 ∧ r = wordV s := by
  refine CallQ.of rfl (by kernel_rfl : Tryd.prog.funcs[21]? = some Tryd.f21) rfl (by decide) ?_
  conv => whnf
  refine CallQ.mono (t33 h s hl S) ?_
  rintro r S1 ⟨k1, rfl⟩
  cases hr : rightS s
  · conv => whnf
    exact ⟨k1, by unfold wordV; rw [if_neg (fun q => by rw [hr] at q; cases q.1)]; rfl⟩
  conv => whnf
  refine CallQ.mono (t23 h 18446744073709551615 (by decide) S1) ?_
  rintro r S2 ⟨rfl, k2⟩
  rw [max_dec]
  conv => whnf
  refine CallQ.mono (t48 h s maxD hl (by decide) S2) ?_
  rintro r S3 ⟨rfl, rfl⟩
  conv => whnf
  refine br (fun h1 => ?_) (fun h1 => ?_)
  · conv => whnf
    exact ⟨k1.trans k2, by unfold wordV; rw [if_neg (fun q => q.2 h1)]; rfl⟩
  have hv : wordV s = .tuple [.int .u64 (wval s), .bool true] := by unfold wordV; rw [if_pos ⟨hr, h1⟩]
  rw [hv]
  obtain ⟨hlen, hd⟩ := right_all hr
  conv => whnf
  have hdn : (S3.new (.iter s 0)).next = S3.next + 1 := rfl
  have k3 : Keep S (S3.new (.iter s 0)) := (k1.trans k2).new _
  have n3 : S.next ≤ S3.next := (k1.trans k2).next
  generalize hS4 : S3.new (.iter s 0) = S4 at *
  have m4 : S4.mem S3.next = some (.iter s 0) := by rw [← hS4]; simp [St.new, upd]
  refine CodeQ.loop (fun (i : Nat) => pat 28 [(4, .int .u64 (wval (s.take i))), (17, .iter S3.next)]) (fun m i S5 => Keep S S5 ∧ S5.mem S3.next = some (.iter s i) ∧ i ≤ s.length ∧ m = s.length - i) ?_ _ 0 _ _ ⟨k3, m4, Nat.zero_le _, rfl⟩ ⟨rfl, rfl, trivial⟩
  rintro m i S5 d ⟨k5, m5, hi, hm⟩
  dsimp only at *
  conv => whnf
  rcases Nat.lt_or_ge i s.length with h5 | h5
  rotate_left
  · obtain rfl : i = s.length := by omega
    refine ⟨_, _, next_end m5 (Nat.le_refl _), ?_⟩
    conv => whnf
    exact ⟨k5, by rw [List.take_length]; rfl⟩
  have hc := hd (s.getD i 0) (by rw [List.getD_eq_getElem?_getD, List.getElem?_eq_getElem h5]; exact List.getElem_mem h5)
  have hstep : wval (s.take (i + 1)) = wstep (wval (s.take i)) (s.getD i 0) := by
    unfold wval
    rw [List.take_succ_eq_append_getElem h5, List.foldl_append, List.getD_eq_getElem?_getD, List.getElem?_eq_getElem h5]
    rfl
  refine ⟨_, _, next_more m5 h5, ?_⟩
  rw [dec_low s i h5 (by omega)]
  conv => whnf
  refine ⟨s.length - (i + 1), i + 1, by omega, ⟨k5.set _ _ n3, by simp [St.set, upd], h5, rfl⟩, ⟨?_, rfl, trivial⟩⟩
  rw [word_step32 _ _ hc.1 hc.2, hstep]
end Go.Proofs.YtnbjhgaaollhcaaDoor
namespace Go.Proofs.YtnbjhgaaollhcaaDoor
open Go.Proofs.YtnbjhgaaollhcaaDoor.VM Go.RowKit
set_option maxRecDepth 100000
set_option linter.unusedVariables false
set_option maxHeartbeats 2000000
/-- A text's number. -/
def vstep (n : Nat) (c : UInt8) : Nat := n * 10 + (c.toNat - 48)
def valD (s : List UInt8) : Nat := s.foldl vstep 0
theorem valD_snoc (s : List UInt8) (c : UInt8) : valD (s ++ [c]) = valD s * 10 + (c.toNat - 48) := by unfold valD; rw [List.foldl_append]; rfl
theorem valD_dec : ∀ n, valD (decD n) = n := by
  intro n
  induction n using Nat.strongRecOn with
  | _ n ih =>
    unfold decD
    split
    · rename_i h
      show 0 * 10 + ((UInt8.ofNat (48 + n)).toNat - 48) = n
      rw [UInt8.toNat_ofNat']; omega
    · rename_i h
      rw [valD_snoc, ih (n / 10) (by omega), UInt8.toNat_ofNat']
      omega
theorem wval_val : ∀ s : List UInt8, wval s = valD s % 2 ^ 64 := by
  have key : ∀ (s : List UInt8) (m : Nat), s.foldl wstep (m % 2 ^ 64) = s.foldl vstep m % 2 ^ 64 := by
    intro s
    induction s with
    | nil => intro m; rfl
    | cons c s ih =>
      intro m
      rw [List.foldl_cons, List.foldl_cons, ← ih (vstep m c)]
      congr 1
      unfold wstep vstep
      omega
  intro s
  exact key s 0
theorem dec_dig : ∀ n, ∀ c ∈ decD n, 48 ≤ c.toNat ∧ c.toNat ≤ 57 := by
  intro n
  induction n using Nat.strongRecOn with
  | _ n ih =>
    intro c hc
    unfold decD at hc
    split at hc
    · rename_i h
      obtain rfl : c = UInt8.ofNat (48 + n) := by simpa using hc
      rw [UInt8.toNat_ofNat']; omega
    · rename_i h
      rcases List.mem_append.1 hc with q | q
      · exact ih (n / 10) (by omega) c q
      · obtain rfl : c = UInt8.ofNat (48 + n % 10) := by simpa using q
        rw [UInt8.toNat_ofNat']; omega
theorem dec_head : ∀ n, decD n ≠ [] ∧ ((decD n).getD 0 0 = 48 → n = 0) := by
  intro n
  induction n using Nat.strongRecOn with
  | _ n ih =>
    unfold decD
    split
    · rename_i h
      refine ⟨by simp, fun q => ?_⟩
      have q : UInt8.ofNat (48 + n) = 48 := q
      have := congrArg UInt8.toNat q
      rw [UInt8.toNat_ofNat'] at this
      have h48 : (48 : UInt8).toNat = 48 := rfl
      omega
    · rename_i h
      obtain ⟨h1, h2⟩ := ih (n / 10) (by omega)
      refine ⟨by simp, fun q => ?_⟩
      have e : (decD (n / 10) ++ [UInt8.ofNat (48 + n % 10)]).getD 0 0 = (decD (n / 10)).getD 0 0 := by
        cases hd : decD (n / 10) with
        | nil => exact absurd hd h1
        | cons a t => rfl
      rw [e] at q
      have := h2 q
      omega
theorem right_dec {n : Nat} (h : n < 2 ^ 64) : rightS (decD n) = true := by
  have hlen := dec_len 19 n (by have : (10 : Nat) ^ 20 = 100000000000000000000 := rfl; omega)
  obtain ⟨h1, h2⟩ := dec_head n
  have h3 : 1 ≤ (decD n).length := List.length_pos_iff.2 h1
  have h4 : (decD n).all isD = true := List.all_eq_true.2 fun c hc => decide_eq_true (dec_dig n c hc)
  unfold rightS
  rw [h4, decide_eq_true h3, decide_eq_true (show (decD n).length ≤ 800 by omega)]
  by_cases q : (decD n).getD 0 0 = 48
  · have := h2 q
    subst this
    have : (decD 0).length = 1 := by unfold decD; rfl
    rw [this]; simp
  · rw [decide_eq_false q]; rfl
/-- Of two texts of one length the one that stands behind is the greater number. -/
theorem cmp_val_gt : ∀ (a b : List UInt8), a.length = b.length → (∀ c ∈ a, 48 ≤ c.toNat ∧ c.toNat ≤ 57) → (∀ c ∈ b, 48 ≤ c.toNat ∧ c.toNat ≤ 57) → Lib.compareBytes a b = 1 → ∀ m, b.foldl vstep m < a.foldl vstep m := by
  have lt : ∀ (a b : List UInt8), a.length = b.length → (∀ c ∈ a, 48 ≤ c.toNat ∧ c.toNat ≤ 57) → (∀ c ∈ b, 48 ≤ c.toNat ∧ c.toNat ≤ 57) → ∀ m k, m < k → b.foldl vstep m < a.foldl vstep k := by
    intro a
    induction a with
    | nil => intro b hl _ _ m k h; cases b with | nil => exact h | cons => cases hl
    | cons x a ih =>
      intro b hl ha hb m k h
      cases b with
      | nil => cases hl
      | cons y b =>
        rw [List.foldl_cons, List.foldl_cons]
        have h1 := ha x (by simp)
        have h2 := hb y (by simp)
        exact ih b (by simpa using hl) (fun c hc => ha c (by simp [hc])) (fun c hc => hb c (by simp [hc])) _ _ (by unfold vstep; omega)
  intro a
  induction a with
  | nil => intro b hl _ _ h; cases b with | nil => cases h | cons => cases hl
  | cons x a ih =>
    intro b hl ha hb h m
    cases b with
    | nil => cases hl
    | cons y b =>
      have h1 := ha x (by simp)
      have h2 := hb y (by simp)
      have ha' : ∀ c ∈ a, 48 ≤ c.toNat ∧ c.toNat ≤ 57 := fun c hc => ha c (by simp [hc])
      have hb' : ∀ c ∈ b, 48 ≤ c.toNat ∧ c.toNat ≤ 57 := fun c hc => hb c (by simp [hc])
      unfold Lib.compareBytes at h
      rw [List.foldl_cons, List.foldl_cons]
      split at h
      · cases h
      split at h
      · rename_i q
        have q : y.toNat < x.toNat := q
        exact lt a b (by simpa using hl) ha' hb' _ _ (by unfold vstep; omega)
      · rename_i q1 q2
        have e : x = y := UInt8.le_antisymm (UInt8.not_lt.1 q2) (UInt8.not_lt.1 q1)
        subst e
        exact ih b (by simpa using hl) ha' hb' h _
theorem ord_dec {n : Nat} (h : n < 2 ^ 64) : ¬ ordS (decD n) maxD > 0 := by
  have hlen := dec_len 19 n (by have : (10 : Nat) ^ 20 = 100000000000000000000 := rfl; omega)
  have hm : maxD.length = 20 := rfl
  unfold ordS
  split
  · rename_i hl
    rcases cmp_val (decD n) maxD with q | q | q
    · rw [q]; decide
    · rw [q]; decide
    · have := cmp_val_gt (decD n) maxD hl (dec_dig n) (by decide) q 0
      have e1 : (decD n).foldl vstep 0 = n := valD_dec n
      have e2 : maxD.foldl vstep 0 = 18446744073709551615 := by decide +kernel
      omega
  · split
    · decide
    · omega
/-- What was put as a word is read as it. -/
theorem word_dec {n : Nat} (h : n < 2 ^ 64) : wordV (decD n) = .tuple [.int .u64 n, .bool true] := by
  unfold wordV
  rw [if_pos ⟨right_dec h, ord_dec h⟩, wval_val, valD_dec, Nat.mod_eq_of_lt h]
end Go.Proofs.YtnbjhgaaollhcaaDoor
namespace Go.Proofs.YtnbjhgaaollhcaaDoor
open Go.Proofs.YtnbjhgaaollhcaaDoor.VM Go.RowKit
set_option maxRecDepth 100000
set_option linter.unusedVariables false
set_option maxHeartbeats 4000000
theorem t7 (n : Nat) (hn : n < 2 ^ 64) (s : List UInt8) (hl : s.length ≤ 2 ^ 47) (S : St) : CallQ Tryd.prog (NC true) 7 [.int .u64 n, .str s] S fun r S1 => r = .bool true := by
  have hal : ∀ {S Q}, Q (.bool true) S → CallQ Tryd.prog (NC true) 13 [] S Q := fun q => CallQ.intr (g := aliveG) rfl rfl q
  obtain ⟨wx, wb, hw⟩ : ∃ (x : Nat) (b : Bool), wordV s = .tuple [.int .u64 x, .bool b] := by
    unfold wordV; split
    · exact ⟨_, _, rfl⟩
    · exact ⟨0, false, rfl⟩
  refine CallQ.of rfl (by kernel_rfl : Tryd.prog.funcs[7]? = some Tryd.f7) rfl (by decide) ?_
  conv => whnf
  refine CallQ.mono (t21 true s hl S) ?_
  rintro r S1 ⟨k1, rfl⟩
  rw [hw]
  conv => whnf
  refine CallQ.mono (t22 true s hl S1) ?_
  rintro r S2 ⟨rfl, rfl⟩
  rw [hw]
  conv => whnf
  refine CallQ.mono (t23 true n hn S2) ?_
  rintro r S3 ⟨rfl, k3⟩
  conv => whnf
  have hdl : (decD n).length ≤ 20 := dec_len 19 n (by have : (10 : Nat) ^ 20 = 100000000000000000000 := rfl; omega)
  refine CallQ.mono (t21 true (decD n) (by omega) S3) ?_
  rintro r S4 ⟨k4, rfl⟩
  rw [word_dec hn]
  conv => whnf
  refine CallQ.mono (t23 true n hn S4) ?_
  rintro r S5 ⟨rfl, k5⟩
  conv => whnf
  refine CallQ.mono (t24 true n hn S5) ?_
  rintro r S6 ⟨rfl, rfl⟩
  conv => whnf
  refine brSEq (fun _ => ?_) (fun hh => absurd rfl hh)
  conv => whnf
  refine brEq (fun _ => ?_) (fun hh => absurd rfl hh)
  cases wb
  all_goals
    conv => whnf
    rintro c rfl
    conv => whnf
    refine brEq (fun _ => ?_) (fun hh => absurd rfl hh)
    conv => whnf
    refine hal ?_
    conv => whnf
    rfl
end Go.Proofs.YtnbjhgaaollhcaaDoor
