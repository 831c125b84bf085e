import Derived.Test.YtfphpjinimfhfaaVMJ8
namespace Go.Proofs.Ytfphpjinimfhfaa
open Go.Proofs.Ytfphpjinimfhfaa.VM Go.RowKit
set_option maxRecDepth 100000
set_option linter.unusedVariables false
set_option maxHeartbeats 2000000
def kOf (c : UInt8) : Nat := if 0 ≤ Lib.indexByte escFrom c then (Lib.indexByte escFrom c).toNat else 7
def escB (c : UInt8) : List UInt8 := if kOf c < 7 then [92, escTo.getD (kOf c) 0] else if c.toNat < 32 then [92, 117, 48, 48, hexd.getD (c.toNat / 16) 0, hexd.getD (c.toNat % 16) 0] else [c]
theorem all_u8 {p : UInt8 → Prop} (h : ∀ c : Fin 256, p (UInt8.ofNat c.val)) (c : UInt8) : p c := by
  have := h ⟨c.toNat, c.toNat_lt⟩
  simpa using this
theorem kOf_le (c : UInt8) : kOf c ≤ 7 := all_u8 (p := fun c => kOf c ≤ 7) (by decide +kernel) c
theorem kOf_ne (c : UInt8) (k : Nat) (h : k < kOf c) : escFrom.getD k 0 ≠ c :=
  all_u8 (p := fun c => ∀ k : Fin 7, k.val < kOf c → escFrom.getD k.val 0 ≠ c) (by decide +kernel) c ⟨k, by have := kOf_le c; omega⟩ h
theorem kOf_eq (c : UInt8) (h : kOf c < 7) : escFrom.getD (kOf c) 0 = c := all_u8 (p := fun c => kOf c < 7 → escFrom.getD (kOf c) 0 = c) (by decide +kernel) c h
theorem escB_len (c : UInt8) : (escB c).length ≤ 6 := by unfold escB; repeat' split
                                                         all_goals simp
theorem telS_why {l : List Int} {p : Nat} (h : (telS l p).1 = 0) : telS l p = (0, 0) := by
  unfold telS at *
  split at h
  · rename_i h1; rw [if_pos h1]
  · cases h
theorem shr8 (r k : Nat) (K : Int) (hK : K = k) (hk : k ≤ 8) : (r : Int).fdiv (2 ^ min K.toNat IntKind.u8.bits) = ((r / 2 ^ k : Nat) : Int) := by
  have e : min K.toNat IntKind.u8.bits = k := by rw [hK, Int.toNat_natCast]; exact Nat.min_eq_left hk
  rw [e, shr_nat]
theorem and15b (x : Nat) (h : x < 256) : IntKind.u8.wrap ((BitVec.ofInt IntKind.u8.bits (x : Int) &&& BitVec.ofInt IntKind.u8.bits 15).toNat : Int) = ((x % 16 : Nat) : Int) := by
  have := and_u8 x 15 (by omega) (by omega)
  rw [show ((15 : Nat) : Int) = 15 from rfl] at this
  rw [this, show (15 : Nat) = 2 ^ 4 - 1 from rfl, Nat.and_two_pow_sub_one_eq_mod]
theorem to_cut (i : Nat) (hi : i < 7) (k k' : IntKind) (a b : Int) (ha : a = i) (hb : b = ((i + 1 : Nat) : Int)) : sliceA Try.prog 9 (.str escTo) (some (.int k a)) (some (.int k' b)) none = some (.str [escTo.getD i 0]) := by
  rw [str_cut und9 escTo i (i + 1) (by omega) (by show i + 1 ≤ 7; omega) k k' a b ha hb, cut_one _ _ (by show i < 7; omega)]
theorem get_d {l : List UInt8} {i : Nat} (h : i < l.length) : l[i]? = some (l.getD i 0) := by simp [List.getD, h]

theorem t9 (h : Bool) (bs : List UInt8) (hl : bs.length ≤ 20000) (S : St) :
    CallQ Try.prog (JC h) 9 [.str bs] S fun r S1 => Keep S S1 ∧ r = .str (if telS (ib bs) 0 = (0, 0) then 34 :: bs.flatMap escB ++ [34] else []) := by
  refine CallQ.of rfl (by kernel_rfl : Try.prog.funcs[9]? = some Try.f9) rfl (by decide) ?_
  conv => whnf
  refine CallQ.mono (t15 h bs (by omega) (.lst (bs.map u8) .lost) (.inr ⟨_, rfl⟩) S) ?_
  rintro r S1 ⟨k1, l, rfl, hsl, hkn⟩
  generalize htel : telS (ib bs) 0 = tel
  obtain ⟨fw, fa⟩ := tel
  conv => whnf
  refine ⟨_, _, cells_new _ _, store_agg rfl rfl rfl, ?_⟩
  conv => whnf
  generalize hS2 : (S1.new _).set S1.next _ = S2
  have k2 : Keep S S2 := by rw [← hS2]; exact (k1.new _).set _ _ k1.next
  have a2 : S2.cells S1.next = some [.int .i64 fw, .int .i64 fa] := by rw [← hS2]; exact cells_set _ _ _
  clear hS2
  refine ⟨_, a2, ?_⟩
  conv => whnf
  refine brNe (fun hf => ?_) (fun hf => ?_)
  · conv => whnf
    refine ⟨k2, ?_⟩
    rw [if_neg (by rintro e; cases e; exact hf rfl)]; rfl
  have hfa : (fw, fa) = (0, 0) := by rw [← htel]; exact telS_why (by rw [htel]; exact hf)
  cases hfa
  rw [if_pos rfl]
  conv => whnf
  refine CodeQ.loop (fun (q : Nat × List UInt8) => pat 76 [(0, .str bs), (5, .str escFrom), (6, .str escTo), (7, .str q.2), (8, .int .i64 q.1)])
    (fun m q S3 => S3 = S2 ∧ q.1 ≤ bs.length ∧ m = bs.length - q.1 ∧ q.2 = 34 :: (bs.take q.1).flatMap escB ∧ q.2.length ≤ 6 * q.1 + 1) ?_ bs.length (0, [34]) _ _
    ⟨rfl, by simp, by simp, by simp, by simp⟩ ⟨rfl, rfl, rfl, rfl, rfl, trivial⟩
  clear htel a2 hf
  rintro m ⟨i, out⟩ S3 d ⟨rfl, q1, q2, q3, q4⟩
  dsimp only at *
  conv => whnf
  refine br (fun hi => ?_) (fun hi => ?_)
  rotate_left
  · have hi : bs.length ≤ i := by omega
    conv => whnf
    refine ⟨by simp; omega, ?_⟩
    conv => whnf
    refine ⟨k2, ?_⟩
    rw [q3, List.take_of_length_le hi]
    rfl
  have hi : i < bs.length := by omega
  conv => whnf
  refine ⟨by omega, _, (by rw [Int.toNat_natCast]; exact get_d hi), ?_⟩
  have hflat : (bs.take (i + 1)).flatMap escB = (bs.take i).flatMap escB ++ escB (bs.getD i 0) := by
    rw [List.take_succ_eq_append_getElem hi, List.flatMap_append]
    simp [List.getD, hi]
  generalize bs.getD i 0 = c at *
  have hcl := c.toNat_lt
  have hle := kOf_le c
  have hbl := escB_len c
  have nx : ∀ out', out' = out ++ escB c → ∃ (m' : Nat) (b : Nat × List UInt8), m' < m ∧ (S3 = S3 ∧ b.1 ≤ bs.length ∧ m' = bs.length - b.1 ∧ b.2 = 34 :: (bs.take b.1).flatMap escB ∧ b.2.length ≤ 6 * b.1 + 1) ∧ b.1 = i + 1 ∧ b.2 = out' := by
    intro out' ho
    refine ⟨bs.length - (i + 1), (i + 1, out'), by omega, ⟨rfl, by dsimp only; omega, rfl, ?_, ?_⟩, rfl, rfl⟩
    · dsimp only; rw [ho, q3, hflat]; rfl
    · dsimp only; rw [ho, List.length_append]; omega
  conv => whnf
  refine CodeQ.loop (fun (k : Nat) => pat 76 [(0, .str bs), (5, .str escFrom), (6, .str escTo), (7, .str out), (8, .int .i64 i), (9, u8 c), (10, .int .i64 k)])
    (fun m k S4 => S4 = S3 ∧ k ≤ kOf c ∧ m = 7 - k) ?_ 7 0 _ _ ⟨rfl, by omega, rfl⟩ ⟨rfl, rfl, rfl, rfl, rfl, rfl, rfl, trivial⟩
  rintro m' k S4 d2 ⟨rfl, w1, w2⟩
  -- what is done at the end
  have e1 : kOf c < 7 → escB c = [92, escTo.getD (kOf c) 0] := fun a => by unfold escB; rw [if_pos a]
  have e2 : ¬ kOf c < 7 → c.toNat < 32 → escB c = [92, 117, 48, 48, hexd.getD (c.toNat / 16) 0, hexd.getD (c.toNat % 16) 0] := fun a b => by unfold escB; rw [if_neg a, if_pos b]
  have e3 : ¬ kOf c < 7 → ¬ c.toNat < 32 → escB c = [c] := fun a b => by unfold escB; rw [if_neg a, if_neg b]
  have wi : IntKind.i64.wrap ((i : Int) + 1) = ((i + 1 : Nat) : Int) := by rw [wrap_i64 (by omega) (by omega)]; rfl
  have hfl : escFrom.length = 7 := rfl
  conv => whnf
  refine br (fun hk => ?_) (fun hk => ?_)
  · have hk7 : k < 7 := by have : (k : Int) < 7 := hk; omega
    conv => whnf
    refine ⟨by omega, _, (by rw [Int.toNat_natCast]; exact get_d (l := escFrom) (by rw [hfl]; exact hk7)), ?_⟩
    conv => whnf
    refine brNe (fun hne => ?_) (fun heq => ?_)
    · conv => whnf
      have : k ≠ kOf c := by
        rintro rfl
        exact hne (by rw [kOf_eq c hk7])
      refine ⟨7 - (k + 1), k + 1, by omega, ⟨rfl, by omega, rfl⟩, ⟨rfl, rfl, rfl, rfl, rfl, rfl, ?_, trivial⟩⟩
      rw [wrap_i64 (by omega) (by omega)]; rfl
    · have hkk : k = kOf c := by
        rcases Nat.lt_or_ge k (kOf c) with h | h
        · exact absurd (UInt8.toNat_inj.1 (by omega)) (kOf_ne c k h)
        · omega
      conv => whnf
      refine br (fun _ => ?_) (fun h => absurd hk h)
      conv => whnf
      refine ⟨_, to_cut k hk7 _ _ _ _ rfl (by rw [wrap_i64 (by omega) (by omega)]; rfl), ?_⟩
      conv => whnf
      refine ⟨by simp, ?_⟩
      conv => whnf
      refine ⟨by simp; omega, ?_⟩
      conv => whnf
      obtain ⟨m2, b, u1, u2, u3, u4⟩ := nx _ rfl
      refine ⟨m2, b, u1, u2, ⟨rfl, rfl, rfl, ?_, ?_, trivial⟩⟩
      · rw [u4, e1 (by omega), ← hkk]; rfl
      · rw [u3, wi]
  · have hk7 : ¬ kOf c < 7 := by have : ¬ (k : Int) < 7 := hk; omega
    conv => whnf
    refine br (fun h => absurd h hk) (fun _ => ?_)
    conv => whnf
    refine br (fun h32 => ?_) (fun h32 => ?_)
    · conv => whnf
      refine ⟨[0, 1, 2, 3, 4, 5, 6, 7, 8, 9, 10, 11], [], by kernel_rfl, by kernel_rfl, by kernel_rfl, ?_⟩
      conv => whnf
      have hc32 : c.toNat < 32 := by have : (c.toNat : Int) < 32 := h32; omega
      have s16 := shr8 c.toNat 4 4 rfl (by omega)
      have a15 := and15b c.toNat (by omega)
      have hx : hexd.length = 16 := rfl
      refine ⟨by decide, ?_⟩
      conv => whnf
      refine ⟨by rw [s16]; omega, _, (by rw [s16, Int.toNat_natCast]; exact get_d (l := hexd) (by rw [hx]; omega)), ?_⟩
      conv => whnf
      refine ⟨by rw [a15]; omega, _, (by rw [a15, Int.toNat_natCast]; exact get_d (l := hexd) (by rw [hx]; omega)), ?_⟩
      conv => whnf
      refine ⟨_, conv_str [hexd.getD (c.toNat / 16) 0, hexd.getD (c.toNat % 16) 0] .full _, ?_⟩
      conv => whnf
      refine ⟨by simp, ?_⟩
      conv => whnf
      refine ⟨by simp; omega, ?_⟩
      conv => whnf
      obtain ⟨m2, b, u1, u2, u3, u4⟩ := nx _ rfl
      refine ⟨m2, b, u1, u2, ⟨rfl, rfl, rfl, ?_, ?_, trivial⟩⟩
      · rw [u4, e2 hk7 hc32]; rfl
      · rw [u3, wi]
    · conv => whnf
      have hc32 : ¬ c.toNat < 32 := by have : ¬ (c.toNat : Int) < 32 := h32; omega
      refine ⟨_, conv_str [c] .full _, ?_⟩
      conv => whnf
      refine ⟨by simp; omega, ?_⟩
      conv => whnf
      obtain ⟨m2, b, u1, u2, u3, u4⟩ := nx _ rfl
      refine ⟨m2, b, u1, u2, ⟨rfl, rfl, rfl, ?_, ?_, trivial⟩⟩
      · rw [u4, e3 hk7 hc32]
      · rw [u3, wi]
end Go.Proofs.Ytfphpjinimfhfaa
