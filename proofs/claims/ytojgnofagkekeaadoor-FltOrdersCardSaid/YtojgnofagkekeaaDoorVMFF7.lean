import Derived.Test.YtojgnofagkekeaaDoorVMFF5
namespace Go.Proofs.YtojgnofagkekeaaDoor
open Go.Proofs.YtojgnofagkekeaaDoor.VM Go.RowKit
set_option maxRecDepth 100000
set_option linter.unusedVariables false
set_option maxHeartbeats 4000000
theorem t45 (h : Bool) {wd e w : Nat} (hF : Fm wd e w) (S : St) : CallQ Tryd.prog (NC h) 45 [.int .i64 wd] S fun r S1 => S1 = S ∧ r = .tuple [.int .i64 e, .int .i64 w] := by
  rcases hF with ⟨rfl, rfl, rfl⟩ | ⟨rfl, rfl, rfl⟩ | ⟨rfl, rfl, rfl⟩
  · refine CallQ.of rfl (by kernel_rfl : Tryd.prog.funcs[45]? = some Tryd.f45) rfl (by decide) ?_
    conv => whnf
    refine brEq (fun _ => ?_) (fun q => absurd rfl q)
    conv => whnf
    exact ⟨rfl, rfl⟩
  · refine CallQ.of rfl (by kernel_rfl : Tryd.prog.funcs[45]? = some Tryd.f45) rfl (by decide) ?_
    conv => whnf
    refine brEq (fun q => absurd q (by decide)) (fun _ => ?_)
    conv => whnf
    refine brEq (fun _ => ?_) (fun q => absurd rfl q)
    conv => whnf
    exact ⟨rfl, rfl⟩
  · refine CallQ.of rfl (by kernel_rfl : Tryd.prog.funcs[45]? = some Tryd.f45) rfl (by decide) ?_
    conv => whnf
    refine brEq (fun q => absurd q (by decide)) (fun _ => ?_)
    conv => whnf
    refine brEq (fun q => absurd q (by decide)) (fun _ => ?_)
    conv => whnf
    exact ⟨rfl, rfl⟩
theorem shl1 {k : Nat} (hk : k < 64) : IntKind.u64.wrap ((1 : Int) * 2 ^ min ((k : Nat) : Int).toNat IntKind.u64.bits) = ((2 ^ k : Nat) : Int) := by
  have := shl_n 1 k (by omega) (by rw [Nat.one_mul]; exact Nat.pow_lt_pow_right (by decide) hk)
  rw [Nat.one_mul] at this
  exact this
theorem shl1i {k : Nat} (hk : k < 63) : IntKind.i64.wrap ((1 : Int) * 2 ^ min ((k : Nat) : Int).toNat IntKind.i64.bits) = ((2 ^ k : Nat) : Int) := by
  have := shl_i 1 k (by omega) (by rw [Nat.one_mul]; exact Nat.pow_lt_pow_right (by decide) hk)
  rw [Nat.one_mul] at this
  exact this
theorem t38 (h : Bool) {wd e w : Nat} (hF : Fm wd e w) (n : Nat) (hn : n < 2 ^ 64) (S : St) : CallQ Tryd.prog (NC h) 38 [.int .u64 n, .int .i64 wd] S fun r S1 => S1 = S ∧ r = .tuple [.int .u64 (sgS e w n : Nat), .int .i64 (exS e w n : Nat), .int .u64 (frS w n : Nat)] := by
  obtain ⟨f1, f2, f3, f4, f5, f6, f7⟩ := hF.le
  have hpe : 2 ^ e ≤ 2 ^ 11 := Nat.pow_le_pow_right (by decide) f2
  have hpw : 2 ^ w ≤ 2 ^ 52 := Nat.pow_le_pow_right (by decide) f4
  have hpe0 : 0 < 2 ^ e := Nat.two_pow_pos e
  have hpw0 : 0 < 2 ^ w := Nat.two_pow_pos w
  have w0 : IntKind.i64.wrap ((e : Int) + (w : Int)) = ((e + w : Nat) : Int) := by rw [wrap_i64 (by omega) (by omega)]; omega
  have hd : n / 2 ^ w < 2 ^ 64 := Nat.lt_of_le_of_lt (Nat.div_le_self _ _) hn
  have m1 : ∀ k, 0 < k → k ≤ 2 ^ 52 → IntKind.u64.wrap ((k : Nat) - 1 : Int) = ((k - 1 : Nat) : Int) := fun k h1 h2 => by rw [wrap_u64 (by omega) (by omega)]; omega
  have hxl := ex_lt e w n
  refine CallQ.of rfl (by kernel_rfl : Tryd.prog.funcs[38]? = some Tryd.f38) rfl (by decide) ?_
  conv => whnf
  refine CallQ.mono (t45 h hF S) ?_
  rintro r S1 ⟨rfl, rfl⟩
  conv => whnf
  refine ⟨[0, 1, 2, 3, 4, 5, 6, 7, 8, 9, 10, 11, 12, 13, 14, 15, 16, 17, 18, 19, 20], [], by kernel_rfl, by kernel_rfl, by kernel_rfl, ?_⟩
  conv => whnf
  rw [w0]
  refine ⟨by omega, ?_⟩
  rw [shr_n n (e + w) (by omega)]
  conv => whnf
  refine ⟨by omega, ?_⟩
  rw [shr_n n w (by omega)]
  conv => whnf
  refine ⟨by omega, ?_⟩
  rw [shl1 (by omega)]
  conv => whnf
  rw [m1 _ hpe0 (by omega)]
  rw [and_u64 _ _ hd (by omega), mask]
  conv => whnf
  refine ⟨by omega, ?_⟩
  rw [shl1 (by omega)]
  conv => whnf
  refine ⟨rfl, ?_⟩
  rw [m1 _ hpw0 hpw]
  show AV.tuple [.int .u64 _, .int .i64 _, .int .u64 _] = _
  rw [and_u64 _ _ hn (by omega), mask]
  have : IntKind.i64.wrap ((n / 2 ^ w % 2 ^ e : Nat) : Int) = ((exS e w n : Nat) : Int) := by
    change n / 2 ^ w % 2 ^ e < 2 ^ e at hxl
    unfold exS
    generalize n / 2 ^ w % 2 ^ e = z at *
    exact wrap_i64 (by omega) (by omega)
  rw [this]
  rfl
theorem t39 (h : Bool) {wd e w : Nat} (hF : Fm wd e w) (x f : Nat) (hx : x < 2 ^ e) (hf : f < 2 ^ w) (S : St) : CallQ Tryd.prog (NC h) 39 [.int .i64 x, .int .u64 f, .int .i64 wd] S fun r S1 => S1 = S ∧
    r = .tuple [.int .u64 ((if x = 0 then f else 2 ^ w + f : Nat) : Nat), .int .i64 ((if x = 0 then 1 else x : Nat) - ((2 ^ (e - 1) - 1 : Nat) : Int) - (w : Int))] := by
  obtain ⟨f1, f2, f3, f4, f5, f6, f7⟩ := hF.le
  obtain ⟨e1, e2, e3⟩ := pow_e hF
  have hpw : 2 ^ w ≤ 2 ^ 52 := Nat.pow_le_pow_right (by decide) f4
  have w1 : IntKind.i64.wrap ((e : Int) - 1) = ((e - 1 : Nat) : Int) := by rw [wrap_i64 (by omega) (by omega)]; omega
  have w2 : IntKind.i64.wrap (((2 ^ (e - 1) : Nat) : Int) - 1) = ((2 ^ (e - 1) - 1 : Nat) : Int) := by
    generalize 2 ^ (e - 1) = z at *
    rw [wrap_i64 (by omega) (by omega)]; omega
  have w3 : ∀ y : Nat, y < 2 ^ e → IntKind.i64.wrap (IntKind.i64.wrap ((y : Int) - ((2 ^ (e - 1) - 1 : Nat) : Int)) - (w : Int)) = (y : Int) - ((2 ^ (e - 1) - 1 : Nat) : Int) - (w : Int) := fun y hy => by
    rw [e1] at hy
    generalize 2 ^ (e - 1) = z at *
    rw [wrap_i64 (x := (y : Int) - ((z - 1 : Nat) : Int)) (by omega) (by omega), wrap_i64 (by omega) (by omega)]
  refine CallQ.of rfl (by kernel_rfl : Tryd.prog.funcs[39]? = some Tryd.f39) rfl (by decide) ?_
  conv => whnf
  refine CallQ.mono (t45 h hF S) ?_
  rintro r S1 ⟨rfl, rfl⟩
  conv => whnf
  rw [w1]
  refine ⟨by omega, ?_⟩
  rw [shl1i (by omega)]
  conv => whnf
  rw [w2]
  refine brEq (fun h1 => ?_) (fun h1 => ?_)
  · have h1 : x = 0 := by omega
    rw [if_pos h1, if_pos h1]
    conv => whnf
    refine ⟨rfl, ?_⟩
    have := w3 1 (by omega)
    rw [show ((1 : Nat) : Int) = 1 from rfl] at this
    rw [this]
    rfl
  · have h1 : x ≠ 0 := by omega
    rw [if_neg h1, if_neg h1]
    conv => whnf
    refine ⟨by omega, ?_⟩
    rw [shl1 (by omega)]
    conv => whnf
    refine ⟨rfl, ?_⟩
    rw [w3 x hx]
    have : IntKind.u64.wrap (((2 ^ w : Nat) : Int) + (f : Int)) = ((2 ^ w + f : Nat) : Int) := by
      generalize 2 ^ w = z at *
      rw [wrap_u64 (by omega) (by omega)]; omega
    rw [this]
    rfl
/-- How many bits a number lacks of 53. -/
theorem blen_lo {m : Nat} (h : m ≠ 0) : 2 ^ (blen m - 1) ≤ m := by
  rcases Nat.lt_or_ge m (2 ^ (blen m - 1)) with q | q
  · have := blen_lt.2 q
    have : 1 ≤ blen m := by unfold blen; rw [if_neg h]; omega
    omega
  · exact q
theorem t46 (h : Bool) (m : Nat) (p : Int) (hm0 : m ≠ 0) (hm : m < 2 ^ 53) (hp : -1074 ≤ p - (53 - blen m : Nat)) (hp2 : p ≤ 1000) (S : St) : CallQ Tryd.prog (NC h) 46 [.int .u64 m, .int .i64 p] S fun r S1 => S1 = S ∧
    r = .int .u64 (((p - (53 - blen m : Nat) + 1075).toNat * 2 ^ 52 + m * 2 ^ (53 - blen m) - 2 ^ 52 : Nat) : Nat) := by
  have hb1 : 1 ≤ blen m := by unfold blen; rw [if_neg hm0]; omega
  have hb2 : blen m ≤ 53 := blen_lt.2 hm
  have hhi := blen_lt.1 (Nat.le_refl (blen m))
  have hlo := blen_lo hm0
  generalize hK : 53 - blen m = K at *
  have hfin1 : m * 2 ^ K < 2 ^ 53 := by
    have := Nat.mul_lt_mul_of_pos_right hhi (Nat.two_pow_pos K)
    rwa [← Nat.pow_add, show blen m + K = 53 by omega] at this
  have hfin2 : 2 ^ 52 ≤ m * 2 ^ K := by
    have := Nat.mul_le_mul_right (2 ^ K) hlo
    rwa [← Nat.pow_add, show blen m - 1 + K = 52 by omega] at this
  have hstep : ∀ j, j < K → m * 2 ^ j < 2 ^ 52 := fun j hj => by
    have := Nat.mul_lt_mul_of_pos_right hhi (Nat.two_pow_pos j)
    rw [← Nat.pow_add] at this
    exact Nat.lt_of_lt_of_le this (Nat.pow_le_pow_right (by decide) (by omega))
  refine CallQ.of rfl (by kernel_rfl : Tryd.prog.funcs[46]? = some Tryd.f46) rfl (by decide) ?_
  conv => whnf
  refine CodeQ.loop (fun (j : Nat) => pat 31 [(0, .int .u64 (m * 2 ^ j : Nat)), (1, .int .i64 (p - j))]) (fun q j S1 => S1 = S ∧ q = K - j ∧ j ≤ K) ?_ _ 0 _ _ ⟨rfl, rfl, Nat.zero_le _⟩ ⟨by rw [Nat.pow_zero, Nat.mul_one], by simp, trivial⟩
  rintro q j S1 d ⟨rfl, hq, hj⟩
  dsimp only at *
  rcases Nat.lt_or_ge j K with hjk | hjk
  · have hs := hstep j hjk
    have hd : m * 2 ^ (j + 1) = m * 2 ^ j * 2 := by rw [Nat.pow_succ, Nat.mul_assoc]
    generalize m * 2 ^ j = z at *
    conv => whnf
    refine br (fun _ => ?_) (fun q => absurd (by omega) q)
    conv => whnf
    refine br (fun _ => ?_) (fun q => absurd (by omega) q)
    conv => whnf
    refine ⟨K - (j + 1), j + 1, by omega, ⟨rfl, rfl, hjk⟩, ⟨?_, ?_, trivial⟩⟩
    · rw [wrap_u64 (by omega) (by omega), hd]; congr 1
    · rw [wrap_i64 (by omega) (by omega)]; congr 1; omega
  obtain rfl : j = K := by omega
  generalize m * 2 ^ j = z at *
  conv => whnf
  refine br (fun q => absurd q (by omega)) (fun _ => ?_)
  conv => whnf
  refine CodeQ.round ?_
  conv => whnf
  refine br (fun q => absurd q (by omega)) (fun _ => ?_)
  conv => whnf
  refine br (fun q => absurd q (by omega)) (fun _ => ?_)
  have w1 : IntKind.u64.wrap (IntKind.i64.wrap (p - (j : Int) + 1075)) = (((p - (j : Int) + 1075).toNat : Nat) : Int) := by
    rw [wrap_i64 (by omega) (by omega), wrap_u64 (by omega) (by omega)]; omega
  have hE : (p - (j : Int) + 1075).toNat ≤ 2046 + 30 := by omega
  have hE1 : 1 ≤ (p - (j : Int) + 1075).toNat := by omega
  have hE2 : (p - (j : Int) + 1075).toNat * 2 ^ 52 < 2 ^ 63 + 2 ^ 58 := by omega
  conv => whnf
  refine ⟨by decide, ?_⟩
  rw [w1]
  have w2 : IntKind.u64.wrap (((p - (j : Int) + 1075).toNat : Int) * 2 ^ min (52 : Int).toNat IntKind.u64.bits) = (((p - (j : Int) + 1075).toNat * 2 ^ 52 : Nat) : Int) := shl_n _ 52 (by decide) (by omega)
  rw [w2]
  conv => whnf
  refine ⟨rfl, ?_⟩
  generalize (p - (j : Int) + 1075).toNat * 2 ^ 52 = y at *
  have hy : 2 ^ 52 ≤ y + z := by omega
  rw [wrap_u64 (x := (y : Int) + (z : Int)) (by omega) (by omega), wrap_u64 (by omega) (by omega)]
  show AV.int .u64 _ = AV.int .u64 _
  congr 1
  omega
end Go.Proofs.YtojgnofagkekeaaDoor
namespace Go.Proofs.YtojgnofagkekeaaDoor
open Go.Proofs.YtojgnofagkekeaaDoor.VM Go.RowKit
set_option maxRecDepth 100000
set_option linter.unusedVariables false
set_option maxHeartbeats 4000000
theorem join3 (s x f : Nat) (hs : s ≤ 1) (hx : x < 2048) (hf : f < 2 ^ 52) : joinS 11 52 s x f < 2 ^ 64 := joinS_lt (e := 11) (w := 52) hs hx hf
theorem joinW (s x f : Nat) : joinS 11 52 s x f = s * 2 ^ 63 + (x * 2 ^ 52 + f) := by
  unfold joinS
  rw [Nat.add_assoc]
theorem t24 (h : Bool) {wd e w : Nat} (hF : Fm wd e w) (n : Nat) (hn : n < 2 ^ (e + w + 1)) (S : St) : CallQ Tryd.prog (NC h) 24 [.int .u64 n, .int .i64 wd] S fun r S1 => S1 = S ∧ r = .int .u64 (widR wd e w n : Nat) := by
  obtain ⟨f1, f2, f3, f4, f5, f6, f7⟩ := hF.le
  obtain ⟨e1, e2, e3⟩ := pow_e hF
  have hn64 : n < 2 ^ 64 := Nat.lt_of_lt_of_le hn (Nat.pow_le_pow_right (by decide) (by omega))
  have hs := sg_le hn
  have hx := ex_lt e w n
  have hf := fr_lt w n
  have hup := up_lt hf f4
  refine CallQ.of rfl (by kernel_rfl : Tryd.prog.funcs[24]? = some Tryd.f24) rfl (by decide) ?_
  conv => whnf
  unfold widR
  refine brEq (fun h8 => ?_) (fun h8 => ?_)
  · rw [if_pos (show wd = 8 by omega)]
    conv => whnf
    exact ⟨rfl, rfl⟩
  have h8 : wd ≠ 8 := by omega
  rw [if_neg h8]
  have hpw := hF.pows h8
  have hb : 15 ≤ 2 ^ (e - 1) - 1 ∧ 2 ^ (e - 1) - 1 ≤ 127 ∧ w ≤ 23 ∧ e ≤ 8 := by omega
  have hxb : exS e w n < 256 := by
    have : 2 ^ e ≤ 2 ^ 8 := Nat.pow_le_pow_right (by decide) hb.2.2.2
    omega
  have ht1 : IntKind.i64.wrap (((2 ^ e : Nat) : Int) - 1) = ((2 ^ e - 1 : Nat) : Int) := by
    generalize 2 ^ e = z at *
    rw [wrap_i64 (by omega) (by omega)]; omega
  have hsh : sgS e w n * 2 ^ 63 < 2 ^ 64 := by omega
  have ws : IntKind.u64.wrap ((sgS e w n : Int) * 2 ^ min (63 : Int).toNat IntKind.u64.bits) = ((sgS e w n * 2 ^ 63 : Nat) : Int) := shl_n _ 63 (by decide) hsh
  conv => whnf
  refine CallQ.mono (t45 h hF S) ?_
  rintro r S1 ⟨rfl, rfl⟩
  conv => whnf
  refine CallQ.mono (t38 h hF n hn64 S1) ?_
  rintro r S2 ⟨rfl, rfl⟩
  conv => whnf
  refine ⟨by omega, ?_⟩
  rw [shl1i (by omega)]
  conv => whnf
  rw [ht1]
  unfold widS
  refine brEq (fun hx1 => ?_) (fun hx1 => ?_)
  · rw [if_pos (show exS e w n = 2 ^ e - 1 by generalize 2 ^ e - 1 = z at *; omega)]
    have w9 : IntKind.i64.wrap (52 - (w : Int)) = ((52 - w : Nat) : Int) := by rw [wrap_i64 (by omega) (by omega)]; omega
    conv => whnf
    refine ⟨by decide, ?_⟩
    rw [ws]
    conv => whnf
    rw [w9]
    refine ⟨by omega, ?_⟩
    rw [shl_n (frS w n) (52 - w) (by omega) (by omega)]
    conv => whnf
    refine ⟨rfl, ?_⟩
    rw [show (9218868437227405312 : Int) = ((2047 * 2 ^ 52 : Nat) : Int) by decide +kernel, or_u64 _ _ hsh (by decide)]
    show AV.int .u64 _ = _
    rw [or_u64 _ _ (Nat.or_lt_two_pow hsh (by decide)) (by omega)]
    rw [show sgS e w n * 2 ^ 63 ||| 2047 * 2 ^ 52 ||| frS w n * 2 ^ (52 - w) = joinS 11 52 (sgS e w n) 2047 (frS w n * 2 ^ (52 - w)) from join_or 11 52 _ _ _ (by decide) hup]
  have hx1 : exS e w n ≠ 2 ^ e - 1 := by generalize 2 ^ e - 1 = z at *; omega
  rw [if_neg hx1]
  conv => whnf
  refine CallQ.mono (t39 h hF (exS e w n) (frS w n) hx hf S2) ?_
  rintro r S3 ⟨rfl, rfl⟩
  have hw23 : 2 ^ w ≤ 2 ^ 23 := Nat.pow_le_pow_right (by decide) hb.2.2.1
  have hw10 : 2 ^ 10 ≤ 2 ^ w := Nat.pow_le_pow_right (by decide) f3
  have hsum : ∀ m : Nat, m < 2 ^ 63 → IntKind.u64.wrap ((BitVec.ofInt IntKind.u64.bits ((sgS e w n * 2 ^ 63 : Nat) : Int) ||| BitVec.ofInt IntKind.u64.bits (m : Int)).toNat : Int) = ((sgS e w n * 2 ^ 63 + m : Nat) : Int) := fun m hm => by
    rw [or_u64 _ _ hsh (by omega), or_sum _ _ 63 hm]
  by_cases hx2 : exS e w n = 0
  rotate_left
  · rw [if_neg hx2, if_neg hx2, if_pos (show 0 < exS e w n by omega)]
    have hbl : blen (2 ^ w + frS w n) = w + 1 := by
      have h1 := blen_lt.2 (show 2 ^ w + frS w n < 2 ^ (w + 1) by rw [Nat.pow_succ]; omega)
      rcases Nat.lt_or_ge (blen (2 ^ w + frS w n)) (w + 1) with q | q
      · have := blen_lt.1 (show blen (2 ^ w + frS w n) ≤ w by omega); omega
      · omega
    conv => whnf
    refine brEq (fun q => absurd q (by generalize 2 ^ w = z at *; omega)) (fun _ => ?_)
    conv => whnf
    refine ⟨by decide, ?_⟩
    rw [ws]
    conv => whnf
    refine CallQ.mono (t46 h (2 ^ w + frS w n) _ (by omega) (by omega) (by rw [hbl]; generalize 2 ^ (e - 1) - 1 = z at *; omega) (by generalize 2 ^ (e - 1) - 1 = z at *; omega) S3) ?_
    rintro r S4 ⟨rfl, rfl⟩
    have hval : ((exS e w n : Int) - ((2 ^ (e - 1) - 1 : Nat) : Int) - (w : Int) - ((53 - blen (2 ^ w + frS w n) : Nat) : Int) + 1075).toNat * 2 ^ 52 + (2 ^ w + frS w n) * 2 ^ (53 - blen (2 ^ w + frS w n)) - 2 ^ 52 = (exS e w n + 1023 - (2 ^ (e - 1) - 1)) * 2 ^ 52 + frS w n * 2 ^ (52 - w) := by
      rw [hbl, show 53 - (w + 1) = 52 - w by omega, Nat.add_mul (2 ^ w), ← Nat.pow_add, show w + (52 - w) = 52 by omega]
      have : ((exS e w n : Int) - ((2 ^ (e - 1) - 1 : Nat) : Int) - (w : Int) - ((52 - w : Nat) : Int) + 1075).toNat = exS e w n + 1023 - (2 ^ (e - 1) - 1) := by
        generalize 2 ^ (e - 1) - 1 = z at *
        omega
      rw [this]
      omega
    rw [hval]
    clear hval
    have hlt : (exS e w n + 1023 - (2 ^ (e - 1) - 1)) * 2 ^ 52 + frS w n * 2 ^ (52 - w) < 2 ^ 63 := by
      have hX : exS e w n + 1023 - (2 ^ (e - 1) - 1) ≤ 1278 := Nat.le_trans (Nat.sub_le _ _) (by clear hsum ws hsh hup; omega)
      exact Nat.lt_of_lt_of_le (Nat.add_lt_add_of_le_of_lt (Nat.mul_le_mul_right (2 ^ 52) hX) hup) (by decide +kernel)
    conv => whnf
    refine ⟨rfl, ?_⟩
    rw [hsum _ hlt, joinW]
    rfl
  rw [if_pos hx2, if_pos hx2, if_neg (show ¬ 0 < exS e w n by omega)]
  conv => whnf
  refine brEq (fun q => ?_) (fun q => ?_)
  · rw [if_pos (show frS w n = 0 by omega)]
    conv => whnf
    refine ⟨by decide, ?_⟩
    rw [ws]
    conv => whnf
    refine ⟨rfl, ?_⟩
    rw [joinW, Nat.zero_mul, Nat.add_zero]
    rfl
  have hf0 : frS w n ≠ 0 := by omega
  rw [if_neg hf0]
  have hl1 : 1 ≤ blen (frS w n) := by unfold blen; rw [if_neg hf0]; omega
  have hl2 : blen (frS w n) ≤ w := blen_lt.2 hf
  have hl3 : frS w n * 2 ^ (53 - blen (frS w n)) < 2 ^ 53 := by
    have := Nat.mul_lt_mul_of_pos_right (blen_lt.1 (Nat.le_refl (blen (frS w n)))) (Nat.two_pow_pos (53 - blen (frS w n)))
    rw [← Nat.pow_add, show blen (frS w n) + (53 - blen (frS w n)) = 53 by omega] at this
    exact this
  have hl4 : 2 ^ 52 ≤ frS w n * 2 ^ (53 - blen (frS w n)) := by
    have := Nat.mul_le_mul_right (2 ^ (53 - blen (frS w n))) (blen_lo hf0)
    rwa [← Nat.pow_add, show blen (frS w n) - 1 + (53 - blen (frS w n)) = 52 by omega] at this
  conv => whnf
  refine ⟨by decide, ?_⟩
  rw [ws]
  conv => whnf
  refine CallQ.mono (t46 h (frS w n) _ hf0 (by omega) (by generalize 2 ^ (e - 1) - 1 = z at *; omega) (by generalize 2 ^ (e - 1) - 1 = z at *; omega) S3) ?_
  rintro r S4 ⟨rfl, rfl⟩
  have hval : (((1 : Nat) : Int) - ((2 ^ (e - 1) - 1 : Nat) : Int) - (w : Int) - ((53 - blen (frS w n) : Nat) : Int) + 1075).toNat * 2 ^ 52 + frS w n * 2 ^ (53 - blen (frS w n)) - 2 ^ 52 = (blen (frS w n) + 1023 - (2 ^ (e - 1) - 1) - w) * 2 ^ 52 + frS w n * 2 ^ (53 - blen (frS w n)) % 2 ^ 52 := by
    have : (((1 : Nat) : Int) - ((2 ^ (e - 1) - 1 : Nat) : Int) - (w : Int) - ((53 - blen (frS w n) : Nat) : Int) + 1075).toNat = blen (frS w n) + 1023 - (2 ^ (e - 1) - 1) - w := by
      generalize 2 ^ (e - 1) - 1 = z at *
      omega
    rw [this]
    generalize frS w n * 2 ^ (53 - blen (frS w n)) = y at *
    omega
  rw [hval]
  clear hval
  have hml : frS w n * 2 ^ (53 - blen (frS w n)) % 2 ^ 52 < 2 ^ 52 := Nat.mod_lt _ (by decide)
  have hlt : (blen (frS w n) + 1023 - (2 ^ (e - 1) - 1) - w) * 2 ^ 52 + frS w n * 2 ^ (53 - blen (frS w n)) % 2 ^ 52 < 2 ^ 63 := by
    have hX : blen (frS w n) + 1023 - (2 ^ (e - 1) - 1) - w ≤ 1278 := Nat.le_trans (Nat.sub_le _ _) (Nat.le_trans (Nat.sub_le _ _) (by clear hsum ws hsh hup hml hl3 hl4; omega))
    exact Nat.lt_of_lt_of_le (Nat.add_lt_add_of_le_of_lt (Nat.mul_le_mul_right (2 ^ 52) hX) hml) (by decide +kernel)
  conv => whnf
  refine ⟨rfl, ?_⟩
  rw [hsum _ hlt, joinW]
  rfl
theorem t10 (h : Bool) (n : Nat) (hn : n < 2 ^ 64) (y : Int) (S : St) : CallQ Tryd.prog (NC h) 10 [.int .u64 n, .int .i64 y] S fun r S1 => S1 = S ∧ r = .tuple [.int .u64 (widenV n y : Nat), .int .i64 (widenE n y)] := by
  have bad : ∀ (z : Nat), (z = 2 ∨ z = 4) → ¬ n < 2 ^ (8 * z) → CallQ Tryd.prog (NC h) 10 [.int .u64 n, .int .i64 z] S fun r S1 => S1 = S ∧ r = .tuple [.int .u64 (0 : Nat), .int .i64 1] := by
    intro z hz hb
    have hq : n / 2 ^ (8 * z) ≠ 0 := fun q => hb (Nat.lt_of_div_eq_zero (Nat.two_pow_pos _) q)
    have hsh : IntKind.i64.wrap (8 * (z : Int)) = ((8 * z : Nat) : Int) := by rw [wrap_i64 (by omega) (by omega)]; omega
    refine CallQ.of rfl (by kernel_rfl : Tryd.prog.funcs[10]? = some Tryd.f10) rfl (by decide) ?_
    conv => whnf
    refine brNe (fun q2 => ?_) (fun q2 => ?_)
    · conv => whnf
      refine brNe (fun q => absurd q (by omega)) (fun _ => ?_)
      conv => whnf
      refine br (fun _ => ?_) (fun q => absurd (by omega) q)
      conv => whnf
      rw [hsh]
      refine ⟨by omega, ?_⟩
      rw [shr_n n (8 * z) (by omega)]
      conv => whnf
      refine brNe (fun _ => ?_) (fun q => absurd (Int.ofNat.inj q) hq)
      conv => whnf
      exact ⟨rfl, rfl⟩
    · conv => whnf
      refine br (fun _ => ?_) (fun q => absurd (by omega) q)
      conv => whnf
      rw [hsh]
      refine ⟨by omega, ?_⟩
      rw [shr_n n (8 * z) (by omega)]
      conv => whnf
      refine brNe (fun _ => ?_) (fun q => absurd (Int.ofNat.inj q) hq)
      conv => whnf
      exact ⟨rfl, rfl⟩
  have good : ∀ {wd e w : Nat} (hF : Fm wd e w), wd ≠ 8 → n < 2 ^ (8 * wd) → CallQ Tryd.prog (NC h) 10 [.int .u64 n, .int .i64 wd] S fun r S1 => S1 = S ∧ r = .tuple [.int .u64 (widR wd e w n : Nat), .int .i64 0] := by
    intro wd e w hF h8 hb
    have hl := hF.le
    have hw4 : wd = 2 ∨ wd = 4 := by unfold Fm at hF; omega
    have hq : n / 2 ^ (8 * wd) = 0 := Nat.div_eq_of_lt hb
    have hsh : IntKind.i64.wrap (8 * (wd : Int)) = ((8 * wd : Nat) : Int) := by rw [wrap_i64 (by omega) (by omega)]; omega
    have hw := t24 h hF n (by rw [hl.2.2.2.2.2.2]; exact hb) S
    refine CallQ.of rfl (by kernel_rfl : Tryd.prog.funcs[10]? = some Tryd.f10) rfl (by decide) ?_
    conv => whnf
    refine brNe (fun q2 => ?_) (fun q2 => ?_)
    · conv => whnf
      refine brNe (fun q => absurd q (by omega)) (fun _ => ?_)
      conv => whnf
      refine br (fun _ => ?_) (fun q => absurd (by omega) q)
      conv => whnf
      rw [hsh]
      refine ⟨by omega, ?_⟩
      rw [shr_n n (8 * wd) (by omega), hq]
      conv => whnf
      refine brNe (fun q => absurd rfl q) (fun _ => ?_)
      conv => whnf
      refine CallQ.mono hw ?_
      rintro r S1 ⟨rfl, rfl⟩
      conv => whnf
      exact ⟨rfl, rfl⟩
    · conv => whnf
      refine br (fun _ => ?_) (fun q => absurd (by omega) q)
      conv => whnf
      rw [hsh]
      refine ⟨by omega, ?_⟩
      rw [shr_n n (8 * wd) (by omega), hq]
      conv => whnf
      refine brNe (fun q => absurd rfl q) (fun _ => ?_)
      conv => whnf
      refine CallQ.mono hw ?_
      rintro r S1 ⟨rfl, rfl⟩
      conv => whnf
      exact ⟨rfl, rfl⟩
  by_cases h2 : y = 2
  · subst h2
    by_cases hb : n < 2 ^ 16
    · have e1 : widenV n 2 = widS 5 10 n := if_pos ⟨rfl, hb⟩
      have e2 : widenE n 2 = 0 := if_pos ⟨rfl, hb⟩
      rw [e1, e2]
      exact good fmH (by decide) hb
    · have e1 : widenV n 2 = 0 := by unfold widenV; rw [if_neg (fun q => hb q.2), if_neg (fun q => absurd q.1 (by decide)), if_neg (by decide)]
      have e2 : widenE n 2 = 1 := by unfold widenE; rw [if_neg (fun q => hb q.2), if_neg (fun q => absurd q.1 (by decide)), if_neg (by decide)]
      rw [e1, e2]
      exact bad 2 (.inl rfl) hb
  by_cases h4 : y = 4
  · subst h4
    by_cases hb : n < 2 ^ 32
    · have e1 : widenV n 4 = widS 8 23 n := by unfold widenV; rw [if_neg (fun q => h2 q.1), if_pos ⟨rfl, hb⟩]
      have e2 : widenE n 4 = 0 := by unfold widenE; rw [if_neg (fun q => h2 q.1), if_pos ⟨rfl, hb⟩]
      rw [e1, e2]
      exact good fmS (by decide) hb
    · have e1 : widenV n 4 = 0 := by unfold widenV; rw [if_neg (fun q => h2 q.1), if_neg (fun q => hb q.2), if_neg (by decide)]
      have e2 : widenE n 4 = 1 := by unfold widenE; rw [if_neg (fun q => h2 q.1), if_neg (fun q => hb q.2), if_neg (by decide)]
      rw [e1, e2]
      exact bad 4 (.inr rfl) hb
  by_cases h8 : y = 8
  · subst h8
    have e1 : widenV n 8 = n := by unfold widenV; rw [if_neg (fun q => h2 q.1), if_neg (fun q => h4 q.1), if_pos rfl]
    have e2 : widenE n 8 = 0 := by unfold widenE; rw [if_neg (fun q => h2 q.1), if_neg (fun q => h4 q.1), if_pos rfl]
    rw [e1, e2]
    have hw := t24 h fmW n hn S
    refine CallQ.of rfl (by kernel_rfl : Tryd.prog.funcs[10]? = some Tryd.f10) rfl (by decide) ?_
    conv => whnf
    refine brNe (fun _ => ?_) (fun q => absurd q (by decide))
    conv => whnf
    refine brNe (fun _ => ?_) (fun q => absurd q (by decide))
    conv => whnf
    refine brNe (fun q => absurd rfl q) (fun _ => ?_)
    conv => whnf
    refine br (fun q => absurd q (by decide)) (fun _ => ?_)
    conv => whnf
    refine CallQ.mono hw ?_
    rintro r S1 ⟨rfl, rfl⟩
    conv => whnf
    exact ⟨rfl, rfl⟩
  have e1 : widenV n y = 0 := by unfold widenV; rw [if_neg (fun q => h2 q.1), if_neg (fun q => h4 q.1), if_neg h8]
  have e2 : widenE n y = 1 := by unfold widenE; rw [if_neg (fun q => h2 q.1), if_neg (fun q => h4 q.1), if_neg h8]
  rw [e1, e2]
  refine CallQ.of rfl (by kernel_rfl : Tryd.prog.funcs[10]? = some Tryd.f10) rfl (by decide) ?_
  conv => whnf
  refine brNe (fun _ => ?_) (fun q => absurd q h2)
  conv => whnf
  refine brNe (fun _ => ?_) (fun q => absurd q h4)
  conv => whnf
  refine brNe (fun _ => ?_) (fun q => absurd q h8)
  conv => whnf
  exact ⟨rfl, rfl⟩
end Go.Proofs.YtojgnofagkekeaaDoor
