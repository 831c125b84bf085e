import Derived.Test.YtojgnofagkekeaaDoorVMFD3
namespace Go.Proofs.YtojgnofagkekeaaDoor
open Go.Proofs.YtojgnofagkekeaaDoor.VM Go.RowKit
set_option maxRecDepth 100000
set_option linter.unusedVariables false
set_option maxHeartbeats 4000000
/-! ### bits as arithmetic -/
theorem shr_n (n k : Nat) (hk : k ≤ 64) : (n : Int).fdiv (2 ^ min ((k : Nat) : Int).toNat IntKind.u64.bits) = ((n / 2 ^ k : Nat) : Int) := by
  rw [bits_u64, Int.toNat_natCast, Nat.min_eq_left hk]; exact shr_nat n k
theorem shl_n (n k : Nat) (hk : k ≤ 64) (h : n * 2 ^ k < 2 ^ 64) : IntKind.u64.wrap ((n : Int) * 2 ^ min ((k : Nat) : Int).toNat IntKind.u64.bits) = ((n * 2 ^ k : Nat) : Int) := by
  rw [bits_u64, Int.toNat_natCast, Nat.min_eq_left hk]
  have : (n : Int) * 2 ^ k = ((n * 2 ^ k : Nat) : Int) := by push_cast; rfl
  rw [this]
  generalize n * 2 ^ k = z at *
  exact wrap_u64 (by omega) (by omega)
theorem shl_i (n k : Nat) (hk : k ≤ 64) (h : n * 2 ^ k < 2 ^ 63) : IntKind.i64.wrap ((n : Int) * 2 ^ min ((k : Nat) : Int).toNat IntKind.i64.bits) = ((n * 2 ^ k : Nat) : Int) := by
  rw [bits_i64, Int.toNat_natCast, Nat.min_eq_left hk]
  have : (n : Int) * 2 ^ k = ((n * 2 ^ k : Nat) : Int) := by push_cast; rfl
  rw [this]
  generalize n * 2 ^ k = z at *
  exact wrap_i64 (by omega) (by omega)
theorem and_i64 (n m : Nat) (hn : n < 2 ^ 63) (hm : m < 2 ^ 63) : IntKind.i64.wrap ((BitVec.ofInt IntKind.i64.bits (n : Int) &&& BitVec.ofInt IntKind.i64.bits (m : Int)).toNat : Int) = ((n &&& m : Nat) : Int) := by
  have h1 : (BitVec.ofInt IntKind.i64.bits (n : Int) &&& BitVec.ofInt IntKind.i64.bits (m : Int)).toNat = n &&& m := by
    rw [bits_i64]
    simp only [BitVec.toNat_and, BitVec.ofInt_natCast, BitVec.toNat_ofNat]
    rw [Nat.mod_eq_of_lt (by omega), Nat.mod_eq_of_lt (by omega)]
  rw [h1]
  have : n &&& m ≤ n := Nat.and_le_left
  exact wrap_i64 (by omega) (by omega)
theorem mask (n k : Nat) : n &&& (2 ^ k - 1) = n % 2 ^ k := Nat.and_two_pow_sub_one_eq_mod n k
theorem or_sum (a b k : Nat) (h : b < 2 ^ k) : a * 2 ^ k ||| b = a * 2 ^ k + b := by
  rw [Nat.mul_comm]; exact (Nat.two_pow_add_eq_or_of_lt h a).symm
/-! ### formats -/
def fmtV (wd e w : Nat) : AV := .agg [.int .i64 wd, .int .i64 e, .int .i64 w]
/-- Which there are. -/
def Fm (wd e w : Nat) : Prop := (wd = 2 ∧ e = 5 ∧ w = 10) ∨ (wd = 4 ∧ e = 8 ∧ w = 23) ∨ (wd = 8 ∧ e = 11 ∧ w = 52)
theorem Fm.le {wd e w : Nat} (h : Fm wd e w) : 5 ≤ e ∧ e ≤ 11 ∧ 10 ≤ w ∧ w ≤ 52 ∧ 15 ≤ e + w ∧ e + w ≤ 63 ∧ e + w + 1 = 8 * wd := by unfold Fm at h; omega
theorem t35 (h : Bool) {wd e w : Nat} (hF : Fm wd e w) (S : St) : CallQ Tryd.prog (NC h) 35 [fmtV wd e w] S fun r S1 => S1 = S ∧ r = .int .i64 (2 ^ e - 1 : Nat) := by
  refine CallQ.of rfl (by kernel_rfl : Tryd.prog.funcs[35]? = some Tryd.f35) rfl (by decide) ?_
  conv => whnf
  refine ⟨by omega, ?_⟩
  conv => whnf
  refine ⟨rfl, ?_⟩
  rcases hF with ⟨rfl, rfl, rfl⟩ | ⟨rfl, rfl, rfl⟩ | ⟨rfl, rfl, rfl⟩ <;> rfl
theorem t29 (h : Bool) {wd e w : Nat} (hF : Fm wd e w) (S : St) : CallQ Tryd.prog (NC h) 29 [fmtV wd e w] S fun r S1 => S1 = S ∧ r = .int .i64 (2 ^ (e - 1) - 1 : Nat) := by
  refine CallQ.of rfl (by kernel_rfl : Tryd.prog.funcs[29]? = some Tryd.f29) rfl (by decide) ?_
  conv => whnf
  refine CallQ.mono (t35 h hF S) ?_
  rintro r S1 ⟨rfl, rfl⟩
  conv => whnf
  refine ⟨by decide, ?_⟩
  conv => whnf
  refine ⟨rfl, ?_⟩
  rcases hF with ⟨rfl, rfl, rfl⟩ | ⟨rfl, rfl, rfl⟩ | ⟨rfl, rfl, rfl⟩ <;> rfl
def fmtsV : AV := .agg [.int .i64 2, .int .i64 5, .int .i64 10, .int .i64 4, .int .i64 8, .int .i64 23, .int .i64 8, .int .i64 11, .int .i64 52]
theorem t21 (h : Bool) (S : St) : CallQ Tryd.prog (NC h) 21 [] S fun r S1 => Keep S S1 ∧ r = fmtsV := by
  refine CallQ.of rfl (by kernel_rfl : Tryd.prog.funcs[21]? = some Tryd.f21) rfl (by decide) ?_
  conv => whnf
  refine ⟨_, _, cells_new _ _, store_agg rfl rfl rfl, ?_⟩
  conv => whnf
  refine ⟨fmtsV, ?_, ?_⟩
  · show (St.cells _ S.next).bind _ = _
    rw [cells_set]
    kernel_rfl
  conv => whnf
  exact ⟨((Keep.refl S).new _).set _ _ (Nat.le_refl _), rfl⟩
theorem t26 (h : Bool) (S : St) : CallQ Tryd.prog (NC h) 26 [] S fun r S1 => Keep S S1 ∧ r = fmtV 8 11 52 := by
  refine CallQ.of rfl (by kernel_rfl : Tryd.prog.funcs[26]? = some Tryd.f26) rfl (by decide) ?_
  conv => whnf
  refine CallQ.mono (t21 h _) ?_
  rintro r S1 ⟨k1, rfl⟩
  have hn := k1.next
  conv => whnf
  refine ⟨_, _, (kcells k1 (Nat.lt_succ_self S.next)).trans (cells_new _ _), store_agg rfl rfl rfl, ?_⟩
  conv => whnf
  refine ⟨fmtV 8 11 52, ?_, ?_⟩
  · show (St.cells _ S.next).bind _ = _
    rw [cells_set]
    kernel_rfl
  conv => whnf
  exact ⟨⟨by have : S.next + 1 ≤ S1.next := hn; show S.next ≤ S1.next; omega, fun j hj => by rw [mem_set_ne rfl (by omega), k1.mem j (Nat.lt_succ_of_lt hj)]; exact mem_new_ne rfl (by omega)⟩, rfl⟩
/-- The sign's exponent's and fraction's parts. -/
def sgS (e w n : Nat) : Nat := n / 2 ^ (e + w)
def exS (e w n : Nat) : Nat := n / 2 ^ w % 2 ^ e
def frS (w n : Nat) : Nat := n % 2 ^ w
theorem t28 (h : Bool) {wd e w : Nat} (hF : Fm wd e w) (n : Nat) (hn : n < 2 ^ 64) (S : St) : CallQ Tryd.prog (NC h) 28 [fmtV wd e w, .int .u64 n] S fun r S1 => S1 = S ∧ r = .tuple [.int .u64 (sgS e w n : Nat), .int .i64 (exS e w n : Nat), .int .u64 (frS w n : Nat)] := by
  unfold sgS exS frS
  obtain ⟨f1, f2, f3, f4, f5, f6, f7⟩ := hF.le
  have hpe : 2 ^ e ≤ 2 ^ 11 := Nat.pow_le_pow_right (by decide) f2
  have hpw : 2 ^ w ≤ 2 ^ 52 := Nat.pow_le_pow_right (by decide) f4
  have hpe0 : 0 < 2 ^ e := Nat.two_pow_pos e
  have hpw0 : 2 ^ 10 ≤ 2 ^ w := Nat.pow_le_pow_right (by decide) f3
  have w0 : IntKind.i64.wrap ((e : Int) + (w : Int)) = ((e + w : Nat) : Int) := by rw [wrap_i64 (by omega) (by omega)]; omega
  have hd : n / 2 ^ w < 2 ^ 54 := Nat.div_lt_of_lt_mul (by
    have : 2 ^ 10 * 2 ^ 54 ≤ 2 ^ w * 2 ^ 54 := Nat.mul_le_mul_right _ hpw0
    omega)
  have w1 : IntKind.i64.wrap ((n / 2 ^ w : Nat) : Int) = ((n / 2 ^ w : Nat) : Int) := by
    generalize n / 2 ^ w = z at *
    exact wrap_i64 (by omega) (by omega)
  have w2 : IntKind.u64.wrap (IntKind.u64.wrap ((1 : Int) * 2 ^ min ((w : Nat) : Int).toNat IntKind.u64.bits) - 1) = ((2 ^ w - 1 : Nat) : Int) := by
    rw [show (1 : Int) = ((1 : Nat) : Int) from rfl, shl_n 1 w (by omega) (by rw [Nat.one_mul]; omega), Nat.one_mul]
    generalize 2 ^ w = z at *
    rw [wrap_u64 (by omega) (by omega)]
    omega
  refine CallQ.of rfl (by kernel_rfl : Tryd.prog.funcs[28]? = some Tryd.f28) rfl (by decide) ?_
  conv => whnf
  refine ⟨[1, 2, 3, 4, 7, 8, 9, 10, 11, 12, 16, 17, 13, 0, 5, 6, 14, 15, 18, 19, 20, 21, 22, 23], [(13, [2, 4, 9, 11, 17])], by kernel_rfl, by kernel_rfl, by kernel_rfl, ?_⟩
  conv => whnf
  refine ⟨by omega, ?_⟩
  conv => whnf
  refine CallQ.mono (t35 h hF S) ?_
  rintro r S1 ⟨rfl, rfl⟩
  conv => whnf
  refine ⟨⟨_, rfl, .inr ⟨_, _, _, rfl, rfl, rfl, rfl⟩⟩, ?_⟩
  refine ⟨⟨_, rfl, .inr ⟨_, _, _, rfl, rfl, rfl, rfl⟩⟩, ?_⟩
  refine ⟨⟨_, rfl, .inr ⟨_, _, _, rfl, rfl, rfl, rfl⟩⟩, ?_⟩
  refine ⟨⟨_, rfl, .inr ⟨_, _, _, rfl, rfl, rfl, rfl⟩⟩, ?_⟩
  refine ⟨⟨_, rfl, .inr ⟨_, _, _, rfl, rfl, rfl, rfl⟩⟩, ?_⟩
  conv => whnf
  rw [w0]
  refine ⟨by omega, ?_⟩
  conv => whnf
  refine ⟨by omega, ?_⟩
  conv => whnf
  refine ⟨rfl, ?_⟩
  rw [shr_n n w (by omega), w1, w2]
  show AV.tuple [.int .u64 _, .int .i64 _, .int .u64 _] = _
  rw [shr_n n (e + w) (by omega), and_i64 _ _ (by generalize n / 2 ^ w = z at *; omega) (by generalize 2 ^ e = z at *; omega), and_u64 _ _ hn (by generalize 2 ^ w = z at *; omega), mask, mask]
end Go.Proofs.YtojgnofagkekeaaDoor
namespace Go.Proofs.YtojgnofagkekeaaDoor
open Go.Proofs.YtojgnofagkekeaaDoor.VM Go.RowKit
set_option maxRecDepth 100000
set_option linter.unusedVariables false
set_option maxHeartbeats 4000000
def joinS (e w s x f : Nat) : Nat := s * 2 ^ (e + w) + x * 2 ^ w + f
theorem joinS_lt {e w s x f : Nat} (hs : s ≤ 1) (hx : x < 2 ^ e) (hf : f < 2 ^ w) : joinS e w s x f < 2 ^ (e + w + 1) := by
  unfold joinS
  have h1 : (x + 1) * 2 ^ w ≤ 2 ^ e * 2 ^ w := Nat.mul_le_mul_right _ hx
  have h2 : s * 2 ^ (e + w) ≤ 1 * 2 ^ (e + w) := Nat.mul_le_mul_right _ hs
  rw [Nat.add_mul, ← Nat.pow_add] at h1
  rw [Nat.pow_succ]
  omega
theorem join_or (e w s x f : Nat) (hx : x < 2 ^ e) (hf : f < 2 ^ w) : s * 2 ^ (e + w) ||| x * 2 ^ w ||| f = joinS e w s x f := by
  have h1 : x * 2 ^ w < 2 ^ (e + w) := by rw [Nat.pow_add]; exact Nat.mul_lt_mul_of_pos_right hx (Nat.two_pow_pos w)
  rw [or_sum s (x * 2 ^ w) (e + w) h1]
  have h2 : s * 2 ^ (e + w) + x * 2 ^ w = (s * 2 ^ e + x) * 2 ^ w := by rw [Nat.add_mul, Nat.mul_assoc, ← Nat.pow_add]
  rw [h2, or_sum _ _ w hf, ← h2]
  rfl
theorem t44 (h : Bool) {wd e w : Nat} (hF : Fm wd e w) (s x f : Nat) (hs : s ≤ 1) (hx : x < 2 ^ e) (hf : f < 2 ^ w) (S : St) : CallQ Tryd.prog (NC h) 44 [fmtV wd e w, .int .u64 s, .int .i64 x, .int .u64 f] S fun r S1 => S1 = S ∧ r = .int .u64 (joinS e w s x f : Nat) := by
  obtain ⟨f1, f2, f3, f4, f5, f6, f7⟩ := hF.le
  have hpe : 2 ^ e ≤ 2 ^ 11 := Nat.pow_le_pow_right (by decide) f2
  have hpw : 2 ^ w ≤ 2 ^ 52 := Nat.pow_le_pow_right (by decide) f4
  have hpp : 2 ^ (e + w) ≤ 2 ^ 63 := Nat.pow_le_pow_right (by decide) f6
  have w0 : IntKind.i64.wrap ((e : Int) + (w : Int)) = ((e + w : Nat) : Int) := by rw [wrap_i64 (by omega) (by omega)]; omega
  have w1 : IntKind.u64.wrap (x : Int) = (x : Int) := wrap_u64 (by omega) (by omega)
  have hxw : x * 2 ^ w < 2 ^ 63 := Nat.lt_of_lt_of_le (Nat.mul_lt_mul_of_pos_right hx (Nat.two_pow_pos w)) (by rw [← Nat.pow_add]; exact hpp)
  have hsw : s * 2 ^ (e + w) < 2 ^ 64 := by
    have := Nat.mul_le_mul hs hpp
    omega
  refine CallQ.of rfl (by kernel_rfl : Tryd.prog.funcs[44]? = some Tryd.f44) rfl (by decide) ?_
  conv => whnf
  refine ⟨[0, 1, 2, 3, 4, 5, 6, 7, 8, 9, 10, 11, 12, 13, 14, 15], [], by kernel_rfl, by kernel_rfl, by kernel_rfl, ?_⟩
  conv => whnf
  rw [w0]
  refine ⟨by omega, ?_⟩
  conv => whnf
  refine ⟨by omega, ?_⟩
  conv => whnf
  refine ⟨rfl, ?_⟩
  rw [w1, shl_n s (e + w) (by omega) hsw, shl_n x w (by omega) (by omega), or_u64 _ _ hsw (by omega)]
  rw [or_u64 _ _ (by have := Nat.or_lt_two_pow hsw (show x * 2 ^ w < 2 ^ 64 by omega); exact this) (by omega), join_or e w s x f hx hf]
  rfl
/-- How many bits a number has. -/
def blen (n : Nat) : Nat := if n = 0 then 0 else Nat.log2 n + 1
theorem blen_lt {n k : Nat} : blen n ≤ k ↔ n < 2 ^ k := by
  unfold blen
  split
  · rename_i h; subst h; simp [Nat.two_pow_pos]
  · rename_i h
    rw [Nat.succ_le_iff, Nat.log2_lt h]
theorem blen_shift {n k : Nat} (h : 2 ^ k ≤ n) : blen n = k + blen (n / 2 ^ k) := by
  have key : ∀ j, blen n ≤ k + j ↔ blen (n / 2 ^ k) ≤ j := fun j => by
    rw [blen_lt, blen_lt, Nat.div_lt_iff_lt_mul (Nat.two_pow_pos k), ← Nat.pow_add, Nat.add_comm]
  have h1 := (key (blen (n / 2 ^ k))).2 (Nat.le_refl _)
  have h2 : k ≤ blen n := by
    rcases Nat.lt_or_ge (blen n) (k + 1) with q | q
    · have := blen_lt.1 (show blen n ≤ k by omega); omega
    · omega
  have h3 := (key (blen n - k)).1 (by omega)
  omega
def len8 : List UInt8 := [0] ++ [1] ++ List.replicate 2 2 ++ List.replicate 4 3 ++ List.replicate 8 4 ++ List.replicate 16 5 ++ List.replicate 32 6 ++ List.replicate 64 7 ++ List.replicate 128 8
theorem len8_at : ∀ n, n < 256 → len8[n]? = some (UInt8.ofNat (blen n)) := by decide +kernel
theorem blen8 {n : Nat} (h : n < 256) : blen n ≤ 8 := blen_lt.2 h
theorem shr32 (n : Nat) : (n : Int).fdiv (2 ^ min (32 : Int).toNat IntKind.u64.bits) = ((n / 2 ^ 32 : Nat) : Int) := shr_n n 32 (by decide)
theorem shr16 (n : Nat) : (n : Int).fdiv (2 ^ min (16 : Int).toNat IntKind.u64.bits) = ((n / 2 ^ 16 : Nat) : Int) := shr_n n 16 (by decide)
theorem shr8 (n : Nat) : (n : Int).fdiv (2 ^ min (8 : Int).toNat IntKind.u64.bits) = ((n / 2 ^ 8 : Nat) : Int) := shr_n n 8 (by decide)
theorem t22 (h : Bool) (n : Nat) (hn : n < 2 ^ 64) (S : St) : CallQ Tryd.prog (NC h) 22 [.int .u64 n] S fun r S1 => S1 = S ∧ r = .int .i64 (blen n : Nat) := by
  have key : ∀ m k : Nat, m < 256 → k ≤ 56 → blen n = k + blen m → ∃ b, len8[(IntKind.u8.wrap (m : Int)).toNat]? = some b ∧ ∀ x : Int, x = (k : Int) → AV.int .i64 (IntKind.i64.wrap (x + IntKind.i64.wrap (b.toNat : Int))) = .int .i64 (blen n : Nat) := by
    rintro m k hm hk hb
    have h8 := blen8 hm
    rw [wrap_u8 (by omega) (by omega), Int.toNat_natCast]
    refine ⟨_, len8_at m hm, ?_⟩
    rintro x rfl
    rw [UInt8.toNat_ofNat', wrap_i64 (x := ((blen m % 2 ^ 8 : Nat) : Int)) (by omega) (by omega), wrap_i64 (by omega) (by omega), hb]
    congr 1
    omega
  refine CallQ.of rfl (by kernel_rfl : Tryd.prog.funcs[22]? = some Tryd.f22) rfl (by decide) ?_
  conv => whnf
  refine br (fun h0 => ?_) (fun h0 => ?_)
  · conv => whnf
    refine ⟨by decide, ?_⟩
    rw [shr32 (n)]
    conv => whnf
    refine br (fun h1 => ?_) (fun h1 => ?_)
    · conv => whnf
      refine ⟨by decide, ?_⟩
      rw [shr16 ((n) / 2 ^ 32)]
      conv => whnf
      refine br (fun h2 => ?_) (fun h2 => ?_)
      · conv => whnf
        refine ⟨by decide, ?_⟩
        rw [shr8 (((n) / 2 ^ 32) / 2 ^ 16)]
        conv => whnf
        obtain ⟨b, hb1, hb2⟩ := key ((((n) / 2 ^ 32) / 2 ^ 16) / 2 ^ 8) 56 (by omega) (by decide) (by rw [blen_shift (n := n) (k := 32) (by omega)]; rw [blen_shift (n := (n) / 2 ^ 32) (k := 16) (by omega)]; rw [blen_shift (n := ((n) / 2 ^ 32) / 2 ^ 16) (k := 8) (by omega)]; try omega)
        refine ⟨by rw [wrap_u8 (by omega) (by omega)]; omega, b, hb1, ?_⟩
        conv => whnf
        exact ⟨rfl, hb2 _ (by decide)⟩
      · conv => whnf
        obtain ⟨b, hb1, hb2⟩ := key (((n) / 2 ^ 32) / 2 ^ 16) 48 (by omega) (by decide) (by rw [blen_shift (n := n) (k := 32) (by omega)]; rw [blen_shift (n := (n) / 2 ^ 32) (k := 16) (by omega)]; try omega)
        refine ⟨by rw [wrap_u8 (by omega) (by omega)]; omega, b, hb1, ?_⟩
        conv => whnf
        exact ⟨rfl, hb2 _ (by decide)⟩
    · conv => whnf
      refine br (fun h2 => ?_) (fun h2 => ?_)
      · conv => whnf
        refine ⟨by decide, ?_⟩
        rw [shr8 ((n) / 2 ^ 32)]
        conv => whnf
        obtain ⟨b, hb1, hb2⟩ := key (((n) / 2 ^ 32) / 2 ^ 8) 40 (by omega) (by decide) (by rw [blen_shift (n := n) (k := 32) (by omega)]; rw [blen_shift (n := (n) / 2 ^ 32) (k := 8) (by omega)]; try omega)
        refine ⟨by rw [wrap_u8 (by omega) (by omega)]; omega, b, hb1, ?_⟩
        conv => whnf
        exact ⟨rfl, hb2 _ (by decide)⟩
      · conv => whnf
        obtain ⟨b, hb1, hb2⟩ := key ((n) / 2 ^ 32) 32 (by omega) (by decide) (by rw [blen_shift (n := n) (k := 32) (by omega)]; try omega)
        refine ⟨by rw [wrap_u8 (by omega) (by omega)]; omega, b, hb1, ?_⟩
        conv => whnf
        exact ⟨rfl, hb2 _ (by decide)⟩
  · conv => whnf
    refine br (fun h1 => ?_) (fun h1 => ?_)
    · conv => whnf
      refine ⟨by decide, ?_⟩
      rw [shr16 (n)]
      conv => whnf
      refine br (fun h2 => ?_) (fun h2 => ?_)
      · conv => whnf
        refine ⟨by decide, ?_⟩
        rw [shr8 ((n) / 2 ^ 16)]
        conv => whnf
        obtain ⟨b, hb1, hb2⟩ := key (((n) / 2 ^ 16) / 2 ^ 8) 24 (by omega) (by decide) (by rw [blen_shift (n := n) (k := 16) (by omega)]; rw [blen_shift (n := (n) / 2 ^ 16) (k := 8) (by omega)]; try omega)
        refine ⟨by rw [wrap_u8 (by omega) (by omega)]; omega, b, hb1, ?_⟩
        conv => whnf
        exact ⟨rfl, hb2 _ (by decide)⟩
      · conv => whnf
        obtain ⟨b, hb1, hb2⟩ := key ((n) / 2 ^ 16) 16 (by omega) (by decide) (by rw [blen_shift (n := n) (k := 16) (by omega)]; try omega)
        refine ⟨by rw [wrap_u8 (by omega) (by omega)]; omega, b, hb1, ?_⟩
        conv => whnf
        exact ⟨rfl, hb2 _ (by decide)⟩
    · conv => whnf
      refine br (fun h2 => ?_) (fun h2 => ?_)
      · conv => whnf
        refine ⟨by decide, ?_⟩
        rw [shr8 (n)]
        conv => whnf
        obtain ⟨b, hb1, hb2⟩ := key ((n) / 2 ^ 8) 8 (by omega) (by decide) (by rw [blen_shift (n := n) (k := 8) (by omega)]; try omega)
        refine ⟨by rw [wrap_u8 (by omega) (by omega)]; omega, b, hb1, ?_⟩
        conv => whnf
        exact ⟨rfl, hb2 _ (by decide)⟩
      · conv => whnf
        obtain ⟨b, hb1, hb2⟩ := key (n) 0 (by omega) (by decide) (by rw [Nat.zero_add])
        refine ⟨by rw [wrap_u8 (by omega) (by omega)]; omega, b, hb1, ?_⟩
        conv => whnf
        exact ⟨rfl, hb2 _ (by decide)⟩
end Go.Proofs.YtojgnofagkekeaaDoor
namespace Go.Proofs.YtojgnofagkekeaaDoor
open Go.Proofs.YtojgnofagkekeaaDoor.VM Go.RowKit
set_option maxRecDepth 100000
set_option linter.unusedVariables false
set_option maxHeartbeats 4000000
theorem eqFm {wd e w : Nat} (hF : Fm wd e w) : eqF Tryd.prog 45 (.agg [.int .i64 wd, .int .i64 e, .int .i64 w]) (.agg [.int .i64 8, .int .i64 11, .int .i64 52]) = some (decide (wd = 8)) := by
  rcases hF with ⟨rfl, rfl, rfl⟩ | ⟨rfl, rfl, rfl⟩ | ⟨rfl, rfl, rfl⟩ <;> kernel_rfl
theorem fmW : Fm 8 11 52 := .inr (.inr ⟨rfl, rfl, rfl⟩)
theorem fmS : Fm 4 8 23 := .inr (.inl ⟨rfl, rfl, rfl⟩)
theorem fmH : Fm 2 5 10 := .inl ⟨rfl, rfl, rfl⟩
/-- Bits of a format, widened. -/
def widS (e w n : Nat) : Nat :=
  if exS e w n = 2 ^ e - 1 then joinS 11 52 (sgS e w n) 2047 (frS w n * 2 ^ (52 - w))
  else if 0 < exS e w n then joinS 11 52 (sgS e w n) (exS e w n + 1023 - (2 ^ (e - 1) - 1)) (frS w n * 2 ^ (52 - w))
  else if frS w n = 0 then joinS 11 52 (sgS e w n) 0 0
  else joinS 11 52 (sgS e w n) (blen (frS w n) + 1023 - (2 ^ (e - 1) - 1) - w) (frS w n * 2 ^ (53 - blen (frS w n)) % 2 ^ 52)
def widR (wd e w n : Nat) : Nat := if wd = 8 then n else widS e w n
theorem sg_le {e w n : Nat} (h : n < 2 ^ (e + w + 1)) : sgS e w n ≤ 1 := by
  unfold sgS
  have : n / 2 ^ (e + w) < 2 := Nat.div_lt_of_lt_mul (by rw [Nat.pow_succ] at h; omega)
  omega
theorem ex_lt (e w n : Nat) : exS e w n < 2 ^ e := Nat.mod_lt _ (Nat.two_pow_pos e)
theorem fr_lt (w n : Nat) : frS w n < 2 ^ w := Nat.mod_lt _ (Nat.two_pow_pos w)
theorem Fm.pows {wd e w : Nat} (hF : Fm wd e w) (h8 : wd ≠ 8) : (2 ^ (e - 1) - 1 = 15 ∧ w = 10 ∧ e = 5) ∨ (2 ^ (e - 1) - 1 = 127 ∧ w = 23 ∧ e = 8) := by
  rcases hF with ⟨rfl, rfl, rfl⟩ | ⟨rfl, rfl, rfl⟩ | ⟨rfl, rfl, rfl⟩
  · exact .inl ⟨rfl, rfl, rfl⟩
  · exact .inr ⟨rfl, rfl, rfl⟩
  · exact absurd rfl h8
theorem up_lt {f w : Nat} (hf : f < 2 ^ w) (hw : w ≤ 52) : f * 2 ^ (52 - w) < 2 ^ 52 := by
  have h1 := Nat.mul_lt_mul_of_pos_right hf (Nat.two_pow_pos (52 - w))
  rw [← Nat.pow_add, show w + (52 - w) = 52 by omega] at h1
  exact h1
theorem t23 (h : Bool) {wd e w : Nat} (hF : Fm wd e w) (n : Nat) (hn : n < 2 ^ (e + w + 1)) (S : St) : CallQ Tryd.prog (NC h) 23 [fmtV wd e w, .int .u64 n] S fun r S1 => Keep S S1 ∧ r = .int .u64 (widR wd e w n : Nat) := by
  obtain ⟨f1, f2, f3, f4, f5, f6, f7⟩ := hF.le
  have hn64 : n < 2 ^ 64 := Nat.lt_of_lt_of_le hn (Nat.pow_le_pow_right (by decide) (by omega))
  have eW := eqFm hF
  refine CallQ.of rfl (by kernel_rfl : Tryd.prog.funcs[23]? = some Tryd.f23) rfl (by decide) ?_
  conv => whnf
  refine CallQ.mono (t26 h S) ?_
  rintro r S1 ⟨k1, rfl⟩
  conv => whnf
  refine ⟨_, _, cells_new _ _, store_agg rfl rfl rfl, ?_⟩
  conv => whnf
  generalize hS2 : (S1.new _).set _ _ = S2
  have n1 := k1.next
  have k2 : Keep S S2 := by rw [← hS2]; exact (k1.new _).set _ _ n1
  have c2 : S2.cells S1.next = some [.int .i64 8, .int .i64 11, .int .i64 52] := by rw [← hS2, cells_set]; rfl
  clear hS2 k1
  generalize S1.next = p at *
  refine CallQ.mono (t28 h hF n hn64 S2) ?_
  rintro r S3 ⟨rfl, rfl⟩
  have w9 : IntKind.i64.wrap (52 - (w : Int)) = ((52 - w : Nat) : Int) := by rw [wrap_i64 (by omega) (by omega)]; omega
  have hs := sg_le hn
  have hx := ex_lt e w n
  have hf := fr_lt w n
  conv => whnf
  refine ⟨_, c2, ?_⟩
  conv => whnf
  rw [w9]
  refine ⟨_, c2, ?_⟩
  conv => whnf
  rw [eW]
  unfold widR
  by_cases h8 : wd = 8
  · rw [if_pos h8, decide_eq_true h8]
    conv => whnf
    rintro c rfl
    conv => whnf
    exact ⟨k2, rfl⟩
  rw [if_neg h8, decide_eq_false h8]
  have hup := up_lt hf f4
  have hpw := hF.pows h8
  have hb : 15 ≤ 2 ^ (e - 1) - 1 ∧ 2 ^ (e - 1) - 1 ≤ 127 ∧ w ≤ 23 ∧ e ≤ 8 := by omega
  have hxb : exS e w n < 256 := by
    have : 2 ^ e ≤ 2 ^ 8 := Nat.pow_le_pow_right (by decide) hb.2.2.2
    omega
  have htop : 31 ≤ 2 ^ e - 1 := by
    have : 2 ^ 5 ≤ 2 ^ e := Nat.pow_le_pow_right (by decide) f1
    omega
  clear hpw
  conv => whnf
  rintro c rfl
  conv => whnf
  refine CallQ.mono (t35 h hF S3) ?_
  rintro r S4 ⟨rfl, rfl⟩
  unfold widS
  conv => whnf
  refine brEq (fun hx1 => ?_) (fun hx1 => ?_)
  · have hx1 : exS e w n = 2 ^ e - 1 := by generalize 2 ^ e - 1 = z at *; omega
    rw [if_pos hx1]
    conv => whnf
    refine ⟨[0, 2, 3, 1, 4, 5, 6, 7, 8], [(3, [0])], by kernel_rfl, by kernel_rfl, by kernel_rfl, ?_⟩
    conv => whnf
    refine ⟨_, c2, ?_⟩
    conv => whnf
    refine ⟨_, c2, ?_⟩
    conv => whnf
    refine CallQ.mono (t35 h fmW S4) ?_
    rintro r S5 ⟨rfl, rfl⟩
    conv => whnf
    refine ⟨stab_load rfl rfl rfl rfl rfl (by show (St.cells _ _).bind _ = _; rw [c2]; rfl), ?_⟩
    conv => whnf
    refine ⟨by omega, ?_⟩
    rw [shl_n (frS w n) (52 - w) (by omega) (by omega)]
    conv => whnf
    refine CallQ.mono (t44 h fmW (sgS e w n) 2047 _ hs (by decide) hup S5) ?_
    rintro r S6 ⟨rfl, rfl⟩
    conv => whnf
    exact ⟨k2, rfl⟩
  have hx1 : exS e w n ≠ 2 ^ e - 1 := by generalize 2 ^ e - 1 = z at *; omega
  rw [if_neg hx1]
  conv => whnf
  refine br (fun hx2 => ?_) (fun hx2 => ?_)
  · have hx2 : 0 < exS e w n := by omega
    rw [if_pos hx2]
    have wx : IntKind.i64.wrap (IntKind.i64.wrap ((exS e w n : Int) - ((2 ^ (e - 1) - 1 : Nat) : Int)) + ((2 ^ (11 - 1) - 1 : Nat) : Int)) = ((exS e w n + 1023 - (2 ^ (e - 1) - 1) : Nat) : Int) := by
      rw [show (2 ^ (11 - 1) - 1 : Nat) = 1023 from rfl]
      generalize 2 ^ (e - 1) - 1 = z at *
      rw [wrap_i64 (x := (exS e w n : Int) - (z : Int)) (by omega) (by omega), wrap_i64 (by omega) (by omega)]; omega
    conv => whnf
    refine ⟨[0, 3, 6, 4, 7, 1, 2, 5, 8, 9, 10, 11, 12, 13], [(4, [0, 6]), (7, [0])], by kernel_rfl, by kernel_rfl, by kernel_rfl, ?_⟩
    conv => whnf
    refine ⟨_, c2, ?_⟩
    conv => whnf
    refine ⟨_, c2, ?_⟩
    conv => whnf
    refine CallQ.mono (t29 h hF S4) ?_
    rintro r S5 ⟨rfl, rfl⟩
    conv => whnf
    refine ⟨stab_load rfl rfl rfl rfl rfl (by show (St.cells _ _).bind _ = _; rw [c2]; rfl), ?_⟩
    refine ⟨stab_load rfl rfl rfl rfl rfl (by show (St.cells _ _).bind _ = _; rw [c2]; rfl), ?_⟩
    conv => whnf
    refine CallQ.mono (t29 h fmW S5) ?_
    rintro r S6 ⟨rfl, rfl⟩
    conv => whnf
    refine ⟨stab_load rfl rfl rfl rfl rfl (by show (St.cells _ _).bind _ = _; rw [c2]; rfl), ?_⟩
    conv => whnf
    refine ⟨by omega, ?_⟩
    rw [shl_n (frS w n) (52 - w) (by omega) (by omega)]
    rw [wx]
    conv => whnf
    refine CallQ.mono (t44 h fmW (sgS e w n) (exS e w n + 1023 - (2 ^ (e - 1) - 1)) _ hs (by show _ < 2048; generalize 2 ^ (e - 1) - 1 = z at *; omega) hup S6) ?_
    rintro r S7 ⟨rfl, rfl⟩
    conv => whnf
    exact ⟨k2, rfl⟩
  rw [if_neg (show ¬ 0 < exS e w n by omega)]
  conv => whnf
  refine brEq (fun hf0 => ?_) (fun hf0 => ?_)
  · rw [if_pos (show frS w n = 0 by omega)]
    conv => whnf
    refine ⟨_, c2, ?_⟩
    conv => whnf
    refine CallQ.mono (t44 h fmW (sgS e w n) 0 0 hs (by decide) (by decide) S4) ?_
    rintro r S5 ⟨rfl, rfl⟩
    conv => whnf
    exact ⟨k2, rfl⟩
  have hf0 : frS w n ≠ 0 := by omega
  rw [if_neg hf0]
  have hl1 : 1 ≤ blen (frS w n) := by unfold blen; rw [if_neg hf0]; omega
  have hl2 : blen (frS w n) ≤ w := blen_lt.2 hf
  have hl3 : frS w n * 2 ^ (53 - blen (frS w n)) < 2 ^ 53 := by
    have := Nat.mul_lt_mul_of_pos_right (blen_lt.1 (Nat.le_refl (blen (frS w n)))) (Nat.two_pow_pos (53 - blen (frS w n)))
    rw [← Nat.pow_add, show blen (frS w n) + (53 - blen (frS w n)) = 53 by omega] at this
    exact this
  have hf64 : frS w n < 2 ^ 64 := Nat.lt_of_lt_of_le hf (Nat.pow_le_pow_right (by decide) (by omega))
  conv => whnf
  refine CallQ.mono (t22 h (frS w n) hf64 S4) ?_
  rintro r S5 ⟨rfl, rfl⟩
  have wl : IntKind.i64.wrap ((blen (frS w n) : Int) - 1) = ((blen (frS w n) - 1 : Nat) : Int) := by rw [wrap_i64 (by omega) (by omega)]; omega
  conv => whnf
  rw [wl]
  refine ⟨[0, 4, 7, 8, 10, 14, 15, 19, 20, 5, 11, 1, 2, 3, 6, 9, 12, 13, 16, 17, 18, 21, 22, 23, 24, 25], [(5, [0, 8, 10, 15, 20]), (11, [0, 8, 15, 20])], by kernel_rfl, by kernel_rfl, by kernel_rfl, ?_⟩
  conv => whnf
  refine ⟨_, c2, ?_⟩
  conv => whnf
  refine ⟨_, c2, ?_⟩
  conv => whnf
  refine ⟨_, c2, ?_⟩
  conv => whnf
  refine ⟨_, c2, ?_⟩
  conv => whnf
  refine CallQ.mono (t29 h hF S5) ?_
  rintro r S6 ⟨rfl, rfl⟩
  conv => whnf
  refine ⟨stab_load rfl rfl rfl rfl rfl (by show (St.cells _ _).bind _ = _; rw [c2]; rfl), ?_⟩
  refine ⟨⟨_, rfl, .inr ⟨_, _, _, rfl, rfl, rfl, rfl⟩⟩, ?_⟩
  refine ⟨stab_load rfl rfl rfl rfl rfl (by show (St.cells _ _).bind _ = _; rw [c2]; rfl), ?_⟩
  refine ⟨stab_load rfl rfl rfl rfl rfl (by show (St.cells _ _).bind _ = _; rw [c2]; rfl), ?_⟩
  refine ⟨stab_load rfl rfl rfl rfl rfl (by show (St.cells _ _).bind _ = _; rw [c2]; rfl), ?_⟩
  conv => whnf
  refine CallQ.mono (t29 h fmW S6) ?_
  rintro r S7 ⟨rfl, rfl⟩
  conv => whnf
  refine ⟨stab_load rfl rfl rfl rfl rfl (by show (St.cells _ _).bind _ = _; rw [c2]; rfl), ?_⟩
  refine ⟨⟨_, rfl, .inr ⟨_, _, _, rfl, rfl, rfl, rfl⟩⟩, ?_⟩
  refine ⟨stab_load rfl rfl rfl rfl rfl (by show (St.cells _ _).bind _ = _; rw [c2]; rfl), ?_⟩
  refine ⟨stab_load rfl rfl rfl rfl rfl (by show (St.cells _ _).bind _ = _; rw [c2]; rfl), ?_⟩
  conv => whnf
  have ws : IntKind.i64.wrap (52 - ((blen (frS w n) - 1 : Nat) : Int)) = ((53 - blen (frS w n) : Nat) : Int) := by rw [wrap_i64 (by omega) (by omega)]; omega
  have we : IntKind.i64.wrap (IntKind.i64.wrap (IntKind.i64.wrap (IntKind.i64.wrap (((blen (frS w n) - 1 : Nat) : Int) + 1) - ((2 ^ (e - 1) - 1 : Nat) : Int)) - (w : Int)) + ((2 ^ (11 - 1) - 1 : Nat) : Int)) = ((blen (frS w n) + 1023 - (2 ^ (e - 1) - 1) - w : Nat) : Int) := by
    rw [show (2 ^ (11 - 1) - 1 : Nat) = 1023 from rfl]
    generalize 2 ^ (e - 1) - 1 = z at *
    generalize blen (frS w n) = l at *
    rw [wrap_i64 (x := ((l - 1 : Nat) : Int) + 1) (by omega) (by omega), wrap_i64 (x := ((l - 1 : Nat) : Int) + 1 - (z : Int)) (by omega) (by omega), wrap_i64 (x := ((l - 1 : Nat) : Int) + 1 - (z : Int) - (w : Int)) (by omega) (by omega), wrap_i64 (by omega) (by omega)]
    omega
  rw [ws]
  refine ⟨by omega, ?_⟩
  rw [shl_n (frS w n) (53 - blen (frS w n)) (by omega) (by omega), we]
  conv => whnf
  refine ⟨by decide, ?_⟩
  have wm : IntKind.u64.wrap (IntKind.u64.wrap ((1 : Int) * 2 ^ min (52 : Int).toNat IntKind.u64.bits) - 1) = ((2 ^ 52 - 1 : Nat) : Int) := by decide +kernel
  conv => whnf
  rw [wm]
  rw [and_u64 _ _ (by omega) (by decide), mask]
  refine CallQ.mono (t44 h fmW (sgS e w n) (blen (frS w n) + 1023 - (2 ^ (e - 1) - 1) - w) _ hs (by show _ < 2048; generalize 2 ^ (e - 1) - 1 = z at *; omega) (Nat.mod_lt _ (by decide)) S7) ?_
  rintro r S8 ⟨rfl, rfl⟩
  conv => whnf
  exact ⟨k2, rfl⟩
end Go.Proofs.YtojgnofagkekeaaDoor
namespace Go.Proofs.YtojgnofagkekeaaDoor
open Go.Proofs.YtojgnofagkekeaaDoor.VM Go.RowKit
set_option maxRecDepth 100000
set_option linter.unusedVariables false
set_option maxHeartbeats 4000000
/-- Bits of 64, narrowed to a format. -/
def narS (e w n : Nat) : Nat :=
  if exS 11 52 n = 2047 then joinS e w (sgS 11 52 n) (2 ^ e - 1) (frS 52 n / 2 ^ (52 - w))
  else if exS 11 52 n = 0 ∨ 2 ^ e - 1 + 1023 ≤ exS 11 52 n + (2 ^ (e - 1) - 1) then joinS e w (sgS 11 52 n) 0 0
  else if 1023 < exS 11 52 n + (2 ^ (e - 1) - 1) then joinS e w (sgS 11 52 n) (exS 11 52 n + (2 ^ (e - 1) - 1) - 1023) (frS 52 n / 2 ^ (52 - w))
  else joinS e w (sgS 11 52 n) 0 ((2 ^ 52 + frS 52 n) / 2 ^ (min (53 - w + (1023 - (exS 11 52 n + (2 ^ (e - 1) - 1)))) 63))
theorem down_lt {f w : Nat} (hf : f < 2 ^ 52) (hw : w ≤ 52) : f / 2 ^ (52 - w) < 2 ^ w :=
  Nat.div_lt_of_lt_mul (by rw [← Nat.pow_add, show 52 - w + w = 52 by omega]; exact hf)
theorem small_lt {f w k : Nat} (hf : f < 2 ^ 53) (hw : w ≤ 52) (hk : 53 - w ≤ k) : f / 2 ^ k < 2 ^ w :=
  Nat.div_lt_of_lt_mul (by rw [← Nat.pow_add]; exact Nat.lt_of_lt_of_le hf (Nat.pow_le_pow_right (by decide) (by omega)))
theorem pow_e {wd e w : Nat} (hF : Fm wd e w) : 2 ^ e = 2 * 2 ^ (e - 1) ∧ 16 ≤ 2 ^ (e - 1) ∧ 2 ^ (e - 1) ≤ 1024 := by
  obtain ⟨f1, f2, _⟩ := hF.le
  refine ⟨?_, ?_, ?_⟩
  · conv => lhs; rw [show e = (e - 1) + 1 by omega, Nat.pow_succ, Nat.mul_comm]
  · exact Nat.pow_le_pow_right (n := 2) (by decide) (show 4 ≤ e - 1 by omega)
  · exact Nat.pow_le_pow_right (n := 2) (by decide) (show e - 1 ≤ 10 by omega)
theorem t25 (h : Bool) {wd e w : Nat} (hF : Fm wd e w) (n : Nat) (hn : n < 2 ^ 64) (S : St) : CallQ Tryd.prog (NC h) 25 [fmtV wd e w, .int .u64 n] S fun r S1 => Keep S S1 ∧ r = .int .u64 (narS e w n : Nat) := by
  obtain ⟨f1, f2, f3, f4, f5, f6, f7⟩ := hF.le
  obtain ⟨e1, e2, e3⟩ := pow_e hF
  have hs := sg_le (e := 11) (w := 52) hn
  have hx : exS 11 52 n < 2048 := ex_lt 11 52 n
  have hf := fr_lt 52 n
  have hdn := down_lt hf f4
  have hbias : (2 ^ (11 - 1) - 1 : Nat) = 1023 := rfl
  have hz0 : 2 ^ (e - 1) - 1 ≤ 1023 := by omega
  refine CallQ.of rfl (by kernel_rfl : Tryd.prog.funcs[25]? = some Tryd.f25) rfl (by decide) ?_
  conv => whnf
  refine CallQ.mono (t26 h S) ?_
  rintro r S1 ⟨k1, rfl⟩
  conv => whnf
  refine ⟨_, _, cells_new _ _, store_agg rfl rfl rfl, ?_⟩
  conv => whnf
  generalize hS2 : (S1.new _).set _ _ = S2
  have n1 := k1.next
  have k2 : Keep S S2 := by rw [← hS2]; exact (k1.new _).set _ _ n1
  have c2 : S2.cells S1.next = some [.int .i64 8, .int .i64 11, .int .i64 52] := by rw [← hS2, cells_set]; rfl
  clear hS2 k1
  generalize S1.next = p at *
  refine ⟨_, c2, ?_⟩
  conv => whnf
  refine CallQ.mono (t28 h fmW n hn S2) ?_
  rintro r S3 ⟨rfl, rfl⟩
  conv => whnf
  refine ⟨[1, 4, 2, 5, 0, 3, 6, 7], [(2, [4])], by kernel_rfl, by kernel_rfl, by kernel_rfl, ?_⟩
  conv => whnf
  refine ⟨_, c2, ?_⟩
  conv => whnf
  refine CallQ.mono (t29 h fmW S3) ?_
  rintro r S4 ⟨rfl, rfl⟩
  conv => whnf
  refine ⟨⟨_, rfl, .inr ⟨_, _, _, rfl, rfl, rfl, rfl⟩⟩, ?_⟩
  conv => whnf
  refine CallQ.mono (t29 h hF S4) ?_
  rintro r S5 ⟨rfl, rfl⟩
  conv => whnf
  rw [hbias]
  have wy : IntKind.i64.wrap (IntKind.i64.wrap ((exS 11 52 n : Int) - ((1023 : Nat) : Int)) + ((2 ^ (e - 1) - 1 : Nat) : Int)) = (exS 11 52 n : Int) - 1023 + ((2 ^ (e - 1) - 1 : Nat) : Int) := by
    generalize 2 ^ (e - 1) - 1 = z at *
    rw [wrap_i64 (x := (exS 11 52 n : Int) - ((1023 : Nat) : Int)) (by omega) (by omega), wrap_i64 (by omega) (by omega)]; omega
  rw [wy]
  have wd9 : IntKind.i64.wrap (52 - (w : Int)) = ((52 - w : Nat) : Int) := by rw [wrap_i64 (by omega) (by omega)]; omega
  refine ⟨_, c2, ?_⟩
  conv => whnf
  rw [wd9]
  refine ⟨_, c2, ?_⟩
  conv => whnf
  refine CallQ.mono (t35 h fmW S5) ?_
  rintro r S6 ⟨rfl, rfl⟩
  rw [show (2 ^ 11 - 1 : Nat) = 2047 from rfl]
  unfold narS
  conv => whnf
  refine brEq (fun h1 => ?_) (fun h1 => ?_)
  · rw [if_pos (show exS 11 52 n = 2047 by omega)]
    conv => whnf
    refine ⟨[0, 2, 3, 1, 4, 5, 6, 7, 8], [(3, [0])], by kernel_rfl, by kernel_rfl, by kernel_rfl, ?_⟩
    conv => whnf
    refine CallQ.mono (t35 h hF S6) ?_
    rintro r S7 ⟨rfl, rfl⟩
    conv => whnf
    refine ⟨⟨_, rfl, .inr ⟨_, _, _, rfl, rfl, rfl, rfl⟩⟩, ?_⟩
    conv => whnf
    refine ⟨by omega, ?_⟩
    rw [shr_n (frS 52 n) (52 - w) (by omega)]
    conv => whnf
    refine CallQ.mono (t44 h hF (sgS 11 52 n) (2 ^ e - 1) _ hs (by omega) hdn S7) ?_
    rintro r S8 ⟨rfl, rfl⟩
    conv => whnf
    exact ⟨k2, rfl⟩
  rw [if_neg (show exS 11 52 n ≠ 2047 by omega)]
  have hz : CallQ Tryd.prog (NC h) 44 [fmtV wd e w, .int .u64 (sgS 11 52 n : Nat), .int .i64 (0 : Nat), .int .u64 (0 : Nat)] S6 fun r S1 => S1 = S6 ∧ r = .int .u64 (joinS e w (sgS 11 52 n) 0 0 : Nat) :=
    t44 h hF (sgS 11 52 n) 0 0 hs (Nat.two_pow_pos e) (Nat.two_pow_pos w) S6
  conv => whnf
  refine brEq (fun h2 => ?_) (fun h2 => ?_)
  · rw [if_pos (.inl (show exS 11 52 n = 0 by omega))]
    conv => whnf
    refine CallQ.mono hz ?_
    rintro r S8 ⟨rfl, rfl⟩
    conv => whnf
    exact ⟨k2, rfl⟩
  conv => whnf
  refine CallQ.mono (t35 h hF S6) ?_
  rintro r S7 ⟨rfl, rfl⟩
  conv => whnf
  refine br (fun h3 => ?_) (fun h3 => ?_)
  · rw [if_pos (.inr (by generalize 2 ^ e = z at *; generalize 2 ^ (e - 1) = y at *; omega))]
    conv => whnf
    refine CallQ.mono hz ?_
    rintro r S8 ⟨rfl, rfl⟩
    conv => whnf
    exact ⟨k2, rfl⟩
  rw [if_neg (fun q => by rcases q with q | q; omega; generalize 2 ^ e = z at *; generalize 2 ^ (e - 1) = y at *; omega)]
  conv => whnf
  refine br (fun h4 => ?_) (fun h4 => ?_)
  · rw [if_pos (by generalize 2 ^ (e - 1) = y at *; omega)]
    have wq : (exS 11 52 n : Int) - 1023 + ((2 ^ (e - 1) - 1 : Nat) : Int) = ((exS 11 52 n + (2 ^ (e - 1) - 1) - 1023 : Nat) : Int) := by generalize 2 ^ (e - 1) = y at *; omega
    rw [wq]
    conv => whnf
    refine ⟨[0, 1, 2, 3, 4, 5, 6, 7], [], by kernel_rfl, by kernel_rfl, by kernel_rfl, ?_⟩
    conv => whnf
    refine ⟨by omega, ?_⟩
    rw [shr_n (frS 52 n) (52 - w) (by omega)]
    conv => whnf
    refine CallQ.mono (t44 h hF (sgS 11 52 n) (exS 11 52 n + (2 ^ (e - 1) - 1) - 1023) _ hs (by generalize 2 ^ e = z at *; generalize 2 ^ (e - 1) = y at *; omega) hdn S7) ?_
    rintro r S8 ⟨rfl, rfl⟩
    conv => whnf
    exact ⟨k2, rfl⟩
  rw [if_neg (by generalize 2 ^ (e - 1) = y at *; omega)]
  have hk : 53 - w ≤ min (53 - w + (1023 - (exS 11 52 n + (2 ^ (e - 1) - 1)))) 63 := by omega
  have hk2 : min (53 - w + (1023 - (exS 11 52 n + (2 ^ (e - 1) - 1)))) 63 ≤ 63 := Nat.min_le_right _ _
  have hmn : (if (63 : Int) < IntKind.i64.wrap (IntKind.i64.wrap (((52 - w : Nat) : Int) + 1) - ((exS 11 52 n : Int) - 1023 + ((2 ^ (e - 1) - 1 : Nat) : Int))) then (63 : Int) else IntKind.i64.wrap (IntKind.i64.wrap (((52 - w : Nat) : Int) + 1) - ((exS 11 52 n : Int) - 1023 + ((2 ^ (e - 1) - 1 : Nat) : Int)))) = ((min (53 - w + (1023 - (exS 11 52 n + (2 ^ (e - 1) - 1)))) 63 : Nat) : Int) := by
    generalize 2 ^ (e - 1) = y at *
    rw [wrap_i64 (x := ((52 - w : Nat) : Int) + 1) (by omega) (by omega), wrap_i64 (by omega) (by omega)]
    split <;> omega
  conv => whnf
  refine ⟨[0, 1, 2, 3, 4, 5, 6, 7, 8, 9, 10, 11, 12, 13, 14], [], by kernel_rfl, by kernel_rfl, by kernel_rfl, ?_⟩
  conv => whnf
  refine ⟨_, c2, ?_⟩
  conv => whnf
  refine ⟨by decide, ?_⟩
  rw [show IntKind.u64.wrap ((1 : Int) * 2 ^ min (52 : Int).toNat IntKind.u64.bits) = ((1 * 2 ^ 52 : Nat) : Int) by decide +kernel]
  conv => whnf
  rw [or_u64 _ _ (by decide) (by omega), or_sum 1 _ 52 hf, Nat.one_mul]
  rw [hmn]
  generalize hK : min (53 - w + (1023 - (exS 11 52 n + (2 ^ (e - 1) - 1)))) 63 = K at *
  refine ⟨by omega, ?_⟩
  rw [shr_n _ K (by omega)]
  conv => whnf
  refine CallQ.mono (t44 h hF (sgS 11 52 n) 0 ((2 ^ 52 + frS 52 n) / 2 ^ K) hs (Nat.two_pow_pos e) (small_lt (by omega) f4 hk) S7) ?_
  rintro r S8 ⟨rfl, rfl⟩
  conv => whnf
  exact ⟨k2, rfl⟩
end Go.Proofs.YtojgnofagkekeaaDoor
