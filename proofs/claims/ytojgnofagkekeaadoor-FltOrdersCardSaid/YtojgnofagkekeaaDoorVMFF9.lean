import Derived.Test.YtojgnofagkekeaaDoorVMFF7
namespace Go.Proofs.YtojgnofagkekeaaDoor
open Go.Proofs.YtojgnofagkekeaaDoor.VM Go.RowKit
set_option maxRecDepth 100000
set_option linter.unusedVariables false
set_option maxHeartbeats 4000000
/-- What may have been widened. -/
def candS (e w n : Nat) : List Nat :=
  if exS 11 52 n = 2047 then [joinS e w (sgS 11 52 n) (2 ^ e - 1) (frS 52 n / 2 ^ (52 - w))]
  else if 1024 ≤ exS 11 52 n + (2 ^ (e - 1) - 1) then
    (if exS 11 52 n + (2 ^ (e - 1) - 1) < 2 ^ e - 1 + 1023 then [joinS e w (sgS 11 52 n) 0 0, joinS e w (sgS 11 52 n) (exS 11 52 n + (2 ^ (e - 1) - 1) - 1023) (frS 52 n / 2 ^ (52 - w))]
     else [joinS e w (sgS 11 52 n) 0 0])
  else if 53 - w + (1023 - (exS 11 52 n + (2 ^ (e - 1) - 1))) < 64 then [joinS e w (sgS 11 52 n) 0 0, joinS e w (sgS 11 52 n) 0 ((2 ^ 52 + frS 52 n) / 2 ^ (53 - w + (1023 - (exS 11 52 n + (2 ^ (e - 1) - 1)))))]
  else [joinS e w (sgS 11 52 n) 0 0]
theorem joinZ (e w s : Nat) : joinS e w s 0 0 = s * 2 ^ (e + w) := by unfold joinS; rw [Nat.zero_mul]; rfl
theorem t27 (h : Bool) {wd e w : Nat} (hF : Fm wd e w) (h8 : wd ≠ 8) (n : Nat) (hn : n < 2 ^ 64) (S : St) : CallQ Tryd.prog (NC h) 27 [.int .u64 n, .int .i64 wd] S fun r S1 => Keep S S1 ∧ r = .lst (nn .u64 (candS e w n)) .lost := by
  obtain ⟨f1, f2, f3, f4, f5, f6, f7⟩ := hF.le
  obtain ⟨e1, e2, e3⟩ := pow_e hF
  have hpw := hF.pows h8
  have hb : 15 ≤ 2 ^ (e - 1) - 1 ∧ 2 ^ (e - 1) - 1 ≤ 127 ∧ w ≤ 23 ∧ e ≤ 8 := by omega
  have hs := sg_le (e := 11) (w := 52) hn
  have hx : exS 11 52 n < 2048 := ex_lt 11 52 n
  have hf := fr_lt 52 n
  have hdn := down_lt hf f4
  have hpwl : 2 ^ w ≤ 2 ^ 23 := Nat.pow_le_pow_right (by decide) hb.2.2.1
  have hpel : 2 ^ e ≤ 2 ^ 8 := Nat.pow_le_pow_right (by decide) hb.2.2.2
  have hpp : 2 ^ (e + w) ≤ 2 ^ 31 := Nat.pow_le_pow_right (by decide) (by omega)
  have hsw : sgS 11 52 n * 2 ^ (e + w) ≤ 2 ^ 31 := Nat.le_trans (Nat.mul_le_mul hs hpp) (by decide)
  have w0 : IntKind.i64.wrap ((e : Int) + (w : Int)) = ((e + w : Nat) : Int) := by rw [wrap_i64 (by omega) (by omega)]; omega
  have w9 : IntKind.i64.wrap (52 - (w : Int)) = ((52 - w : Nat) : Int) := by rw [wrap_i64 (by omega) (by omega)]; omega
  have w1 : IntKind.i64.wrap ((e : Int) - 1) = ((e - 1 : Nat) : Int) := by rw [wrap_i64 (by omega) (by omega)]; omega
  have w2 : IntKind.i64.wrap (((2 ^ (e - 1) : Nat) : Int) - 1) = ((2 ^ (e - 1) - 1 : Nat) : Int) := by
    generalize 2 ^ (e - 1) = z at *
    rw [wrap_i64 (by omega) (by omega)]; omega
  have w3 : IntKind.i64.wrap (((2 ^ e : Nat) : Int) - 1) = ((2 ^ e - 1 : Nat) : Int) := by
    generalize 2 ^ e = z at *
    rw [wrap_i64 (by omega) (by omega)]; omega
  have w3u : IntKind.u64.wrap (((2 ^ e : Nat) : Int) - 1) = ((2 ^ e - 1 : Nat) : Int) := by
    generalize 2 ^ e = z at *
    rw [wrap_u64 (by omega) (by omega)]; omega
  have wy : IntKind.i64.wrap (IntKind.i64.wrap ((exS 11 52 n : Int) - 1023) + ((2 ^ (e - 1) - 1 : Nat) : Int)) = (exS 11 52 n : Int) - 1023 + ((2 ^ (e - 1) - 1 : Nat) : Int) := by
    generalize 2 ^ (e - 1) - 1 = z at *
    rw [wrap_i64 (x := (exS 11 52 n : Int) - 1023) (by omega) (by omega), wrap_i64 (by omega) (by omega)]
  have hor3 : ∀ x f, x < 2 ^ e → f < 2 ^ w → IntKind.u64.wrap ((BitVec.ofInt IntKind.u64.bits (IntKind.u64.wrap ((BitVec.ofInt IntKind.u64.bits ((sgS 11 52 n * 2 ^ (e + w) : Nat) : Int) ||| BitVec.ofInt IntKind.u64.bits ((x * 2 ^ w : Nat) : Int)).toNat : Int)) ||| BitVec.ofInt IntKind.u64.bits (f : Nat)).toNat : Int) = ((joinS e w (sgS 11 52 n) x f : Nat) : Int) := by
    intro x f hx hf
    have hxw : x * 2 ^ w < 2 ^ 64 := Nat.lt_of_lt_of_le (Nat.mul_lt_mul_of_pos_right hx (Nat.two_pow_pos w)) (by rw [← Nat.pow_add]; exact Nat.le_trans hpp (by decide))
    have hsw64 : sgS 11 52 n * 2 ^ (e + w) < 2 ^ 64 := Nat.lt_of_le_of_lt hsw (by decide)
    rw [or_u64 _ _ hsw64 hxw, or_u64 _ _ (Nat.or_lt_two_pow hsw64 hxw) (Nat.lt_of_lt_of_le hf (Nat.le_trans hpwl (by decide))), join_or e w _ x f hx hf]
  have hor2 : ∀ f, f < 2 ^ w → IntKind.u64.wrap ((BitVec.ofInt IntKind.u64.bits ((sgS 11 52 n * 2 ^ (e + w) : Nat) : Int) ||| BitVec.ofInt IntKind.u64.bits (f : Nat)).toNat : Int) = ((joinS e w (sgS 11 52 n) 0 f : Nat) : Int) := by
    intro f hf
    have := hor3 0 f (Nat.two_pow_pos e) hf
    rw [← this]
    have hsw64 : sgS 11 52 n * 2 ^ (e + w) < 2 ^ 64 := Nat.lt_of_le_of_lt hsw (by decide)
    rw [or_u64 (sgS 11 52 n * 2 ^ (e + w)) (0 * 2 ^ w) hsw64 (by rw [Nat.zero_mul]; decide), Nat.zero_mul, Nat.or_zero]
  refine CallQ.of rfl (by kernel_rfl : Tryd.prog.funcs[27]? = some Tryd.f27) rfl (by decide) ?_
  conv => whnf
  refine CallQ.mono (t45 h hF S) ?_
  rintro r S1 ⟨rfl, rfl⟩
  conv => whnf
  refine CallQ.mono (t38 h fmW n hn S1) ?_
  rintro r S2 ⟨rfl, rfl⟩
  conv => whnf
  rw [w0]
  refine ⟨by omega, ?_⟩
  rw [shl_n _ (e + w) (by omega) (Nat.lt_of_le_of_lt hsw (by decide))]
  conv => whnf
  unfold candS
  refine brEq (fun h1 => ?_) (fun h1 => ?_)
  · rw [if_pos (show exS 11 52 n = 2047 by omega)]
    conv => whnf
    refine ⟨[0, 1, 2, 3, 4, 5, 6, 7, 8, 9, 10, 11, 12, 13], [], by kernel_rfl, by kernel_rfl, by kernel_rfl, ?_⟩
    conv => whnf
    refine ⟨by omega, ?_⟩
    rw [shl1 (by omega)]
    conv => whnf
    rw [w3u]
    refine ⟨by omega, ?_⟩
    rw [shl_n (2 ^ e - 1) w (by omega) (Nat.lt_of_le_of_lt (Nat.mul_le_mul (show 2 ^ e - 1 ≤ 2 ^ 8 by omega) hpwl) (by decide))]
    conv => whnf
    rw [w9]
    refine ⟨by omega, ?_⟩
    rw [shr_n (frS 52 n) (52 - w) (by omega)]
    conv => whnf
    rw [hor3 (2 ^ e - 1) (frS 52 n / 2 ^ (52 - w)) (by omega) hdn]
    exact ⟨.refl _, rfl⟩
  rw [if_neg (show exS 11 52 n ≠ 2047 by omega)]
  have hjz := joinZ e w (sgS 11 52 n)
  conv => whnf
  rw [w1]
  refine ⟨by omega, ?_⟩
  rw [shl1i (by omega)]
  conv => whnf
  rw [w2]
  rw [wy]
  refine br (fun h2 => ?_) (fun h2 => ?_)
  · rw [if_pos (show 1024 ≤ exS 11 52 n + (2 ^ (e - 1) - 1) by generalize 2 ^ (e - 1) - 1 = z at *; omega)]
    conv => whnf
    refine ⟨by omega, ?_⟩
    rw [shl1i (by omega)]
    conv => whnf
    rw [w3]
    refine br (fun h3 => ?_) (fun h3 => ?_)
    · rw [if_pos (by generalize 2 ^ (e - 1) - 1 = z at *; generalize 2 ^ e - 1 = y at *; omega)]
      have wq : IntKind.u64.wrap ((exS 11 52 n : Int) - 1023 + ((2 ^ (e - 1) - 1 : Nat) : Int)) = ((exS 11 52 n + (2 ^ (e - 1) - 1) - 1023 : Nat) : Int) := by
        generalize 2 ^ (e - 1) - 1 = z at *
        rw [wrap_u64 (by omega) (by omega)]; omega
      have hyl : exS 11 52 n + (2 ^ (e - 1) - 1) - 1023 < 2 ^ e := by generalize 2 ^ (e - 1) - 1 = z at *; generalize 2 ^ e = y at *; omega
      conv => whnf
      refine ⟨[0, 1, 2, 3, 4, 5, 6, 7, 8, 9, 10, 11, 12, 13, 14], [], by kernel_rfl, by kernel_rfl, by kernel_rfl, ?_⟩
      conv => whnf
      rw [wq]
      refine ⟨by omega, ?_⟩
      rw [shl_n _ w (by omega) (Nat.lt_of_lt_of_le (Nat.mul_lt_mul_of_pos_right hyl (Nat.two_pow_pos w)) (by rw [← Nat.pow_add]; exact Nat.le_trans hpp (by decide)))]
      conv => whnf
      rw [w9]
      refine ⟨by omega, ?_⟩
      rw [shr_n (frS 52 n) (52 - w) (by omega)]
      conv => whnf
      rw [hor3 _ (frS 52 n / 2 ^ (52 - w)) hyl hdn]
      refine ⟨_, _, rfl, ?_⟩
      conv => whnf
      refine br (fun q => absurd q (by generalize 2 ^ (e - 1) - 1 = z at *; omega)) (fun _ => ?_)
      conv => whnf
      exact ⟨(Keep.refl _).new _, by rw [hjz]; rfl⟩
    · rw [if_neg (by generalize 2 ^ (e - 1) - 1 = z at *; generalize 2 ^ e - 1 = y at *; omega)]
      conv => whnf
      refine br (fun q => absurd q (by generalize 2 ^ (e - 1) - 1 = z at *; omega)) (fun _ => ?_)
      conv => whnf
      exact ⟨.refl _, by rw [hjz]; rfl⟩
  rw [if_neg (show ¬ 1024 ≤ exS 11 52 n + (2 ^ (e - 1) - 1) by generalize 2 ^ (e - 1) - 1 = z at *; omega)]
  have wsh : IntKind.i64.wrap (IntKind.i64.wrap (IntKind.i64.wrap (1 - ((exS 11 52 n : Int) - 1023 + ((2 ^ (e - 1) - 1 : Nat) : Int))) + 52) - (w : Int)) = ((53 - w + (1023 - (exS 11 52 n + (2 ^ (e - 1) - 1))) : Nat) : Int) := by
    generalize 2 ^ (e - 1) - 1 = z at *
    rw [wrap_i64 (x := 1 - ((exS 11 52 n : Int) - 1023 + (z : Int))) (by omega) (by omega), wrap_i64 (x := 1 - ((exS 11 52 n : Int) - 1023 + (z : Int)) + 52) (by omega) (by omega), wrap_i64 (by omega) (by omega)]
    omega
  conv => whnf
  rw [wsh]
  refine br (fun _ => ?_) (fun q => absurd (by generalize 2 ^ (e - 1) - 1 = z at *; omega) q)
  conv => whnf
  generalize hK : 53 - w + (1023 - (exS 11 52 n + (2 ^ (e - 1) - 1))) = K at *
  refine br (fun h3 => ?_) (fun h3 => ?_)
  · rw [if_pos (show K < 64 by omega)]
    conv => whnf
    rw [show IntKind.u64.wrap ((4503599627370496 : Int) + (frS 52 n : Int)) = ((2 ^ 52 + frS 52 n : Nat) : Int) by rw [wrap_u64 (by omega) (by omega)]; omega]
    refine ⟨by omega, ?_⟩
    rw [shr_n _ K (by omega)]
    conv => whnf
    rw [hor2 _ (small_lt (show 2 ^ 52 + frS 52 n < 2 ^ 53 by omega) f4 (show 53 - w ≤ K by omega))]
    refine ⟨_, _, rfl, ?_⟩
    conv => whnf
    exact ⟨(Keep.refl _).new _, by rw [hjz]; rfl⟩
  · rw [if_neg (show ¬ K < 64 by omega)]
    conv => whnf
    exact ⟨.refl _, by rw [hjz]; rfl⟩
end Go.Proofs.YtojgnofagkekeaaDoor
namespace Go.Proofs.YtojgnofagkekeaaDoor
open Go.Proofs.YtojgnofagkekeaaDoor.VM Go.RowKit
set_option maxRecDepth 100000
set_option linter.unusedVariables false
set_option maxHeartbeats 4000000
theorem bits_sum (n : Nat) : n = sgS 11 52 n * 2 ^ 63 + exS 11 52 n * 2 ^ 52 + frS 52 n := by
  unfold sgS exS frS
  have h1 := Nat.div_add_mod n (2 ^ 52)
  have h2 := Nat.div_add_mod (n / 2 ^ 52) (2 ^ 11)
  rw [Nat.div_div_eq_div_mul, ← Nat.pow_add] at h2
  rw [show 11 + 52 = 52 + 11 from rfl]
  omega
/-- No number but a zero is widened from a zero. -/
theorem wid_zero {wd e w : Nat} (hF : Fm wd e w) {s : Nat} (hs : s ≤ 1) : widS e w (joinS e w s 0 0) = s * 2 ^ 63 := by
  obtain ⟨e1, e2, e3⟩ := pow_e hF
  have hz := joinZ e w s
  have hpp : 0 < 2 ^ (e + w) := Nat.two_pow_pos _
  have hsg : sgS e w (joinS e w s 0 0) = s := by unfold sgS; rw [hz, Nat.mul_div_cancel _ hpp]
  have hex : exS e w (joinS e w s 0 0) = 0 := by
    unfold exS
    rw [hz, Nat.pow_add, ← Nat.mul_assoc, Nat.mul_div_cancel _ (Nat.two_pow_pos w), Nat.mul_mod_left]
  have hfr : frS w (joinS e w s 0 0) = 0 := by
    unfold frS
    rw [hz, Nat.pow_add, ← Nat.mul_assoc, Nat.mul_mod_left]
  have hne : ¬ 0 = 2 ^ e - 1 := by clear hz hpp hsg hex hfr; omega
  unfold widS
  rw [hsg, hex, hfr, if_neg hne, if_neg (Nat.lt_irrefl 0), if_pos rfl, joinW, Nat.zero_mul, Nat.add_zero]
theorem zero_not {wd e w n : Nat} (hF : Fm wd e w) (hn : n < 2 ^ 64) (hx : exS 11 52 n ≠ 0) : widS e w (joinS e w (sgS 11 52 n) 0 0) ≠ n := by
  have hs := sg_le (e := 11) (w := 52) hn
  rw [wid_zero hF hs]
  have := bits_sum n
  intro q
  have : 0 < exS 11 52 n * 2 ^ 52 := Nat.mul_pos (by omega) (by decide)
  omega
theorem cand_all {wd e w n : Nat} (hF : Fm wd e w) (h8 : wd ≠ 8) (hn : n < 2 ^ 64) : narS e w n ∈ candS e w n ∧ (∀ c ∈ candS e w n, widS e w c = n → c = narS e w n) ∧ (candS e w n).length ≤ 2 ∧ ∀ c ∈ candS e w n, c < 2 ^ (e + w + 1) := by
  obtain ⟨f1, f2, f3, f4, f5, f6, f7⟩ := hF.le
  obtain ⟨e1, e2, e3⟩ := pow_e hF
  have hpw := hF.pows h8
  have hb : 15 ≤ 2 ^ (e - 1) - 1 ∧ 2 ^ (e - 1) - 1 ≤ 127 ∧ w ≤ 23 ∧ e ≤ 8 := by omega
  have hs := sg_le (e := 11) (w := 52) hn
  have hf := fr_lt 52 n
  have hlt := narS_lt hF hn
  have hzl : joinS e w (sgS 11 52 n) 0 0 < 2 ^ (e + w + 1) := joinS_lt hs (Nat.two_pow_pos e) (Nat.two_pow_pos w)
  -- one alone
  have one : candS e w n = [narS e w n] → narS e w n ∈ candS e w n ∧ (∀ c ∈ candS e w n, widS e w c = n → c = narS e w n) ∧ (candS e w n).length ≤ 2 ∧ ∀ c ∈ candS e w n, c < 2 ^ (e + w + 1) := fun q => by
    rw [q]
    exact ⟨by simp, fun c hc _ => by simpa using hc, by simp, fun c hc => (by simpa using hc : c = narS e w n) ▸ hlt⟩
  have two : candS e w n = [joinS e w (sgS 11 52 n) 0 0, narS e w n] → exS 11 52 n ≠ 0 → narS e w n ∈ candS e w n ∧ (∀ c ∈ candS e w n, widS e w c = n → c = narS e w n) ∧ (candS e w n).length ≤ 2 ∧ ∀ c ∈ candS e w n, c < 2 ^ (e + w + 1) := fun q hx => by
    rw [q]
    refine ⟨by simp, fun c hc hw => ?_, by simp, fun c hc => ?_⟩
    · rcases List.mem_cons.1 hc with rfl | hc
      · exact absurd hw (zero_not hF hn hx)
      · simpa using hc
    · rcases List.mem_cons.1 hc with rfl | hc
      · exact hzl
      · obtain rfl : c = narS e w n := by simpa using hc
        exact hlt
  by_cases h1 : exS 11 52 n = 2047
  · refine one ?_
    unfold candS narS
    rw [if_pos h1, if_pos h1]
  by_cases h0 : exS 11 52 n = 0
  · refine one ?_
    have eN : narS e w n = joinS e w (sgS 11 52 n) 0 0 := by unfold narS; rw [if_neg h1, if_pos (.inl h0)]
    rw [eN]
    unfold candS
    rw [if_neg h1, if_neg (by rw [h0]; omega), if_neg (by rw [h0]; omega)]
  by_cases h2 : 1024 ≤ exS 11 52 n + (2 ^ (e - 1) - 1)
  · by_cases h3 : exS 11 52 n + (2 ^ (e - 1) - 1) < 2 ^ e - 1 + 1023
    · refine two ?_ h0
      unfold candS narS
      rw [if_neg h1, if_neg h1, if_pos h2, if_pos h3, if_neg (show ¬ (exS 11 52 n = 0 ∨ 2 ^ e - 1 + 1023 ≤ exS 11 52 n + (2 ^ (e - 1) - 1)) by omega), if_pos (show 1023 < exS 11 52 n + (2 ^ (e - 1) - 1) by omega)]
    · refine one ?_
      unfold candS narS
      rw [if_neg h1, if_neg h1, if_pos h2, if_neg h3, if_pos (.inr (show 2 ^ e - 1 + 1023 ≤ exS 11 52 n + (2 ^ (e - 1) - 1) by omega))]
  · have eN : narS e w n = joinS e w (sgS 11 52 n) 0 ((2 ^ 52 + frS 52 n) / 2 ^ (min (53 - w + (1023 - (exS 11 52 n + (2 ^ (e - 1) - 1)))) 63)) := by
      unfold narS
      rw [if_neg h1, if_neg (show ¬ (exS 11 52 n = 0 ∨ 2 ^ e - 1 + 1023 ≤ exS 11 52 n + (2 ^ (e - 1) - 1)) by omega), if_neg (show ¬ 1023 < exS 11 52 n + (2 ^ (e - 1) - 1) by omega)]
    by_cases h3 : 53 - w + (1023 - (exS 11 52 n + (2 ^ (e - 1) - 1))) < 64
    · refine two ?_ h0
      rw [eN]
      unfold candS
      rw [if_neg h1, if_neg h2, if_pos h3, Nat.min_eq_left (by omega)]
    · refine one ?_
      rw [eN]
      unfold candS
      rw [if_neg h1, if_neg h2, if_neg h3, Nat.min_eq_right (by omega), Nat.div_eq_of_lt (show 2 ^ 52 + frS 52 n < 2 ^ 63 by omega)]
theorem t13 (h : Bool) (n : Nat) (hn : n < 2 ^ 64) (S : St) : CallQ Tryd.prog (NC h) 13 [.int .u64 n] S fun r S1 => Keep S S1 ∧ r = .tuple [.int .u64 (narK n : Nat), .int .i64 (narW n)] := by
  have hA := cand_all fmH (by decide) hn
  have hB := cand_all fmS (by decide) hn
  have out2 : widS 5 10 (narS 5 10 n) = n → narK n = narS 5 10 n ∧ narW n = 2 := fun q => by unfold narK narW; rw [if_pos q, if_pos q]; exact ⟨rfl, rfl⟩
  have out4 : widS 5 10 (narS 5 10 n) ≠ n → widS 8 23 (narS 8 23 n) = n → narK n = narS 8 23 n ∧ narW n = 4 := fun q0 q => by unfold narK narW; rw [if_neg q0, if_neg q0, if_pos q, if_pos q]; exact ⟨rfl, rfl⟩
  have out8 : widS 5 10 (narS 5 10 n) ≠ n → widS 8 23 (narS 8 23 n) ≠ n → narK n = n ∧ narW n = 8 := fun q0 q => by unfold narK narW; rw [if_neg q0, if_neg q0, if_neg q, if_neg q]; exact ⟨rfl, rfl⟩
  refine CallQ.of rfl (by kernel_rfl : Tryd.prog.funcs[13]? = some Tryd.f13) rfl (by decide) ?_
  conv => whnf
  refine CodeQ.round ?_
  conv => whnf
  refine br (fun _ => ?_) (fun q => absurd (by decide) q)
  conv => whnf
  refine CallQ.mono (t27 h fmH (by decide) n hn S) ?_
  rintro r S1 ⟨k1, rfl⟩
  generalize candS 5 10 n = cs at hA ⊢
  obtain ⟨a1, a2, a3, a4⟩ := hA
  conv => whnf
  refine CodeQ.loop (fun (i : Nat) => pat 34 [(0, .int .u64 n), (4, .int .i64 2), (5, .lst (nn .u64 cs) .lost), (6, .int .i64 i)]) (fun m i S2 => S2 = S1 ∧ m = cs.length - i ∧ i ≤ cs.length ∧ ∀ c ∈ cs.take i, widS 5 10 c ≠ n) ?_ _ 0 _ _ ⟨rfl, rfl, Nat.zero_le _, by simp⟩ ⟨rfl, rfl, rfl, rfl, trivial⟩
  rintro m i S2 d ⟨rfl, hm, hi, hno⟩
  dsimp only at *
  conv => whnf
  rw [nn_len]
  refine br (fun h5 => ?_) (fun h5 => ?_)
  · have h5 : i < cs.length := by omega
    have hg : (nn .u64 cs)[i]? = some (.int .u64 (cs[i] : Nat)) := by
      have := nn_get .u64 cs [] i h5
      rwa [List.append_nil] at this
    have hmem : cs[i] ∈ cs := List.getElem_mem h5
    have hlt := a4 _ hmem
    have huq := a2 _ hmem
    have htk : cs.take (i + 1) = cs.take i ++ [cs[i]] := List.take_succ_eq_append_getElem h5
    generalize cs[i] = c at *
    conv => whnf
    refine ⟨by omega, _, hg, rfl, ?_⟩
    conv => whnf
    refine CallQ.mono (t24 h fmH c hlt S2) ?_
    rintro r S3 ⟨rfl, rfl⟩
    rw [widR2]
    conv => whnf
    refine brEq (fun h6 => ?_) (fun h6 => ?_)
    · have h6 : widS 5 10 c = n := Int.ofNat.inj h6
      have hc := huq h6
      rw [hc] at h6
      rw [(out2 h6).1, (out2 h6).2]
      conv => whnf
      refine ⟨by omega, _, hg, rfl, ?_⟩
      conv => whnf
      exact ⟨k1, by rw [hc]; rfl⟩
    · have h6 : widS 5 10 c ≠ n := fun q => h6 (by rw [q])
      conv => whnf
      refine ⟨cs.length - (i + 1), i + 1, by omega, ⟨rfl, rfl, h5, fun x hx => ?_⟩, ⟨rfl, rfl, rfl, by rw [wrap_i64 (by omega) (by omega)]; rfl, trivial⟩⟩
      rw [htk] at hx
      rcases List.mem_append.1 hx with q | q
      · exact hno x q
      · obtain rfl : x = c := by simpa using q
        exact h6
  rw [List.take_of_length_le (by omega)] at hno
  have hn2 := hno _ a1
  clear a1 a2 a3 a4 hno hm hi h5
  conv => whnf
  rw [show IntKind.i64.wrap (2 * 2) = 4 from rfl]
  refine CodeQ.round ?_
  conv => whnf
  refine br (fun _ => ?_) (fun q => absurd (by decide) q)
  conv => whnf
  refine CallQ.mono (t27 h fmS (by decide) n hn S2) ?_
  rintro r S3 ⟨k3, rfl⟩
  have k13 := k1.trans k3
  clear k1 k3
  generalize candS 8 23 n = ds at hB ⊢
  obtain ⟨a1, a2, a3, a4⟩ := hB
  conv => whnf
  refine CodeQ.loop (fun (i : Nat) => pat 34 [(0, .int .u64 n), (4, .int .i64 4), (5, .lst (nn .u64 ds) .lost), (6, .int .i64 i)]) (fun m i S2 => S2 = S3 ∧ m = ds.length - i ∧ i ≤ ds.length ∧ ∀ c ∈ ds.take i, widS 8 23 c ≠ n) ?_ _ 0 _ _ ⟨rfl, rfl, Nat.zero_le _, by simp⟩ ⟨rfl, rfl, rfl, rfl, trivial⟩
  rintro m i S4 d ⟨rfl, hm, hi, hno⟩
  dsimp only at *
  conv => whnf
  rw [nn_len]
  refine br (fun h5 => ?_) (fun h5 => ?_)
  · have h5 : i < ds.length := by omega
    have hg : (nn .u64 ds)[i]? = some (.int .u64 (ds[i] : Nat)) := by
      have := nn_get .u64 ds [] i h5
      rwa [List.append_nil] at this
    have hmem : ds[i] ∈ ds := List.getElem_mem h5
    have hlt := a4 _ hmem
    have huq := a2 _ hmem
    have htk : ds.take (i + 1) = ds.take i ++ [ds[i]] := List.take_succ_eq_append_getElem h5
    generalize ds[i] = c at *
    conv => whnf
    refine ⟨by omega, _, hg, rfl, ?_⟩
    conv => whnf
    refine CallQ.mono (t24 h fmS c hlt S4) ?_
    rintro r S5 ⟨rfl, rfl⟩
    rw [widR4]
    conv => whnf
    refine brEq (fun h6 => ?_) (fun h6 => ?_)
    · have h6 : widS 8 23 c = n := Int.ofNat.inj h6
      have hc := huq h6
      rw [hc] at h6
      rw [(out4 hn2 h6).1, (out4 hn2 h6).2]
      conv => whnf
      refine ⟨by omega, _, hg, rfl, ?_⟩
      conv => whnf
      exact ⟨k13, by rw [hc]; rfl⟩
    · have h6 : widS 8 23 c ≠ n := fun q => h6 (by rw [q])
      conv => whnf
      refine ⟨ds.length - (i + 1), i + 1, by omega, ⟨rfl, rfl, h5, fun x hx => ?_⟩, ⟨rfl, rfl, rfl, by rw [wrap_i64 (by omega) (by omega)]; rfl, trivial⟩⟩
      rw [htk] at hx
      rcases List.mem_append.1 hx with q | q
      · exact hno x q
      · obtain rfl : x = c := by simpa using q
        exact h6
  rw [List.take_of_length_le (by omega)] at hno
  have hn4 := hno _ a1
  rw [(out8 hn2 hn4).1, (out8 hn2 hn4).2]
  conv => whnf
  rw [show IntKind.i64.wrap (4 * 2) = 8 from rfl]
  refine CodeQ.round ?_
  conv => whnf
  refine br (fun q => absurd q (by decide)) (fun _ => ?_)
  conv => whnf
  exact ⟨k13, rfl⟩
end Go.Proofs.YtojgnofagkekeaaDoor
