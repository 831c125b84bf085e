import Derived.Test.YtfphpjinimfhfaaVMJ38
namespace Go.Proofs.Ytfphpjinimfhfaa
open Go.Proofs.Ytfphpjinimfhfaa.VM Go.RowKit
set_option maxRecDepth 100000
set_option linter.unusedVariables false
set_option linter.unusedSimpArgs false
set_option maxHeartbeats 1000000
/-! The document's lexer, walked: Gap, Next. -/
theorem gap_nat (c : UInt8) : gapB c = decide (c.toNat = 32 ∨ c.toNat = 9 ∨ c.toNat = 10 ∨ c.toNat = 13) := all_u8' (p := fun c => gapB c = decide (c.toNat = 32 ∨ c.toNat = 9 ∨ c.toNat = 10 ∨ c.toNat = 13)) (by decide +kernel) c
theorem t12g (h : Bool) (c : UInt8) (S : St) : CallQ Try.prog (JC h) 12 [u8 c] S fun r S1 => r = .bool (gapB c) ∧ S1 = S := by
  rw [gap_nat]
  refine CallQ.of rfl (by kernel_rfl : Try.prog.funcs[12]? = some Try.f12) rfl (by decide) ?_
  conv => whnf
  refine brEq (fun e => ?_) (fun e => ?_)
  · rw [decide_eq_true (by omega)]
    conv => whnf
    exact ⟨rfl, rfl⟩
  conv => whnf
  refine brEq (fun e => ?_) (fun e => ?_)
  · rw [decide_eq_true (by omega)]
    conv => whnf
    exact ⟨rfl, rfl⟩
  conv => whnf
  refine brEq (fun e => ?_) (fun e => ?_)
  · rw [decide_eq_true (by omega)]
    conv => whnf
    exact ⟨rfl, rfl⟩
  conv => whnf
  refine brEq (fun e => ?_) (fun e => ?_)
  · rw [decide_eq_true (by omega)]
    conv => whnf
    exact ⟨rfl, rfl⟩
  rw [decide_eq_false (by omega)]
  conv => whnf
  exact ⟨rfl, rfl⟩
theorem t54 (h : Bool) (b : UInt8) (bs : List UInt8) (t : Tip) (hl : bs.length ≤ 2 ^ 46) (S : St) :
    CallQ Try.prog (JC h) 54 [.lst ((b :: bs).map u8) t] S fun r S1 => S1 = S ∧ ∃ k, r = .tuple [.int .i32 k, .int .i64 (oneS (ib (b :: bs))).2.1] := by
  have h27 := t27 h b bs t (by omega) S
  have hb := ib_byt (b :: bs)
  have hbad := @one_bad (ib (b :: bs))
  have hgood := @one_good (ib (b :: bs)) hb
  rw [ib_len] at hgood
  generalize oneS (ib (b :: bs)) = o at *
  obtain ⟨o1, o2, o3⟩ := o
  dsimp only at *
  have hf : firstV (o1, o2, o3) = .tuple [.int .i64 (if o3 < 0 then o2 else 0), .int .i64 o3] := rfl
  rw [hf] at h27
  obtain ⟨p, hp, hp1⟩ : ∃ p, p = (if o3 < 0 then o2 else 0) ∧ (o3 < 0 → p = o2) := ⟨_, rfl, fun q => if_pos q⟩
  rw [← hp] at h27
  clear hf hp
  refine CallQ.of rfl (by kernel_rfl : Try.prog.funcs[54]? = some Try.f54) rfl (by decide) ?_
  conv => whnf
  refine brEq (fun hz => absurd hz (by simp; omega)) (fun _ => ?_)
  conv => whnf
  refine CallQ.mono h27 ?_
  rintro r S1 ⟨rfl, rfl⟩
  conv => whnf
  refine br (fun hge => ?_) (fun hlt => ?_)
  · have hge : o3 ≥ 0 := hge
    obtain ⟨_, h2, _⟩ := hbad (by omega)
    conv => whnf
    exact ⟨rfl, 0, by rw [h2]; rfl⟩
  · have hlt : ¬ o3 ≥ 0 := hlt
    obtain ⟨_, g2, g3, g4, _, _⟩ := hgood (by omega)
    obtain ⟨n, rfl⟩ : ∃ n : Nat, o2 = n := ⟨o2.toNat, by omega⟩
    obtain rfl := hp1 (by omega)
    have hn : n ≤ (b :: bs).length := by omega
    obtain ⟨tp', hs⟩ := slice_hi (P := Try.prog) (t := 25) (e := 5) (s := 1) (by kernel_rfl) (by kernel_rfl) ((b :: bs).map u8) t (headOk_u8 (b :: bs)) n (by rw [List.length_map]; exact hn) .i64
    rw [← List.map_take] at hs
    have h28 := t28 h ((b :: bs).take n) tp' (by rw [List.length_take]; omega) (by rw [List.length_take]; omega) S1
    generalize (b :: bs).take n = xs at *
    conv => whnf
    refine ⟨_, hs, ?_⟩
    conv => whnf
    refine CallQ.mono h28 ?_
    rintro r S2 ⟨rfl, k, rfl⟩
    conv => whnf
    exact ⟨rfl, _, rfl⟩
end Go.Proofs.Ytfphpjinimfhfaa
namespace Go.Proofs.Ytfphpjinimfhfaa
open Go.Proofs.Ytfphpjinimfhfaa.VM Go.RowKit
set_option maxRecDepth 100000
set_option linter.unusedVariables false
set_option linter.unusedSimpArgs false
set_option maxHeartbeats 1000000
/-! The document's characters, walked: low. -/
theorem and_i64 (n m : Nat) (hn : n < 2 ^ 62) (hm : m < 2 ^ 62) : IntKind.i64.wrap ((BitVec.ofInt IntKind.i64.bits (n : Int) &&& BitVec.ofInt IntKind.i64.bits (m : Int)).toNat : Int) = ((n &&& m : Nat) : Int) := by
  have e : (BitVec.ofInt IntKind.i64.bits (n : Int) &&& BitVec.ofInt IntKind.i64.bits (m : Int)).toNat = n &&& m := by
    rw [BitVec.toNat_and, BitVec.ofInt_natCast, BitVec.ofInt_natCast, BitVec.toNat_ofNat, BitVec.toNat_ofNat]
    rw [Nat.mod_eq_of_lt (by show n < 2 ^ 64; omega), Nat.mod_eq_of_lt (by show m < 2 ^ 64; omega)]
  rw [e]
  have : n &&& m ≤ n := Nat.and_le_left
  exact wrap_i64 (by omega) (by omega)
theorem or_i64 (n m : Nat) (hn : n < 2 ^ 62) (hm : m < 2 ^ 62) : IntKind.i64.wrap ((BitVec.ofInt IntKind.i64.bits (n : Int) ||| BitVec.ofInt IntKind.i64.bits (m : Int)).toNat : Int) = ((n ||| m : Nat) : Int) := by
  have e : (BitVec.ofInt IntKind.i64.bits (n : Int) ||| BitVec.ofInt IntKind.i64.bits (m : Int)).toNat = n ||| m := by
    rw [BitVec.toNat_or, BitVec.ofInt_natCast, BitVec.ofInt_natCast, BitVec.toNat_ofNat, BitVec.toNat_ofNat]
    rw [Nat.mod_eq_of_lt (by show n < 2 ^ 64; omega), Nat.mod_eq_of_lt (by show m < 2 ^ 64; omega)]
  rw [e]
  have : n ||| m < 2 ^ 62 := Nat.or_lt_two_pow hn hm
  exact wrap_i64 (by omega) (by omega)
theorem t59 (h : Bool) (r i : Nat) (hr : r < 2 ^ 21) (hi : i ≤ 2) (S : St) : CallQ Try.prog (JC h) 59 [.int .i64 r, .int .i64 i] S fun q S1 => q = .int .u8 ((128 + r / 2 ^ (6 * i) % 64 : Nat) : Int) ∧ S1 = S := by
  refine CallQ.of rfl (by kernel_rfl : Try.prog.funcs[59]? = some Try.f59) rfl (by decide) ?_
  have e6 : IntKind.i64.wrap (6 * (i : Int)) = ((6 * i : Nat) : Int) := by rw [wrap_i64 (by omega) (by omega)]; omega
  have em : min (((6 * i : Nat) : Int).toNat) IntKind.i64.bits = 6 * i := by rw [Int.toNat_natCast]; simp [IntKind.bits]; omega
  have hd : r / 2 ^ (6 * i) ≤ r := Nat.div_le_self _ _
  have e63 : (r / 2 ^ (6 * i)) &&& 63 = r / 2 ^ (6 * i) % 64 := by rw [show (63 : Nat) = 2 ^ 6 - 1 from rfl, Nat.and_two_pow_sub_one_eq_mod]
  have e128 : 128 ||| (r / 2 ^ (6 * i) % 64) = 128 + r / 2 ^ (6 * i) % 64 := by
    have := Nat.two_pow_add_eq_or_of_lt (i := 7) (b := r / 2 ^ (6 * i) % 64) (by omega) 1
    simpa using this.symm
  conv => whnf
  rw [e6]
  refine ⟨by omega, ?_⟩
  rw [em, shr_nat]
  conv => whnf
  refine ⟨?_, rfl⟩
  have a1 := and_i64 (r / 2 ^ (6 * i)) 63 (by omega) (by decide)
  have a2 := or_i64 128 (r / 2 ^ (6 * i) % 64) (by decide) (by omega)
  rw [e63] at a1
  rw [e128] at a2
  show AV.int .u8 (IntKind.u8.wrap (IntKind.i64.wrap ((BitVec.ofInt IntKind.i64.bits ((128 : Nat) : Int) ||| BitVec.ofInt IntKind.i64.bits (IntKind.i64.wrap ((BitVec.ofInt IntKind.i64.bits ((r / 2 ^ (6 * i) : Nat) : Int) &&& BitVec.ofInt IntKind.i64.bits ((63 : Nat) : Int)).toNat : Int))).toNat : Int))) = _
  rw [a1, a2, wr_u8 (by omega) (by omega)]
end Go.Proofs.Ytfphpjinimfhfaa
namespace Go.Proofs.Ytfphpjinimfhfaa
open Go.Proofs.Ytfphpjinimfhfaa.VM Go.RowKit
set_option maxRecDepth 100000
set_option linter.unusedVariables false
set_option linter.unusedSimpArgs false
set_option maxHeartbeats 300000
/-! The document's characters, walked: Bytes. -/
theorem or_head (i a k : Nat) (h : k < 2 ^ i) : 2 ^ i * a ||| k = 2 ^ i * a + k := (Nat.two_pow_add_eq_or_of_lt h a).symm
theorem encU1 {r : Nat} (h : r < 128) : [UInt8.ofNat r] = encU r := by
  unfold encU encS
  rw [if_pos (by omega)]
  simp
theorem u8_of {n : Nat} (h : n < 256) : AV.int .u8 (n : Int) = u8 (UInt8.ofNat n) := by
  unfold u8
  rw [UInt8.toNat_ofNat', Nat.mod_eq_of_lt h]
theorem t53 (h : Bool) (r : Nat) (hr : r < 1114112) (S : St) : CallQ Try.prog (JC h) 53 [.int .i64 r] S fun q S1 => q = .lst ((encU r).map u8) .lost ∧ S1 = S := by
  have low := fun i hi S => t59 h r i (by omega) hi S
  refine CallQ.of rfl (by kernel_rfl : Try.prog.funcs[53]? = some Try.f53) rfl (by decide) ?_
  conv => whnf
  refine br (fun h1 => ?_) (fun h1 => ?_)
  · have h1 : r < 128 := by omega
    rw [← encU1 h1]
    conv => whnf
    refine ⟨?_, rfl⟩
    rw [wrap_u8_nat]; rfl
  conv => whnf
  refine br (fun h2 => ?_) (fun h2 => ?_)
  · conv => whnf
    refine ⟨by decide, ?_⟩
    rw [show min (6 : Int).toNat IntKind.i64.bits = 6 from rfl, shr_nat]
    conv => whnf
    have a2 := or_i64 192 (r / 2 ^ 6) (by decide) (by omega)
    rw [show (2 : Nat) ^ 6 = 64 from rfl] at a2
    have ho : 192 ||| r / 64 = 192 + r / 64 := or_head 6 3 (r / 64) (by omega)
    rw [ho] at a2
    refine CallQ.mono (low 0 (by omega) _) ?_
    rintro q0 T0 ⟨rfl, rfl⟩
    conv => whnf
    refine ⟨?_, rfl⟩
    show AV.lst [AV.int .u8 (IntKind.u8.wrap (IntKind.i64.wrap ((BitVec.ofInt IntKind.i64.bits ((192 : Nat) : Int) ||| BitVec.ofInt IntKind.i64.bits ((r / 64 : Nat) : Int)).toNat : Int))), AV.int .u8 ((128 + r / 2 ^ (6 * 0) % 64 : Nat) : Int)] .lost = _
    rw [a2, wr_u8 (by omega) (by omega), u8_of (by omega), u8_of (by omega), ← encU2 (by omega) (by omega), show r / 2 ^ (6 * 0) = r by simp]
    rfl
  conv => whnf
  refine br (fun h3 => ?_) (fun h3 => ?_)
  · conv => whnf
    refine ⟨by decide, ?_⟩
    rw [show min (12 : Int).toNat IntKind.i64.bits = 12 from rfl, shr_nat]
    conv => whnf
    have a2 := or_i64 224 (r / 2 ^ 12) (by decide) (by omega)
    rw [show (2 : Nat) ^ 12 = 4096 from rfl] at a2
    have ho : 224 ||| r / 4096 = 224 + r / 4096 := or_head 5 7 (r / 4096) (by omega)
    rw [ho] at a2
    refine CallQ.mono (low 1 (by omega) _) ?_
    rintro q0 T0 ⟨rfl, rfl⟩
    conv => whnf
    refine CallQ.mono (low 0 (by omega) _) ?_
    rintro q1 T1 ⟨rfl, rfl⟩
    conv => whnf
    refine ⟨?_, rfl⟩
    show AV.lst [AV.int .u8 (IntKind.u8.wrap (IntKind.i64.wrap ((BitVec.ofInt IntKind.i64.bits ((224 : Nat) : Int) ||| BitVec.ofInt IntKind.i64.bits ((r / 4096 : Nat) : Int)).toNat : Int))), AV.int .u8 ((128 + r / 2 ^ (6 * 1) % 64 : Nat) : Int), AV.int .u8 ((128 + r / 2 ^ (6 * 0) % 64 : Nat) : Int)] .lost = _
    rw [a2, wr_u8 (by omega) (by omega), u8_of (by omega), u8_of (by omega), u8_of (by omega), ← encU3 (by omega) (by omega), show r / 2 ^ (6 * 0) = r by simp, show (2 : Nat) ^ (6 * 1) = 64 from rfl]
    rfl
  · conv => whnf
    refine ⟨by decide, ?_⟩
    rw [show min (18 : Int).toNat IntKind.i64.bits = 18 from rfl, shr_nat]
    conv => whnf
    have a2 := or_i64 240 (r / 2 ^ 18) (by decide) (by omega)
    rw [show (2 : Nat) ^ 18 = 262144 from rfl] at a2
    have ho : 240 ||| r / 262144 = 240 + r / 262144 := or_head 4 15 (r / 262144) (by omega)
    rw [ho] at a2
    refine CallQ.mono (low 2 (by omega) _) ?_
    rintro q0 T0 ⟨rfl, rfl⟩
    conv => whnf
    refine CallQ.mono (low 1 (by omega) _) ?_
    rintro q1 T1 ⟨rfl, rfl⟩
    conv => whnf
    refine CallQ.mono (low 0 (by omega) _) ?_
    rintro q2 T2 ⟨rfl, rfl⟩
    conv => whnf
    refine ⟨?_, rfl⟩
    show AV.lst [AV.int .u8 (IntKind.u8.wrap (IntKind.i64.wrap ((BitVec.ofInt IntKind.i64.bits ((240 : Nat) : Int) ||| BitVec.ofInt IntKind.i64.bits ((r / 262144 : Nat) : Int)).toNat : Int))), AV.int .u8 ((128 + r / 2 ^ (6 * 2) % 64 : Nat) : Int), AV.int .u8 ((128 + r / 2 ^ (6 * 1) % 64 : Nat) : Int), AV.int .u8 ((128 + r / 2 ^ (6 * 0) % 64 : Nat) : Int)] .lost = _
    rw [a2, wr_u8 (by omega) (by omega), u8_of (by omega), u8_of (by omega), u8_of (by omega), u8_of (by omega), ← encU4 (by omega), show r / 2 ^ (6 * 0) = r by simp, show (2 : Nat) ^ (6 * 1) = 64 from rfl, show (2 : Nat) ^ (6 * 2) = 4096 from rfl]
    rfl
end Go.Proofs.Ytfphpjinimfhfaa
namespace Go.Proofs.Ytfphpjinimfhfaa
open Go.Proofs.Ytfphpjinimfhfaa.VM Go.RowKit
set_option maxRecDepth 100000
set_option linter.unusedVariables false
set_option linter.unusedSimpArgs false
set_option maxHeartbeats 2000000
/-! The document's lexer, walked: escape. -/
theorem unitR_hi {bs : List UInt8} {i n : Nat} (h : unitR bs false 4 0 0 i = .ok n) : n < 65536 ∧ ¬ (56320 ≤ n ∧ n ≤ 57343) := by
  have e := unit_eq bs false 4 0 0 i
  rw [h] at e
  have := @unit_hi bs (L0 i) (by rw [e]; rfl)
  rw [e] at this
  exact this
theorem unitR_low {bs : List UInt8} {i n : Nat} (h : unitR bs true 4 0 0 i = .ok n) : 56320 ≤ n ∧ n ≤ 57343 := by
  have e := unit_eq bs true 4 0 0 i
  rw [h] at e
  have := @unit_low bs (L0 i) (by rw [e]; rfl)
  rw [e] at this
  exact this
theorem esc_idx : ∀ k : Nat, k < 8 → ∀ x : UInt8, escF[k]? = some x → Lib.indexByte escF x = k ∧ escT[k]? = some (escT.getD k 0) := by
  intro k hk x hx
  have : ∀ k : Fin 8, Lib.indexByte escF (escF.getD k.val 0) = k.val ∧ escT[k.val]? = some (escT.getD k.val 0) := by decide
  have h := this ⟨k, hk⟩
  rw [List.getD_eq_getElem?_getD, hx] at h
  exact h
theorem esc_not (c : UInt8) : (∀ j < 8, escF[j]? ≠ some c) → Lib.indexByte escF c < 0 :=
  all_u8' (p := fun c => (∀ j < 8, escF[j]? ≠ some c) → Lib.indexByte escF c < 0) (by decide +kernel) c
/-- A character and the place behind it, or where it goes wrong. -/
def escV : Except Nat (Int × Nat) → AV
  | .ok q => .tuple [.int .i64 q.1, .int .i64 q.2, .int .i64 (-1)]
  | .error e => .tuple [.int .i64 0, .int .i64 0, .int .i64 e]
theorem t52 (h : Bool) (bs : List UInt8) (t : Tip) (hl : bs.length ≤ 2 ^ 46) (i : Nat) (hi : i ≤ 2 ^ 47) (S : St) : CallQ Try.prog (JC h) 52 [.lst (bs.map u8) t, .int .i64 i] S fun r S1 => r = escV (escR bs i) ∧ S1 = S := by
  have hunit := fun k hk low S => t58 h bs t k hk low S
  refine CallQ.of rfl (by kernel_rfl : Try.prog.funcs[52]? = some Try.f52) rfl (by decide) ?_
  conv => whnf
  refine br (fun hge => ?_) (fun hlt => ?_)
  · have hge : bs.length ≤ i := by simp at hge; omega
    conv => whnf
    have : escR bs i = .error i := by unfold escR; rw [List.getElem?_eq_none hge]
    exact ⟨by rw [this]; rfl, rfl⟩
  have hlt : i < bs.length := by simp at hlt; omega
  obtain ⟨c, hc⟩ : ∃ c, bs[i]? = some c := ⟨_, List.getElem?_eq_getElem hlt⟩
  have hmc : ((bs.map u8)[i]? : Option AV) = some (u8 c) := by rw [List.getElem?_map, hc]; rfl
  have hR : escR bs i = if 0 ≤ Lib.indexByte escF c then .ok (((escT.getD (Lib.indexByte escF c).toNat 0).toNat : Nat), i + 1)
      else if c ≠ 117 then .error i
      else match unitR bs false 4 0 0 (i + 1) with
        | .error e => .error e
        | .ok n =>
          if n / 1024 ≠ 54 then .ok ((n : Nat), i + 5)
          else if isB bs (i + 5) 92 = false then .error (i + 5)
          else if isB bs (i + 6) 117 = false then .error (i + 6)
          else match unitR bs true 4 0 0 (i + 7) with
            | .error e => .error e
            | .ok m => .ok (65536 + ((n : Int) - 55296) * 1024 + m - 56320, i + 11) := by
    conv => lhs; unfold escR; rw [hc]
    rfl
  conv => whnf
  refine CodeQ.loop (fun (k : Nat) => pat 111 [(0, .lst (bs.map u8) t), (1, .int .i64 i), (7, .str escF), (8, .str escT), (9, .int .i64 k)])
    (fun m k S1 => S1 = S ∧ k + m = 8 ∧ ∀ j < k, escF[j]? ≠ some c) ?_ 8 0 _ _ ⟨rfl, rfl, fun j hj => absurd hj (by omega)⟩ ⟨rfl, rfl, rfl, rfl, rfl, trivial⟩
  rintro m k S1 d ⟨rfl, hk, hno⟩
  conv => whnf
  refine br (fun hon => ?on) (fun hoff => ?off)
  case on =>
    have hk8 : k < 8 := by have : (k : Int) < 8 := hon; omega
    obtain ⟨x, hx⟩ : ∃ x, escF[k]? = some x := ⟨_, List.getElem?_eq_getElem (show k < escF.length from hk8)⟩
    obtain ⟨hix, hty⟩ := esc_idx k hk8 x hx
    conv => whnf
    refine ⟨[0, 1, 2, 3, 4, 5, 6, 7], [], by kernel_rfl, by kernel_rfl, by kernel_rfl, ?_⟩
    conv => whnf
    refine ⟨by omega, u8 c, hmc, rfl, ?_⟩
    conv => whnf
    refine ⟨by omega, x, by simpa using hx, ?_⟩
    conv => whnf
    refine brEq (fun he => ?_) (fun he => ?_)
    · have hcx : c = x := UInt8.toNat_inj.1 (by have : (c.toNat : Int) = x.toNat := he; omega)
      subst hcx
      conv => whnf
      refine ⟨by omega, escT.getD k 0, by simpa using hty, ?_⟩
      conv => whnf
      refine ⟨?_, rfl⟩
      rw [hR, if_pos (by omega), hix]
      show AV.tuple [.int .i64 (IntKind.i64.wrap _), .int .i64 (IntKind.i64.wrap _), _] = AV.tuple [.int .i64 _, .int .i64 _, _]
      have := escT_lt k
      rw [wrap_i64 (by omega) (by omega), wrap_i64 (by omega) (by omega)]
      rfl
    · have hne : ¬ escF[k]? = some c := by
        rw [hx]; rintro ⟨⟩; exact he rfl
      conv => whnf
      refine ⟨m - 1, k + 1, by omega, ⟨rfl, by omega, ?_⟩, ⟨rfl, rfl, rfl, rfl, ?_, trivial⟩⟩
      · intro j hj
        rcases Nat.lt_or_ge j k with q | q
        · exact hno j q
        · obtain rfl : j = k := by omega
          exact hne
      · rw [wrap_i64 (by omega) (by omega)]; try rfl
  have hk8 : k = 8 := by have : ¬ (k : Int) < 8 := hoff; omega
  subst hk8
  have hneg := esc_not c hno
  rw [if_neg (by omega)] at hR
  clear hno hneg
  have hC := c.toNat_lt
  conv => whnf
  refine ⟨by omega, u8 c, hmc, rfl, ?_⟩
  conv => whnf
  refine brNe (fun h2 => ?_) (fun h2 => ?_)
  · have : c ≠ 117 := by rintro rfl; exact h2 rfl
    rw [if_pos this] at hR
    conv => whnf
    exact ⟨by rw [hR]; rfl, rfl⟩
  have h2 : c = 117 := UInt8.toNat_inj.1 (by have : (c.toNat : Int) = 117 := h2; show c.toNat = 117; omega)
  rw [if_neg (fun q => q h2)] at hR
  have ew : ∀ (k j : Nat), k ≤ 2 ^ 62 → j < 100 → IntKind.i64.wrap ((k : Int) + (j : Int)) = ((k + j : Nat) : Int) := fun k j hk hj => by rw [wrap_i64 (by omega) (by omega)]; omega
  have ew1 := ew i 1 (by omega) (by omega)
  have ew5 := ew i 5 (by omega) (by omega)
  have hu1 := hunit (i + 1) (by omega) false S1
  have hhi := @unitR_hi bs (i + 1)
  conv => whnf
  rw [show ((i : Int) + 1) = (i : Int) + ((1 : Nat) : Int) from rfl, ew1]
  refine CallQ.mono hu1 ?_
  rintro r S2 ⟨rfl, rfl⟩
  cases hu : unitR bs false 4 0 0 (i + 1) with
  | error e =>
    rw [hu] at hR
    conv => whnf
    refine br (fun q => ?_) (fun q => absurd (Int.natCast_nonneg _) q)
    conv => whnf
    exact ⟨by rw [hR]; rfl, rfl⟩
  | ok n =>
    rw [hu] at hR
    obtain ⟨hn1, hn2⟩ := hhi hu
    conv => whnf
    have hend : n / 1024 ≠ 54 → AV.tuple [.int .i64 n, .int .i64 ((i + 5 : Nat) : Int), .int .i64 (-1)] = escV (escR bs i) := fun q => by
      rw [hR]; dsimp only; rw [if_pos q]; rfl
    refine br (fun q => absurd q (by decide)) (fun _ => ?_)
    conv => whnf
    rw [show ((i : Int) + 5) = (i : Int) + ((5 : Nat) : Int) from rfl, ew5]
    refine br (fun q1 => ?_) (fun q1 => ?_)
    · conv => whnf
      exact ⟨hend (by omega), rfl⟩
    conv => whnf
    refine br (fun q2 => ?_) (fun q2 => ?_)
    · conv => whnf
      exact ⟨hend (by omega), rfl⟩
    have hn : n / 1024 = 54 := by omega
    dsimp only at hR
    rw [if_neg (fun q => q hn)] at hR
    clear hend
    have ew6 := ew (i + 5) 1 (by omega) (by omega)
    have ew7 := ew (i + 5) 2 (by omega) (by omega)
    have ew11 := ew (i + 5) 6 (by omega) (by omega)
    have hu2 := hunit (i + 7) (by omega) true S2
    have hlo := @unitR_low bs (i + 7)
    conv => whnf
    refine br (fun q3 => ?_) (fun q3 => ?_)
    · have q3 : bs.length ≤ i + 5 := by simp at q3; omega
      rw [isB_ge q3, if_pos rfl] at hR
      conv => whnf
      exact ⟨by rw [hR]; rfl, rfl⟩
    have q3 : i + 5 < bs.length := by simp at q3; omega
    rw [isB_lt q3] at hR
    conv => whnf
    refine ⟨by omega, u8 bs[i + 5], idx_u8 bs (i + 5) q3, rfl, ?_⟩
    generalize bs[i + 5] = x5 at *
    conv => whnf
    refine brNe (fun q4 => ?_) (fun q4 => ?_)
    · have : (x5 == 92) = false := by rw [beq_eq_false_iff_ne]; rintro rfl; exact q4 rfl
      rw [this, if_pos rfl] at hR
      conv => whnf
      exact ⟨by rw [hR]; rfl, rfl⟩
    have : (x5 == 92) = true := by rw [beq_iff_eq]; exact UInt8.toNat_inj.1 (by have : (x5.toNat : Int) = 92 := q4; show x5.toNat = 92; omega)
    rw [this, if_neg (by simp)] at hR
    clear this q4
    conv => whnf
    rw [show (((i + 5 : Nat) : Int) + 1) = ((i + 5 : Nat) : Int) + ((1 : Nat) : Int) from rfl, ew6]
    refine br (fun q5 => ?_) (fun q5 => ?_)
    · have q5 : bs.length ≤ i + 6 := by simp at q5; omega
      rw [isB_ge q5, if_pos rfl] at hR
      conv => whnf
      rw [show (((i + 5 : Nat) : Int) + 1) = ((i + 5 : Nat) : Int) + ((1 : Nat) : Int) from rfl, ew6]
      exact ⟨by rw [hR]; rfl, rfl⟩
    have q5 : i + 6 < bs.length := by simp at q5; omega
    rw [isB_lt q5] at hR
    conv => whnf
    rw [show (((i + 5 : Nat) : Int) + 1) = ((i + 5 : Nat) : Int) + ((1 : Nat) : Int) from rfl, ew6]
    refine ⟨by omega, u8 bs[i + 6], idx_u8 bs (i + 6) q5, rfl, ?_⟩
    generalize bs[i + 6] = x6 at *
    conv => whnf
    refine brNe (fun q4 => ?_) (fun q4 => ?_)
    · have : (x6 == 117) = false := by rw [beq_eq_false_iff_ne]; rintro rfl; exact q4 rfl
      rw [this, if_pos rfl] at hR
      conv => whnf
      rw [show (((i + 5 : Nat) : Int) + 1) = ((i + 5 : Nat) : Int) + ((1 : Nat) : Int) from rfl, ew6]
      exact ⟨by rw [hR]; rfl, rfl⟩
    have : (x6 == 117) = true := by rw [beq_iff_eq]; exact UInt8.toNat_inj.1 (by have : (x6.toNat : Int) = 117 := q4; show x6.toNat = 117; omega)
    rw [this, if_neg (by simp)] at hR
    clear this q4
    conv => whnf
    rw [show (((i + 5 : Nat) : Int) + 2) = ((i + 5 : Nat) : Int) + ((2 : Nat) : Int) from rfl, ew7]
    refine CallQ.mono hu2 ?_
    rintro r S3 ⟨rfl, rfl⟩
    cases hv : unitR bs true 4 0 0 (i + 7) with
    | error e =>
      rw [hv] at hR
      conv => whnf
      refine br (fun q => ?_) (fun q => absurd (Int.natCast_nonneg _) q)
      conv => whnf
      exact ⟨by rw [hR]; rfl, rfl⟩
    | ok m2 =>
      rw [hv] at hR
      obtain ⟨hm1, hm2⟩ := hlo hv
      conv => whnf
      refine br (fun q => absurd q (by decide)) (fun _ => ?_)
      conv => whnf
      rw [show (((i + 5 : Nat) : Int) + 6) = ((i + 5 : Nat) : Int) + ((6 : Nat) : Int) from rfl, ew11]
      refine ⟨?_, rfl⟩
      rw [hR]
      show AV.tuple [.int .i64 _, _, _] = AV.tuple [.int .i64 (65536 + ((n : Int) - 55296) * 1024 + m2 - 56320), _, _]
      have hn3 : 55296 ≤ n ∧ n < 56320 := by omega
      have w1 : IntKind.i64.wrap ((n : Int) - 55296) = (n : Int) - 55296 := wrap_i64 (by omega) (by omega)
      have w2 : IntKind.i64.wrap (((n : Int) - 55296) * 1024) = ((n : Int) - 55296) * 1024 := wrap_i64 (by omega) (by omega)
      have w3 : IntKind.i64.wrap (65536 + ((n : Int) - 55296) * 1024) = 65536 + ((n : Int) - 55296) * 1024 := wrap_i64 (by omega) (by omega)
      have w4 : IntKind.i64.wrap (65536 + ((n : Int) - 55296) * 1024 + (m2 : Int)) = 65536 + ((n : Int) - 55296) * 1024 + (m2 : Int) := wrap_i64 (by omega) (by omega)
      have w5 : IntKind.i64.wrap (65536 + ((n : Int) - 55296) * 1024 + (m2 : Int) - 56320) = 65536 + ((n : Int) - 55296) * 1024 + (m2 : Int) - 56320 := wrap_i64 (by omega) (by omega)
      rw [w1, w2, w3, w4, w5]
      rfl
theorem escR_lim {bs : List UInt8} {i : Nat} {n : Int} {j : Nat} (h : escR bs i = .ok (n, j)) : 0 ≤ n ∧ n < 1114112 := by
  have h1 := @unitR_hi bs (i + 1)
  have h2 := @unitR_low bs (i + 7)
  have h3 := escT_lt
  unfold escR at h
  cases hc : bs[i]? with
  | none => rw [hc] at h; cases h
  | some c =>
    rw [hc] at h
    dsimp only at h
    generalize (Lib.indexByte escF c).toNat = q at h
    have h3 := h3 q
    split at h
    · cases h; omega
    split at h
    · cases h
    cases hu : unitR bs false 4 0 0 (i + 1) with
    | error e => rw [hu] at h; cases h
    | ok n =>
      rw [hu] at h
      have := h1 hu
      dsimp only at h
      split at h
      · cases h; omega
      split at h
      · cases h
      split at h
      · cases h
      cases hv : unitR bs true 4 0 0 (i + 7) with
      | error e => rw [hv] at h; cases h
      | ok m =>
        rw [hv] at h
        have := h2 hv
        dsimp only at h
        cases h; omega
end Go.Proofs.Ytfphpjinimfhfaa
