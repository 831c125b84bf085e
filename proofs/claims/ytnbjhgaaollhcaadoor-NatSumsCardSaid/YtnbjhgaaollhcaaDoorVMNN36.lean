import Derived.Test.YtnbjhgaaollhcaaDoorVMNN33
namespace Go.Proofs.YtnbjhgaaollhcaaDoor
open Go.Proofs.YtnbjhgaaollhcaaDoor.VM Go.RowKit
set_option maxRecDepth 100000
set_option linter.unusedVariables false
set_option maxHeartbeats 4000000
theorem dec256 : ([50, 53, 54] : List UInt8) = decD 256 := by decide +kernel
theorem valD256 : valD [50, 53, 54] = 256 := by decide +kernel
theorem pow256 : (256 : Nat) ^ 400 ≤ 10 ^ 964 := by decide +kernel
theorem valY_len {bs : List UInt8} (h : bs.length ≤ 400) : (decD (valY bs)).length ≤ 965 :=
  dec_len_of (Nat.lt_of_lt_of_le (valY_lt bs) (Nat.le_trans (Nat.pow_le_pow_right (by decide) h) pow256))
theorem t17 (h : Bool) (v0 : AV) (bs : List UInt8) (hv0 : Elems v0 (bs.map u8)) (hbl : bs.length ≤ 2 ^ 47) (S : St) : CallQ Tryd.prog (NC h) 17 [v0] S fun r S1 => Keep S S1 ∧ r = .tuple [.str (fromS bs), .int .i64 (fromE bs)] := by
  rcases hv0 with ⟨rfl, q⟩ | ⟨tp, rfl⟩
  · obtain rfl : bs = [] := List.map_eq_nil_iff.1 q
    refine CallQ.of rfl (by kernel_rfl : Tryd.prog.funcs[17]? = some Tryd.f17) rfl (by decide) ?_
    conv => whnf
    refine br (fun h6 => absurd h6 (by decide)) (fun _ => ?_)
    conv => whnf
    refine CodeQ.round ?_
    conv => whnf
    refine br (fun h6 => absurd h6 (by decide)) (fun _ => ?_)
    conv => whnf
    have e : ([48] : List UInt8) = decD 0 := by decide +kernel
    show CallQ Tryd.prog (NC h) 45 [.str [48]] _ _
    rw [e]
    refine CallQ.mono (t45 h 0 (by decide +kernel) S) ?_
    rintro r S3 ⟨rfl, rfl⟩
    conv => whnf
    exact ⟨.refl _, rfl⟩
  have hlm : (bs.map u8).length = bs.length := by simp
  refine CallQ.of rfl (by kernel_rfl : Tryd.prog.funcs[17]? = some Tryd.f17) rfl (by decide) ?_
  conv => whnf
  rw [hlm]
  refine br (fun h6 => ?_) (fun h6 => ?_)
  · conv => whnf
    exact ⟨.refl _, by unfold fromS fromE; rw [if_neg (by omega), if_neg (by omega)]; rfl⟩
  have hle : bs.length ≤ 400 := by omega
  have e1 : fromS bs = shortS (valY bs) := if_pos hle
  have e2 : fromE bs = shortE (valY bs) := if_pos hle
  rw [e1, e2]
  have hz : ([48] : List UInt8) = decD (valY (bs.take 0)) := by rw [List.take_zero]; decide +kernel
  conv => whnf
  refine CodeQ.loop (fun (i : Nat) => pat 35 [(0, .lst (bs.map u8) tp), (4, .str (decD (valY (bs.take i)))), (5, .int .i64 i)])
    (fun m i S1 => m = bs.length - i ∧ i ≤ bs.length ∧ Keep S S1)
    ?_ _ 0 _ _ ⟨rfl, Nat.zero_le _, .refl _⟩ ⟨rfl, by rw [← hz], rfl, trivial⟩
  rintro m i S1 d ⟨hm, hi, k1⟩
  dsimp only at *
  have hli : (decD (valY (bs.take i))).length ≤ 965 := valY_len (by simp; omega)
  conv => whnf
  rw [hlm]
  refine br (fun h5 => ?_) (fun h5 => ?_)
  rotate_left
  · obtain rfl : i = bs.length := by omega
    rw [List.take_length] at hli ⊢
    conv => whnf
    refine CallQ.mono (t45 h _ (by omega) S1) ?_
    rintro r S3 ⟨rfl, rfl⟩
    conv => whnf
    exact ⟨k1, rfl⟩
  have h5 : i < bs.length := by omega
  have hli2 : (decD (valY (bs.take i) * 256)).length ≤ 969 := by
    have := dec_mul_len (dec_dig (valY (bs.take i))) (dec_dig 256)
    rw [valD_dec, valD_dec, ← dec256] at this
    simp at this
    omega
  have h1 : 1 ≤ (decD (valY (bs.take i))).length := List.length_pos_iff.2 (dec_head _).1
  have h2 : 1 ≤ (decD (valY (bs.take i) * 256)).length := List.length_pos_iff.2 (dec_head _).1
  conv => whnf
  refine CallQ.mono (t37 h (decD (valY (bs.take i))) [50, 53, 54] h1 (by omega) (dec_dig _) (by decide) (by decide) (by decide) S1) ?_
  rintro r S2 ⟨k2, rfl⟩
  rw [valD_dec, valD256]
  conv => whnf
  refine CallQ.mono (dig_some h (decD (valY (bs.take i) * 256)) h2 (by omega) (dec_dig _) S2) ?_
  rintro r S3 ⟨k3, n, rfl, rest, p1, p2, p3, p4⟩
  have vA := valB_digL (decD (valY (bs.take i) * 256))
  rw [valD_dec] at vA
  have dA := digL_lt (dec_dig (valY (bs.take i) * 256))
  rw [← digL_len (decD (valY (bs.take i) * 256))] at hli2 h2 ⊢
  generalize digL (decD (valY (bs.take i) * 256)) = xs at *
  obtain ⟨x, xs, rfl⟩ : ∃ z t, xs = z :: t := by cases xs with | nil => simp at h2 | cons z t => exact ⟨z, t, rfl⟩
  have hx0 := dA x (by simp)
  have hc := (bs.getD i 0).toNat_lt
  have hk2 := k2.next
  conv => whnf
  refine ⟨[0, 1, 2, 3, 4, 5, 6, 7, 8, 9, 10], [], by kernel_rfl, by kernel_rfl, by kernel_rfl, ?_⟩
  conv => whnf
  refine ⟨by omega, by omega, ?_⟩
  conv => whnf
  refine ld_at (ds := []) p1 rfl ?_
  conv => whnf
  refine ⟨by omega, u8 (bs.getD i 0), by simp [h5, List.getD], rfl, ?_⟩
  conv => whnf
  have w1 : IntKind.i64.wrap (((x : Nat) : Int) + IntKind.i64.wrap (((bs.getD i 0).toNat : Nat) : Int)) = ((x + (bs.getD i 0).toNat : Nat) : Int) := by
    rw [wrap_i64 (x := (((bs.getD i 0).toNat : Nat) : Int)) (by omega) (by omega), wrap_i64 (by omega) (by omega)]; omega
  refine ⟨by omega, by omega, ?_⟩
  conv => whnf
  refine st_at (ds := []) (x + (bs.getD i 0).toNat) p1 rfl w1 ?_
  conv => whnf
  have hlx : ((x + (bs.getD i 0).toNat) :: xs).length = (x :: xs).length := rfl
  rw [← hlx]
  refine CallQ.mono (t44 h n rest ((x + (bs.getD i 0).toNat) :: xs) (S3.set n _) (mem_set _ _ _) p4 (by simp) (fun z q => ?_) (by rw [hlx]; omega)) ?_
  · rcases List.mem_cons.1 q with rfl | q
    · omega
    · have := dA z (by simp [q]); omega
  rintro r S4 ⟨k4, rfl⟩
  have hv : valB 10 ((x + (bs.getD i 0).toNat) :: xs) = valY (bs.take (i + 1)) := by
    rw [valY_take bs i h5, ← vA]; simp only [valB]; omega
  rw [hv]
  conv => whnf
  refine ⟨bs.length - (i + 1), i + 1, by omega, ⟨rfl, h5, ?_⟩, ⟨rfl, rfl, by rw [wrap_i64 (by omega) (by omega)]; rfl, trivial⟩⟩
  exact ((k1.trans k2).trans (k3.set n _ p3)).trans k4
theorem pow_half (q n : Nat) : q ^ n = (if n % 2 = 1 then q else 1) * (q * q) ^ (n / 2) := by
  have h : n = 2 * (n / 2) + n % 2 := by omega
  conv => lhs; rw [h]
  rw [Nat.pow_add, Nat.pow_mul, Nat.pow_two]
  split
  · rename_i e; rw [e, Nat.pow_one, Nat.mul_comm]
  · rename_i e; rw [show n % 2 = 0 by omega, Nat.pow_zero, Nat.mul_one, Nat.one_mul]
theorem t12 (h : Bool) (y n : Int) (S : St) : CallQ Tryd.prog (NC h) 12 [.int .i64 y, .int .i64 n] S fun r S1 => Keep S S1 ∧ r = .tuple [.str (arS (powOk y n) (y.toNat ^ n.toNat)), .int .i64 (arE (powOk y n) (y.toNat ^ n.toNat))] := by
  refine CallQ.of rfl (by kernel_rfl : Tryd.prog.funcs[12]? = some Tryd.f12) rfl (by decide) ?_
  conv => whnf
  refine br (fun h1 => ?_) (fun h1 => ?_)
  · conv => whnf
    exact ⟨.refl _, by unfold powOk; rw [decide_eq_false (by omega)]; rfl⟩
  conv => whnf
  refine br (fun h2 => ?_) (fun h2 => ?_)
  · conv => whnf
    exact ⟨.refl _, by unfold powOk; rw [decide_eq_false (by omega)]; rfl⟩
  conv => whnf
  refine br (fun h3 => ?_) (fun h3 => ?_)
  · conv => whnf
    exact ⟨.refl _, by unfold powOk; rw [decide_eq_false (by omega)]; rfl⟩
  conv => whnf
  refine br (fun h4 => ?_) (fun h4 => ?_)
  · conv => whnf
    exact ⟨.refl _, by unfold powOk; rw [decide_eq_false (by omega)]; rfl⟩
  have hok : powOk y n = true := decide_eq_true ⟨by omega, by omega, by omega, by omega⟩
  rw [hok]
  obtain ⟨y, rfl⟩ : ∃ z : Nat, y = z := ⟨y.toNat, by omega⟩
  obtain ⟨n, rfl⟩ : ∃ z : Nat, n = z := ⟨n.toNat, by omega⟩
  rw [Int.toNat_natCast, Int.toNat_natCast]
  conv => whnf
  rw [wrap_u64 (by omega) (by omega)]
  refine CallQ.mono (t24 h y (by omega) S) ?_
  rintro r S0 ⟨rfl, rfl⟩
  have hone : ([49] : List UInt8) = decD 1 := by decide +kernel
  have hfin : arS true (y ^ n) = shortS (y ^ n) ∧ arE true (y ^ n) = shortE (y ^ n) := ⟨rfl, rfl⟩
  rw [hfin.1, hfin.2]
  generalize hT : y ^ n = T at *
  have hyl : (decD y).length ≤ 10 := dec_len 9 y (by omega)
  conv => whnf
  refine CodeQ.loop (fun (q : Nat × Nat × Nat) => pat 47 [(1, .int .i64 q.1), (6, .str (decD q.2.1)), (7, .str (decD q.2.2))])
    (fun m q S1 => m = q.1 ∧ q.1 ≤ 4000 ∧ Keep S0 S1 ∧ (decD q.2.1).length ≤ 800 ∧ (decD q.2.2).length ≤ 2000 ∧ q.2.1 * q.2.2 ^ q.1 = T ∧ (q.2.2 = 0 ∨ 1 ≤ q.2.1 ∧ 1 ≤ q.2.2))
    ?_ n (n, 1, y) _ _ ⟨rfl, by omega, .refl _, by rw [← hone]; decide, by show (decD y).length ≤ 2000; omega, by rw [← hT]; simp, by show y = 0 ∨ 1 ≤ 1 ∧ 1 ≤ y; omega⟩ ⟨rfl, by rw [← hone], rfl, trivial⟩
  rintro m ⟨nn_, s, q⟩ S1 d ⟨hm, hn, k1, hs, hql, hv, hpos⟩
  dsimp only at *
  conv => whnf
  refine br (fun h5 => ?_) (fun h5 => ?_)
  rotate_left
  · obtain rfl : nn_ = 0 := by omega
    obtain rfl : s = T := by simpa using hv
    rw [(shortS_fit hs).1, (shortS_fit hs).2]
    conv => whnf
    exact ⟨k1, rfl⟩
  have h5 : 0 < nn_ := by omega
  have q1 : 1 ≤ (decD q).length := List.length_pos_iff.2 (dec_head q).1
  have s1 : 1 ≤ (decD s).length := List.length_pos_iff.2 (dec_head s).1
  have big : ∀ v, v ≤ T → ¬ (decD v).length ≤ 800 → shortS T = [] ∧ shortE T = 11 := fun v h1 h2 => shortS_not (fun h3 => h2 (Nat.le_trans (dec_len_mono h1) h3))
  conv => whnf
  refine br (fun h6 => ?_) (fun h6 => ?_)
  · have hq0 : ¬ q = 0 := fun e => by subst e; rw [show (decD 0).length = 1 by decide +kernel] at h6; omega
    have hle : q ≤ T := by
      obtain ⟨c1, c2⟩ := hpos.resolve_left hq0
      rw [← hv]
      calc q = 1 * q ^ 1 := by simp
        _ ≤ s * q ^ nn_ := Nat.mul_le_mul c1 (Nat.pow_le_pow_right c2 h5)
    obtain ⟨b1, b2⟩ := big q hle (by omega)
    rw [b1, b2]
    conv => whnf
    exact ⟨k1, rfl⟩
  have hql8 : (decD q).length ≤ 800 := by omega
  have hqq : (decD (q * q)).length ≤ 1700 := by
    have := dec_mul_len (dec_dig q) (dec_dig q)
    rw [valD_dec] at this
    omega
  have hsq : (decD (s * q)).length ≤ 1700 := by
    have := dec_mul_len (dec_dig s) (dec_dig q)
    rw [valD_dec, valD_dec] at this
    omega
  have hph := pow_half q nn_
  have w2 : ((nn_ : Nat) : Int).tmod 2 = ((nn_ % 2 : Nat) : Int) := by
    rw [Int.tmod_eq_emod_of_nonneg (by omega)]; omega
  have w3 : IntKind.i64.wrap (((nn_ : Nat) : Int).tdiv 2) = ((nn_ / 2 : Nat) : Int) := by
    rw [Int.tdiv_eq_ediv_of_nonneg (by omega), wrap_i64 (by omega) (by omega)]; omega
  conv => whnf
  refine ⟨by decide, ?_⟩
  rw [w2]
  conv => whnf
  refine brEq (fun h7 => ?_) (fun h7 => ?_)
  · rw [if_pos (by omega)] at hph
    have hv2 : s * q * (q * q) ^ (nn_ / 2) = T := by rw [← hv, hph, Nat.mul_assoc]
    have hp2 : q = 0 ∨ 1 ≤ s * q ∧ 1 ≤ q := by
      rcases hpos with e | ⟨c1, c2⟩
      · exact .inl e
      · exact .inr ⟨Nat.mul_pos c1 c2, c2⟩
    conv => whnf
    refine CallQ.mono (t37 h (decD s) (decD q) s1 (by omega) (dec_dig _) q1 (by omega) (dec_dig _) S1) ?_
    rintro r S2 ⟨k2, rfl⟩
    rw [valD_dec, valD_dec]
    conv => whnf
    refine br (fun h8 => ?_) (fun h8 => ?_)
    · have hle : s * q ≤ T := by
        rcases hp2 with e | ⟨c1, c2⟩
        · rw [e] at h8
          rw [Nat.mul_zero, show (decD 0).length = 1 by decide +kernel] at h8
          omega
        · rw [← hv2]
          calc s * q = s * q * 1 := (Nat.mul_one _).symm
            _ ≤ s * q * (q * q) ^ (nn_ / 2) := Nat.mul_le_mul_left _ (Nat.one_le_pow _ _ (Nat.mul_pos c2 c2))
      obtain ⟨b1, b2⟩ := big _ hle (by omega)
      rw [b1, b2]
      conv => whnf
      exact ⟨k1.trans k2, rfl⟩
    have k12 := k1.trans k2
    generalize s * q = s' at *
    conv => whnf
    refine ⟨by decide, ?_⟩
    rw [w3]
    conv => whnf
    refine br (fun h9 => ?_) (fun h9 => ?_)
    · conv => whnf
      refine CallQ.mono (t37 h (decD q) (decD q) q1 (by omega) (dec_dig _) q1 (by omega) (dec_dig _) S2) ?_
      rintro r S3 ⟨k3, rfl⟩
      rw [valD_dec]
      conv => whnf
      refine ⟨nn_ / 2, (nn_ / 2, s', q * q), by omega, ⟨rfl, by show nn_ / 2 ≤ _; omega, k12.trans k3, by show (decD s').length ≤ 800; omega, by show (decD (q * q)).length ≤ 2000; omega, hv2, ?_⟩, ⟨rfl, rfl, rfl, trivial⟩⟩
      rcases hp2 with e | ⟨c1, c2⟩
      · exact .inl (by rw [e])
      · exact .inr ⟨c1, Nat.mul_pos c2 c2⟩
    · have h0 : nn_ / 2 = 0 := by omega
      rw [h0, Nat.pow_zero, Nat.mul_one] at hv2
      conv => whnf
      refine ⟨nn_ / 2, (nn_ / 2, s', q), by omega, ⟨rfl, by show nn_ / 2 ≤ _; omega, k12, by show (decD s').length ≤ 800; omega, by show (decD q).length ≤ 2000; omega, by show s' * q ^ (nn_ / 2) = T; rw [h0, hv2]; simp, hp2⟩, ⟨rfl, rfl, rfl, trivial⟩⟩
  · rw [if_neg (by omega), Nat.one_mul] at hph
    have hv2 : s * (q * q) ^ (nn_ / 2) = T := by rw [← hv, hph]
    have hp2 := hpos
    have h8 : ¬ ((decD s).length : Int) > 800 := by omega
    conv => whnf
    refine br (fun q => absurd q h8) (fun _ => ?_)
    have k12 := k1
    conv => whnf
    refine ⟨by decide, ?_⟩
    rw [w3]
    conv => whnf
    refine br (fun h9 => ?_) (fun h9 => ?_)
    · conv => whnf
      refine CallQ.mono (t37 h (decD q) (decD q) q1 (by omega) (dec_dig _) q1 (by omega) (dec_dig _) S1) ?_
      rintro r S3 ⟨k3, rfl⟩
      rw [valD_dec]
      conv => whnf
      refine ⟨nn_ / 2, (nn_ / 2, s, q * q), by omega, ⟨rfl, by show nn_ / 2 ≤ _; omega, k12.trans k3, by show (decD s).length ≤ 800; omega, by show (decD (q * q)).length ≤ 2000; omega, hv2, ?_⟩, ⟨rfl, rfl, rfl, trivial⟩⟩
      rcases hp2 with e | ⟨c1, c2⟩
      · exact .inl (by rw [e])
      · exact .inr ⟨c1, Nat.mul_pos c2 c2⟩
    · have h0 : nn_ / 2 = 0 := by omega
      rw [h0, Nat.pow_zero, Nat.mul_one] at hv2
      conv => whnf
      refine ⟨nn_ / 2, (nn_ / 2, s, q), by omega, ⟨rfl, by show nn_ / 2 ≤ _; omega, k12, by show (decD s).length ≤ 800; omega, by show (decD q).length ≤ 2000; omega, by show s * q ^ (nn_ / 2) = T; rw [h0, hv2]; simp, hp2⟩, ⟨rfl, rfl, rfl, trivial⟩⟩
end Go.Proofs.YtnbjhgaaollhcaaDoor
namespace Go.Proofs.YtnbjhgaaollhcaaDoor
open Go.Proofs.YtnbjhgaaollhcaaDoor.VM Go.RowKit
set_option maxRecDepth 100000
set_option linter.unusedVariables false
set_option maxHeartbeats 4000000
def orderI (a b : List UInt8) : Int := if (rightS a && rightS b) = true then ordS a b else 0
def orderE (a b : List UInt8) : Int := if (rightS a && rightS b) = true then 0 else 1
theorem t28 (h : Bool) (a b : List UInt8) (ha : a.length ≤ 2 ^ 47) (hb : b.length ≤ 2 ^ 47) (S : St) : CallQ Tryd.prog (NC h) 28 [.str a, .str b] S fun r S1 => Keep S S1 ∧ r = .tuple [.int .i64 (orderI a b), .int .i64 (orderE a b)] := by
  unfold orderI orderE
  refine CallQ.of rfl (by kernel_rfl : Tryd.prog.funcs[28]? = some Tryd.f28) rfl (by decide) ?_
  conv => whnf
  refine CallQ.mono (t33 h a ha S) ?_
  rintro r S1 ⟨k1, rfl⟩
  cases hra : rightS a
  · conv => whnf
    exact ⟨k1, rfl⟩
  conv => whnf
  refine CallQ.mono (t33 h b hb S1) ?_
  rintro r S2 ⟨k2, rfl⟩
  cases hrb : rightS b
  · conv => whnf
    exact ⟨k1.trans k2, rfl⟩
  conv => whnf
  refine CallQ.mono (t48 h a b ha hb S2) ?_
  rintro r S3 ⟨rfl, rfl⟩
  conv => whnf
  exact ⟨k1.trans k2, rfl⟩
theorem t29 (h : Bool) (a b : List UInt8) (ha : a.length ≤ 2 ^ 47) (hb : b.length ≤ 2 ^ 47) (S : St) : CallQ Tryd.prog (NC h) 29 [.str a, .str b] S fun r S1 => S1 = S ∧ r = .tuple [.int .i64 (orderI a b), .int .i64 (orderE a b)] := by
  unfold orderI orderE
  refine CallQ.of rfl (by kernel_rfl : Tryd.prog.funcs[29]? = some Tryd.f29) rfl (by decide) ?_
  conv => whnf
  refine CallQ.mono (t34 h a S) ?_
  rintro r S1 ⟨rfl, rfl⟩
  cases hra : rightS a
  · conv => whnf
    exact ⟨rfl, rfl⟩
  conv => whnf
  refine CallQ.mono (t34 h b S1) ?_
  rintro r S2 ⟨rfl, rfl⟩
  cases hrb : rightS b
  · conv => whnf
    exact ⟨rfl, rfl⟩
  conv => whnf
  refine CallQ.mono (t49 h a b ha hb S2) ?_
  rintro r S3 ⟨rfl, rfl⟩
  conv => whnf
  exact ⟨rfl, rfl⟩
theorem dec_zero {q : Nat} : decD q = [48] ↔ q = 0 := by
  constructor
  · intro h
    have := congrArg valD h
    rw [valD_dec] at this
    exact this
  · rintro rfl; decide +kernel
theorem t19 (h : Bool) (s : List UInt8) (S : St) : CallQ Tryd.prog (NC h) 19 [.str s] S fun r S1 => Keep S S1 ∧
    ((rightS s = false ∧ r = .tuple [.nils, .int .i64 1]) ∨ (rightS s = true ∧ ∃ w, r = .tuple [w, .int .i64 0] ∧ HdC S.next S1 w ((beY (valD s)).map u8))) := by
  refine CallQ.of rfl (by kernel_rfl : Tryd.prog.funcs[19]? = some Tryd.f19) rfl (by decide) ?_
  conv => whnf
  refine CallQ.mono (t34 h s S) ?_
  rintro r S1 ⟨rfl, rfl⟩
  cases hr : rightS s
  · conv => whnf
    exact ⟨.refl _, .inl ⟨rfl, rfl⟩⟩
  obtain ⟨s1, s2, _⟩ := right_head hr
  have hyl : (lowY (valD s)).length ≤ 3200 := by
    unfold lowY
    rw [List.length_map]
    refine Nat.le_trans (places_len (b := 256) (by decide) (4 * s.length) _ (Nat.lt_of_lt_of_le (valD_lt (right_all hr).2) ?_)) (by omega)
    rw [Nat.pow_mul]
    exact Nat.pow_le_pow_left (by decide) _
  have hs : AV.str s = .str (decD (valD s)) := by rw [dec_valD hr]
  conv => whnf
  refine CodeQ.loop (fun (q : AV × Nat) => pat 24 [(0, .str (decD q.2)), (4, q.1)])
    (fun m q S2 => m = q.2 ∧ q.2 ≤ valD s ∧ Keep S1 S2 ∧ ∃ ds : List UInt8, HdX S1.next S2 q.1 (ds.reverse.map u8) ∧ lowY (valD s) = ds ++ lowY q.2)
    ?_ _ (.nils, valD s) _ _ ⟨rfl, Nat.le_refl _, .refl _, [], ⟨.nil, .inl ⟨rfl, rfl⟩⟩, rfl⟩ ⟨hs, rfl, trivial⟩
  rintro m ⟨w, q⟩ S2 d ⟨hm, hq, k2, ds, hw, hd⟩
  dsimp only at *
  conv => whnf
  refine brSNe (fun h5 => ?_) (fun h5 => ?_)
  rotate_left
  · obtain rfl : q = 0 := dec_zero.1 h5
    rw [lowY_zero, List.append_nil] at hd
    have hwc : HdC S1.next S2 w ((beY (valD s)).map u8) := by
      unfold beY
      rw [hd]
      obtain ⟨_, ⟨e1, e2⟩ | ⟨n, p1, p2, p3, p4⟩⟩ := hw
      · exact .inl ⟨e1, e2⟩
      · exact .inr ⟨n, p1, p2, p3, cells_of_mem p4⟩
    conv => whnf
    refine ⟨k2, .inr ⟨rfl, w, ?_, hwc⟩⟩
    show AV.tuple [w.shed, _] = _
    rw [hwc.shed]; rfl
  have hq0 : q ≠ 0 := fun e => h5 (by rw [e]; decide +kernel)
  have q1 : 1 ≤ (decD q).length := List.length_pos_iff.2 (dec_head q).1
  have q2 : (decD q).length ≤ 800 := by
    refine Nat.le_trans (dec_len_mono hq) ?_
    rw [dec_valD hr]; exact s2
  conv => whnf
  refine CallQ.mono (t41 h (decD q) 256 q1 (by omega) (dec_dig _) (by decide) (by decide) S2) ?_
  rintro r S3 ⟨k3, rfl⟩
  rw [valD_dec]
  conv => whnf
  rw [wrap_mod256]
  have hlen := congrArg List.length hd
  rw [List.length_append] at hlen
  obtain ⟨n, S4, e1, e2, e3, e4, e5⟩ := HdB.cons (S0 := S1) (C := NC h) (f := 19) elB rfl (k := .u8) (i := ((UInt8.ofNat (q % 256)).toNat : Nat)) (k2.trans k3) (hw.keep k3).hdB (by simp only [List.length_map, List.length_reverse]; omega)
  refine ⟨_, S4, e1, ?_⟩
  conv => whnf
  refine ⟨q / 256, (_, q / 256), by omega, ⟨rfl, by show q / 256 ≤ _; omega, e5, ds ++ [UInt8.ofNat (q % 256)], ?_, ?_⟩, ⟨rfl, rfl, trivial⟩⟩
  · rw [List.reverse_append, List.reverse_singleton, List.singleton_append, List.map_cons]
    exact ⟨nums_u8 (UInt8.ofNat (q % 256) :: ds.reverse), .inr ⟨n, e2, e3, by simp, e4⟩⟩
  · rw [hd, lowY_pos hq0]; simp
/-- The same bytes, as texts. -/
theorem t20 (h : Bool) (v w : AV) (a b : List UInt8) (S : St) (hv : convertA Tryd.prog S 34 9 v = some (.str a)) (hw : convertA Tryd.prog S 34 9 w = some (.str b)) (cv : v = .nils ∨ (∃ xs t, v = .lst xs t) ∨ ∃ n l, v = .hnd n 0 l 1) (cw : w = .nils ∨ (∃ xs t, w = .lst xs t) ∨ ∃ n l, w = .hnd n 0 l 1) :
    CallQ Tryd.prog (NC h) 20 [v, w] S fun r S1 => S1 = S ∧ r = .bool (a == b) := by
  have fin : ∀ c, c = (a == b) → c = (a == b) := fun _ h => h
  rcases cv with rfl | ⟨xs, t, rfl⟩ | ⟨n, l, rfl⟩ <;> rcases cw with rfl | ⟨ys, u, rfl⟩ | ⟨m, k, rfl⟩
  · obtain rfl : ([] : List UInt8) = a := by have := hv.symm.trans (rfl : _ = some (AV.str [])); simpa using this.symm
    obtain rfl : ([] : List UInt8) = b := by have := hw.symm.trans (rfl : _ = some (AV.str [])); simpa using this.symm
    refine CallQ.of rfl (by kernel_rfl : Tryd.prog.funcs[20]? = some Tryd.f20) rfl (by decide) ?_
    conv => whnf
    rintro c rfl
    conv => whnf
    exact ⟨rfl, rfl⟩
  · obtain rfl : ([] : List UInt8) = a := by have := hv.symm.trans (rfl : _ = some (AV.str [])); simpa using this.symm
    refine CallQ.of rfl (by kernel_rfl : Tryd.prog.funcs[20]? = some Tryd.f20) rfl (by decide) ?_
    conv => whnf
    refine ⟨_, hw, ?_⟩
    conv => whnf
    rintro c rfl
    conv => whnf
    exact ⟨rfl, rfl⟩
  · obtain rfl : ([] : List UInt8) = a := by have := hv.symm.trans (rfl : _ = some (AV.str [])); simpa using this.symm
    refine CallQ.of rfl (by kernel_rfl : Tryd.prog.funcs[20]? = some Tryd.f20) rfl (by decide) ?_
    conv => whnf
    refine ⟨_, hw, ?_⟩
    conv => whnf
    rintro c rfl
    conv => whnf
    exact ⟨rfl, rfl⟩
  · obtain rfl : ([] : List UInt8) = b := by have := hw.symm.trans (rfl : _ = some (AV.str [])); simpa using this.symm
    refine CallQ.of rfl (by kernel_rfl : Tryd.prog.funcs[20]? = some Tryd.f20) rfl (by decide) ?_
    conv => whnf
    refine ⟨_, hv, ?_⟩
    conv => whnf
    rintro c rfl
    conv => whnf
    exact ⟨rfl, rfl⟩
  · refine CallQ.of rfl (by kernel_rfl : Tryd.prog.funcs[20]? = some Tryd.f20) rfl (by decide) ?_
    conv => whnf
    refine ⟨_, hv, ?_⟩
    conv => whnf
    refine ⟨_, hw, ?_⟩
    conv => whnf
    rintro c rfl
    conv => whnf
    exact ⟨rfl, rfl⟩
  · refine CallQ.of rfl (by kernel_rfl : Tryd.prog.funcs[20]? = some Tryd.f20) rfl (by decide) ?_
    conv => whnf
    refine ⟨_, hv, ?_⟩
    conv => whnf
    refine ⟨_, hw, ?_⟩
    conv => whnf
    rintro c rfl
    conv => whnf
    exact ⟨rfl, rfl⟩
  · obtain rfl : ([] : List UInt8) = b := by have := hw.symm.trans (rfl : _ = some (AV.str [])); simpa using this.symm
    refine CallQ.of rfl (by kernel_rfl : Tryd.prog.funcs[20]? = some Tryd.f20) rfl (by decide) ?_
    conv => whnf
    refine ⟨_, hv, ?_⟩
    conv => whnf
    rintro c rfl
    conv => whnf
    exact ⟨rfl, rfl⟩
  · refine CallQ.of rfl (by kernel_rfl : Tryd.prog.funcs[20]? = some Tryd.f20) rfl (by decide) ?_
    conv => whnf
    refine ⟨_, hv, ?_⟩
    conv => whnf
    refine ⟨_, hw, ?_⟩
    conv => whnf
    rintro c rfl
    conv => whnf
    exact ⟨rfl, rfl⟩
  · refine CallQ.of rfl (by kernel_rfl : Tryd.prog.funcs[20]? = some Tryd.f20) rfl (by decide) ?_
    conv => whnf
    refine ⟨_, hv, ?_⟩
    conv => whnf
    refine ⟨_, hw, ?_⟩
    conv => whnf
    rintro c rfl
    conv => whnf
    exact ⟨rfl, rfl⟩
theorem HdC.form {b : Nat} {S : St} {v : AV} {xs : List AV} (h : HdC b S v xs) : v = .nils ∨ (∃ xs t, v = .lst xs t) ∨ ∃ n l, v = .hnd n 0 l 1 := by
  obtain ⟨rfl, _⟩ | ⟨n, _, _, rfl, _⟩ := h
  · exact .inl rfl
  · exact .inr (.inr ⟨_, _, rfl⟩)
end Go.Proofs.YtnbjhgaaollhcaaDoor
namespace Go.Proofs.YtnbjhgaaollhcaaDoor
open Go.Proofs.YtnbjhgaaollhcaaDoor.VM Go.RowKit
set_option maxRecDepth 100000
set_option linter.unusedVariables false
set_option maxHeartbeats 4000000
theorem alive_q {S : St} {Q : AV → St → Prop} (q : Q (.bool true) S) : CallQ Tryd.prog (NC true) 13 [] S Q := CallQ.intr (g := aliveG) rfl rfl q
theorem t10 (a b : List UInt8) (ha : a.length ≤ 2 ^ 47) (hb : b.length ≤ 2 ^ 47) (S : St) : CallQ Tryd.prog (NC true) 10 [.str a, .str b] S fun r S1 => r = .bool true := by
  refine CallQ.of rfl (by kernel_rfl : Tryd.prog.funcs[10]? = some Tryd.f10) rfl (by decide) ?_
  conv => whnf
  refine CallQ.mono (t28 true a b ha hb S) ?_
  rintro r S1 ⟨k1, rfl⟩
  conv => whnf
  refine CallQ.mono (t29 true a b ha hb S1) ?_
  rintro r S2 ⟨rfl, rfl⟩
  conv => whnf
  refine CallQ.mono (t26 a b ha hb S2) ?_
  rintro r S3 ⟨k3, rfl⟩
  conv => whnf
  refine CallQ.mono (t30 true a b S3) ?_
  rintro r S4 ⟨k4, rfl⟩
  conv => whnf
  refine CallQ.mono (t27 a b ha hb S4) ?_
  rintro r S5 ⟨k5, rfl⟩
  conv => whnf
  refine CallQ.mono (t31 true a b ha hb S5) ?_
  rintro r S6 ⟨k6, rfl⟩
  conv => whnf
  refine CallQ.mono (t25 a b ha hb S6) ?_
  rintro r S7 ⟨k7, rfl⟩
  conv => whnf
  refine CallQ.mono (t32 true a b S7) ?_
  rintro r S8 ⟨k8, rfl⟩
  conv => whnf
  refine brEq (fun _ => ?_) (fun hh => absurd rfl hh)
  conv => whnf
  refine brEq (fun _ => ?_) (fun hh => absurd rfl hh)
  conv => whnf
  refine brSEq (fun _ => ?_) (fun hh => absurd rfl hh)
  conv => whnf
  refine brEq (fun _ => ?_) (fun hh => absurd rfl hh)
  conv => whnf
  refine brSEq (fun _ => ?_) (fun hh => absurd rfl hh)
  conv => whnf
  refine brEq (fun _ => ?_) (fun hh => absurd rfl hh)
  conv => whnf
  refine brSEq (fun _ => ?_) (fun hh => absurd rfl hh)
  conv => whnf
  refine brEq (fun _ => ?_) (fun hh => absurd rfl hh)
  conv => whnf
  refine CallQ.mono (t33 true a ha S8) ?_
  rintro r S9 ⟨k9, rfl⟩
  conv => whnf
  refine CallQ.mono (t34 true a S9) ?_
  rintro r S10 ⟨rfl, rfl⟩
  cases rightS a
  all_goals
    conv => whnf
    rintro c rfl
    conv => whnf
    refine alive_q ?_
    conv => whnf
    rfl
theorem t3 (y n : Int) (S : St) : CallQ Tryd.prog (NC true) 3 [.int .i64 y, .int .i64 n] S fun r S1 => r = .bool true := by
  refine CallQ.of rfl (by kernel_rfl : Tryd.prog.funcs[3]? = some Tryd.f3) rfl (by decide) ?_
  conv => whnf
  refine CallQ.mono (t11 y n S) ?_
  rintro r S1 ⟨k1, rfl⟩
  conv => whnf
  refine CallQ.mono (t12 true y n S1) ?_
  rintro r S2 ⟨k2, rfl⟩
  conv => whnf
  refine brSEq (fun _ => ?_) (fun hh => absurd rfl hh)
  conv => whnf
  refine brEq (fun _ => ?_) (fun hh => absurd rfl hh)
  conv => whnf
  refine alive_q ?_
  conv => whnf
  rfl
theorem t4 (a : List UInt8) (ha : a.length ≤ 2 ^ 47) (y : Int) (S : St) : CallQ Tryd.prog (NC true) 4 [.str a, .int .i64 y] S fun r S1 => r = .bool true := by
  have key : ∃ (s : List UInt8) (i e : Int), (if rightS a = true ∧ 1 ≤ y ∧ y ≤ 1000000 then AV.tuple [.str (decD (valD a / y.toNat)), .int .i64 (valD a % y.toNat : Nat), .int .i64 0] else .tuple [.str [], .int .i64 0, .int .i64 1]) = .tuple [.str s, .int .i64 i, .int .i64 e] := by
    split <;> exact ⟨_, _, _, rfl⟩
  obtain ⟨s, i, e, key⟩ := key
  refine CallQ.of rfl (by kernel_rfl : Tryd.prog.funcs[4]? = some Tryd.f4) rfl (by decide) ?_
  conv => whnf
  refine CallQ.mono (t14 a y ha S) ?_
  rintro r S1 ⟨k1, rfl⟩
  rw [key]
  conv => whnf
  refine CallQ.mono (t15 true a y S1) ?_
  rintro r S2 ⟨k2, rfl⟩
  rw [key]
  conv => whnf
  refine brSEq (fun _ => ?_) (fun hh => absurd rfl hh)
  conv => whnf
  refine brEq (fun _ => ?_) (fun hh => absurd rfl hh)
  conv => whnf
  refine brEq (fun _ => ?_) (fun hh => absurd rfl hh)
  conv => whnf
  refine alive_q ?_
  conv => whnf
  rfl
theorem t5 (v0 : AV) (bs s : List UInt8) (hv : Elems v0 (bs.map u8)) (hb : bs.length ≤ 2 ^ 47) (hs : s.length ≤ 2 ^ 47) (S : St) : CallQ Tryd.prog (NC true) 5 [v0, .str s] S fun r S1 => r = .bool true := by
  have hf : v0 = .nils ∨ ∃ t, v0 = .lst (bs.map u8) t := hv.elim (fun h => .inl h.1) .inr
  have main : CallQ Tryd.prog (NC true) 5 [v0, .str s] S fun r S1 => r = .bool true := by
    refine CallQ.of rfl (by kernel_rfl : Tryd.prog.funcs[5]? = some Tryd.f5) rfl (by decide) ?_
    conv => whnf
    refine CallQ.mono (t16 v0 bs hv hb S) ?_
    rintro r S1 ⟨k1, rfl⟩
    conv => whnf
    refine CallQ.mono (t17 true v0 bs hv hb S1) ?_
    rintro r S2 ⟨k2, rfl⟩
    conv => whnf
    refine CallQ.mono (t18 s hs S2) ?_
    rintro r S3 ⟨k3, ⟨hr, rfl⟩ | ⟨hr, w, rfl, hw⟩⟩
    · conv => whnf
      refine CallQ.mono (t19 true s S3) ?_
      rintro r S4 ⟨k4, ⟨hr2, rfl⟩ | ⟨hr2, w, rfl, hw⟩⟩
      rotate_left
      · rw [hr] at hr2; cases hr2
      conv => whnf
      refine brSEq (fun _ => ?_) (fun hh => absurd rfl hh)
      conv => whnf
      refine brEq (fun _ => ?_) (fun hh => absurd rfl hh)
      conv => whnf
      refine CallQ.mono (t20 true .nils .nils [] [] S4 rfl rfl (.inl rfl) (.inl rfl)) ?_
      rintro r S5 ⟨rfl, rfl⟩
      conv => whnf
      refine brEq (fun _ => ?_) (fun hh => absurd rfl hh)
      conv => whnf
      refine alive_q ?_
      conv => whnf
      rfl
    · conv => whnf
      refine CallQ.mono (t19 true s S3) ?_
      rintro r S4 ⟨k4, ⟨hr2, rfl⟩ | ⟨hr2, w2, rfl, hw2⟩⟩
      · rw [hr] at hr2; cases hr2
      conv => whnf
      refine brSEq (fun _ => ?_) (fun hh => absurd rfl hh)
      conv => whnf
      refine brEq (fun _ => ?_) (fun hh => absurd rfl hh)
      conv => whnf
      refine CallQ.mono (t20 true w w2 _ _ S4 (conv_hdC (hw.keep k4)) (conv_hdC hw2) hw.form hw2.form) ?_
      rintro r S5 ⟨rfl, rfl⟩
      rw [show (beY (valD s) == beY (valD s)) = true by simp]
      conv => whnf
      refine brEq (fun _ => ?_) (fun hh => absurd rfl hh)
      conv => whnf
      refine alive_q ?_
      conv => whnf
      rfl
  exact main
theorem arS_true {n : Nat} : arS true n = shortS n := rfl
theorem arE_true {n : Nat} : arE true n = shortE n := rfl
theorem t9 (a b : List UInt8) (ha : a.length ≤ 2 ^ 47) (hb : b.length ≤ 2 ^ 47) (S : St) : CallQ Tryd.prog (NC true) 9 [.str a, .str b] S fun r S1 => r = .bool true := by
  have c1 : (rightS b && rightS a) = (rightS a && rightS b) := Bool.and_comm _ _
  refine CallQ.of rfl (by kernel_rfl : Tryd.prog.funcs[9]? = some Tryd.f9) rfl (by decide) ?_
  conv => whnf
  refine CallQ.mono (t26 a b ha hb S) ?_
  rintro r S1 ⟨k1, rfl⟩
  conv => whnf
  refine CallQ.mono (t26 b a hb ha S1) ?_
  rintro r S2 ⟨k2, rfl⟩
  rw [c1, Nat.add_comm (valD b)]
  conv => whnf
  refine CallQ.mono (t25 a b ha hb S2) ?_
  rintro r S3 ⟨k3, rfl⟩
  conv => whnf
  refine CallQ.mono (t25 b a hb ha S3) ?_
  rintro r S4 ⟨k4, rfl⟩
  rw [c1, Nat.mul_comm (valD b)]
  conv => whnf
  refine brSNe (fun hh => absurd rfl hh) (fun _ => ?_)
  conv => whnf
  refine brNe (fun hh => absurd rfl hh) (fun _ => ?_)
  conv => whnf
  refine brSNe (fun hh => absurd rfl hh) (fun _ => ?_)
  conv => whnf
  refine brNe (fun hh => absurd rfl hh) (fun _ => ?_)
  conv => whnf
  refine brNe (fun h5 => ?_) (fun h5 => ?_)
  · conv => whnf
    refine alive_q ?_
    conv => whnf
    rfl
  obtain ⟨hok, hfit⟩ : (rightS a && rightS b) = true ∧ (decD (valD a + valD b)).length ≤ 800 := by
    cases hr : rightS a && rightS b
    · rw [hr] at h5; exact absurd h5 (show ¬ (1 : Int) = 0 by decide)
    · rw [hr, arE_true] at h5
      refine ⟨rfl, ?_⟩
      unfold shortE at h5
      split at h5
      · assumption
      · exact absurd h5 (by decide)
  have hra : rightS a = true := by simp at hok; exact hok.1
  have hrb : rightS b = true := by simp at hok; exact hok.2
  rw [hok, arS_true, (shortS_fit hfit).1]
  have hrs := right_decD hfit
  have hso : subOk (decD (valD a + valD b)) b = true := by
    unfold subOk
    rw [hrs, hrb]
    have : ¬ ordS (decD (valD a + valD b)) b < 0 := fun q => by
      have := (ord_val hrs hrb).1 q
      rw [valD_dec] at this
      omega
    rw [decide_eq_false this]; rfl
  have hsv : valD (decD (valD a + valD b)) - valD b = valD a := by rw [valD_dec]; omega
  have hfa : (decD (valD a)).length ≤ 800 := Nat.le_trans (dec_len_mono (by omega)) hfit
  conv => whnf
  refine CallQ.mono (t27 (decD (valD a + valD b)) b (by omega) hb S4) ?_
  rintro r S5 ⟨k5, rfl⟩
  rw [hso, hsv, arS_true (n := valD a), arE_true (n := valD a), (shortS_fit hfa).1, (shortS_fit hfa).2, dec_valD hra]
  conv => whnf
  refine brEq (fun _ => ?_) (fun hh => absurd rfl hh)
  conv => whnf
  refine brSEq (fun _ => ?_) (fun hh => absurd rfl hh)
  conv => whnf
  refine alive_q ?_
  conv => whnf
  rfl
theorem t8 (a : List UInt8) (ha : a.length ≤ 2 ^ 47) (y : Int) (S : St) : CallQ Tryd.prog (NC true) 8 [.str a, .int .i64 y] S fun r S1 => r = .bool true := by
  refine CallQ.of rfl (by kernel_rfl : Tryd.prog.funcs[8]? = some Tryd.f8) rfl (by decide) ?_
  conv => whnf
  refine CallQ.mono (t14 a y ha S) ?_
  rintro r S1 ⟨k1, rfl⟩
  by_cases hc : rightS a = true ∧ 1 ≤ y ∧ y ≤ 1000000
  rotate_left
  · rw [if_neg hc]
    conv => whnf
    refine brNe (fun _ => ?_) (fun hh => absurd hh (by decide))
    conv => whnf
    refine brEq (fun _ => ?_) (fun hh => absurd rfl hh)
    conv => whnf
    refine alive_q ?_
    conv => whnf
    rfl
  rw [if_pos hc]
  obtain ⟨hra, hy0, hy1⟩ := hc
  obtain ⟨z, rfl⟩ : ∃ z : Nat, y = z := ⟨y.toNat, by omega⟩
  rw [Int.toNat_natCast]
  have hz : 0 < z := by omega
  have hml : valD a % z < z := Nat.mod_lt _ hz
  have hsum := Nat.div_add_mod' (valD a) z
  have hla : (decD (valD a)).length ≤ 800 := by rw [dec_valD hra]; exact (right_head hra).2.1
  have hq : (decD (valD a / z)).length ≤ 800 := Nat.le_trans (dec_len_mono (Nat.div_le_self _ _)) hla
  have hzl : (decD z).length ≤ 800 := Nat.le_trans (dec_len 9 z (by omega)) (by decide)
  have hp : (decD (valD a / z * z)).length ≤ 800 := Nat.le_trans (dec_len_mono (Nat.div_mul_le_self _ _)) hla
  have hml2 : (decD (valD a % z)).length ≤ 800 := Nat.le_trans (dec_len_mono (Nat.mod_le _ _)) hla
  conv => whnf
  refine brNe (fun hh => absurd rfl hh) (fun _ => ?_)
  conv => whnf
  rw [wrap_u64 (by omega) (by omega)]
  refine CallQ.mono (t23 true z (by omega) S1) ?_
  rintro r S2 ⟨rfl, k2⟩
  conv => whnf
  refine CallQ.mono (t25 (decD (valD a / z)) (decD z) (by omega) (by omega) S2) ?_
  rintro r S3 ⟨k3, rfl⟩
  rw [right_decD hq, right_decD hzl, valD_dec, valD_dec, Bool.and_true, arS_true, arE_true, (shortS_fit hp).1, (shortS_fit hp).2]
  conv => whnf
  have hw : IntKind.u64.wrap ((valD a % z : Nat) : Int) = ((valD a % z : Nat) : Int) := by
    generalize valD a % z = mz at *
    exact wrap_u64 (by omega) (by omega)
  rw [hw]
  refine CallQ.mono (t23 true (valD a % z) (Nat.lt_trans hml (by omega)) S3) ?_
  rintro r S4 ⟨rfl, k4⟩
  conv => whnf
  refine CallQ.mono (t26 (decD (valD a / z * z)) (decD (valD a % z)) (by omega) (by omega) S4) ?_
  rintro r S5 ⟨k5, rfl⟩
  rw [right_decD hp, right_decD hml2, valD_dec, valD_dec, Bool.and_true, arS_true, arE_true, hsum, (shortS_fit hla).1, (shortS_fit hla).2, dec_valD hra]
  conv => whnf
  refine brEq (fun _ => ?_) (fun hh => absurd rfl hh)
  conv => whnf
  refine brEq (fun _ => ?_) (fun hh => absurd rfl hh)
  conv => whnf
  refine brSEq (fun _ => ?_) (fun hh => absurd rfl hh)
  conv => whnf
  refine br (fun _ => ?_) (fun hh => absurd (Int.natCast_nonneg _) hh)
  conv => whnf
  refine br (fun _ => ?_) (fun hh => absurd (Int.ofNat_lt.2 hml) hh)
  conv => whnf
  refine alive_q ?_
  conv => whnf
  rfl
def isZ (c : UInt8) : Bool := c == 0
theorem lowY_snoc (bs : List UInt8) (c : UInt8) : beY (valY (bs ++ [c])) = if valY bs = 0 ∧ c = 0 then [] else beY (valY bs) ++ [c] := by
  have e : valY (bs ++ [c]) = valY bs * 256 + c.toNat := by unfold valY; rw [List.foldl_append]; rfl
  have hc := c.toNat_lt
  rw [e]
  unfold beY
  split
  · rename_i h
    obtain ⟨h1, rfl⟩ := h
    rw [h1]; rw [show 0 * 256 + (0 : UInt8).toNat = 0 from rfl, lowY_zero]; rfl
  · rename_i h
    have hne : valY bs * 256 + c.toNat ≠ 0 := fun q => h ⟨by omega, UInt8.toNat_inj.1 (show c.toNat = (0 : UInt8).toNat by have : (0 : UInt8).toNat = 0 := rfl; omega)⟩
    rw [lowY_pos hne, show (valY bs * 256 + c.toNat) % 256 = c.toNat by omega, show (valY bs * 256 + c.toNat) / 256 = valY bs by omega, UInt8.ofNat_toNat, List.reverse_cons]
theorem valY_zero : ∀ bs : List UInt8, valY bs = 0 ↔ ∀ c ∈ bs, c = 0 := by
  have key : ∀ (bs : List UInt8) (m : Nat), bs.foldl bstep m = 0 ↔ m = 0 ∧ ∀ c ∈ bs, c = 0 := by
    intro bs
    induction bs with
    | nil => intro m; simp
    | cons c bs ih =>
      intro m
      rw [List.foldl_cons, ih]
      unfold bstep
      constructor
      · rintro ⟨h1, h2⟩
        refine ⟨by omega, fun x hx => ?_⟩
        rcases List.mem_cons.1 hx with rfl | hx
        · exact UInt8.toNat_inj.1 (show x.toNat = (0 : UInt8).toNat by have : (0 : UInt8).toNat = 0 := rfl; omega)
        · exact h2 x hx
      · rintro ⟨rfl, h2⟩
        refine ⟨?_, fun x hx => h2 x (List.mem_cons_of_mem _ hx)⟩
        rw [h2 c List.mem_cons_self]; rfl
  intro bs
  rw [show valY bs = bs.foldl bstep 0 from rfl, key]
  simp
theorem beY_strip (bs : List UInt8) : beY (valY bs) = bs.dropWhile isZ := by
  have key : ∀ rs : List UInt8, beY (valY rs.reverse) = rs.reverse.dropWhile isZ := by
    intro rs
    induction rs with
    | nil => show beY 0 = []; unfold beY; rw [lowY_zero]; rfl
    | cons c rs ih =>
      rw [List.reverse_cons, lowY_snoc, ih, List.dropWhile_append]
      by_cases h : valY rs.reverse = 0
      · have h2 : rs.reverse.dropWhile isZ = [] := by
          have hz := (valY_zero _).1 h
          rw [dropW_nil]
          intro x hx
          rw [hz x hx]; rfl
        rw [h2]
        by_cases hc : c = 0
        · rw [if_pos ⟨h, hc⟩, hc]; rfl
        · rw [if_neg (fun q => hc q.2)]
          have : isZ c = false := by unfold isZ; simpa using hc
          simp [this]
      · have h2 : rs.reverse.dropWhile isZ ≠ [] := fun q => by
          apply h
          rw [valY_zero]
          intro x hx
          have := dropW_nil.1 q x hx
          simpa [isZ] using this
        rw [if_neg (fun q => h q.1)]
        have : (rs.reverse.dropWhile isZ).isEmpty = false := by
          cases hh : rs.reverse.dropWhile isZ with
          | nil => exact absurd hh h2
          | cons => rfl
        rw [this]; rfl
  have := key bs.reverse
  rwa [List.reverse_reverse] at this
theorem conv_elems {v : AV} {bs : List UInt8} (h : Elems v (bs.map u8)) (S : St) : convertA Tryd.prog S 34 9 v = some (.str bs) := by
  rcases h with ⟨rfl, q⟩ | ⟨t, rfl⟩
  · obtain rfl : bs = [] := List.map_eq_nil_iff.1 q
    rfl
  · exact conv_u8 bs t S
theorem t6 (v0 : AV) (bs : List UInt8) (hv : Elems v0 (bs.map u8)) (hb : bs.length ≤ 2 ^ 47) (S : St) : CallQ Tryd.prog (NC true) 6 [v0] S fun r S1 => r = .bool true := by
  refine CallQ.of rfl (by kernel_rfl : Tryd.prog.funcs[6]? = some Tryd.f6) rfl (by decide) ?_
  conv => whnf
  refine CallQ.mono (t16 v0 bs hv hb S) ?_
  rintro r S1 ⟨k1, rfl⟩
  by_cases hfit : bs.length ≤ 400 ∧ (decD (valY bs)).length ≤ 800
  rotate_left
  · have he : fromE bs = 11 := by
      unfold fromE
      split
      · exact (shortS_not (fun q => hfit ⟨by assumption, q⟩)).2
      · rfl
    rw [he]
    conv => whnf
    refine brNe (fun _ => ?_) (fun hh => absurd hh (by decide))
    conv => whnf
    refine brEq (fun _ => ?_) (fun hh => absurd rfl hh)
    conv => whnf
    refine alive_q ?_
    conv => whnf
    rfl
  obtain ⟨h400, hfit⟩ := hfit
  have he : fromE bs = 0 ∧ fromS bs = decD (valY bs) := by
    unfold fromE fromS
    rw [if_pos h400, if_pos h400]
    exact ⟨(shortS_fit hfit).2, (shortS_fit hfit).1⟩
  rw [he.1, he.2]
  conv => whnf
  refine brNe (fun hh => absurd rfl hh) (fun _ => ?_)
  conv => whnf
  refine CallQ.mono (t18 (decD (valY bs)) (by omega) S1) ?_
  rintro r S2 ⟨k2, ⟨hr, rfl⟩ | ⟨hr, w, rfl, hw⟩⟩
  · rw [right_decD hfit] at hr; cases hr
  rw [valD_dec, beY_strip] at hw
  conv => whnf
  refine CodeQ.loop (fun (q : AV × List UInt8) => pat 45 [(0, q.1), (5, w), (6, .int .i64 0)]) (fun m q S3 => m = q.2.length ∧ S3 = S2 ∧ Elems q.1 (q.2.map u8) ∧ bs.dropWhile isZ = q.2.dropWhile isZ) ?_ _ (v0, bs) _ _ ⟨rfl, rfl, hv, rfl⟩ ⟨rfl, rfl, rfl, trivial⟩
  rintro m ⟨v, x⟩ S3 d ⟨hm, rfl, hx, hd⟩
  dsimp only at *
  have hend : bs.dropWhile isZ = x → ∀ Q : AV → St → Prop, Q (.bool true) S3 → CallQ Tryd.prog (NC true) 20 [v, w] S3 Q := fun e Q hq => by
    rw [e] at hw
    refine CallQ.mono (t20 true v w x x S3 (conv_elems hx S3) (conv_hdC hw) (hx.elim (fun h => .inl h.1) (fun ⟨t, h⟩ => .inr (.inl ⟨_, _, h⟩))) hw.form) ?_
    rintro r S4 ⟨rfl, rfl⟩
    rw [show (x == x) = true by simp]
    exact hq
  rcases hx with ⟨rfl, q⟩ | ⟨t, rfl⟩
  · obtain rfl : x = [] := List.map_eq_nil_iff.1 q
    conv => whnf
    refine br (fun q => absurd q (by decide)) (fun _ => ?_)
    conv => whnf
    refine brEq (fun _ => ?_) (fun hh => absurd rfl hh)
    conv => whnf
    refine hend hd _ ?_
    conv => whnf
    refine alive_q ?_
    conv => whnf
    rfl
  conv => whnf
  refine br (fun h5 => ?_) (fun h5 => ?_)
  rotate_left
  · obtain rfl : x = [] := List.length_eq_zero_iff.1 (by rw [List.length_map] at h5; omega)
    conv => whnf
    refine brEq (fun _ => ?_) (fun hh => absurd rfl hh)
    conv => whnf
    refine hend hd _ ?_
    conv => whnf
    refine alive_q ?_
    conv => whnf
    rfl
  obtain ⟨c, x, rfl⟩ : ∃ c t, x = c :: t := by cases x with | nil => simp at h5 | cons c t => exact ⟨c, t, rfl⟩
  conv => whnf
  refine ⟨by decide, u8 c, rfl, rfl, ?_⟩
  conv => whnf
  rw [List.dropWhile_cons] at hd
  refine brEq (fun h6 => ?_) (fun h6 => ?_)
  rotate_left
  · have hz : isZ c = false := by
      unfold isZ
      have : c ≠ 0 := fun q => h6 (by rw [q]; rfl)
      simpa using this
    rw [hz] at hd
    conv => whnf
    refine brEq (fun _ => ?_) (fun hh => absurd rfl hh)
    conv => whnf
    refine hend hd _ ?_
    conv => whnf
    refine alive_q ?_
    conv => whnf
    rfl
  have hc0 : c = 0 := UInt8.toNat_inj.1 (show c.toNat = (0 : UInt8).toNat by have : (0 : UInt8).toNat = 0 := rfl; omega)
  have hz : isZ c = true := by rw [hc0]; rfl
  rw [hz] at hd
  conv => whnf
  obtain ⟨tp', hsl⟩ := slice_lo (P := Tryd.prog) elB.und elB.size ((c :: x).map u8) t (headOk_u8 _) 1 (by simp) .i64
  refine ⟨_, hsl, ?_⟩
  conv => whnf
  exact ⟨x.length, (_, x), by simp at hm; omega, ⟨rfl, rfl, .inr ⟨tp', rfl⟩, hd⟩, ⟨rfl, rfl, rfl, trivial⟩⟩
end Go.Proofs.YtnbjhgaaollhcaaDoor
