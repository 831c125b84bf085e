import Derived.Test.YtojgnofagkekeaaDoorVMFF10
namespace Go.Proofs.YtojgnofagkekeaaDoor
open Go.Proofs.YtojgnofagkekeaaDoor.VM Go.RowKit
set_option maxRecDepth 100000
set_option linter.unusedVariables false
set_option maxHeartbeats 8000000
/-- A number's whole number, and the power of 2 it is taken with; then without what 2 goes into. -/
def m0 (n : Nat) : Nat := if exS 11 52 n = 0 then frS 52 n else 2 ^ 52 + frS 52 n
def p0 (n : Nat) : Int := ((if exS 11 52 n = 0 then 1 else exS 11 52 n : Nat) : Int) - 1075
def lowN (n : Nat) : Nat := min (tz (m0 n)) (-(p0 n)).toNat
def mR (n : Nat) : Nat := m0 n / 2 ^ lowN n
def pR (n : Nat) : Int := p0 n + lowN n
def digN (n : Nat) : Nat := if pR n < 0 then mR n * 5 ^ (-(pR n)).toNat else mR n * 2 ^ (pR n).toNat
def expN (n : Nat) : Int := if pR n < 0 then pR n else 0
def exactV (n : Nat) : AV := if exS 11 52 n = 2047 then .tuple [numV false [] 0, .int .i64 12] else if m0 n = 0 then .tuple [numV false [48] 0, .int .i64 0] else makeV (negS n) (decD (digN n)) (expN n)
theorem m0_lt (n : Nat) : m0 n < 2 ^ 53 := by
  have := fr_lt 52 n
  unfold m0; split <;> omega
theorem p0_in {n : Nat} (h : exS 11 52 n ≠ 2047) : -1074 ≤ p0 n ∧ p0 n ≤ 971 := by
  have : exS 11 52 n < 2048 := ex_lt 11 52 n
  unfold p0; split <;> omega
theorem pR_in {n : Nat} (h : exS 11 52 n ≠ 2047) : -1074 ≤ pR n ∧ pR n ≤ 971 := by
  have := p0_in h
  have : lowN n ≤ (-(p0 n)).toNat := Nat.min_le_right _ _
  unfold pR; omega
theorem mR_le (n : Nat) : mR n ≤ m0 n := Nat.div_le_self _ _
theorem mR_ne {n : Nat} (h : m0 n ≠ 0) : mR n ≠ 0 := by
  have h1 := (tz_spec (m0 n) h).1
  have h2 : 2 ^ lowN n ≤ m0 n := Nat.le_trans (Nat.pow_le_pow_right (by decide) (Nat.min_le_left _ _)) (by
    have h3 := (tz_spec (m0 n) h).2
    have : 1 ≤ m0 n / 2 ^ tz (m0 n) := Nat.pos_of_ne_zero (fun q => by rw [q] at h3; cases h3)
    calc 2 ^ tz (m0 n) = 1 * 2 ^ tz (m0 n) := (Nat.one_mul _).symm
      _ ≤ m0 n / 2 ^ tz (m0 n) * 2 ^ tz (m0 n) := Nat.mul_le_mul_right _ this
      _ = m0 n := h1)
  unfold mR
  have := Nat.div_pos h2 (Nat.two_pow_pos _)
  omega
theorem big5 : ∀ K, K = 1074 → 2 ^ 53 * 5 ^ K ≤ 10 ^ 799 := by
  rintro K rfl
  decide +kernel
theorem big10 (A B : Nat) (h : A = B + 1) : ¬ 10 ^ A ≤ 10 ^ B := by
  subst h
  rw [Nat.pow_succ]
  have := Nat.pow_pos (n := B) (show 0 < 10 by decide)
  omega
theorem five_fit {m k : Nat} (hm : m < 2 ^ 53) (hk : k ≤ 1074) : (decD (m * 5 ^ k)).length ≤ 800 := by
  obtain ⟨K, hK⟩ : ∃ K, K = 1074 := ⟨_, rfl⟩
  have h1 : m * 5 ^ k ≤ 2 ^ 53 * 5 ^ K := Nat.mul_le_mul (Nat.le_of_lt hm) (Nat.pow_le_pow_right (by decide) (by omega))
  have h2 := Nat.le_trans h1 (big5 K hK)
  rcases Nat.lt_or_ge 800 (decD (m * 5 ^ k)).length with q | q
  · rcases dec_long.1 q with ⟨_, r⟩ | r
    · exact absurd (Nat.le_trans r h2) (big10 800 799 rfl)
    · exact absurd r (by decide)
  · exact q
theorem two_fit {m k : Nat} (hm : m < 2 ^ 53) (hk : k ≤ 1074) : (decD (m * 2 ^ k)).length ≤ 800 :=
  Nat.le_trans (dec_len_mono (Nat.mul_le_mul_left m (Nat.pow_le_pow_left (by decide) k))) (five_fit hm hk)
theorem dig_fit {n : Nat} (h : exS 11 52 n ≠ 2047) : (decD (digN n)).length ≤ 800 := by
  have h1 := pR_in h
  have h2 := Nat.lt_of_le_of_lt (mR_le n) (m0_lt n)
  unfold digN
  split
  · exact five_fit h2 (by omega)
  · exact two_fit h2 (by omega)
theorem mul_ok {m b : Nat} (h1 : (decD m).length ≤ 800) (h2 : (decD b).length ≤ 800) (h3 : (decD (m * b)).length ≤ 800) :
    arS (rightS (decD m) && rightS (decD b)) (valD (decD m) * valD (decD b)) = decD (m * b) ∧ arE (rightS (decD m) && rightS (decD b)) (valD (decD m) * valD (decD b)) = 0 := by
  rw [right_decD h1, right_decD h2, valD_dec, valD_dec]
  exact shortS_fit h3
theorem pow_ok {b k : Nat} (hb : b ≤ 1000000) (hk : k ≤ 4000) (h : (decD (b ^ k)).length ≤ 800) (x : Int) (hx : x = k) (y : Int) (hy : y = b) : arS (powOk y x) (y.toNat ^ x.toNat) = decD (b ^ k) ∧ arE (powOk y x) (y.toNat ^ x.toNat) = 0 := by
  subst hx hy
  rw [show powOk (b : Int) (k : Int) = true from decide_eq_true ⟨by omega, by omega, by omega, by omega⟩, Int.toNat_natCast, Int.toNat_natCast]
  exact shortS_fit h
theorem m_fit {n : Nat} : (decD (mR n)).length ≤ 800 := Nat.le_trans (dec_len 15 _ (Nat.lt_of_le_of_lt (mR_le n) (Nat.lt_of_lt_of_le (m0_lt n) (by decide +kernel)))) (by decide)
theorem pow5_fit {k : Nat} (hk : k ≤ 1074) : (decD (5 ^ k)).length ≤ 800 := by have := five_fit (m := 1) (by decide) hk; rwa [Nat.one_mul] at this
theorem pow2_fit {k : Nat} (hk : k ≤ 1074) : (decD (2 ^ k)).length ≤ 800 := by have := two_fit (m := 1) (by decide) hk; rwa [Nat.one_mul] at this
theorem t14 (n : Nat) (hn : n < 2 ^ 64) (S : St) : CallQ Tryd.prog (NC true) 14 [.int .u64 n] S fun r S1 => Keep S S1 ∧ r = exactV n := by
  have hxl : exS 11 52 n < 2048 := ex_lt 11 52 n
  have hf := fr_lt 52 n
  refine CallQ.of rfl (by kernel_rfl : Tryd.prog.funcs[14]? = some Tryd.f14) rfl (by decide) ?_
  conv => whnf
  refine CallQ.mono (t15 true n hn _) ?_
  rintro r S1 ⟨k1, rfl⟩
  have n1 : S.next + 1 ≤ S1.next := k1.next
  have c1 := (kcells k1 (Nat.lt_succ_self S.next)).trans (cells_new _ _)
  have k01 : Keep S S1 := ⟨by omega, fun j hj => by rw [k1.mem j (Nat.lt_succ_of_lt hj)]; exact mem_new_ne rfl (by omega)⟩
  clear k1
  unfold finS
  by_cases hx : exS 11 52 n = 2047
  · rw [decide_eq_true hx]
    have he : exactV n = .tuple [numV false [] 0, .int .i64 12] := if_pos hx
    rw [he]
    conv => whnf
    refine ⟨_, _, c1, store_agg rfl rfl rfl, ?_⟩
    conv => whnf
    refine ⟨_, num_load (cells_set _ _ _), ?_⟩
    conv => whnf
    exact ⟨k01.set _ _ (Nat.le_refl _), rfl⟩
  rw [decide_eq_false hx]
  conv => whnf
  refine CallQ.mono (t26 true S1) ?_
  rintro r S2 ⟨k2, rfl⟩
  have c2 := (kcells k2 (show S.next < S1.next by omega)).trans c1
  have n2 := k2.next
  have k02 := k01.trans k2
  conv => whnf
  refine ⟨_, _, cells_new _ _, store_agg rfl rfl rfl, ?_⟩
  conv => whnf
  generalize hT : (S2.new _).set _ _ = T
  have kT : Keep S2 T := by rw [← hT]; exact ((Keep.refl S2).new _).set _ _ (Nat.le_refl _)
  have cT : T.cells S2.next = some [.int .i64 8, .int .i64 11, .int .i64 52] := by rw [← hT, cells_set]; rfl
  have nT := kT.next
  clear hT
  have c3 := (kcells kT (show S.next < S2.next by omega)).trans c2
  have k03 := k02.trans kT
  have cp : S.next < T.next := by omega
  clear k01 k02 c1 c2 kT k2
  generalize S2.next = p at *
  refine ⟨_, cT, ?_⟩
  conv => whnf
  refine CallQ.mono (t28 true fmW n hn T) ?_
  rintro r X ⟨rfl, rfl⟩
  have hpr := pR_in hx
  have hpz := p0_in hx
  have hm53 := m0_lt n
  have hbias : (2 ^ (11 - 1) - 1 : Nat) = 1023 := rfl
  have cN := c3
  have kX := k03
  have wp : IntKind.i64.wrap (IntKind.i64.wrap ((if (1 : Int) > ((exS 11 52 n : Nat) : Int) then (1 : Int) else ((exS 11 52 n : Nat) : Int)) - ((1023 : Nat) : Int)) - 52) = p0 n := by
    have : (if (1 : Int) > ((exS 11 52 n : Nat) : Int) then (1 : Int) else ((exS 11 52 n : Nat) : Int)) = ((if exS 11 52 n = 0 then 1 else exS 11 52 n : Nat) : Int) := by split <;> split <;> omega
    rw [this]
    unfold p0 at *
    rw [wrap_i64 (x := ((if exS 11 52 n = 0 then 1 else exS 11 52 n : Nat) : Int) - ((1023 : Nat) : Int)) (by omega) (by omega), wrap_i64 (by omega) (by omega)]
    omega
  have wneg : IntKind.i64.wrap (0 - p0 n) = -(p0 n) := by rw [wrap_i64 (by omega) (by omega)]; omega
  have wnegR : IntKind.i64.wrap (0 - pR n) = -(pR n) := by rw [wrap_i64 (by omega) (by omega)]; omega
  conv => whnf
  refine br (fun h1 => ?_) (fun h1 => ?_)
  · have hxe : exS 11 52 n ≠ 0 := by omega
    have hM : m0 n = 2 ^ 52 + frS 52 n := if_neg hxe
    have hm00 : m0 n ≠ 0 := by omega
    have hm := mR_ne hm00
    have he : exactV n = makeV (negS n) (decD (digN n)) (expN n) := by unfold exactV; rw [if_neg hx, if_neg hm00]
    rw [he]
    conv => whnf
    refine ⟨_, cT, ?_⟩
    conv => whnf
    refine ⟨by decide, ?_⟩
    rw [show IntKind.u64.wrap ((1 : Int) * 2 ^ min (52 : Int).toNat IntKind.u64.bits) = ((1 * 2 ^ 52 : Nat) : Int) by decide +kernel]
    conv => whnf
    rw [or_u64 _ _ (by omega) (by decide), Nat.or_comm, or_sum 1 _ 52 hf, Nat.one_mul, ← hM]
    conv => whnf
    refine ⟨[2, 5, 6, 3, 0, 1, 4, 7, 8], [(3, [6])], by kernel_rfl, by kernel_rfl, by kernel_rfl, ?_⟩
    conv => whnf
    refine ⟨_, cT, ?_⟩
    conv => whnf
    refine ⟨_, cT, ?_⟩
    conv => whnf
    refine CallQ.mono (t29 true fmW X) ?_
    rintro r X0 ⟨rfl, rfl⟩
    rw [hbias]
    conv => whnf
    refine ⟨stab_load rfl rfl rfl rfl rfl (by show (St.cells _ _).bind _ = _; rw [cT]; rfl), ?_⟩
    conv => whnf
    rw [wp]
    refine brNe (fun _ => ?_) (fun q => absurd (Int.ofNat.inj q) hm00)
    conv => whnf
    refine CallQ.mono (t30 true (m0 n) (by omega) hm00 X0) ?_
    rintro r X ⟨rfl, rfl⟩
    conv => whnf
    rw [wneg]
    have hlow : (if (if (0 : Int) > -(p0 n) then (0 : Int) else -(p0 n)) < ((tz (m0 n) : Nat) : Int) then (if (0 : Int) > -(p0 n) then (0 : Int) else -(p0 n)) else ((tz (m0 n) : Nat) : Int)) = ((lowN n : Nat) : Int) := by
      unfold lowN
      split <;> split at * <;> omega
    rw [hlow]
    have hl64 : lowN n ≤ 64 := Nat.le_trans (Nat.min_le_left _ _) (Nat.le_of_lt (tz_lt hm00 (show m0 n < 2 ^ 64 by omega)))
    refine ⟨by omega, ?_⟩
    rw [shr_n (m0 n) (lowN n) hl64, show m0 n / 2 ^ lowN n = mR n from rfl]
    conv => whnf
    rw [show IntKind.i64.wrap (p0 n + ((lowN n : Nat) : Int)) = pR n by unfold pR at *; rw [wrap_i64 (by omega) (by omega)]]
    by_cases hp : pR n < 0
    · have habs : (if IntKind.i64.wrap (0 - pR n) > pR n then IntKind.i64.wrap (0 - pR n) else pR n) = (((-(pR n)).toNat : Nat) : Int) := by rw [wnegR]; split <;> omega
      refine br (fun _ => ?_) (fun q => absurd hp q)
      conv => whnf
      refine brEq (fun q => absurd (Int.ofNat.inj q) hm) (fun _ => ?_)
      conv => whnf
      rw [habs]
      refine CallQ.mono (t31 5 ((-(pR n)).toNat : Nat) X) ?_
      rintro r X1 ⟨k1, rfl⟩
      rw [(pow_ok (b := 5) (k := (-(pR n)).toNat) (by decide) (by omega) (pow5_fit (by omega)) _ rfl (5 : Int) rfl).1, (pow_ok (b := 5) (k := (-(pR n)).toNat) (by decide) (by omega) (pow5_fit (by omega)) _ rfl (5 : Int) rfl).2]
      conv => whnf
      refine CallQ.mono (t33 true (mR n) (Nat.lt_trans (Nat.lt_of_le_of_lt (mR_le n) (m0_lt n)) (by decide)) X1) ?_
      rintro r X2 ⟨rfl, k2⟩
      conv => whnf
      refine CallQ.mono (t32 (decD (mR n)) (decD (5 ^ (-(pR n)).toNat)) (Nat.le_trans m_fit (by decide)) (Nat.le_trans (pow5_fit (by omega)) (by decide)) X2) ?_
      rintro r X3 ⟨k3, rfl⟩
      have hmul := mul_ok (m := mR n) (b := 5 ^ (-(pR n)).toNat) m_fit (pow5_fit (by omega)) (by have := dig_fit hx; unfold digN at this; rw [if_pos hp] at this; exact this)
      have hdig : digN n = mR n * 5 ^ (-(pR n)).toNat := if_pos hp
      have hexp : expN n = pR n := if_pos hp
      rw [hmul.1, hmul.2, ← hdig]
      conv => whnf
      refine brNe (fun q => absurd rfl q) (fun _ => ?_)
      conv => whnf
      have k4 := (k1.trans k2).trans k3
      have c3 := (kcells k4 cp).trans cN
      have kk := kX.trans k4
      have hl := dig_fit hx
      refine brEq (fun q => ?_) (fun q => ?_)
      · have hneg : negS n = true := decide_eq_true (by omega)
        rw [hneg, hexp]
        conv => whnf
        refine CallQ.mono (t34 true true (decD (digN n)) _ (by omega) X3) ?_
        rintro r X4 ⟨k5, rfl⟩
        have c4 := (kcells k5 (Nat.lt_of_lt_of_le cp k4.next)).trans c3
        conv => whnf
        refine ⟨_, _, c4, store_agg rfl rfl rfl, ?_⟩
        conv => whnf
        refine ⟨_, num_load (cells_set _ _ _), ?_⟩
        conv => whnf
        exact ⟨(kk.trans k5).set _ _ (Nat.le_refl _), rfl⟩
      · have hneg : negS n = false := decide_eq_false (by omega)
        rw [hneg, hexp]
        conv => whnf
        refine CallQ.mono (t34 true false (decD (digN n)) _ (by omega) X3) ?_
        rintro r X4 ⟨k5, rfl⟩
        have c4 := (kcells k5 (Nat.lt_of_lt_of_le cp k4.next)).trans c3
        conv => whnf
        refine ⟨_, _, c4, store_agg rfl rfl rfl, ?_⟩
        conv => whnf
        refine ⟨_, num_load (cells_set _ _ _), ?_⟩
        conv => whnf
        exact ⟨(kk.trans k5).set _ _ (Nat.le_refl _), rfl⟩
    have habs : (if IntKind.i64.wrap (0 - pR n) > pR n then IntKind.i64.wrap (0 - pR n) else pR n) = (((pR n).toNat : Nat) : Int) := by rw [wnegR]; split <;> omega
    refine br (fun q => absurd q hp) (fun _ => ?_)
    conv => whnf
    refine brEq (fun q => absurd (Int.ofNat.inj q) hm) (fun _ => ?_)
    conv => whnf
    rw [habs]
    refine CallQ.mono (t31 2 ((pR n).toNat : Nat) X) ?_
    rintro r X1 ⟨k1, rfl⟩
    rw [(pow_ok (b := 2) (k := (pR n).toNat) (by decide) (by omega) (pow2_fit (by omega)) _ rfl (2 : Int) rfl).1, (pow_ok (b := 2) (k := (pR n).toNat) (by decide) (by omega) (pow2_fit (by omega)) _ rfl (2 : Int) rfl).2]
    conv => whnf
    refine CallQ.mono (t33 true (mR n) (Nat.lt_trans (Nat.lt_of_le_of_lt (mR_le n) (m0_lt n)) (by decide)) X1) ?_
    rintro r X2 ⟨rfl, k2⟩
    conv => whnf
    refine CallQ.mono (t32 (decD (mR n)) (decD (2 ^ (pR n).toNat)) (Nat.le_trans m_fit (by decide)) (Nat.le_trans (pow2_fit (by omega)) (by decide)) X2) ?_
    rintro r X3 ⟨k3, rfl⟩
    have hmul := mul_ok (m := mR n) (b := 2 ^ (pR n).toNat) m_fit (pow2_fit (by omega)) (by have := dig_fit hx; unfold digN at this; rw [if_neg hp] at this; exact this)
    have hdig : digN n = mR n * 2 ^ (pR n).toNat := if_neg hp
    have hexp : expN n = 0 := if_neg hp
    rw [hmul.1, hmul.2, ← hdig]
    conv => whnf
    refine brNe (fun q => absurd rfl q) (fun _ => ?_)
    conv => whnf
    have k4 := (k1.trans k2).trans k3
    have c3 := (kcells k4 cp).trans cN
    have kk := kX.trans k4
    have hl := dig_fit hx
    refine brEq (fun q => ?_) (fun q => ?_)
    · have hneg : negS n = true := decide_eq_true (by omega)
      rw [hneg, hexp]
      conv => whnf
      refine CallQ.mono (t34 true true (decD (digN n)) _ (by omega) X3) ?_
      rintro r X4 ⟨k5, rfl⟩
      have c4 := (kcells k5 (Nat.lt_of_lt_of_le cp k4.next)).trans c3
      conv => whnf
      refine ⟨_, _, c4, store_agg rfl rfl rfl, ?_⟩
      conv => whnf
      refine ⟨_, num_load (cells_set _ _ _), ?_⟩
      conv => whnf
      exact ⟨(kk.trans k5).set _ _ (Nat.le_refl _), rfl⟩
    · have hneg : negS n = false := decide_eq_false (by omega)
      rw [hneg, hexp]
      conv => whnf
      refine CallQ.mono (t34 true false (decD (digN n)) _ (by omega) X3) ?_
      rintro r X4 ⟨k5, rfl⟩
      have c4 := (kcells k5 (Nat.lt_of_lt_of_le cp k4.next)).trans c3
      conv => whnf
      refine ⟨_, _, c4, store_agg rfl rfl rfl, ?_⟩
      conv => whnf
      refine ⟨_, num_load (cells_set _ _ _), ?_⟩
      conv => whnf
      exact ⟨(kk.trans k5).set _ _ (Nat.le_refl _), rfl⟩
  have hxe : exS 11 52 n = 0 := by omega
  have hM : m0 n = frS 52 n := if_pos hxe
  rw [← hM]
  by_cases hm00 : m0 n = 0
  · have he : exactV n = .tuple [numV false [48] 0, .int .i64 0] := by unfold exactV; rw [if_neg hx, if_pos hm00]
    rw [he, hm00]
    conv => whnf
    refine ⟨[2, 5, 6, 3, 0, 1, 4, 7, 8], [(3, [6])], by kernel_rfl, by kernel_rfl, by kernel_rfl, ?_⟩
    conv => whnf
    refine ⟨_, cT, ?_⟩
    conv => whnf
    refine ⟨_, cT, ?_⟩
    conv => whnf
    refine CallQ.mono (t29 true fmW X) ?_
    rintro r X0 ⟨rfl, rfl⟩
    rw [hbias]
    conv => whnf
    refine ⟨stab_load rfl rfl rfl rfl rfl (by show (St.cells _ _).bind _ = _; rw [cT]; rfl), ?_⟩
    conv => whnf
    rw [wp]
    refine brNe (fun q => absurd rfl q) (fun _ => ?_)
    conv => whnf
    refine br (fun _ => ?_) (fun q => absurd (show p0 n < 0 by unfold p0; rw [if_pos hxe]; decide) q)
    conv => whnf
    refine brEq (fun _ => ?_) (fun q => absurd rfl q)
    conv => whnf
    refine ⟨_, _, cN, store_agg rfl rfl rfl, ?_⟩
    conv => whnf
    refine ⟨_, num_load (cells_set _ _ _), ?_⟩
    conv => whnf
    exact ⟨kX.set _ _ (Nat.le_refl _), rfl⟩
  have hm := mR_ne hm00
  have he : exactV n = makeV (negS n) (decD (digN n)) (expN n) := by unfold exactV; rw [if_neg hx, if_neg hm00]
  rw [he]
  have hm2 : m0 n ≠ 0 := hm00
  conv => whnf
  refine ⟨[2, 5, 6, 3, 0, 1, 4, 7, 8], [(3, [6])], by kernel_rfl, by kernel_rfl, by kernel_rfl, ?_⟩
  conv => whnf
  refine ⟨_, cT, ?_⟩
  conv => whnf
  refine ⟨_, cT, ?_⟩
  conv => whnf
  refine CallQ.mono (t29 true fmW X) ?_
  rintro r X0 ⟨rfl, rfl⟩
  rw [hbias]
  conv => whnf
  refine ⟨stab_load rfl rfl rfl rfl rfl (by show (St.cells _ _).bind _ = _; rw [cT]; rfl), ?_⟩
  conv => whnf
  rw [wp]
  refine brNe (fun _ => ?_) (fun q => absurd (Int.ofNat.inj q) hm00)
  conv => whnf
  refine CallQ.mono (t30 true (m0 n) (by omega) hm00 X0) ?_
  rintro r X ⟨rfl, rfl⟩
  conv => whnf
  rw [wneg]
  have hlow : (if (if (0 : Int) > -(p0 n) then (0 : Int) else -(p0 n)) < ((tz (m0 n) : Nat) : Int) then (if (0 : Int) > -(p0 n) then (0 : Int) else -(p0 n)) else ((tz (m0 n) : Nat) : Int)) = ((lowN n : Nat) : Int) := by
    unfold lowN
    split <;> split at * <;> omega
  rw [hlow]
  have hl64 : lowN n ≤ 64 := Nat.le_trans (Nat.min_le_left _ _) (Nat.le_of_lt (tz_lt hm00 (show m0 n < 2 ^ 64 by omega)))
  refine ⟨by omega, ?_⟩
  rw [shr_n (m0 n) (lowN n) hl64, show m0 n / 2 ^ lowN n = mR n from rfl]
  conv => whnf
  rw [show IntKind.i64.wrap (p0 n + ((lowN n : Nat) : Int)) = pR n by unfold pR at *; rw [wrap_i64 (by omega) (by omega)]]
  by_cases hp : pR n < 0
  · have habs : (if IntKind.i64.wrap (0 - pR n) > pR n then IntKind.i64.wrap (0 - pR n) else pR n) = (((-(pR n)).toNat : Nat) : Int) := by rw [wnegR]; split <;> omega
    refine br (fun _ => ?_) (fun q => absurd hp q)
    conv => whnf
    refine brEq (fun q => absurd (Int.ofNat.inj q) hm) (fun _ => ?_)
    conv => whnf
    rw [habs]
    refine CallQ.mono (t31 5 ((-(pR n)).toNat : Nat) X) ?_
    rintro r X1 ⟨k1, rfl⟩
    rw [(pow_ok (b := 5) (k := (-(pR n)).toNat) (by decide) (by omega) (pow5_fit (by omega)) _ rfl (5 : Int) rfl).1, (pow_ok (b := 5) (k := (-(pR n)).toNat) (by decide) (by omega) (pow5_fit (by omega)) _ rfl (5 : Int) rfl).2]
    conv => whnf
    refine CallQ.mono (t33 true (mR n) (Nat.lt_trans (Nat.lt_of_le_of_lt (mR_le n) (m0_lt n)) (by decide)) X1) ?_
    rintro r X2 ⟨rfl, k2⟩
    conv => whnf
    refine CallQ.mono (t32 (decD (mR n)) (decD (5 ^ (-(pR n)).toNat)) (Nat.le_trans m_fit (by decide)) (Nat.le_trans (pow5_fit (by omega)) (by decide)) X2) ?_
    rintro r X3 ⟨k3, rfl⟩
    have hmul := mul_ok (m := mR n) (b := 5 ^ (-(pR n)).toNat) m_fit (pow5_fit (by omega)) (by have := dig_fit hx; unfold digN at this; rw [if_pos hp] at this; exact this)
    have hdig : digN n = mR n * 5 ^ (-(pR n)).toNat := if_pos hp
    have hexp : expN n = pR n := if_pos hp
    rw [hmul.1, hmul.2, ← hdig]
    conv => whnf
    refine brNe (fun q => absurd rfl q) (fun _ => ?_)
    conv => whnf
    have k4 := (k1.trans k2).trans k3
    have c3 := (kcells k4 cp).trans cN
    have kk := kX.trans k4
    have hl := dig_fit hx
    refine brEq (fun q => ?_) (fun q => ?_)
    · have hneg : negS n = true := decide_eq_true (by omega)
      rw [hneg, hexp]
      conv => whnf
      refine CallQ.mono (t34 true true (decD (digN n)) _ (by omega) X3) ?_
      rintro r X4 ⟨k5, rfl⟩
      have c4 := (kcells k5 (Nat.lt_of_lt_of_le cp k4.next)).trans c3
      conv => whnf
      refine ⟨_, _, c4, store_agg rfl rfl rfl, ?_⟩
      conv => whnf
      refine ⟨_, num_load (cells_set _ _ _), ?_⟩
      conv => whnf
      exact ⟨(kk.trans k5).set _ _ (Nat.le_refl _), rfl⟩
    · have hneg : negS n = false := decide_eq_false (by omega)
      rw [hneg, hexp]
      conv => whnf
      refine CallQ.mono (t34 true false (decD (digN n)) _ (by omega) X3) ?_
      rintro r X4 ⟨k5, rfl⟩
      have c4 := (kcells k5 (Nat.lt_of_lt_of_le cp k4.next)).trans c3
      conv => whnf
      refine ⟨_, _, c4, store_agg rfl rfl rfl, ?_⟩
      conv => whnf
      refine ⟨_, num_load (cells_set _ _ _), ?_⟩
      conv => whnf
      exact ⟨(kk.trans k5).set _ _ (Nat.le_refl _), rfl⟩
  exact absurd (show pR n < 0 by
    have h52 : tz (m0 n) < 53 := tz_lt hm00 (by omega)
    have : lowN n ≤ tz (m0 n) := Nat.min_le_left _ _
    unfold pR p0
    rw [if_pos hxe]
    omega) hp
end Go.Proofs.YtojgnofagkekeaaDoor
namespace Go.Proofs.YtojgnofagkekeaaDoor
open Go.Proofs.YtojgnofagkekeaaDoor.VM Go.RowKit
set_option maxRecDepth 100000
set_option linter.unusedVariables false
set_option maxHeartbeats 8000000
theorem tmod2 (z : Nat) : ((z : Nat) : Int).tmod 2 = ((z % 2 : Nat) : Int) := by
  rw [Int.tmod_eq_emod_of_nonneg (by omega)]; omega
theorem tdiv2 (z : Nat) (h : z < 2 ^ 64) : IntKind.u64.wrap (((z : Nat) : Int).tdiv 2) = ((z / 2 : Nat) : Int) := by
  rw [Int.tdiv_eq_ediv_of_nonneg (by omega), wrap_u64 (by omega) (by omega)]; omega
theorem red_step {n j : Nat} (h : j < tz n) (h0 : n ≠ 0) : n / 2 ^ j % 2 = 0 := by
  obtain ⟨h1, _⟩ := tz_spec n h0
  rw [← h1, show 2 ^ tz n = 2 ^ (tz n - j) * 2 ^ j by rw [← Nat.pow_add]; congr 1; omega, ← Nat.mul_assoc, Nat.mul_div_cancel _ (Nat.two_pow_pos j)]
  rw [show tz n - j = (tz n - j - 1) + 1 by omega, Nat.pow_succ, ← Nat.mul_assoc]
  exact Nat.mul_mod_left _ _
theorem t17 (n : Nat) (hn : n < 2 ^ 64) (S : St) : CallQ Tryd.prog (NC true) 17 [.int .u64 n] S fun r S1 => Keep S S1 ∧ r = exactV n := by
  have hxl : exS 11 52 n < 2048 := ex_lt 11 52 n
  have hf := fr_lt 52 n
  have k00 : Keep S (S.new (.cells [.bool false, .str [], .int .i64 0])) := (Keep.refl S).new _
  have c00 : (S.new (.cells [.bool false, .str [], .int .i64 0])).cells S.next = some [.bool false, .str [], .int .i64 0] := cells_new _ _
  have p00 : S.next < (S.new (.cells [.bool false, .str [], .int .i64 0])).next := Nat.lt_succ_self _
  refine CallQ.of rfl (by kernel_rfl : Tryd.prog.funcs[17]? = some Tryd.f17) rfl (by decide) ?_
  conv => whnf
  refine CallQ.mono (t18 true n hn _) ?_
  rintro r T ⟨hT, rfl⟩
  change T = S.new (.cells [.bool false, .str [], .int .i64 0]) at hT
  rw [← hT] at k00 c00 p00
  clear hT
  unfold finS
  by_cases hx : exS 11 52 n = 2047
  · rw [decide_eq_true hx]
    have he : exactV n = .tuple [numV false [] 0, .int .i64 12] := if_pos hx
    rw [he]
    conv => whnf
    refine ⟨_, _, c00, store_agg rfl rfl rfl, ?_⟩
    conv => whnf
    refine ⟨_, num_load (cells_set _ _ _), ?_⟩
    conv => whnf
    exact ⟨k00.set _ _ (Nat.le_refl _), rfl⟩
  rw [decide_eq_false hx]
  have hpr := pR_in hx
  have hpz := p0_in hx
  have hm53 := m0_lt n
  have hfit := dig_fit hx
  conv => whnf
  refine CallQ.mono (t38 true fmW n hn T) ?_
  rintro r T1 ⟨rfl, rfl⟩
  conv => whnf
  refine CallQ.mono (t39 true fmW (exS 11 52 n) (frS 52 n) hxl hf T1) ?_
  rintro r T2 ⟨rfl, rfl⟩
  rw [show (if exS 11 52 n = 0 then frS 52 n else 2 ^ 52 + frS 52 n) = m0 n from rfl]
  have hp0 : ((if exS 11 52 n = 0 then 1 else exS 11 52 n : Nat) : Int) - ((2 ^ (11 - 1) - 1 : Nat) : Int) - ((52 : Nat) : Int) = p0 n := by
    rw [show (2 ^ (11 - 1) - 1 : Nat) = 1023 from rfl]
    unfold p0
    omega
  rw [hp0]
  by_cases hm00 : m0 n = 0
  · have hxe : exS 11 52 n = 0 := by
      unfold m0 at hm00
      split at hm00
      · assumption
      · omega
    have he : exactV n = .tuple [numV false [48] 0, .int .i64 0] := by unfold exactV; rw [if_neg hx, if_pos hm00]
    rw [he, hm00]
    have hz0 : (decD 0) = [48] := by decide +kernel
    have hpn : p0 n < 0 := by unfold p0; rw [if_pos hxe]; decide
    conv => whnf
    refine CodeQ.round ?_
    conv => whnf
    refine br (fun q => absurd q (by decide)) (fun _ => ?_)
    conv => whnf
    refine CallQ.mono (t40 true 0 (by decide) T2) ?_
    rintro r T3 ⟨rfl, rfl⟩
    conv => whnf
    refine br (fun q => absurd q (by omega)) (fun _ => ?_)
    conv => whnf
    refine br (fun q => absurd q (by decide)) (fun _ => ?_)
    rw [hz0]
    have hmk : ∀ b, makeV b [48] 0 = .tuple [numV false [48] 0, .int .i64 0] := fun b => by
      have h1 : makeOk [48] = true := by decide
      have h2 : tr0 [48] = [] := by decide
      unfold makeV makeR; rw [if_pos h1, if_pos h2]
    conv => whnf
    refine brEq (fun q => ?_) (fun q => ?_)
    · conv => whnf
      refine CallQ.mono (t43 true true [48] 0 (by decide) T3) ?_
      rintro r T4 ⟨k4, rfl⟩
      have c4 := (kcells k4 p00).trans c00
      have n4 := k4.next
      rw [hmk]
      conv => whnf
      refine ⟨_, _, cells_new _ _, store_agg rfl rfl rfl, ?_⟩
      conv => whnf
      refine ⟨_, cells_set _ _ _, ?_⟩
      conv => whnf
      refine ⟨_, _, cells_set_ne (cells_new_ne c4 (by omega)) (by omega), store_agg rfl rfl rfl, ?_⟩
      conv => whnf
      refine ⟨_, num_load (cells_set _ _ _), ?_⟩
      conv => whnf
      exact ⟨(((k00.trans k4).new _).set _ _ (by have := k00.next; omega)).set _ _ (Nat.le_refl _), rfl⟩
    · conv => whnf
      refine CallQ.mono (t43 true false [48] 0 (by decide) T3) ?_
      rintro r T4 ⟨k4, rfl⟩
      have c4 := (kcells k4 p00).trans c00
      have n4 := k4.next
      rw [hmk]
      conv => whnf
      refine ⟨_, _, cells_new _ _, store_agg rfl rfl rfl, ?_⟩
      conv => whnf
      refine ⟨_, cells_set _ _ _, ?_⟩
      conv => whnf
      refine ⟨_, _, cells_set_ne (cells_new_ne c4 (by omega)) (by omega), store_agg rfl rfl rfl, ?_⟩
      conv => whnf
      refine ⟨_, num_load (cells_set _ _ _), ?_⟩
      conv => whnf
      exact ⟨(((k00.trans k4).new _).set _ _ (by have := k00.next; omega)).set _ _ (Nat.le_refl _), rfl⟩
  have hm := mR_ne hm00
  have he : exactV n = makeV (negS n) (decD (digN n)) (expN n) := by unfold exactV; rw [if_neg hx, if_neg hm00]
  rw [he]
  conv => whnf
  refine CodeQ.loop (fun (j : Nat) => pat 88 [(2, .ptr S.next 0), (4, .int .u64 (sgS 11 52 n : Nat)), (7, .int .u64 (m0 n / 2 ^ j : Nat)), (8, .int .i64 (p0 n + j)), (9, .int .i64 0)]) (fun m j S1 => S1 = T2 ∧ m = lowN n - j ∧ j ≤ lowN n) ?_ _ 0 _ _ ⟨rfl, rfl, Nat.zero_le _⟩ ⟨rfl, rfl, by rw [Nat.pow_zero, Nat.div_one], by simp, rfl, trivial⟩
  rintro m j T3 d ⟨rfl, hmj, hj⟩
  dsimp only at *
  have hml : m0 n / 2 ^ j ≤ m0 n := Nat.div_le_self _ _
  have hnz : m0 n / 2 ^ j ≠ 0 := by
    have h1 : m0 n / 2 ^ lowN n ≤ m0 n / 2 ^ j := Nat.div_le_div_left (Nat.pow_le_pow_right (by decide) hj) (Nat.two_pow_pos j)
    have h2 : m0 n / 2 ^ lowN n ≠ 0 := hm
    exact fun q => h2 (Nat.le_zero.1 (by rw [q] at h1; exact h1))
  have hlp : lowN n ≤ (-(p0 n)).toNat := Nat.min_le_right _ _
  have w2 : ((m0 n / 2 ^ j : Nat) : Int).tmod 2 = ((m0 n / 2 ^ j % 2 : Nat) : Int) := tmod2 _
  rcases Nat.lt_or_ge j (lowN n) with hjl | hjl
  · have hev := red_step (n := m0 n) (j := j) (Nat.lt_of_lt_of_le hjl (Nat.min_le_left _ _)) hm00
    have hdd : m0 n / 2 ^ (j + 1) = m0 n / 2 ^ j / 2 := by rw [Nat.pow_succ, Nat.div_div_eq_div_mul]
    have w3 : IntKind.u64.wrap (((m0 n / 2 ^ j : Nat) : Int).tdiv 2) = ((m0 n / 2 ^ j / 2 : Nat) : Int) := tdiv2 _ (Nat.lt_of_le_of_lt hml (Nat.lt_trans hm53 (by decide)))
    generalize m0 n / 2 ^ j = z at *
    conv => whnf
    refine br (fun _ => ?_) (fun q => absurd (by omega) q)
    conv => whnf
    refine ⟨by decide, ?_⟩
    rw [w2]
    conv => whnf
    refine brEq (fun _ => ?_) (fun q => absurd (by omega) q)
    conv => whnf
    refine br (fun _ => ?_) (fun q => absurd (by omega) q)
    conv => whnf
    refine ⟨by decide, ?_⟩
    rw [w3]
    conv => whnf
    refine ⟨lowN n - (j + 1), j + 1, by omega, ⟨rfl, rfl, hjl⟩, ⟨rfl, rfl, by rw [hdd], by rw [wrap_i64 (by omega) (by omega)]; congr 1; omega, rfl, trivial⟩⟩
  obtain rfl : j = lowN n := by omega
  have hstop : m0 n / 2 ^ lowN n % 2 = 1 ∨ ¬ p0 n + (lowN n : Nat) < 0 := by
    rcases Nat.le_total (tz (m0 n)) (-(p0 n)).toNat with q | q
    · left
      have : lowN n = tz (m0 n) := Nat.min_eq_left q
      rw [this]
      exact (tz_spec _ hm00).2
    · right
      have : lowN n = (-(p0 n)).toNat := Nat.min_eq_right q
      rw [this]
      omega
  have hmR : m0 n / 2 ^ lowN n = mR n := rfl
  have hpRe : p0 n + ((lowN n : Nat) : Int) = pR n := rfl
  rw [hmR] at hstop hnz w2 hml
  rw [hpRe] at hstop
  rw [hmR, hpRe]
  clear hmj hj hpz hlp hmR hpRe hp0
  conv => whnf
  refine br (fun _ => ?_) (fun q => absurd (by omega) q)
  conv => whnf
  refine ⟨by decide, ?_⟩
  rw [w2]
  conv => whnf
  refine brEq (fun h1 => ?_) (fun h1 => ?_)
  · conv => whnf
    refine br (fun h2 => absurd h2 (hstop.resolve_left (by omega))) (fun hp => ?_)
    conv => whnf
    refine CallQ.mono (t40 true (mR n) (Nat.lt_trans (Nat.lt_of_le_of_lt (mR_le n) (m0_lt n)) (by decide)) T3) ?_
    rintro r X0 ⟨rfl, rfl⟩
    conv => whnf
    refine br (fun _ => ?_) (fun q => absurd (by omega) q)
    conv => whnf
    refine CallQ.mono (t41 true 2 (pR n) X0) ?_
    rintro r X1 ⟨k1, rfl⟩
    rw [(pow_ok (b := 2) (k := (pR n).toNat) (by decide) (by omega) (pow2_fit (by omega)) (pR n) (by omega) (2 : Int) rfl).1, (pow_ok (b := 2) (k := (pR n).toNat) (by decide) (by omega) (pow2_fit (by omega)) (pR n) (by omega) (2 : Int) rfl).2]
    conv => whnf
    refine CallQ.mono (t42 true (decD (mR n)) (decD (2 ^ (pR n).toNat)) X1) ?_
    rintro r X ⟨k3, rfl⟩
    have hmul := mul_ok (m := mR n) (b := 2 ^ (pR n).toNat) m_fit (pow2_fit (by omega)) (by have := dig_fit hx; unfold digN at this; rw [if_neg hp] at this; exact this)
    have hdig : digN n = mR n * 2 ^ (pR n).toNat := if_neg hp
    have hexp : expN n = 0 := if_neg hp
    rw [hmul.1, hmul.2, ← hdig]
    have k4 := k1.trans k3
    conv => whnf
    have n4 := k4.next
    have hl := dig_fit hx
    have c0 := (kcells k4 p00).trans c00
    have kk := k00.trans k4
    refine brEq (fun q => ?_) (fun q => ?_)
    · have hneg : negS n = true := decide_eq_true (by omega)
      rw [hneg, hexp]
      conv => whnf
      refine CallQ.mono (t43 true true (decD (digN n)) _ (by omega) X) ?_
      rintro r X4 ⟨k5, rfl⟩
      have c4 := (kcells k5 (Nat.lt_of_lt_of_le p00 n4)).trans c0
      have n5 := k5.next
      conv => whnf
      refine ⟨_, _, cells_new _ _, store_agg rfl rfl rfl, ?_⟩
      conv => whnf
      refine ⟨_, cells_set _ _ _, ?_⟩
      conv => whnf
      refine ⟨_, _, cells_set_ne (cells_new_ne c4 (by omega)) (by omega), store_agg rfl rfl rfl, ?_⟩
      conv => whnf
      refine ⟨_, num_load (cells_set _ _ _), ?_⟩
      conv => whnf
      exact ⟨(((kk.trans k5).new _).set _ _ (by have := k00.next; omega)).set _ _ (Nat.le_refl _), rfl⟩
    · have hneg : negS n = false := decide_eq_false (by omega)
      rw [hneg, hexp]
      conv => whnf
      refine CallQ.mono (t43 true false (decD (digN n)) _ (by omega) X) ?_
      rintro r X4 ⟨k5, rfl⟩
      have c4 := (kcells k5 (Nat.lt_of_lt_of_le p00 n4)).trans c0
      have n5 := k5.next
      conv => whnf
      refine ⟨_, _, cells_new _ _, store_agg rfl rfl rfl, ?_⟩
      conv => whnf
      refine ⟨_, cells_set _ _ _, ?_⟩
      conv => whnf
      refine ⟨_, _, cells_set_ne (cells_new_ne c4 (by omega)) (by omega), store_agg rfl rfl rfl, ?_⟩
      conv => whnf
      refine ⟨_, num_load (cells_set _ _ _), ?_⟩
      conv => whnf
      exact ⟨(((kk.trans k5).new _).set _ _ (by have := k00.next; omega)).set _ _ (Nat.le_refl _), rfl⟩
  · by_cases hp : pR n < 0
    · conv => whnf
      refine CallQ.mono (t40 true (mR n) (Nat.lt_trans (Nat.lt_of_le_of_lt (mR_le n) (m0_lt n)) (by decide)) T3) ?_
      rintro r X0 ⟨rfl, rfl⟩
      conv => whnf
      refine br (fun q => absurd q (by omega)) (fun _ => ?_)
      conv => whnf
      refine br (fun _ => ?_) (fun q => absurd (by omega) q)
      conv => whnf
      rw [show IntKind.i64.wrap (0 - pR n) = (((-(pR n)).toNat : Nat) : Int) by rw [wrap_i64 (by omega) (by omega)]; omega]
      refine CallQ.mono (t41 true 5 ((-(pR n)).toNat : Nat) X0) ?_
      rintro r X1 ⟨k1, rfl⟩
      rw [(pow_ok (b := 5) (k := (-(pR n)).toNat) (by decide) (by omega) (pow5_fit (by omega)) _ rfl (5 : Int) rfl).1, (pow_ok (b := 5) (k := (-(pR n)).toNat) (by decide) (by omega) (pow5_fit (by omega)) _ rfl (5 : Int) rfl).2]
      conv => whnf
      refine CallQ.mono (t42 true (decD (mR n)) (decD (5 ^ (-(pR n)).toNat)) X1) ?_
      rintro r X ⟨k3, rfl⟩
      have hmul := mul_ok (m := mR n) (b := 5 ^ (-(pR n)).toNat) m_fit (pow5_fit (by omega)) (by have := dig_fit hx; unfold digN at this; rw [if_pos hp] at this; exact this)
      have hdig : digN n = mR n * 5 ^ (-(pR n)).toNat := if_pos hp
      have hexp : expN n = pR n := if_pos hp
      rw [hmul.1, hmul.2, ← hdig]
      have k4 := k1.trans k3
      conv => whnf
      have n4 := k4.next
      have hl := dig_fit hx
      have c0 := (kcells k4 p00).trans c00
      have kk := k00.trans k4
      refine brEq (fun q => ?_) (fun q => ?_)
      · have hneg : negS n = true := decide_eq_true (by omega)
        rw [hneg, hexp]
        conv => whnf
        refine CallQ.mono (t43 true true (decD (digN n)) _ (by omega) X) ?_
        rintro r X4 ⟨k5, rfl⟩
        have c4 := (kcells k5 (Nat.lt_of_lt_of_le p00 n4)).trans c0
        have n5 := k5.next
        conv => whnf
        refine ⟨_, _, cells_new _ _, store_agg rfl rfl rfl, ?_⟩
        conv => whnf
        refine ⟨_, cells_set _ _ _, ?_⟩
        conv => whnf
        refine ⟨_, _, cells_set_ne (cells_new_ne c4 (by omega)) (by omega), store_agg rfl rfl rfl, ?_⟩
        conv => whnf
        refine ⟨_, num_load (cells_set _ _ _), ?_⟩
        conv => whnf
        exact ⟨(((kk.trans k5).new _).set _ _ (by have := k00.next; omega)).set _ _ (Nat.le_refl _), rfl⟩
      · have hneg : negS n = false := decide_eq_false (by omega)
        rw [hneg, hexp]
        conv => whnf
        refine CallQ.mono (t43 true false (decD (digN n)) _ (by omega) X) ?_
        rintro r X4 ⟨k5, rfl⟩
        have c4 := (kcells k5 (Nat.lt_of_lt_of_le p00 n4)).trans c0
        have n5 := k5.next
        conv => whnf
        refine ⟨_, _, cells_new _ _, store_agg rfl rfl rfl, ?_⟩
        conv => whnf
        refine ⟨_, cells_set _ _ _, ?_⟩
        conv => whnf
        refine ⟨_, _, cells_set_ne (cells_new_ne c4 (by omega)) (by omega), store_agg rfl rfl rfl, ?_⟩
        conv => whnf
        refine ⟨_, num_load (cells_set _ _ _), ?_⟩
        conv => whnf
        exact ⟨(((kk.trans k5).new _).set _ _ (by have := k00.next; omega)).set _ _ (Nat.le_refl _), rfl⟩
      
    conv => whnf
    refine CallQ.mono (t40 true (mR n) (Nat.lt_trans (Nat.lt_of_le_of_lt (mR_le n) (m0_lt n)) (by decide)) T3) ?_
    rintro r X0 ⟨rfl, rfl⟩
    conv => whnf
    refine br (fun _ => ?_) (fun q => absurd (by omega) q)
    conv => whnf
    refine CallQ.mono (t41 true 2 (pR n) X0) ?_
    rintro r X1 ⟨k1, rfl⟩
    rw [(pow_ok (b := 2) (k := (pR n).toNat) (by decide) (by omega) (pow2_fit (by omega)) (pR n) (by omega) (2 : Int) rfl).1, (pow_ok (b := 2) (k := (pR n).toNat) (by decide) (by omega) (pow2_fit (by omega)) (pR n) (by omega) (2 : Int) rfl).2]
    conv => whnf
    refine CallQ.mono (t42 true (decD (mR n)) (decD (2 ^ (pR n).toNat)) X1) ?_
    rintro r X ⟨k3, rfl⟩
    have hmul := mul_ok (m := mR n) (b := 2 ^ (pR n).toNat) m_fit (pow2_fit (by omega)) (by have := dig_fit hx; unfold digN at this; rw [if_neg hp] at this; exact this)
    have hdig : digN n = mR n * 2 ^ (pR n).toNat := if_neg hp
    have hexp : expN n = 0 := if_neg hp
    rw [hmul.1, hmul.2, ← hdig]
    have k4 := k1.trans k3
    conv => whnf
    have n4 := k4.next
    have hl := dig_fit hx
    have c0 := (kcells k4 p00).trans c00
    have kk := k00.trans k4
    refine brEq (fun q => ?_) (fun q => ?_)
    · have hneg : negS n = true := decide_eq_true (by omega)
      rw [hneg, hexp]
      conv => whnf
      refine CallQ.mono (t43 true true (decD (digN n)) _ (by omega) X) ?_
      rintro r X4 ⟨k5, rfl⟩
      have c4 := (kcells k5 (Nat.lt_of_lt_of_le p00 n4)).trans c0
      have n5 := k5.next
      conv => whnf
      refine ⟨_, _, cells_new _ _, store_agg rfl rfl rfl, ?_⟩
      conv => whnf
      refine ⟨_, cells_set _ _ _, ?_⟩
      conv => whnf
      refine ⟨_, _, cells_set_ne (cells_new_ne c4 (by omega)) (by omega), store_agg rfl rfl rfl, ?_⟩
      conv => whnf
      refine ⟨_, num_load (cells_set _ _ _), ?_⟩
      conv => whnf
      exact ⟨(((kk.trans k5).new _).set _ _ (by have := k00.next; omega)).set _ _ (Nat.le_refl _), rfl⟩
    · have hneg : negS n = false := decide_eq_false (by omega)
      rw [hneg, hexp]
      conv => whnf
      refine CallQ.mono (t43 true false (decD (digN n)) _ (by omega) X) ?_
      rintro r X4 ⟨k5, rfl⟩
      have c4 := (kcells k5 (Nat.lt_of_lt_of_le p00 n4)).trans c0
      have n5 := k5.next
      conv => whnf
      refine ⟨_, _, cells_new _ _, store_agg rfl rfl rfl, ?_⟩
      conv => whnf
      refine ⟨_, cells_set _ _ _, ?_⟩
      conv => whnf
      refine ⟨_, _, cells_set_ne (cells_new_ne c4 (by omega)) (by omega), store_agg rfl rfl rfl, ?_⟩
      conv => whnf
      refine ⟨_, num_load (cells_set _ _ _), ?_⟩
      conv => whnf
      exact ⟨(((kk.trans k5).new _).set _ _ (by have := k00.next; omega)).set _ _ (Nat.le_refl _), rfl⟩
end Go.Proofs.YtojgnofagkekeaaDoor
namespace Go.Proofs.YtojgnofagkekeaaDoor
open Go.Proofs.YtojgnofagkekeaaDoor.VM Go.RowKit
set_option maxRecDepth 100000
set_option linter.unusedVariables false
set_option maxHeartbeats 8000000
/-- Two numbers are the same number. -/
theorem eqN (a b : Bool) (s t : List UInt8) (d e : Int) : eqF Tryd.prog 36 (.agg [.bool a, .str s, .int .i64 d]) (.agg [.bool b, .str t, .int .i64 e]) = some ((a == b) && ((s == t) && ((d == e) && true))) := by
  kernel_rfl
theorem eqN_self (a : Bool) (s : List UInt8) (d : Int) : eqF Tryd.prog 36 (.agg [.bool a, .str s, .int .i64 d]) (.agg [.bool a, .str s, .int .i64 d]) = some true := by
  rw [eqN]; simp
/-- Digits with as many rounds as wanted. -/
def decF : Nat → Nat → List UInt8
  | 0, n => [UInt8.ofNat (48 + n)]
  | k + 1, n => if n < 10 then [UInt8.ofNat (48 + n)] else decF k (n / 10) ++ [UInt8.ofNat (48 + n % 10)]
theorem decF_eq : ∀ (k n : Nat), n < 10 ^ (k + 1) → decF k n = decD n
  | 0, n, h => by
    unfold decD decF
    rw [dif_pos (by omega)]
  | k + 1, n, h => by
    unfold decD decF
    split
    · rfl
    · rw [decF_eq k (n / 10) (by rw [Nat.pow_succ] at h; omega)]
theorem exact_made (n : Nat) : ∃ b ds e k, exactV n = .tuple [.agg [.bool b, .str ds, .int .i64 e], .int .i64 k] := by
  unfold exactV makeV numV
  split
  · exact ⟨_, _, _, _, rfl⟩
  · split <;> exact ⟨_, _, _, _, rfl⟩
theorem tz_one {m : Nat} (h : m % 2 = 0) (h2 : m / 2 % 2 = 1) : tz m = 1 := by
  rw [tz_even (by omega) h, tz_odd h2]
theorem exact_tenth : ∃ ds, ds.length = 55 ∧ exactV 4591870180066957722 = .tuple [.agg [.bool false, .str ds, .int .i64 (-55)], .int .i64 0] := by
  have hx : exS 11 52 4591870180066957722 = 1019 := by decide +kernel
  have hf : frS 52 4591870180066957722 = 2702159776422298 := by decide +kernel
  have hm : m0 4591870180066957722 = 7205759403792794 := by unfold m0; rw [hx, hf]; rfl
  have hp : p0 4591870180066957722 = -56 := by unfold p0; rw [hx]; rfl
  have ht : tz 7205759403792794 = 1 := tz_one (by decide +kernel) (by decide +kernel)
  have hl : lowN 4591870180066957722 = 1 := by unfold lowN; rw [hm, hp, ht]; rfl
  have hmR : mR 4591870180066957722 = 3602879701896397 := by unfold mR; rw [hm, hl]
  have hpR : pR 4591870180066957722 = -55 := by unfold pR; rw [hp, hl]; rfl
  have hd : digN 4591870180066957722 = 3602879701896397 * 5 ^ 55 := by unfold digN; rw [hpR, hmR, if_pos (by decide)]; rfl
  have hE : expN 4591870180066957722 = -55 := by unfold expN; rw [hpR, if_pos (by decide)]
  have hn : negS 4591870180066957722 = false := by decide +kernel
  have hdec : decD (digN 4591870180066957722) = decF 60 (3602879701896397 * 5 ^ 55) := by rw [hd, decF_eq 60 _ (by decide +kernel)]
  have hmake : makeR false (decF 60 (3602879701896397 * 5 ^ 55)) (-55) = ((false, decF 60 (3602879701896397 * 5 ^ 55), -55), 0) := by decide +kernel
  refine ⟨decF 60 (3602879701896397 * 5 ^ 55), by decide +kernel, ?_⟩
  unfold exactV
  rw [if_neg (by rw [hx]; decide), if_neg (by rw [hm]; decide), hn, hdec, hE]
  unfold makeV
  rw [hmake]
  rfl
theorem alive_wid : widenV 15360 2 = 4607182418800017408 ∧ widenE 15360 2 = 0 := by decide +kernel
theorem alive_nar : narK 4607182418800017408 = 15360 ∧ narW 4607182418800017408 = 2 := by decide +kernel
theorem t11 (S : St) : CallQ Tryd.prog (NC true) 11 [] S fun r S1 => Keep S S1 ∧ r = .bool true := by
  refine CallQ.of rfl (by kernel_rfl : Tryd.prog.funcs[11]? = some Tryd.f11) rfl (by decide) ?_
  conv => whnf
  refine CallQ.mono (t9 true 15360 (by decide) 2 S) ?_
  rintro r S1 ⟨k1, rfl⟩
  rw [alive_wid.1, alive_wid.2]
  conv => whnf
  refine CallQ.mono (t12 true 4607182418800017408 (by decide) S1) ?_
  rintro r S2 ⟨k2, rfl⟩
  rw [alive_nar.1, alive_nar.2]
  conv => whnf
  refine CallQ.mono (t14 4591870180066957722 (by decide) S2) ?_
  rintro r S3 ⟨k3, rfl⟩
  obtain ⟨ds, hl, he⟩ := exact_tenth
  rw [he]
  conv => whnf
  refine ⟨_, _, cells_new _ _, store_agg rfl rfl rfl, ?_⟩
  conv => whnf
  generalize hT : (S3.new _).set _ _ = T
  have kT : Keep S T := by rw [← hT]; exact (((k1.trans k2).trans k3).new _).set _ _ ((k1.trans k2).trans k3).next
  have cT : T.cells S3.next = some [.bool false, .str ds, .int .i64 (-55)] := by rw [← hT, cells_set]
  clear hT
  generalize S3.next = p at *
  refine brEq (fun _ => ?_) (fun q => absurd rfl q)
  conv => whnf
  refine brEq (fun _ => ?_) (fun q => absurd rfl q)
  conv => whnf
  refine brEq (fun _ => ?_) (fun q => absurd rfl q)
  conv => whnf
  refine brEq (fun _ => ?_) (fun q => absurd rfl q)
  conv => whnf
  refine brEq (fun _ => ?_) (fun q => absurd rfl q)
  conv => whnf
  refine ⟨_, cT, ?_⟩
  conv => whnf
  refine brEq (fun _ => ?_) (fun q => absurd (by rw [hl]; rfl) q)
  conv => whnf
  refine ⟨_, cT, ?_⟩
  conv => whnf
  refine brEq (fun _ => ?_) (fun q => absurd rfl q)
  conv => whnf
  exact ⟨kT, rfl⟩
end Go.Proofs.YtojgnofagkekeaaDoor
namespace Go.Proofs.YtojgnofagkekeaaDoor
open Go.Proofs.YtojgnofagkekeaaDoor.VM Go.RowKit
set_option maxRecDepth 100000
set_option linter.unusedVariables false
set_option maxHeartbeats 8000000
theorem t3 (n : Nat) (hn : n < 2 ^ 64) (y : Int) (S : St) : CallQ Tryd.prog (NC true) 3 [.int .u64 n, .int .i64 y] S fun r S1 => r = .bool true := by
  refine CallQ.of rfl (by kernel_rfl : Tryd.prog.funcs[3]? = some Tryd.f3) rfl (by decide) ?_
  conv => whnf
  refine CallQ.mono (t9 true n hn y S) ?_
  rintro r S1 ⟨k1, rfl⟩
  conv => whnf
  refine CallQ.mono (t10 true n hn y S1) ?_
  rintro r S2 ⟨rfl, rfl⟩
  conv => whnf
  refine brEq (fun _ => ?_) (fun q => absurd rfl q)
  conv => whnf
  refine brEq (fun _ => ?_) (fun q => absurd rfl q)
  conv => whnf
  refine CallQ.mono (t11 S2) ?_
  rintro r S3 ⟨_, rfl⟩
  conv => whnf
  rfl
theorem t4 (n : Nat) (hn : n < 2 ^ 64) (S : St) : CallQ Tryd.prog (NC true) 4 [.int .u64 n] S fun r S1 => r = .bool true := by
  refine CallQ.of rfl (by kernel_rfl : Tryd.prog.funcs[4]? = some Tryd.f4) rfl (by decide) ?_
  conv => whnf
  refine CallQ.mono (t12 true n hn S) ?_
  rintro r S1 ⟨k1, rfl⟩
  conv => whnf
  refine CallQ.mono (t13 true n hn S1) ?_
  rintro r S2 ⟨_, rfl⟩
  conv => whnf
  refine brEq (fun _ => ?_) (fun q => absurd rfl q)
  conv => whnf
  refine brEq (fun _ => ?_) (fun q => absurd rfl q)
  conv => whnf
  refine CallQ.mono (t11 S2) ?_
  rintro r S3 ⟨_, rfl⟩
  conv => whnf
  rfl
theorem t7 (n : Nat) (hn : n < 2 ^ 64) (S : St) : CallQ Tryd.prog (NC true) 7 [.int .u64 n] S fun r S1 => r = .bool true := by
  obtain ⟨b, ds, e, k, he⟩ := exact_made n
  refine CallQ.of rfl (by kernel_rfl : Tryd.prog.funcs[7]? = some Tryd.f7) rfl (by decide) ?_
  conv => whnf
  refine CallQ.mono (t14 n hn S) ?_
  rintro r S1 ⟨k1, rfl⟩
  rw [he]
  conv => whnf
  refine ⟨_, _, cells_new _ _, store_agg rfl rfl rfl, ?_⟩
  conv => whnf
  generalize hT : (S1.new _).set _ _ = T
  have cT : T.cells S1.next = some [.bool b, .str ds, .int .i64 e] := by rw [← hT, cells_set]
  have nT : S1.next < T.next := by rw [← hT]; exact Nat.lt_succ_self _
  clear hT
  generalize S1.next = p at *
  refine CallQ.mono (t17 n hn T) ?_
  rintro r S2 ⟨k2, rfl⟩
  rw [he]
  have c2 := (kcells k2 nT).trans cT
  have n2 := k2.next
  conv => whnf
  refine ⟨_, _, cells_new _ _, store_agg rfl rfl rfl, ?_⟩
  conv => whnf
  generalize hU : (S2.new _).set _ _ = U
  have cU1 : U.cells S2.next = some [.bool b, .str ds, .int .i64 e] := by rw [← hU, cells_set]
  have cU2 : U.cells p = some [.bool b, .str ds, .int .i64 e] := by rw [← hU]; exact cells_set_ne (cells_new_ne c2 (by omega)) (by omega)
  clear hU
  generalize S2.next = q at *
  refine ⟨_, cU2, ?_⟩
  conv => whnf
  refine ⟨_, cU1, ?_⟩
  conv => whnf
  rw [eqN_self]
  conv => whnf
  rintro c rfl
  conv => whnf
  refine brEq (fun _ => ?_) (fun q => absurd rfl q)
  conv => whnf
  refine CallQ.mono (t15 true n hn U) ?_
  rintro r S3 ⟨_, rfl⟩
  conv => whnf
  refine CallQ.mono (t18 true n hn S3) ?_
  rintro r S4 ⟨_, rfl⟩
  conv => whnf
  rintro c hc
  obtain rfl : c = true := by rw [hc]; cases finS n <;> rfl
  conv => whnf
  refine CallQ.mono (t19 true n hn S4) ?_
  rintro r S5 ⟨_, rfl⟩
  conv => whnf
  refine CallQ.mono (t20 true n hn S5) ?_
  rintro r S6 ⟨_, rfl⟩
  conv => whnf
  rintro c hc
  obtain rfl : c = true := by rw [hc]; cases negS n <;> rfl
  conv => whnf
  refine CallQ.mono (t11 S6) ?_
  rintro r S7 ⟨_, rfl⟩
  conv => whnf
  rfl
/-- A number with its sign turned. -/
def turnN (n : Nat) : Nat := n ^^^ 2 ^ 63
theorem turn_u64 (n : Nat) (hn : n < 2 ^ 64) : IntKind.u64.wrap ((BitVec.ofInt IntKind.u64.bits (n : Int) ^^^ BitVec.ofInt IntKind.u64.bits 9223372036854775808).toNat : Int) = ((turnN n : Nat) : Int) := by
  have h1 : (BitVec.ofInt IntKind.u64.bits (n : Int) ^^^ BitVec.ofInt IntKind.u64.bits 9223372036854775808).toNat = turnN n := by
    rw [show (9223372036854775808 : Int) = ((2 ^ 63 : Nat) : Int) from rfl, bits_u64]
    simp only [BitVec.toNat_xor, BitVec.ofInt_natCast, BitVec.toNat_ofNat]
    rw [Nat.mod_eq_of_lt hn, Nat.mod_eq_of_lt (by decide)]
    rfl
  rw [h1]
  have : turnN n < 2 ^ 64 := Nat.xor_lt_two_pow hn (by decide)
  exact wrap_u64 (by omega) (by omega)
theorem turn_lt {n : Nat} (h : n < 2 ^ 64) : turnN n < 2 ^ 64 := Nat.xor_lt_two_pow h (by decide)
theorem turn_mod (n : Nat) : turnN n % 2 ^ 63 = n % 2 ^ 63 := by
  unfold turnN
  rw [Nat.xor_mod_two_pow]; simp
theorem turn_fr (n : Nat) : frS 52 (turnN n) = frS 52 n := by
  have := turn_mod n
  unfold frS
  omega
theorem turn_ex (n : Nat) : exS 11 52 (turnN n) = exS 11 52 n := by
  have := turn_mod n
  unfold exS
  omega
theorem turn_neg {n : Nat} (h : n < 2 ^ 64) : negS (turnN n) = !negS n := by
  unfold negS sgS turnN
  have h1 := Nat.xor_div_two_pow (a := n) (b := 2 ^ 63) (n := 63)
  rw [show 11 + 52 = 63 from rfl, h1, show 2 ^ 63 / 2 ^ 63 = 1 from rfl]
  have : n / 2 ^ 63 = 0 ∨ n / 2 ^ 63 = 1 := by omega
  rcases this with h | h <;> rw [h] <;> rfl
theorem tl_tr_ne (s : List UInt8) : tl0 (tr0 s) ≠ [48] := by
  intro h
  obtain ⟨t, ht⟩ := List.dropWhile_suffix (l := tr0 s) is0
  have h2 : tr0 s = t ++ [48] := by rw [← ht]; congr 1
  have h3 : s.reverse.dropWhile is0 = 48 :: t.reverse := by
    have := congrArg List.reverse h2
    unfold tr0 at this
    rw [List.reverse_reverse, List.reverse_append] at this
    exact this
  have h4 := List.head?_dropWhile_not is0 s.reverse
  rw [h3] at h4
  have h5 : is0 48 = false := h4
  exact absurd h5 (by decide)
theorem make_flip (b : Bool) (ds : List UInt8) (e : Int) : ∃ c c2 es d k, makeV b ds e = .tuple [.agg [.bool c, .str es, .int .i64 d], .int .i64 k] ∧ makeV (!b) ds e = .tuple [.agg [.bool c2, .str es, .int .i64 d], .int .i64 k] ∧ (k ≠ 0 ∨ es = [48] → c = c2) ∧ (k = 0 → es ≠ [48] → c2 = !c) := by
  have hr : rightN (!b) (tl0 (tr0 ds)) (madeE ds e) = rightN b (tl0 (tr0 ds)) (madeE ds e) := by
    unfold rightN
    rw [if_neg (tl_tr_ne ds), if_neg (tl_tr_ne ds)]
  unfold makeV makeR numV
  rw [hr]
  by_cases h1 : makeOk ds = true
  · rw [if_pos h1, if_pos h1]
    by_cases h2 : tr0 ds = []
    · rw [if_pos h2, if_pos h2]
      exact ⟨_, _, _, _, _, rfl, rfl, fun _ => rfl, fun _ h => absurd rfl h⟩
    · rw [if_neg h2, if_neg h2]
      by_cases h3 : rightN b (tl0 (tr0 ds)) (madeE ds e) = true
      · rw [if_pos h3, if_pos h3]
        exact ⟨_, _, _, _, _, rfl, rfl, fun h => h.elim (fun h => absurd rfl h) (fun h => absurd h (tl_tr_ne ds)), fun _ _ => rfl⟩
      · rw [if_neg h3, if_neg h3]
        exact ⟨_, _, _, _, _, rfl, rfl, fun _ => rfl, fun h => absurd h (by decide)⟩
  · rw [if_neg h1, if_neg h1]
    exact ⟨_, _, _, _, _, rfl, rfl, fun _ => rfl, fun h => absurd h (by decide)⟩
theorem exact_flip {n : Nat} (h : n < 2 ^ 64) : ∃ c c2 es d k, exactV n = .tuple [.agg [.bool c, .str es, .int .i64 d], .int .i64 k] ∧ exactV (turnN n) = .tuple [.agg [.bool c2, .str es, .int .i64 d], .int .i64 k] ∧ (k ≠ 0 ∨ es = [48] → c = c2) ∧ (k = 0 → es ≠ [48] → c2 = !c) := by
  have em : m0 (turnN n) = m0 n := by unfold m0; rw [turn_ex, turn_fr]
  have ep : p0 (turnN n) = p0 n := by unfold p0; rw [turn_ex]
  have el : lowN (turnN n) = lowN n := by unfold lowN; rw [em, ep]
  have eR : mR (turnN n) = mR n := by unfold mR; rw [em, el]
  have eP : pR (turnN n) = pR n := by unfold pR; rw [ep, el]
  have ed : digN (turnN n) = digN n := by unfold digN; rw [eR, eP]
  have ee : expN (turnN n) = expN n := by unfold expN; rw [eP]
  unfold exactV
  rw [turn_ex, em, ed, ee, turn_neg h]
  split
  · exact ⟨_, _, _, _, _, rfl, rfl, fun _ => rfl, fun h => absurd h (by decide)⟩
  · split
    · exact ⟨_, _, _, _, _, rfl, rfl, fun _ => rfl, fun _ h => absurd rfl h⟩
    · exact make_flip _ _ _
theorem t8 (n : Nat) (hn : n < 2 ^ 64) (S : St) : CallQ Tryd.prog (NC true) 8 [.int .u64 n] S fun r S1 => r = .bool true := by
  obtain ⟨b, b2, ds, e, k, he, he2, hs1, hs2⟩ := exact_flip hn
  refine CallQ.of rfl (by kernel_rfl : Tryd.prog.funcs[8]? = some Tryd.f8) rfl (by decide) ?_
  conv => whnf
  refine CallQ.mono (t14 n hn S) ?_
  rintro r S1 ⟨k1, rfl⟩
  rw [he]
  conv => whnf
  refine ⟨_, _, cells_new _ _, store_agg rfl rfl rfl, ?_⟩
  conv => whnf
  generalize hT : (S1.new _).set _ _ = T
  have cT : T.cells S1.next = some [.bool b, .str ds, .int .i64 e] := by rw [← hT, cells_set]
  have nT : S1.next < T.next := by rw [← hT]; exact Nat.lt_succ_self _
  clear hT
  generalize S1.next = p at *
  rw [turn_u64 n hn]
  refine CallQ.mono (t14 (turnN n) (turn_lt hn) T) ?_
  rintro r S2 ⟨k2, rfl⟩
  rw [he2]
  have c2 := (kcells k2 nT).trans cT
  have n2 := k2.next
  conv => whnf
  refine ⟨_, _, cells_new _ _, store_agg rfl rfl rfl, ?_⟩
  conv => whnf
  generalize hU : (S2.new _).set _ _ = U
  have cU1 : U.cells S2.next = some [.bool b2, .str ds, .int .i64 e] := by rw [← hU, cells_set]
  have cU2 : U.cells p = some [.bool b, .str ds, .int .i64 e] := by rw [← hU]; exact cells_set_ne (cells_new_ne c2 (by omega)) (by omega)
  have nU : S2.next < U.next := by rw [← hU]; exact Nat.lt_succ_self _
  clear hU
  generalize S2.next = q at *
  refine brNe (fun q => absurd rfl q) (fun _ => ?_)
  conv => whnf
  refine CallQ.mono (t19 true n hn U) ?_
  rintro r S5 ⟨rfl, rfl⟩
  conv => whnf
  rw [turn_u64 n hn]
  refine CallQ.mono (t19 true (turnN n) (turn_lt hn) S5) ?_
  rintro r S6 ⟨rfl, rfl⟩
  conv => whnf
  rintro c hc
  obtain rfl : c = false := by rw [hc, turn_neg hn]; cases negS n <;> rfl
  conv => whnf
  by_cases hk : k = 0
  · subst hk
    refine brNe (fun q => absurd rfl q) (fun _ => ?_)
    conv => whnf
    refine ⟨_, cU2, ?_⟩
    conv => whnf
    refine brSEq (fun hd => ?_) (fun hd => ?_)
    · obtain rfl : b = b2 := hs1 (.inr hd)
      conv => whnf
      refine ⟨_, cU2, ?_⟩
      conv => whnf
      refine ⟨_, cU1, ?_⟩
      conv => whnf
      rw [eqN_self]
      conv => whnf
      rintro c rfl
      conv => whnf
      refine CallQ.mono (t11 S6) ?_
      rintro r S7 ⟨_, rfl⟩
      conv => whnf
      rfl
    · obtain rfl : b2 = !b := hs2 rfl hd
      conv => whnf
      refine ⟨_, cU2, ?_⟩
      conv => whnf
      refine ⟨_, _, cU2, if_pos ⟨rfl, rfl, Nat.le_of_ble_eq_true rfl⟩, ?_⟩
      conv => whnf
      conv => whnf
      refine ⟨_, cells_set _ _ _, ?_⟩
      conv => whnf
      refine ⟨_, cells_set_ne cU1 (by omega), ?_⟩
      conv => whnf
      rw [eqN_self]
      conv => whnf
      rintro c rfl
      conv => whnf
      refine CallQ.mono (t11 _) ?_
      rintro r S7 ⟨_, rfl⟩
      conv => whnf
      rfl
  · obtain rfl : b = b2 := hs1 (.inl hk)
    refine brNe (fun _ => ?_) (fun q => absurd q hk)
    conv => whnf
    refine ⟨_, cU2, ?_⟩
    conv => whnf
    refine ⟨_, cU1, ?_⟩
    conv => whnf
    rw [eqN_self]
    conv => whnf
    rintro c rfl
    conv => whnf
    refine CallQ.mono (t11 S6) ?_
    rintro r S7 ⟨_, rfl⟩
    conv => whnf
    rfl
end Go.Proofs.YtojgnofagkekeaaDoor
