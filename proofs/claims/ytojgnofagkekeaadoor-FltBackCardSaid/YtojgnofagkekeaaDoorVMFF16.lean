import Derived.Test.YtojgnofagkekeaaDoorVMFF14
namespace Go.Proofs.YtojgnofagkekeaaDoor
open Go.Proofs.YtojgnofagkekeaaDoor.VM Go.RowKit
set_option maxRecDepth 100000
set_option linter.unusedVariables false
set_option maxHeartbeats 8000000
theorem join_eq (e w s x f : Nat) : joinS e w s x f = 2 ^ w * (2 ^ e * s + x) + f := by
  unfold joinS
  rw [Nat.pow_add, Nat.mul_add, Nat.mul_comm (2 ^ e) (2 ^ w), Nat.mul_comm s, Nat.mul_comm x, Nat.mul_assoc]
theorem fr_join {e w s x f : Nat} (hf : f < 2 ^ w) : frS w (joinS e w s x f) = f := by
  unfold frS
  rw [join_eq, Nat.mul_add_mod, Nat.mod_eq_of_lt hf]
theorem up_join {e w s x f : Nat} (hf : f < 2 ^ w) : joinS e w s x f / 2 ^ w = 2 ^ e * s + x := by
  rw [join_eq, Nat.mul_add_div (Nat.two_pow_pos w), Nat.div_eq_of_lt hf, Nat.add_zero]
theorem ex_join {e w s x f : Nat} (hx : x < 2 ^ e) (hf : f < 2 ^ w) : exS e w (joinS e w s x f) = x := by
  unfold exS
  rw [up_join hf, Nat.mul_add_mod, Nat.mod_eq_of_lt hx]
theorem sg_join {e w s x f : Nat} (hx : x < 2 ^ e) (hf : f < 2 ^ w) : sgS e w (joinS e w s x f) = s := by
  unfold sgS
  rw [Nat.add_comm e w, Nat.pow_add, ← Nat.div_div_eq_div_mul, up_join hf, Nat.mul_add_div (Nat.two_pow_pos e), Nat.div_eq_of_lt hx, Nat.add_zero]
theorem join_parts (e w n : Nat) : joinS e w (sgS e w n) (exS e w n) (frS w n) = n := by
  rw [join_eq]
  unfold sgS exS frS
  rw [Nat.add_comm e w, Nat.pow_add, ← Nat.div_div_eq_div_mul, Nat.div_add_mod, Nat.div_add_mod]
theorem small_w {f w : Nat} (h0 : f ≠ 0) (hf : f < 2 ^ w) (hw : w ≤ 52) : 1 ≤ blen f ∧ blen f ≤ w ∧ 2 ^ 52 + f * 2 ^ (53 - blen f) % 2 ^ 52 = f * 2 ^ (53 - blen f) := by
  have hl : blen f ≤ w := blen_lt.2 hf
  have h1 : 1 ≤ blen f := by
    rcases Nat.lt_or_ge 0 (blen f) with h | h
    · exact h
    · have := blen_lt.1 h; rw [Nat.pow_zero] at this; omega
  refine ⟨h1, hl, ?_⟩
  have hu : f < 2 ^ blen f := blen_lt.1 (Nat.le_refl _)
  have hd : 2 ^ (blen f - 1) ≤ f := by
    rcases Nat.lt_or_ge f (2 ^ (blen f - 1)) with h | h
    · have := blen_lt.2 h; omega
    · exact h
  have e1 : f * 2 ^ (53 - blen f) < 2 ^ 53 := by
    calc f * 2 ^ (53 - blen f) < 2 ^ blen f * 2 ^ (53 - blen f) := Nat.mul_lt_mul_of_pos_right hu (Nat.two_pow_pos _)
      _ = 2 ^ 53 := by rw [← Nat.pow_add]; congr 1; omega
  have e2 : 2 ^ 52 ≤ f * 2 ^ (53 - blen f) := by
    calc 2 ^ 52 = 2 ^ (blen f - 1) * 2 ^ (53 - blen f) := by rw [← Nat.pow_add]; congr 1; omega
      _ ≤ f * 2 ^ (53 - blen f) := Nat.mul_le_mul_right _ hd
  generalize f * 2 ^ (53 - blen f) = z at *
  omega
theorem nar_wid {e w B n : Nat} (hB : B = 2 ^ (e - 1) - 1) (h : (e = 5 ∧ w = 10 ∧ B = 15) ∨ (e = 8 ∧ w = 23 ∧ B = 127)) (T : Nat) (hT : T = 2 ^ e) (hTB : (e = 5 ∧ T = 32) ∨ (e = 8 ∧ T = 256)) (hn : n < 2 ^ (e + w + 1)) : narS e w (widS e w n) = n := by
  have hx : exS e w n < T := by rw [hT]; exact ex_lt e w n
  have hf := fr_lt w n
  have hw : w ≤ 52 := by omega
  have hup := up_lt hf hw
  have hjp := join_parts e w n
  have hback : frS w n * 2 ^ (52 - w) / 2 ^ (52 - w) = frS w n := Nat.mul_div_cancel _ (Nat.two_pow_pos _)
  have e11 : (2 : Nat) ^ 11 = 2048 := rfl
  unfold widS
  rw [← hB, ← hT]
  by_cases c1 : exS e w n = T - 1
  · rw [if_pos c1]
    have hex : exS 11 52 (joinS 11 52 (sgS e w n) 2047 (frS w n * 2 ^ (52 - w))) = 2047 := ex_join (by omega) hup
    unfold narS
    rw [if_pos hex, sg_join (by omega) hup, fr_join hup, hback, ← hT, ← c1]
    exact hjp
  rw [if_neg c1]
  by_cases c2 : 0 < exS e w n
  · rw [if_pos c2]
    have hex : exS 11 52 (joinS 11 52 (sgS e w n) (exS e w n + 1023 - B) (frS w n * 2 ^ (52 - w))) = exS e w n + 1023 - B := ex_join (by omega) hup
    unfold narS
    rw [hex, if_neg (by omega), ← hB, ← hT, if_neg (by omega), if_pos (by omega), sg_join (by omega) hup, fr_join hup, hback, show exS e w n + 1023 - B + B - 1023 = exS e w n by omega]
    exact hjp
  rw [if_neg c2]
  have hx0 : exS e w n = 0 := by omega
  by_cases c3 : frS w n = 0
  · rw [if_pos c3]
    have hex : exS 11 52 (joinS 11 52 (sgS e w n) 0 0) = 0 := ex_join (by omega) (Nat.two_pow_pos _)
    unfold narS
    rw [hex, if_neg (by omega), if_pos (.inl rfl), sg_join (by omega) (Nat.two_pow_pos _)]
    rw [hx0, c3] at hjp
    exact hjp
  rw [if_neg c3]
  obtain ⟨l1, l2, l3⟩ := small_w c3 hf hw
  have hm : frS w n * 2 ^ (53 - blen (frS w n)) % 2 ^ 52 < 2 ^ 52 := Nat.mod_lt _ (Nat.two_pow_pos _)
  have hex : exS 11 52 (joinS 11 52 (sgS e w n) (blen (frS w n) + 1023 - B - w) (frS w n * 2 ^ (53 - blen (frS w n)) % 2 ^ 52)) = blen (frS w n) + 1023 - B - w := ex_join (by omega) hm
  unfold narS
  rw [hex, if_neg (by omega), ← hB, ← hT, if_neg (by omega), if_neg (by omega), sg_join (by omega) hm, fr_join hm, l3, show min (53 - w + (1023 - (blen (frS w n) + 1023 - B - w + B))) 63 = 53 - blen (frS w n) by omega, Nat.mul_div_cancel _ (Nat.two_pow_pos _)]
  rw [hx0] at hjp
  exact hjp
theorem nar_half {n : Nat} (h : n < 2 ^ 16) : narS 5 10 (widS 5 10 n) = n := nar_wid rfl (.inl ⟨rfl, rfl, rfl⟩) 32 rfl (.inl ⟨rfl, rfl⟩) h
theorem nar_single {n : Nat} (h : n < 2 ^ 32) : narS 8 23 (widS 8 23 n) = n := nar_wid rfl (.inr ⟨rfl, rfl, rfl⟩) 256 rfl (.inr ⟨rfl, rfl⟩) h
theorem wid_lt {e w n : Nat} (h : (e = 5 ∧ w = 10) ∨ (e = 8 ∧ w = 23)) (hn : n < 2 ^ (e + w + 1)) : widS e w n < 2 ^ 64 := by
  have hs : sgS e w n ≤ 1 := sg_le hn
  have hx := ex_lt e w n
  have hf := fr_lt w n
  have hup := up_lt hf (show w ≤ 52 by omega)
  have hm : ∀ k, frS w n * 2 ^ k % 2 ^ 52 < 2 ^ 52 := fun k => Nat.mod_lt _ (Nat.two_pow_pos _)
  have hbl : blen (frS w n) ≤ w := blen_lt.2 hf
  have hT : 2 ^ e ≤ 256 := by rcases h with ⟨rfl, rfl⟩ | ⟨rfl, rfl⟩ <;> decide
  have hB : 2 ^ (e - 1) - 1 ≥ 15 := by rcases h with ⟨rfl, rfl⟩ | ⟨rfl, rfl⟩ <;> decide
  have e11 : (2 : Nat) ^ 11 = 2048 := rfl
  generalize 2 ^ (e - 1) - 1 = B at *
  unfold widS
  split
  · exact joinS_lt hs (by omega) hup
  · split
    · exact joinS_lt hs (by omega) hup
    · split
      · exact joinS_lt hs (by omega) (Nat.two_pow_pos _)
      · exact joinS_lt hs (by omega) (hm _)
theorem nar_lt {e w n : Nat} (h : (e = 5 ∧ w = 10) ∨ (e = 8 ∧ w = 23)) (hn : n < 2 ^ 64) : narS e w n < 2 ^ (e + w + 1) := by
  have hs : sgS 11 52 n ≤ 1 := sg_le hn
  have hf := fr_lt 52 n
  have hd := down_lt hf (show w ≤ 52 by omega)
  have hT : 2 ^ e - 1 < 2 ^ e := Nat.sub_lt (Nat.two_pow_pos e) Nat.one_pos
  have hx : exS 11 52 n < 2048 := ex_lt 11 52 n
  unfold narS
  split
  · exact joinS_lt hs hT hd
  · split
    · exact joinS_lt hs (Nat.two_pow_pos e) (Nat.two_pow_pos w)
    · rename_i h2
      split
      · exact joinS_lt hs (by omega) hd
      · have hB : 2 ^ (e - 1) - 1 ≤ 127 := by rcases h with ⟨rfl, rfl⟩ | ⟨rfl, rfl⟩ <;> decide
        exact joinS_lt hs (Nat.two_pow_pos e) (small_lt (by omega) (by omega) (by omega))
theorem back_wid {n : Nat} (hn : n < 2 ^ 64) : widenV (narK n) (narW n) = n ∧ widenE (narK n) (narW n) = 0 := by
  have h1 : narS 5 10 n < 2 ^ 16 := nar_lt (.inl ⟨rfl, rfl⟩) hn
  have h2 : narS 8 23 n < 2 ^ 32 := nar_lt (.inr ⟨rfl, rfl⟩) hn
  unfold narK narW
  by_cases c1 : widS 5 10 (narS 5 10 n) = n
  · rw [if_pos c1, if_pos c1]
    exact ⟨(if_pos ⟨rfl, h1⟩).trans c1, if_pos ⟨rfl, h1⟩⟩
  · rw [if_neg c1, if_neg c1]
    by_cases c2 : widS 8 23 (narS 8 23 n) = n
    · rw [if_pos c2, if_pos c2]
      exact ⟨((if_neg (fun q => absurd q.1 (by decide))).trans (if_pos ⟨rfl, h2⟩)).trans c2, (if_neg (fun q => absurd q.1 (by decide))).trans (if_pos ⟨rfl, h2⟩)⟩
    · rw [if_neg c2, if_neg c2]
      exact ⟨(if_neg (fun q => absurd q.1 (by decide))).trans ((if_neg (fun q => absurd q.1 (by decide))).trans (if_pos rfl)), (if_neg (fun q => absurd q.1 (by decide))).trans ((if_neg (fun q => absurd q.1 (by decide))).trans (if_pos rfl))⟩
theorem half_back {h : Nat} (hh : h < 2 ^ 16) : widenV h 2 = widS 5 10 h ∧ widenE h 2 = 0 ∧ narK (widS 5 10 h) = h ∧ narW (widS 5 10 h) = 2 := by
  refine ⟨if_pos ⟨rfl, hh⟩, if_pos ⟨rfl, hh⟩, ?_, ?_⟩
  · unfold narK; rw [nar_half hh, if_pos rfl]
  · unfold narW; rw [nar_half hh, if_pos rfl]
theorem single_back {h : Nat} (hh : h < 2 ^ 32) : widenV h 4 = widS 8 23 h ∧ widenE h 4 = 0 ∧ narW (widS 8 23 h) ≤ 4 := by
  refine ⟨(if_neg (fun q => absurd q.1 (by decide))).trans (if_pos ⟨rfl, hh⟩), (if_neg (fun q => absurd q.1 (by decide))).trans (if_pos ⟨rfl, hh⟩), ?_⟩
  unfold narW; rw [nar_single hh]
  split
  · decide
  · rw [if_pos rfl]; decide
theorem t5 (n a b : Nat) (hn : n < 2 ^ 64) (ha : a < 2 ^ 16) (hb : b < 2 ^ 32) (S : St) : CallQ Tryd.prog (NC true) 5 [.int .u64 n, .int .u16 a, .int .u32 b] S fun r S1 => r = .bool true := by
  have hk : narK n < 2 ^ 64 := by
    have h1 : narS 5 10 n < 2 ^ 16 := nar_lt (.inl ⟨rfl, rfl⟩) hn
    have h2 : narS 8 23 n < 2 ^ 32 := nar_lt (.inr ⟨rfl, rfl⟩) hn
    unfold narK; split
    · omega
    · split <;> omega
  obtain ⟨b1, b2⟩ := back_wid hn
  obtain ⟨c1, c2, c3, c4⟩ := half_back ha
  obtain ⟨d1, d2, d3⟩ := single_back hb
  have l1 : widS 5 10 a < 2 ^ 64 := wid_lt (.inl ⟨rfl, rfl⟩) ha
  have l2 : widS 8 23 b < 2 ^ 64 := wid_lt (.inr ⟨rfl, rfl⟩) hb
  have wa : IntKind.u64.wrap (a : Int) = (a : Int) := wrap_u64 (by omega) (by omega)
  have wb : IntKind.u64.wrap (b : Int) = (b : Int) := wrap_u64 (by omega) (by omega)
  refine CallQ.of rfl (by kernel_rfl : Tryd.prog.funcs[5]? = some Tryd.f5) rfl (by decide) ?_
  conv => whnf
  refine CallQ.mono (t12 true n hn S) ?_
  rintro r S1 ⟨_, rfl⟩
  conv => whnf
  refine CallQ.mono (t9 true (narK n) hk (narW n) S1) ?_
  rintro r S2 ⟨_, rfl⟩
  rw [b1, b2]
  conv => whnf
  rw [wa]
  refine CallQ.mono (t9 true a (by omega) 2 S2) ?_
  rintro r S3 ⟨_, rfl⟩
  rw [c1, c2]
  conv => whnf
  rw [wb]
  refine CallQ.mono (t9 true b (by omega) 4 S3) ?_
  rintro r S4 ⟨_, rfl⟩
  rw [d1, d2]
  conv => whnf
  refine CallQ.mono (t12 true _ l1 S4) ?_
  rintro r S5 ⟨_, rfl⟩
  rw [c3, c4]
  conv => whnf
  refine CallQ.mono (t12 true _ l2 S5) ?_
  rintro r S6 ⟨_, rfl⟩
  conv => whnf
  refine brEq (fun _ => ?_) (fun q => absurd rfl q)
  conv => whnf
  refine brEq (fun _ => ?_) (fun q => absurd rfl q)
  conv => whnf
  refine brEq (fun _ => ?_) (fun q => absurd rfl q)
  conv => whnf
  refine brEq (fun _ => ?_) (fun q => absurd rfl q)
  conv => whnf
  rw [wa]
  refine brEq (fun _ => ?_) (fun q => absurd rfl q)
  conv => whnf
  refine brEq (fun _ => ?_) (fun q => absurd rfl q)
  conv => whnf
  refine br (fun _ => ?_) (fun q => absurd d3 q)
  conv => whnf
  refine CallQ.mono (t11 S6) ?_
  rintro r S7 ⟨_, rfl⟩
  conv => whnf
  rfl
end Go.Proofs.YtojgnofagkekeaaDoor
