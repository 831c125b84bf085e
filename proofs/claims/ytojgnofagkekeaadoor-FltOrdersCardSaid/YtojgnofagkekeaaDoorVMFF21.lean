import Derived.Test.YtojgnofagkekeaaDoorVMFF14
namespace Go.Proofs.YtojgnofagkekeaaDoor
open Go.Proofs.YtojgnofagkekeaaDoor.VM Go.RowKit
set_option maxRecDepth 100000
set_option linter.unusedVariables false
set_option maxHeartbeats 8000000
theorem join_eq (e w s x f : Nat) : joinS e w s x f = 2 ^ w * (2 ^ e * s + x) + f := by
  unfold joinS
  rw [Nat.pow_add, Nat.mul_add, Nat.mul_comm (2 ^ e) (2 ^ w), Nat.mul_comm s, Nat.mul_comm x, Nat.mul_assoc]
theorem fr_join {e w s x f : Nat} (hf : f < 2 ^ w) : frS w (joinS e w s x f) = f := by
  unfold frS
  rw [join_eq, Nat.mul_add_mod, Nat.mod_eq_of_lt hf]
theorem up_join {e w s x f : Nat} (hf : f < 2 ^ w) : joinS e w s x f / 2 ^ w = 2 ^ e * s + x := by
  rw [join_eq, Nat.mul_add_div (Nat.two_pow_pos w), Nat.div_eq_of_lt hf, Nat.add_zero]
theorem ex_join {e w s x f : Nat} (hx : x < 2 ^ e) (hf : f < 2 ^ w) : exS e w (joinS e w s x f) = x := by
  unfold exS
  rw [up_join hf, Nat.mul_add_mod, Nat.mod_eq_of_lt hx]
theorem sg_join {e w s x f : Nat} (hx : x < 2 ^ e) (hf : f < 2 ^ w) : sgS e w (joinS e w s x f) = s := by
  unfold sgS
  rw [Nat.add_comm e w, Nat.pow_add, ← Nat.div_div_eq_div_mul, up_join hf, Nat.mul_add_div (Nat.two_pow_pos e), Nat.div_eq_of_lt hx, Nat.add_zero]
theorem join_parts (e w n : Nat) : joinS e w (sgS e w n) (exS e w n) (frS w n) = n := by
  rw [join_eq]
  unfold sgS exS frS
  rw [Nat.add_comm e w, Nat.pow_add, ← Nat.div_div_eq_div_mul, Nat.div_add_mod, Nat.div_add_mod]
theorem small_w {f w : Nat} (h0 : f ≠ 0) (hf : f < 2 ^ w) (hw : w ≤ 52) : 1 ≤ blen f ∧ blen f ≤ w ∧ 2 ^ 52 + f * 2 ^ (53 - blen f) % 2 ^ 52 = f * 2 ^ (53 - blen f) := by
  have hl : blen f ≤ w := blen_lt.2 hf
  have h1 : 1 ≤ blen f := by
    rcases Nat.lt_or_ge 0 (blen f) with h | h
    · exact h
    · have := blen_lt.1 h; rw [Nat.pow_zero] at this; omega
  refine ⟨h1, hl, ?_⟩
  have hu : f < 2 ^ blen f := blen_lt.1 (Nat.le_refl _)
  have hd : 2 ^ (blen f - 1) ≤ f := by
    rcases Nat.lt_or_ge f (2 ^ (blen f - 1)) with h | h
    · have := blen_lt.2 h; omega
    · exact h
  have e1 : f * 2 ^ (53 - blen f) < 2 ^ 53 := by
    calc f * 2 ^ (53 - blen f) < 2 ^ blen f * 2 ^ (53 - blen f) := Nat.mul_lt_mul_of_pos_right hu (Nat.two_pow_pos _)
      _ = 2 ^ 53 := by rw [← Nat.pow_add]; congr 1; omega
  have e2 : 2 ^ 52 ≤ f * 2 ^ (53 - blen f) := by
    calc 2 ^ 52 = 2 ^ (blen f - 1) * 2 ^ (53 - blen f) := by rw [← Nat.pow_add]; congr 1; omega
      _ ≤ f * 2 ^ (53 - blen f) := Nat.mul_le_mul_right _ hd
  generalize f * 2 ^ (53 - blen f) = z at *
  omega
theorem nar_wid {e w B n : Nat} (hB : B = 2 ^ (e - 1) - 1) (h : (e = 5 ∧ w = 10 ∧ B = 15) ∨ (e = 8 ∧ w = 23 ∧ B = 127)) (T : Nat) (hT : T = 2 ^ e) (hTB : (e = 5 ∧ T = 32) ∨ (e = 8 ∧ T = 256)) (hn : n < 2 ^ (e + w + 1)) : narS e w (widS e w n) = n := by
  have hx : exS e w n < T := by rw [hT]; exact ex_lt e w n
  have hf := fr_lt w n
  have hw : w ≤ 52 := by omega
  have hup := up_lt hf hw
  have hjp := join_parts e w n
  have hback : frS w n * 2 ^ (52 - w) / 2 ^ (52 - w) = frS w n := Nat.mul_div_cancel _ (Nat.two_pow_pos _)
  have e11 : (2 : Nat) ^ 11 = 2048 := rfl
  unfold widS
  rw [← hB, ← hT]
  by_cases c1 : exS e w n = T - 1
  · rw [if_pos c1]
    have hex : exS 11 52 (joinS 11 52 (sgS e w n) 2047 (frS w n * 2 ^ (52 - w))) = 2047 := ex_join (by omega) hup
    unfold narS
    rw [if_pos hex, sg_join (by omega) hup, fr_join hup, hback, ← hT, ← c1]
    exact hjp
  rw [if_neg c1]
  by_cases c2 : 0 < exS e w n
  · rw [if_pos c2]
    have hex : exS 11 52 (joinS 11 52 (sgS e w n) (exS e w n + 1023 - B) (frS w n * 2 ^ (52 - w))) = exS e w n + 1023 - B := ex_join (by omega) hup
    unfold narS
    rw [hex, if_neg (by omega), ← hB, ← hT, if_neg (by omega), if_pos (by omega), sg_join (by omega) hup, fr_join hup, hback, show exS e w n + 1023 - B + B - 1023 = exS e w n by omega]
    exact hjp
  rw [if_neg c2]
  have hx0 : exS e w n = 0 := by omega
  by_cases c3 : frS w n = 0
  · rw [if_pos c3]
    have hex : exS 11 52 (joinS 11 52 (sgS e w n) 0 0) = 0 := ex_join (by omega) (Nat.two_pow_pos _)
    unfold narS
    rw [hex, if_neg (by omega), if_pos (.inl rfl), sg_join (by omega) (Nat.two_pow_pos _)]
    rw [hx0, c3] at hjp
    exact hjp
  rw [if_neg c3]
  obtain ⟨l1, l2, l3⟩ := small_w c3 hf hw
  have hm : frS w n * 2 ^ (53 - blen (frS w n)) % 2 ^ 52 < 2 ^ 52 := Nat.mod_lt _ (Nat.two_pow_pos _)
  have hex : exS 11 52 (joinS 11 52 (sgS e w n) (blen (frS w n) + 1023 - B - w) (frS w n * 2 ^ (53 - blen (frS w n)) % 2 ^ 52)) = blen (frS w n) + 1023 - B - w := ex_join (by omega) hm
  unfold narS
  rw [hex, if_neg (by omega), ← hB, ← hT, if_neg (by omega), if_neg (by omega), sg_join (by omega) hm, fr_join hm, l3, show min (53 - w + (1023 - (blen (frS w n) + 1023 - B - w + B))) 63 = 53 - blen (frS w n) by omega, Nat.mul_div_cancel _ (Nat.two_pow_pos _)]
  rw [hx0] at hjp
  exact hjp
theorem nar_half {n : Nat} (h : n < 2 ^ 16) : narS 5 10 (widS 5 10 n) = n := nar_wid rfl (.inl ⟨rfl, rfl, rfl⟩) 32 rfl (.inl ⟨rfl, rfl⟩) h
theorem nar_single {n : Nat} (h : n < 2 ^ 32) : narS 8 23 (widS 8 23 n) = n := nar_wid rfl (.inr ⟨rfl, rfl, rfl⟩) 256 rfl (.inr ⟨rfl, rfl⟩) h
theorem wid_lt {e w n : Nat} (h : (e = 5 ∧ w = 10) ∨ (e = 8 ∧ w = 23)) (hn : n < 2 ^ (e + w + 1)) : widS e w n < 2 ^ 64 := by
  have hs : sgS e w n ≤ 1 := sg_le hn
  have hx := ex_lt e w n
  have hf := fr_lt w n
  have hup := up_lt hf (show w ≤ 52 by omega)
  have hm : ∀ k, frS w n * 2 ^ k % 2 ^ 52 < 2 ^ 52 := fun k => Nat.mod_lt _ (Nat.two_pow_pos _)
  have hbl : blen (frS w n) ≤ w := blen_lt.2 hf
  have hT : 2 ^ e ≤ 256 := by rcases h with ⟨rfl, rfl⟩ | ⟨rfl, rfl⟩ <;> decide
  have hB : 2 ^ (e - 1) - 1 ≥ 15 := by rcases h with ⟨rfl, rfl⟩ | ⟨rfl, rfl⟩ <;> decide
  have e11 : (2 : Nat) ^ 11 = 2048 := rfl
  generalize 2 ^ (e - 1) - 1 = B at *
  unfold widS
  split
  · exact joinS_lt hs (by omega) hup
  · split
    · exact joinS_lt hs (by omega) hup
    · split
      · exact joinS_lt hs (by omega) (Nat.two_pow_pos _)
      · exact joinS_lt hs (by omega) (hm _)
theorem nar_lt {e w n : Nat} (h : (e = 5 ∧ w = 10) ∨ (e = 8 ∧ w = 23)) (hn : n < 2 ^ 64) : narS e w n < 2 ^ (e + w + 1) := by
  have hs : sgS 11 52 n ≤ 1 := sg_le hn
  have hf := fr_lt 52 n
  have hd := down_lt hf (show w ≤ 52 by omega)
  have hT : 2 ^ e - 1 < 2 ^ e := Nat.sub_lt (Nat.two_pow_pos e) Nat.one_pos
  have hx : exS 11 52 n < 2048 := ex_lt 11 52 n
  unfold narS
  split
  · exact joinS_lt hs hT hd
  · split
    · exact joinS_lt hs (Nat.two_pow_pos e) (Nat.two_pow_pos w)
    · rename_i h2
      split
      · exact joinS_lt hs (by omega) hd
      · have hB : 2 ^ (e - 1) - 1 ≤ 127 := by rcases h with ⟨rfl, rfl⟩ | ⟨rfl, rfl⟩ <;> decide
        exact joinS_lt hs (Nat.two_pow_pos e) (small_lt (by omega) (by omega) (by omega))
theorem back_wid {n : Nat} (hn : n < 2 ^ 64) : widenV (narK n) (narW n) = n ∧ widenE (narK n) (narW n) = 0 := by
  have h1 : narS 5 10 n < 2 ^ 16 := nar_lt (.inl ⟨rfl, rfl⟩) hn
  have h2 : narS 8 23 n < 2 ^ 32 := nar_lt (.inr ⟨rfl, rfl⟩) hn
  unfold narK narW
  by_cases c1 : widS 5 10 (narS 5 10 n) = n
  · rw [if_pos c1, if_pos c1]
    exact ⟨(if_pos ⟨rfl, h1⟩).trans c1, if_pos ⟨rfl, h1⟩⟩
  · rw [if_neg c1, if_neg c1]
    by_cases c2 : widS 8 23 (narS 8 23 n) = n
    · rw [if_pos c2, if_pos c2]
      exact ⟨((if_neg (fun q => absurd q.1 (by decide))).trans (if_pos ⟨rfl, h2⟩)).trans c2, (if_neg (fun q => absurd q.1 (by decide))).trans (if_pos ⟨rfl, h2⟩)⟩
    · rw [if_neg c2, if_neg c2]
      exact ⟨(if_neg (fun q => absurd q.1 (by decide))).trans ((if_neg (fun q => absurd q.1 (by decide))).trans (if_pos rfl)), (if_neg (fun q => absurd q.1 (by decide))).trans ((if_neg (fun q => absurd q.1 (by decide))).trans (if_pos rfl))⟩
theorem half_back {h : Nat} (hh : h < 2 ^ 16) : widenV h 2 = widS 5 10 h ∧ widenE h 2 = 0 ∧ narK (widS 5 10 h) = h ∧ narW (widS 5 10 h) = 2 := by
  refine ⟨if_pos ⟨rfl, hh⟩, if_pos ⟨rfl, hh⟩, ?_, ?_⟩
  · unfold narK; rw [nar_half hh, if_pos rfl]
  · unfold narW; rw [nar_half hh, if_pos rfl]
theorem single_back {h : Nat} (hh : h < 2 ^ 32) : widenV h 4 = widS 8 23 h ∧ widenE h 4 = 0 ∧ narW (widS 8 23 h) ≤ 4 := by
  refine ⟨(if_neg (fun q => absurd q.1 (by decide))).trans (if_pos ⟨rfl, hh⟩), (if_neg (fun q => absurd q.1 (by decide))).trans (if_pos ⟨rfl, hh⟩), ?_⟩
  unfold narW; rw [nar_single hh]
  split
  · decide
  · rw [if_pos rfl]; decide
theorem t5 (n a b : Nat) (hn : n < 2 ^ 64) (ha : a < 2 ^ 16) (hb : b < 2 ^ 32) (S : St) : CallQ Tryd.prog (NC true) 5 [.int .u64 n, .int .u16 a, .int .u32 b] S fun r S1 => r = .bool true := by
  have hk : narK n < 2 ^ 64 := by
    have h1 : narS 5 10 n < 2 ^ 16 := nar_lt (.inl ⟨rfl, rfl⟩) hn
    have h2 : narS 8 23 n < 2 ^ 32 := nar_lt (.inr ⟨rfl, rfl⟩) hn
    unfold narK; split
    · omega
    · split <;> omega
  obtain ⟨b1, b2⟩ := back_wid hn
  obtain ⟨c1, c2, c3, c4⟩ := half_back ha
  obtain ⟨d1, d2, d3⟩ := single_back hb
  have l1 : widS 5 10 a < 2 ^ 64 := wid_lt (.inl ⟨rfl, rfl⟩) ha
  have l2 : widS 8 23 b < 2 ^ 64 := wid_lt (.inr ⟨rfl, rfl⟩) hb
  have wa : IntKind.u64.wrap (a : Int) = (a : Int) := wrap_u64 (by omega) (by omega)
  have wb : IntKind.u64.wrap (b : Int) = (b : Int) := wrap_u64 (by omega) (by omega)
  refine CallQ.of rfl (by kernel_rfl : Tryd.prog.funcs[5]? = some Tryd.f5) rfl (by decide) ?_
  conv => whnf
  refine CallQ.mono (t12 true n hn S) ?_
  rintro r S1 ⟨_, rfl⟩
  conv => whnf
  refine CallQ.mono (t9 true (narK n) hk (narW n) S1) ?_
  rintro r S2 ⟨_, rfl⟩
  rw [b1, b2]
  conv => whnf
  rw [wa]
  refine CallQ.mono (t9 true a (by omega) 2 S2) ?_
  rintro r S3 ⟨_, rfl⟩
  rw [c1, c2]
  conv => whnf
  rw [wb]
  refine CallQ.mono (t9 true b (by omega) 4 S3) ?_
  rintro r S4 ⟨_, rfl⟩
  rw [d1, d2]
  conv => whnf
  refine CallQ.mono (t12 true _ l1 S4) ?_
  rintro r S5 ⟨_, rfl⟩
  rw [c3, c4]
  conv => whnf
  refine CallQ.mono (t12 true _ l2 S5) ?_
  rintro r S6 ⟨_, rfl⟩
  conv => whnf
  refine brEq (fun _ => ?_) (fun q => absurd rfl q)
  conv => whnf
  refine brEq (fun _ => ?_) (fun q => absurd rfl q)
  conv => whnf
  refine brEq (fun _ => ?_) (fun q => absurd rfl q)
  conv => whnf
  refine brEq (fun _ => ?_) (fun q => absurd rfl q)
  conv => whnf
  rw [wa]
  refine brEq (fun _ => ?_) (fun q => absurd rfl q)
  conv => whnf
  refine brEq (fun _ => ?_) (fun q => absurd rfl q)
  conv => whnf
  refine br (fun _ => ?_) (fun q => absurd d3 q)
  conv => whnf
  refine CallQ.mono (t11 S6) ?_
  rintro r S7 ⟨_, rfl⟩
  conv => whnf
  rfl
end Go.Proofs.YtojgnofagkekeaaDoor
namespace Go.Proofs.YtojgnofagkekeaaDoor
open Go.Proofs.YtojgnofagkekeaaDoor.VM Go.RowKit
set_option maxRecDepth 100000
set_option linter.unusedVariables false
set_option maxHeartbeats 8000000
/-- Digits with as many zeros behind as the exponent lies above the lower one. -/
def zs (ds : List UInt8) (k : Nat) : List UInt8 := ds ++ List.replicate k 48
theorem zs_succ (ds : List UInt8) (k : Nat) : zs ds k ++ [48] = zs ds (k + 1) := by
  unfold zs
  rw [List.append_assoc, List.replicate_succ']
def sizeX (ds : List UInt8) (k : Nat) : List UInt8 := if ds = [48] then [] else zs ds k
def sizeV (x y : List UInt8) : Int := if x.length < y.length ∨ x.length = y.length ∧ Op.bytesLess x y = true then -1 else if x = y then 0 else 1
theorem t37 (h : Bool) (na nb : Bool) (da db : List UInt8) (ea eb : Int) (ha : da.length ≤ 800) (hb : db.length ≤ 800) (ha1 : -2000 ≤ ea) (ha2 : ea ≤ 2000) (hb1 : -2000 ≤ eb) (hb2 : eb ≤ 2000) (S : St) : CallQ Tryd.prog (NC h) 37 [numV na da ea, numV nb db eb] S fun r S1 => Keep S S1 ∧ r = .int .i64 (sizeV (sizeX da (ea - min ea eb).toNat) (sizeX db (eb - min ea eb).toNat)) := by
  refine CallQ.of rfl (by kernel_rfl : Tryd.prog.funcs[37]? = some Tryd.f37) rfl (by decide) ?_
  conv => whnf
  generalize hT : (S.new (.cells [.bool na, .str da, .int .i64 ea])).new (.cells [.bool nb, .str db, .int .i64 eb]) = T
  have cA : T.cells S.next = some [.bool na, .str da, .int .i64 ea] := by rw [← hT]; exact cells_new_ne (cells_new _ _) (by show S.next ≠ S.next + 1; omega)
  have cB : T.cells (S.next + 1) = some [.bool nb, .str db, .int .i64 eb] := by rw [← hT]; exact cells_new _ _
  have kT : Keep S T := by rw [← hT]; exact ((Keep.refl S).new _).new _
  have w1 : (S.new (.cells [.bool na, .str da, .int .i64 ea])).next = S.next + 1 := rfl
  rw [w1]
  clear hT
  generalize S.next + 1 = q at *
  generalize S.next = p at *
  refine ⟨_, cA, ?_⟩
  conv => whnf
  refine ⟨_, cB, ?_⟩
  conv => whnf
  refine ⟨[0, 1, 2, 3, 4, 5], [], by kernel_rfl, by kernel_rfl, by kernel_rfl, ?_⟩
  conv => whnf
  refine ⟨_, cA, ?_⟩
  conv => whnf
  refine ⟨_, cB, ?_⟩
  conv => whnf
  rw [show (if eb < ea then eb else ea) = min ea eb by split <;> omega]
  have hlo : min ea eb ≤ ea ∧ min ea eb ≤ eb ∧ -2000 ≤ min ea eb := by omega
  obtain ⟨ka, hka⟩ : ∃ k : Nat, (ea - min ea eb).toNat = k := ⟨_, rfl⟩
  obtain ⟨kb, hkb⟩ : ∃ k : Nat, (eb - min ea eb).toNat = k := ⟨_, rfl⟩
  rw [hka, hkb]
  generalize min ea eb = low at *
  refine CodeQ.loop (fun (j : Nat) => pat 65 [(2, .ptr p 0), (3, .ptr q 0), (5, .int .i64 low), (6, .str (zs da j)), (7, .str db), (8, .int .i64 (low + j))]) (fun m j S1 => S1 = T ∧ m = ka - j ∧ j ≤ ka) ?_ _ 0 _ _ ⟨rfl, rfl, Nat.zero_le _⟩ ⟨rfl, rfl, rfl, by simp [zs], rfl, by simp, trivial⟩
  rintro m j T1 d ⟨rfl, hmj, hj⟩
  dsimp only at *
  conv => whnf
  refine ⟨_, cA, ?_⟩
  conv => whnf
  have hw : IntKind.i64.wrap (low + (j : Nat) + 1) = low + ((j + 1 : Nat) : Int) := by rw [wrap_i64 (by omega) (by omega)]; omega
  rcases Nat.lt_or_ge j ka with hjl | hjl
  · refine br (fun _ => ?_) (fun q => absurd (by omega) q)
    conv => whnf
    refine ⟨by simp [zs]; omega, ?_⟩
    rw [zs_succ]
    conv => whnf
    rw [hw]
    refine ⟨ka - (j + 1), j + 1, by omega, ⟨rfl, rfl, hjl⟩, ⟨rfl, rfl, rfl, rfl, rfl, rfl, trivial⟩⟩
  obtain rfl : ka = j := by omega
  refine br (fun q => absurd q (by omega)) (fun _ => ?_)
  clear hmj hj hjl hw
  conv => whnf
  refine CodeQ.loop (fun (j : Nat) => pat 65 [(2, .ptr p 0), (3, .ptr q 0), (5, .int .i64 low), (6, .str (zs da ka)), (7, .str (zs db j)), (9, .int .i64 (low + j))]) (fun m j S1 => S1 = T1 ∧ m = kb - j ∧ j ≤ kb) ?_ _ 0 _ _ ⟨rfl, rfl, Nat.zero_le _⟩ ⟨rfl, rfl, rfl, rfl, by simp [zs], by simp, trivial⟩
  rintro m j T2 d ⟨rfl, hmj, hj⟩
  try dsimp only at *
  conv => whnf
  refine ⟨_, cB, ?_⟩
  conv => whnf
  have hw : IntKind.i64.wrap (low + (j : Nat) + 1) = low + ((j + 1 : Nat) : Int) := by rw [wrap_i64 (by omega) (by omega)]; omega
  rcases Nat.lt_or_ge j kb with hjl | hjl
  · refine br (fun _ => ?_) (fun q => absurd (by omega) q)
    conv => whnf
    refine ⟨by simp [zs]; omega, ?_⟩
    rw [zs_succ]
    conv => whnf
    rw [hw]
    refine ⟨kb - (j + 1), j + 1, by omega, ⟨rfl, rfl, hjl⟩, ⟨rfl, rfl, rfl, rfl, rfl, rfl, trivial⟩⟩
  obtain rfl : kb = j := by omega
  refine br (fun q => absurd q (by omega)) (fun _ => ?_)
  clear hmj hj hjl hw
  conv => whnf
  refine ⟨_, cA, ?_⟩
  conv => whnf
  refine brSEq (fun h5 => ?_) (fun h5 => ?_)
  · rw [show sizeX da ka = [] from if_pos h5]
    conv => whnf
    refine ⟨_, cB, ?_⟩
    conv => whnf
    refine brSEq (fun h6 => ?_) (fun h6 => ?_)
    · rw [show sizeX db kb = [] from if_pos h6]
      conv => whnf
      refine br (fun h1 => ?_) (fun h1 => ?_)
      · conv => whnf
        exact ⟨kT, congrArg (AV.int .i64) (Eq.symm (if_pos (.inl (Int.ofNat_lt.1 h1))))⟩
      conv => whnf
      refine brEq (fun h2 => ?_) (fun h2 => ?_)
      · conv => whnf
        refine brB (fun h3 => ?_) (fun h3 => ?_)
        · conv => whnf
          exact ⟨kT, congrArg (AV.int .i64) (Eq.symm (if_pos (.inr ⟨Int.ofNat.inj h2, h3⟩)))⟩
        · conv => whnf
          refine brSEq (fun h4 => ?_) (fun h4 => ?_)
          · conv => whnf
            exact ⟨kT, congrArg (AV.int .i64) (Eq.symm ((if_neg (fun q => q.elim (fun q => h1 (Int.ofNat_lt.2 q)) (fun q => Bool.noConfusion (h3.symm.trans q.2)))).trans (if_pos h4)))⟩
          · conv => whnf
            exact ⟨kT, congrArg (AV.int .i64) (Eq.symm ((if_neg (fun q => q.elim (fun q => h1 (Int.ofNat_lt.2 q)) (fun q => Bool.noConfusion (h3.symm.trans q.2)))).trans (if_neg h4)))⟩
      · conv => whnf
        refine brSEq (fun h4 => ?_) (fun h4 => ?_)
        · exact absurd (congrArg (fun l : List UInt8 => (l.length : Int)) h4) h2
        · conv => whnf
          exact ⟨kT, congrArg (AV.int .i64) (Eq.symm ((if_neg (fun q => q.elim (fun q => h1 (Int.ofNat_lt.2 q)) (fun q => h2 (congrArg Int.ofNat q.1)))).trans (if_neg h4)))⟩
    · rw [show sizeX db kb = zs db kb from if_neg h6]
      conv => whnf
      refine br (fun h1 => ?_) (fun h1 => ?_)
      · conv => whnf
        exact ⟨kT, congrArg (AV.int .i64) (Eq.symm (if_pos (.inl (Int.ofNat_lt.1 h1))))⟩
      conv => whnf
      refine brEq (fun h2 => ?_) (fun h2 => ?_)
      · conv => whnf
        refine brB (fun h3 => ?_) (fun h3 => ?_)
        · conv => whnf
          exact ⟨kT, congrArg (AV.int .i64) (Eq.symm (if_pos (.inr ⟨Int.ofNat.inj h2, h3⟩)))⟩
        · conv => whnf
          refine brSEq (fun h4 => ?_) (fun h4 => ?_)
          · conv => whnf
            exact ⟨kT, congrArg (AV.int .i64) (Eq.symm ((if_neg (fun q => q.elim (fun q => h1 (Int.ofNat_lt.2 q)) (fun q => Bool.noConfusion (h3.symm.trans q.2)))).trans (if_pos h4)))⟩
          · conv => whnf
            exact ⟨kT, congrArg (AV.int .i64) (Eq.symm ((if_neg (fun q => q.elim (fun q => h1 (Int.ofNat_lt.2 q)) (fun q => Bool.noConfusion (h3.symm.trans q.2)))).trans (if_neg h4)))⟩
      · conv => whnf
        refine brSEq (fun h4 => ?_) (fun h4 => ?_)
        · exact absurd (congrArg (fun l : List UInt8 => (l.length : Int)) h4) h2
        · conv => whnf
          exact ⟨kT, congrArg (AV.int .i64) (Eq.symm ((if_neg (fun q => q.elim (fun q => h1 (Int.ofNat_lt.2 q)) (fun q => h2 (congrArg Int.ofNat q.1)))).trans (if_neg h4)))⟩
  · rw [show sizeX da ka = zs da ka from if_neg h5]
    conv => whnf
    refine ⟨_, cB, ?_⟩
    conv => whnf
    refine brSEq (fun h6 => ?_) (fun h6 => ?_)
    · rw [show sizeX db kb = [] from if_pos h6]
      conv => whnf
      refine br (fun h1 => ?_) (fun h1 => ?_)
      · conv => whnf
        exact ⟨kT, congrArg (AV.int .i64) (Eq.symm (if_pos (.inl (Int.ofNat_lt.1 h1))))⟩
      conv => whnf
      refine brEq (fun h2 => ?_) (fun h2 => ?_)
      · conv => whnf
        refine brB (fun h3 => ?_) (fun h3 => ?_)
        · conv => whnf
          exact ⟨kT, congrArg (AV.int .i64) (Eq.symm (if_pos (.inr ⟨Int.ofNat.inj h2, h3⟩)))⟩
        · conv => whnf
          refine brSEq (fun h4 => ?_) (fun h4 => ?_)
          · conv => whnf
            exact ⟨kT, congrArg (AV.int .i64) (Eq.symm ((if_neg (fun q => q.elim (fun q => h1 (Int.ofNat_lt.2 q)) (fun q => Bool.noConfusion (h3.symm.trans q.2)))).trans (if_pos h4)))⟩
          · conv => whnf
            exact ⟨kT, congrArg (AV.int .i64) (Eq.symm ((if_neg (fun q => q.elim (fun q => h1 (Int.ofNat_lt.2 q)) (fun q => Bool.noConfusion (h3.symm.trans q.2)))).trans (if_neg h4)))⟩
      · conv => whnf
        refine brSEq (fun h4 => ?_) (fun h4 => ?_)
        · exact absurd (congrArg (fun l : List UInt8 => (l.length : Int)) h4) h2
        · conv => whnf
          exact ⟨kT, congrArg (AV.int .i64) (Eq.symm ((if_neg (fun q => q.elim (fun q => h1 (Int.ofNat_lt.2 q)) (fun q => h2 (congrArg Int.ofNat q.1)))).trans (if_neg h4)))⟩
    · rw [show sizeX db kb = zs db kb from if_neg h6]
      conv => whnf
      refine br (fun h1 => ?_) (fun h1 => ?_)
      · conv => whnf
        exact ⟨kT, congrArg (AV.int .i64) (Eq.symm (if_pos (.inl (Int.ofNat_lt.1 h1))))⟩
      conv => whnf
      refine brEq (fun h2 => ?_) (fun h2 => ?_)
      · conv => whnf
        refine brB (fun h3 => ?_) (fun h3 => ?_)
        · conv => whnf
          exact ⟨kT, congrArg (AV.int .i64) (Eq.symm (if_pos (.inr ⟨Int.ofNat.inj h2, h3⟩)))⟩
        · conv => whnf
          refine brSEq (fun h4 => ?_) (fun h4 => ?_)
          · conv => whnf
            exact ⟨kT, congrArg (AV.int .i64) (Eq.symm ((if_neg (fun q => q.elim (fun q => h1 (Int.ofNat_lt.2 q)) (fun q => Bool.noConfusion (h3.symm.trans q.2)))).trans (if_pos h4)))⟩
          · conv => whnf
            exact ⟨kT, congrArg (AV.int .i64) (Eq.symm ((if_neg (fun q => q.elim (fun q => h1 (Int.ofNat_lt.2 q)) (fun q => Bool.noConfusion (h3.symm.trans q.2)))).trans (if_neg h4)))⟩
      · conv => whnf
        refine brSEq (fun h4 => ?_) (fun h4 => ?_)
        · exact absurd (congrArg (fun l : List UInt8 => (l.length : Int)) h4) h2
        · conv => whnf
          exact ⟨kT, congrArg (AV.int .i64) (Eq.symm ((if_neg (fun q => q.elim (fun q => h1 (Int.ofNat_lt.2 q)) (fun q => h2 (congrArg Int.ofNat q.1)))).trans (if_neg h4)))⟩
theorem right_in {neg : Bool} {ds : List UInt8} {e : Int} (h : rightN neg ds e = true) : rightS ds = true ∧ ds.length ≤ 800 ∧ -2000 ≤ e ∧ e ≤ 2000 := by
  unfold rightN at h
  have h1 := (Bool.and_eq_true _ _).mp h
  have h2 : ds.length ≤ 800 := by
    have := h1.1
    unfold rightS at this
    simp at this
    omega
  refine ⟨h1.1, h2, ?_⟩
  have h3 := h1.2
  split at h3 <;> simp at h3 <;> omega
theorem t16 (h : Bool) (da db : List UInt8) (ea eb : Int) (ha : rightN false da ea = true) (hb : rightN false db eb = true) (S : St) : CallQ Tryd.prog (NC h) 16 [numV false da ea, numV false db eb] S fun r S1 => Keep S S1 ∧ r = .tuple [.int .i64 (sizeV (sizeX da (ea - min ea eb).toNat) (sizeX db (eb - min ea eb).toNat)), .int .i64 0] := by
  obtain ⟨_, a1, a2, a3⟩ := right_in ha
  obtain ⟨_, b1, b2, b3⟩ := right_in hb
  refine CallQ.of rfl (by kernel_rfl : Tryd.prog.funcs[16]? = some Tryd.f16) rfl (by decide) ?_
  conv => whnf
  generalize hT : (S.new (.cells [.bool false, .str da, .int .i64 ea])).new (.cells [.bool false, .str db, .int .i64 eb]) = T
  have cA : T.cells S.next = some [.bool false, .str da, .int .i64 ea] := by rw [← hT]; exact cells_new_ne (cells_new _ _) (by show S.next ≠ S.next + 1; omega)
  have cB : T.cells (S.next + 1) = some [.bool false, .str db, .int .i64 eb] := by rw [← hT]; exact cells_new _ _
  have kT : Keep S T := by rw [← hT]; exact ((Keep.refl S).new _).new _
  have w1 : (S.new (.cells [.bool false, .str da, .int .i64 ea])).next = S.next + 1 := rfl
  rw [w1]
  clear hT
  generalize S.next + 1 = q at *
  generalize S.next = p at *
  refine ⟨_, cA, ?_⟩
  refine CallQ.mono (t36 h false da ea T) ?_
  rintro r T1 ⟨rfl, rfl⟩
  rw [ha]
  conv => whnf
  refine ⟨_, cB, ?_⟩
  refine CallQ.mono (t36 h false db eb T1) ?_
  rintro r T2 ⟨rfl, rfl⟩
  rw [hb]
  conv => whnf
  refine ⟨_, cA, ?_⟩
  conv => whnf
  refine ⟨_, cA, ?_⟩
  conv => whnf
  refine ⟨_, cB, ?_⟩
  conv => whnf
  refine ⟨_, cA, ?_⟩
  conv => whnf
  refine ⟨_, cA, ?_⟩
  conv => whnf
  refine ⟨_, cB, ?_⟩
  refine CallQ.mono (t37 h false false da db ea eb a1 b1 a2 a3 b2 b3 T2) ?_
  rintro r T3 ⟨k3, rfl⟩
  conv => whnf
  exact ⟨kT.trans k3, rfl⟩
end Go.Proofs.YtojgnofagkekeaaDoor
namespace Go.Proofs.YtojgnofagkekeaaDoor
open Go.Proofs.YtojgnofagkekeaaDoor.VM Go.RowKit
set_option maxRecDepth 100000
set_option linter.unusedVariables false
set_option maxHeartbeats 8000000
/-- The whole number that a number's bits mean, taken 2^1074 times. -/
def valF (n : Nat) : Nat := if exS 11 52 n = 0 then frS 52 n else (2 ^ 52 + frS 52 n) * 2 ^ (exS 11 52 n - 1)
theorem bits_63 {n : Nat} (h : n < 2 ^ 63) : n = exS 11 52 n * 2 ^ 52 + frS 52 n := by
  unfold exS frS
  omega
theorem val_mono {a b : Nat} (hb : b < 2 ^ 63) (h : a < b) : valF a < valF b := by
  have ea := bits_63 (Nat.lt_trans h hb)
  have eb := bits_63 hb
  have fa := fr_lt 52 a
  have fb := fr_lt 52 b
  unfold valF
  generalize exS 11 52 a = x at *
  generalize exS 11 52 b = y at *
  generalize frS 52 a = f at *
  generalize frS 52 b = g at *
  have hxy : x ≤ y := by omega
  rcases Nat.lt_or_ge x y with q | q
  · have hy : y ≠ 0 := by omega
    rw [if_neg hy]
    have h1 : 2 ^ 52 * 2 ^ (y - 1) ≤ (2 ^ 52 + g) * 2 ^ (y - 1) := Nat.mul_le_mul_right _ (by omega)
    by_cases hx : x = 0
    · rw [if_pos hx]
      have h2 : 1 ≤ 2 ^ (y - 1) := Nat.two_pow_pos _
      have h3 : 2 ^ 52 * 1 ≤ 2 ^ 52 * 2 ^ (y - 1) := Nat.mul_le_mul_left _ h2
      omega
    · rw [if_neg hx]
      have h2 : (2 ^ 52 + f) * 2 ^ (x - 1) < 2 ^ 53 * 2 ^ (x - 1) := Nat.mul_lt_mul_of_pos_right (by omega) (Nat.two_pow_pos _)
      have h3 : 2 ^ 53 * 2 ^ (x - 1) = 2 ^ 52 * 2 ^ x := by
        rw [← Nat.pow_add, ← Nat.pow_add]; congr 1; omega
      have h4 : 2 ^ 52 * 2 ^ x ≤ 2 ^ 52 * 2 ^ (y - 1) := Nat.mul_le_mul_left _ (Nat.pow_le_pow_right (by decide) (by omega))
      omega
  · obtain rfl : x = y := by omega
    have hfg : f < g := by omega
    by_cases hx : x = 0
    · rw [if_pos hx, if_pos hx]; exact hfg
    · rw [if_neg hx, if_neg hx]
      exact Nat.mul_lt_mul_of_pos_right (by omega) (Nat.two_pow_pos _)
theorem val_iff {a b : Nat} (ha : a < 2 ^ 63) (hb : b < 2 ^ 63) : (valF a < valF b ↔ a < b) ∧ (valF a = valF b ↔ a = b) := by
  rcases Nat.lt_trichotomy a b with h | h | h
  · have := val_mono hb h
    omega
  · subst h; omega
  · have := val_mono ha h
    omega
/-- Digits without a zero ahead, or nothing. -/
def Lead (x : List UInt8) : Prop := (∀ c ∈ x, 48 ≤ c.toNat ∧ c.toNat ≤ 57) ∧ (x = [] ∨ 49 ≤ (x.getD 0 0).toNat)
theorem lead_ge {x : List UInt8} (h : Lead x) (h0 : x ≠ []) : 10 ^ (x.length - 1) ≤ valD x := by
  obtain ⟨h1, h2⟩ := h
  cases x with
  | nil => exact absurd rfl h0
  | cons c t =>
    have h3 : 49 ≤ c.toNat := h2.resolve_left (by simp)
    rw [show c :: t = [c] ++ t from rfl, valD_app]
    have h4 : 1 ≤ valD [c] := by
      show 1 ≤ 0 * 10 + (c.toNat - 48)
      omega
    have : 10 ^ t.length * 1 ≤ valD [c] * 10 ^ t.length := by rw [Nat.mul_comm]; exact Nat.mul_le_mul_right _ h4
    show 10 ^ ([c] ++ t).length.pred ≤ _
    have e : ([c] ++ t).length.pred = t.length := by simp
    rw [e]
    omega
theorem lead_len {x y : List UInt8} (hx : Lead x) (hy : Lead y) (h : x.length < y.length) : valD x < valD y := by
  have h1 := valD_lt hx.1
  have h0 : y ≠ [] := fun q => by rw [q] at h; exact absurd h (Nat.not_lt_zero _)
  have h2 := lead_ge hy h0
  have h3 : 10 ^ x.length ≤ 10 ^ (y.length - 1) := Nat.pow_le_pow_right (by decide) (by omega)
  omega
theorem size_val {x y : List UInt8} (hx : Lead x) (hy : Lead y) : (sizeV x y < 0 ↔ valD x < valD y) ∧ (sizeV x y = 0 ↔ valD x = valD y) := by
  unfold sizeV
  rw [less_cmp]
  rcases Nat.lt_trichotomy x.length y.length with h | h | h
  · have := lead_len hx hy h
    rw [if_pos (.inl h)]
    omega
  · rcases cmp_val x y with q | q | q
    · have h1 : valD x < valD y := cmp_val_gt y x h.symm hy.1 hx.1 (cmp_anti x y q) 0
      rw [if_pos (.inr ⟨h, decide_eq_true q⟩)]
      omega
    · have := cmp_zero q
      subst this
      rw [if_neg (by rw [q]; simp), if_pos rfl]
      omega
    · have h1 : valD y < valD x := cmp_val_gt x y h hx.1 hy.1 q 0
      rw [if_neg (by rw [q]; simp [h]), if_neg (fun e => by rw [e] at h1; exact Nat.lt_irrefl _ h1)]
      omega
  · have := lead_len hy hx h
    rw [if_neg (by omega), if_neg (fun e => by rw [e] at h; exact Nat.lt_irrefl _ h)]
    omega
end Go.Proofs.YtojgnofagkekeaaDoor
namespace Go.Proofs.YtojgnofagkekeaaDoor
open Go.Proofs.YtojgnofagkekeaaDoor.VM Go.RowKit
set_option maxRecDepth 100000
set_option linter.unusedVariables false
set_option maxHeartbeats 8000000
theorem valD_zeros : ∀ k, valD (List.replicate k 48) = 0
  | 0 => rfl
  | k + 1 => by
    rw [List.replicate_succ, show (48 : UInt8) :: List.replicate k 48 = [48] ++ List.replicate k 48 from rfl, valD_app, valD_zeros k]
    show (0 * 10 + ((48 : UInt8).toNat - 48)) * _ + 0 = 0
    rw [show (48 : UInt8).toNat - 48 = 0 from rfl]
    omega
theorem tr_app (s : List UInt8) : ∃ k, s = tr0 s ++ List.replicate k 48 := by
  have h := List.takeWhile_append_dropWhile (p := is0) (l := s.reverse)
  have h2 : s.reverse.takeWhile is0 = List.replicate (s.reverse.takeWhile is0).length 48 := List.eq_replicate_iff.2 ⟨rfl, fun c hc => by
    have h3 : is0 c = true := List.all_eq_true.1 List.all_takeWhile c hc
    exact eq_of_beq h3⟩
  refine ⟨(s.reverse.takeWhile is0).length, ?_⟩
  have h4 := congrArg List.reverse h
  rw [List.reverse_append, List.reverse_reverse, h2, List.reverse_replicate] at h4
  exact h4.symm
theorem tr_last {s : List UInt8} (h : tr0 s ≠ []) : ends0 (tr0 s) = false := by
  have h4 := List.head?_dropWhile_not is0 s.reverse
  unfold tr0 at h ⊢
  cases hc : s.reverse.dropWhile is0 with
  | nil => rw [hc] at h; exact absurd rfl h
  | cons c t =>
    rw [hc] at h4
    rw [List.reverse_cons, ends_snoc]
    exact h4
theorem lead_right {x : List UInt8} (h : Lead x) (h0 : x ≠ []) (hl : x.length ≤ 800) : rightS x = true := by
  have h1 : 1 ≤ x.length := List.length_pos_iff.2 h0
  have h2 : ¬ x.getD 0 0 = 48 := fun q => by
    have := h.2.resolve_left h0
    rw [q] at this
    exact absurd this (by decide)
  have h3 : x.all isD = true := List.all_eq_true.2 fun c hc => decide_eq_true (h.1 c hc)
  unfold rightS
  rw [decide_eq_true h1, decide_eq_true hl, decide_eq_false h2, h3]
  rfl
theorem lead_tl {x : List UInt8} (h : Lead x) : tl0 x = x := by
  unfold tl0
  cases x with
  | nil => rfl
  | cons c t =>
    have h3 : 49 ≤ c.toNat := h.2.resolve_left (by simp)
    rw [List.dropWhile_cons, if_neg]
    intro q
    have : c = 48 := eq_of_beq q
    rw [this] at h3
    exact absurd h3 (by decide)
theorem right_lead {D : List UInt8} (h : rightS D = true) (hv : valD D ≠ 0) : Lead D ∧ D ≠ [] := by
  obtain ⟨h1, h2, h3⟩ := right_head h
  have h4 := (right_all h).2
  cases D with
  | nil => exact absurd h1 (by decide)
  | cons c t =>
    refine ⟨⟨h4, .inr ?_⟩, by simp⟩
    have h5 := (h4 c (by simp)).1
    show 49 ≤ c.toNat
    rcases Nat.lt_or_ge 48 c.toNat with q | q
    · exact q
    · have hc : c = 48 := UInt8.toNat_inj.1 (show c.toNat = 48 by omega)
      have h6 := h3 (by show c = 48; exact hc)
      have ht : t = [] := List.length_eq_zero_iff.1 (by simp at h6; exact congrArg List.length h6)
      rw [hc, ht] at hv
      exact absurd (valD_zeros 1) hv
theorem tr_lead {D : List UInt8} (h : rightS D = true) (hv : valD D ≠ 0) : Lead (tr0 D) ∧ tr0 D ≠ [] ∧ ∃ k, D.length = (tr0 D).length + k ∧ valD D = valD (tr0 D) * 10 ^ k := by
  obtain ⟨hL, hD⟩ := right_lead h hv
  obtain ⟨k, hk⟩ := tr_app D
  have hval : valD D = valD (tr0 D) * 10 ^ k := by
    have := congrArg valD hk
    rw [valD_app, valD_zeros, List.length_replicate] at this
    exact this
  have hne : tr0 D ≠ [] := fun q => by
    rw [q] at hval
    exact hv (by rw [hval]; exact Nat.zero_mul _)
  refine ⟨⟨fun c hc => hL.1 c (by rw [hk]; exact List.mem_append_left _ hc), .inr ?_⟩, hne, k, ?_, hval⟩
  · have h2 := hL.2.resolve_left hD
    rw [hk] at h2
    cases ht : tr0 D with
    | nil => exact absurd ht hne
    | cons c t => rw [ht] at h2; exact h2
  · have := congrArg List.length hk
    rw [List.length_append, List.length_replicate] at this
    exact this
theorem valF_m0 {n : Nat} (h : exS 11 52 n ≠ 2047) : valF n = m0 n * 2 ^ (p0 n + 1074).toNat := by
  unfold valF m0 p0
  by_cases hx : exS 11 52 n = 0
  · rw [if_pos hx, if_pos hx, if_pos hx]
    rw [show (((1 : Nat) : Int) - 1075 + 1074).toNat = 0 from rfl, Nat.pow_zero, Nat.mul_one]
  · rw [if_neg hx, if_neg hx, if_neg hx, show (((exS 11 52 n : Nat) : Int) - 1075 + 1074).toNat = exS 11 52 n - 1 by omega]
theorem m0_low {n : Nat} (h : m0 n ≠ 0) : m0 n = mR n * 2 ^ lowN n := by
  have h1 := (tz_spec (m0 n) h).1
  have h2 : 2 ^ lowN n ∣ m0 n := by
    have h3 : 2 ^ lowN n ∣ 2 ^ tz (m0 n) := Nat.pow_dvd_pow 2 (Nat.min_le_left _ _)
    have h4 : 2 ^ tz (m0 n) ∣ m0 n := ⟨m0 n / 2 ^ tz (m0 n), by rw [Nat.mul_comm]; exact h1.symm⟩
    exact Nat.dvd_trans h3 h4
  exact (Nat.div_mul_cancel h2).symm
theorem dig_val {n : Nat} (hx : exS 11 52 n ≠ 2047) (h0 : m0 n ≠ 0) (K : Nat) (hK : K = 1074) : digN n * 10 ^ (expN n + K).toNat = valF n * 5 ^ K := by
  have hp := pR_in hx
  have hz := p0_in hx
  have hl : lowN n ≤ (-(p0 n)).toNat := Nat.min_le_right _ _
  have hpR : pR n = p0 n + lowN n := rfl
  have e1 : valF n = mR n * 2 ^ (pR n + K).toNat := by
    rw [valF_m0 hx]
    conv => lhs; rw [m0_low h0]
    rw [Nat.mul_assoc, ← Nat.pow_add]
    congr 2
    omega
  rw [e1]
  unfold digN expN
  by_cases q : pR n < 0
  · rw [if_pos q, if_pos q, show (10 : Nat) = 2 * 5 from rfl, Nat.mul_pow]
    generalize hj : (pR n + K).toNat = j
    rw [show K = (-(pR n)).toNat + j by omega, Nat.pow_add]
    simp only [Nat.mul_assoc, Nat.mul_left_comm, Nat.mul_comm]
  · rw [if_neg q, if_neg q, show (0 + (K : Int)).toNat = K by omega, show (10 : Nat) = 2 * 5 from rfl, Nat.mul_pow, show (pR n + K).toNat = (pR n).toNat + K by omega, Nat.pow_add]
    simp only [Nat.mul_assoc]
theorem exact_val {n : Nat} (hn : n < 2 ^ 63) (hx : exS 11 52 n ≠ 2047) (K : Nat) (hK : K = 1074) : ∃ ds e, exactV n = .tuple [.agg [.bool false, .str ds, .int .i64 e], .int .i64 0] ∧ rightN false ds e = true ∧ -(K : Int) ≤ e ∧ valD ds * 10 ^ (e + K).toNat = valF n * 5 ^ K ∧ (ds = [48] ∨ Lead ds) := by
  by_cases h0 : m0 n = 0
  · refine ⟨[48], 0, ?_, by decide, by omega, ?_, .inl rfl⟩
    · unfold exactV; rw [if_neg hx, if_pos h0]; rfl
    · rw [valF_m0 hx, h0, show valD [48] = 0 from rfl, Nat.zero_mul, Nat.zero_mul, Nat.zero_mul]
  have hv := dig_val hx h0 K hK
  have hneg : negS n = false := decide_eq_false (by unfold sgS; rw [Nat.div_eq_of_lt hn]; decide)
  have hr : rightS (decD (digN n)) = true := right_decD (dig_fit hx)
  have hd0 : valD (decD (digN n)) ≠ 0 := by
    rw [valD_dec]
    have := mR_ne h0
    unfold digN
    split
    · exact Nat.mul_ne_zero this (Nat.ne_of_gt (Nat.pow_pos (by decide)))
    · exact Nat.mul_ne_zero this (Nat.ne_of_gt (Nat.two_pow_pos _))
  obtain ⟨hL, hne, k, hlen, hval⟩ := tr_lead hr hd0
  have hfit := dig_fit hx
  have hp := pR_in hx
  have hE : -1074 ≤ expN n ∧ expN n ≤ 0 := by unfold expN; split <;> omega
  have hmade : madeE (decD (digN n)) (expN n) = expN n + k := by
    unfold madeE nearE
    rw [hlen]
    omega
  have hlast := tr_last hne
  have hright : rightN false (tr0 (decD (digN n))) (expN n + k) = true := by
    unfold rightN
    rw [lead_right hL hne (by omega), if_neg (fun q => by rw [q] at hlast; exact absurd hlast (by decide)), hlast, decide_eq_true (show -2000 ≤ expN n + k by omega), decide_eq_true (show expN n + k ≤ 2000 by omega)]
    rfl
  have hok : makeOk (decD (digN n)) = true := by
    obtain ⟨hL2, hD2⟩ := right_lead hr hd0
    unfold makeOk
    rw [decide_eq_false hD2, decide_eq_true (show (decD (digN n)).length ≤ 4096 by omega), show (decD (digN n)).all isD = true from List.all_eq_true.2 fun c hc => decide_eq_true (hL2.1 c hc)]
    rfl
  refine ⟨tr0 (decD (digN n)), expN n + k, ?_, hright, by omega, ?_, .inr hL⟩
  · unfold exactV
    rw [if_neg hx, if_neg h0, hneg]
    unfold makeV makeR numV
    rw [if_pos hok, if_neg hne, lead_tl hL, hmade, if_pos hright]
  · rw [← hv, show digN n = valD (tr0 (decD (digN n))) * 10 ^ k by rw [← hval, valD_dec], show (expN n + k + K).toNat = k + (expN n + K).toNat by omega, Nat.pow_add, Nat.mul_assoc]
    rw [valD_dec] at hval
    rw [← hval]
end Go.Proofs.YtojgnofagkekeaaDoor
namespace Go.Proofs.YtojgnofagkekeaaDoor
open Go.Proofs.YtojgnofagkekeaaDoor.VM Go.RowKit
set_option maxRecDepth 100000
set_option linter.unusedVariables false
set_option maxHeartbeats 8000000
theorem size_lead {ds : List UInt8} (k : Nat) (h : ds = [48] ∨ Lead ds) (h0 : ds ≠ []) : Lead (sizeX ds k) ∧ valD (sizeX ds k) = valD ds * 10 ^ k := by
  unfold sizeX
  by_cases q : ds = [48]
  · rw [if_pos q, q]
    refine ⟨⟨fun c hc => (List.not_mem_nil hc).elim, .inl rfl⟩, ?_⟩
    rw [show valD [48] = 0 from rfl, Nat.zero_mul]; rfl
  · rw [if_neg q]
    have hL := h.resolve_left q
    unfold zs
    refine ⟨⟨fun c hc => ?_, .inr ?_⟩, ?_⟩
    · rcases List.mem_append.1 hc with r | r
      · exact hL.1 c r
      · rw [List.eq_of_mem_replicate r]; decide
    · have h2 := hL.2.resolve_left h0
      cases ds with
      | nil => exact absurd rfl h0
      | cons c t => exact h2
    · rw [valD_app, valD_zeros, List.length_replicate, Nat.add_zero]
theorem order_val {da db : List UInt8} {ea eb : Int} {A B : Nat} (K P : Nat) (hP : 0 < P) (ha : da = [48] ∨ Lead da) (hb : db = [48] ∨ Lead db) (na : da ≠ []) (nb : db ≠ []) (la : -(K : Int) ≤ ea) (lb : -(K : Int) ≤ eb) (va : valD da * 10 ^ (ea + K).toNat = A * P) (vb : valD db * 10 ^ (eb + K).toNat = B * P) : (sizeV (sizeX da (ea - min ea eb).toNat) (sizeX db (eb - min ea eb).toNat) < 0 ↔ A < B) ∧ (sizeV (sizeX da (ea - min ea eb).toNat) (sizeX db (eb - min ea eb).toNat) = 0 ↔ A = B) := by
  obtain ⟨x1, x2⟩ := size_lead (ea - min ea eb).toNat ha na
  obtain ⟨y1, y2⟩ := size_lead (eb - min ea eb).toNat hb nb
  obtain ⟨s1, s2⟩ := size_val x1 y1
  rw [s1, s2, x2, y2]
  obtain ⟨low, hlow⟩ : ∃ l : Nat, (min ea eb + K).toNat = l := ⟨_, rfl⟩
  rw [show (ea + K).toNat = (ea - min ea eb).toNat + low by omega, Nat.pow_add, ← Nat.mul_assoc] at va
  rw [show (eb + K).toNat = (eb - min ea eb).toNat + low by omega, Nat.pow_add, ← Nat.mul_assoc] at vb
  have hl : 0 < 10 ^ low := Nat.pow_pos (by decide)
  generalize valD da * 10 ^ (ea - min ea eb).toNat = u at *
  generalize valD db * 10 ^ (eb - min ea eb).toNat = v at *
  refine ⟨?_, ?_⟩
  · rw [← Nat.mul_lt_mul_right hl, va, vb, Nat.mul_lt_mul_right hP]
  · rw [← Nat.mul_left_inj (Nat.ne_of_gt hl), va, vb, Nat.mul_left_inj (Nat.ne_of_gt hP)]
theorem exact_order {a b : Nat} (ha : a < 2 ^ 63) (hb : b < 2 ^ 63) (xa : exS 11 52 a ≠ 2047) (xb : exS 11 52 b ≠ 2047) : ∃ da db ea eb, exactV a = .tuple [.agg [.bool false, .str da, .int .i64 ea], .int .i64 0] ∧ exactV b = .tuple [.agg [.bool false, .str db, .int .i64 eb], .int .i64 0] ∧ rightN false da ea = true ∧ rightN false db eb = true ∧ (sizeV (sizeX da (ea - min ea eb).toNat) (sizeX db (eb - min ea eb).toNat) < 0 ↔ a < b) ∧ (sizeV (sizeX da (ea - min ea eb).toNat) (sizeX db (eb - min ea eb).toNat) = 0 ↔ a = b) := by
  obtain ⟨K, hK⟩ : ∃ K, K = 1074 := ⟨_, rfl⟩
  obtain ⟨da, ea, a1, a2, a3, a4, a5⟩ := exact_val ha xa K hK
  obtain ⟨db, eb, b1, b2, b3, b4, b5⟩ := exact_val hb xb K hK
  have na : da ≠ [] := fun q => by have := (right_head (right_in a2).1).1; rw [q] at this; exact absurd this (by decide)
  have nb : db ≠ [] := fun q => by have := (right_head (right_in b2).1).1; rw [q] at this; exact absurd this (by decide)
  obtain ⟨o1, o2⟩ := order_val K (5 ^ K) (Nat.pow_pos (by decide)) a5 b5 na nb a3 b3 a4 b4
  obtain ⟨v1, v2⟩ := val_iff ha hb
  exact ⟨da, db, ea, eb, a1, b1, a2, b2, o1.trans v1, o2.trans v2⟩
theorem exact_inf {n : Nat} (h : exS 11 52 n = 2047) : exactV n = .tuple [.agg [.bool false, .str [], .int .i64 0], .int .i64 12] := by
  unfold exactV; rw [if_pos h]; rfl
theorem low63 (n : Nat) (hn : n < 2 ^ 64) : IntKind.u64.wrap ((BitVec.ofInt IntKind.u64.bits (n : Int) &&& BitVec.ofInt IntKind.u64.bits 9223372036854775807).toNat : Int) = ((n % 2 ^ 63 : Nat) : Int) := by
  have h := and_u64 n (2 ^ 63 - 1) hn (by decide)
  rw [mask] at h
  exact h
end Go.Proofs.YtojgnofagkekeaaDoor
namespace Go.Proofs.YtojgnofagkekeaaDoor
open Go.Proofs.YtojgnofagkekeaaDoor.VM Go.RowKit
set_option maxRecDepth 100000
set_option linter.unusedVariables false
set_option maxHeartbeats 8000000
theorem t6 (a0 b0 : Nat) (ha0 : a0 < 2 ^ 64) (hb0 : b0 < 2 ^ 64) (S : St) : CallQ Tryd.prog (NC true) 6 [.int .u64 a0, .int .u64 b0] S fun r S1 => r = .bool true := by
  obtain ⟨a, ea⟩ : ∃ a, a0 % 2 ^ 63 = a := ⟨_, rfl⟩
  obtain ⟨b, eb⟩ : ∃ b, b0 % 2 ^ 63 = b := ⟨_, rfl⟩
  have ha : a < 2 ^ 63 := by omega
  have hb : b < 2 ^ 63 := by omega
  have la := low63 a0 ha0
  have lb := low63 b0 hb0
  rw [ea] at la
  rw [eb] at lb
  by_cases xa : exS 11 52 a = 2047
  · have he := exact_inf xa
    have hf : finS a = false := by unfold finS; rw [decide_eq_true xa]; rfl
    obtain ⟨b2, ds2, e2, k2v, he2⟩ := exact_made b
    refine CallQ.of rfl (by kernel_rfl : Tryd.prog.funcs[6]? = some Tryd.f6) rfl (by decide) ?_
    conv => whnf
    rw [la, lb]
    conv => whnf
    refine CallQ.mono (t14 a (by omega) S) ?_
    rintro r S1 ⟨k1, rfl⟩
    rw [he]
    conv => whnf
    refine ⟨_, _, cells_new _ _, store_agg rfl rfl rfl, ?_⟩
    conv => whnf
    generalize hT : (S1.new _).set _ _ = T
    have cT : T.cells S1.next = some [.bool false, .str [], .int .i64 0] := by rw [← hT, cells_set]
    have nT : S1.next < T.next := by rw [← hT]; exact Nat.lt_succ_self _
    clear hT
    generalize S1.next = p at *
    refine CallQ.mono (t14 b (by omega) T) ?_
    rintro r S2 ⟨k2, rfl⟩
    rw [he2]
    have c2 := (kcells k2 nT).trans cT
    have n2 := k2.next
    conv => whnf
    refine ⟨_, _, cells_new _ _, store_agg rfl rfl rfl, ?_⟩
    conv => whnf
    generalize hU : (S2.new _).set _ _ = U
    clear hU
    generalize S2.next = q at *
    refine brNe (fun _ => ?_) (fun q => absurd q (by decide))
    conv => whnf
    refine CallQ.mono (t15 true a (by omega) U) ?_
    rintro r S3 ⟨_, rfl⟩
    rw [hf]
    conv => whnf
    refine CallQ.mono (t11 _) ?_
    rintro r S7 ⟨_, rfl⟩
    conv => whnf
    rfl
  by_cases xb : exS 11 52 b = 2047
  · have he2 := exact_inf xb
    have hf2 : finS b = false := by unfold finS; rw [decide_eq_true xb]; rfl
    have hf : finS a = true := by unfold finS; rw [decide_eq_false xa]; rfl
    obtain ⟨ds, e, he, _⟩ := exact_val ha xa 1074 rfl
    refine CallQ.of rfl (by kernel_rfl : Tryd.prog.funcs[6]? = some Tryd.f6) rfl (by decide) ?_
    conv => whnf
    rw [la, lb]
    conv => whnf
    refine CallQ.mono (t14 a (by omega) S) ?_
    rintro r S1 ⟨k1, rfl⟩
    rw [he]
    conv => whnf
    refine ⟨_, _, cells_new _ _, store_agg rfl rfl rfl, ?_⟩
    conv => whnf
    generalize hT : (S1.new _).set _ _ = T
    have cT : T.cells S1.next = some [.bool false, .str ds, .int .i64 e] := by rw [← hT, cells_set]
    have nT : S1.next < T.next := by rw [← hT]; exact Nat.lt_succ_self _
    clear hT
    generalize S1.next = p at *
    refine CallQ.mono (t14 b (by omega) T) ?_
    rintro r S2 ⟨k2, rfl⟩
    rw [he2]
    have c2 := (kcells k2 nT).trans cT
    have n2 := k2.next
    conv => whnf
    refine ⟨_, _, cells_new _ _, store_agg rfl rfl rfl, ?_⟩
    conv => whnf
    generalize hU : (S2.new _).set _ _ = U
    clear hU
    generalize S2.next = q at *
    refine brNe (fun q => absurd rfl q) (fun _ => ?_)
    conv => whnf
    refine brNe (fun _ => ?_) (fun q => absurd q (by decide))
    conv => whnf
    refine CallQ.mono (t15 true a (by omega) U) ?_
    rintro r S3 ⟨_, rfl⟩
    rw [hf]
    conv => whnf
    refine CallQ.mono (t15 true b (by omega) S3) ?_
    rintro r S4 ⟨_, rfl⟩
    rw [hf2]
    conv => whnf
    refine CallQ.mono (t11 _) ?_
    rintro r S7 ⟨_, rfl⟩
    conv => whnf
    rfl
  obtain ⟨da, db, xe, ye, he, he2, hr, hr2, o1, o2⟩ := exact_order ha hb xa xb
  refine CallQ.of rfl (by kernel_rfl : Tryd.prog.funcs[6]? = some Tryd.f6) rfl (by decide) ?_
  conv => whnf
  rw [la, lb]
  conv => whnf
  refine CallQ.mono (t14 a (by omega) S) ?_
  rintro r S1 ⟨k1, rfl⟩
  rw [he]
  conv => whnf
  refine ⟨_, _, cells_new _ _, store_agg rfl rfl rfl, ?_⟩
  conv => whnf
  generalize hT : (S1.new _).set _ _ = T
  have cT : T.cells S1.next = some [.bool false, .str da, .int .i64 xe] := by rw [← hT, cells_set]
  have nT : S1.next < T.next := by rw [← hT]; exact Nat.lt_succ_self _
  clear hT
  generalize S1.next = p at *
  refine CallQ.mono (t14 b (by omega) T) ?_
  rintro r S2 ⟨k2, rfl⟩
  rw [he2]
  have c2 := (kcells k2 nT).trans cT
  have n2 := k2.next
  conv => whnf
  refine ⟨_, _, cells_new _ _, store_agg rfl rfl rfl, ?_⟩
  conv => whnf
  generalize hU : (S2.new _).set _ _ = U
  have cU1 : U.cells S2.next = some [.bool false, .str db, .int .i64 ye] := by rw [← hU, cells_set]
  have cU2 : U.cells p = some [.bool false, .str da, .int .i64 xe] := by rw [← hU]; exact cells_set_ne (cells_new_ne c2 (by omega)) (by omega)
  clear hU
  generalize S2.next = q at *
  refine brNe (fun q => absurd rfl q) (fun _ => ?_)
  conv => whnf
  refine brNe (fun q => absurd rfl q) (fun _ => ?_)
  conv => whnf
  refine ⟨_, cU2, ?_⟩
  conv => whnf
  refine ⟨_, cU1, ?_⟩
  refine CallQ.mono (t16 true da db xe ye hr hr2 U) ?_
  rintro r S3 ⟨_, rfl⟩
  generalize sizeV _ _ = z at *
  conv => whnf
  refine brEq (fun _ => ?_) (fun q => absurd rfl q)
  conv => whnf
  rintro c1 hc1
  rintro c2 hc2
  conv => whnf
  rintro c3 hc3
  obtain rfl : c3 = true := by
    rw [hc3, hc1, hc2]
    by_cases q : a < b
    · rw [decide_eq_true (o1.2 q), decide_eq_true (Int.ofNat_lt.2 q)]; rfl
    · rw [decide_eq_false (fun r => q (o1.1 r)), decide_eq_false (fun r => q (Int.ofNat_lt.1 r))]; rfl
  conv => whnf
  rintro c4 hc4
  rintro c5 hc5
  conv => whnf
  rintro c6 hc6
  obtain rfl : c6 = true := by
    rw [hc6, hc4, hc5]
    by_cases q : a = b
    · rw [show (z == 0) = true from beq_iff_eq.2 (o2.2 q), show ((a : Int) == (b : Int)) = true from beq_iff_eq.2 (congrArg Int.ofNat q)]; rfl
    · rw [show (z == 0) = false from beq_eq_false_iff_ne.2 (fun r => q (o2.1 r)), show ((a : Int) == (b : Int)) = false from beq_eq_false_iff_ne.2 (fun r => q (Int.ofNat.inj r))]; rfl
  conv => whnf
  refine CallQ.mono (t11 _) ?_
  rintro r S7 ⟨_, rfl⟩
  conv => whnf
  rfl
end Go.Proofs.YtojgnofagkekeaaDoor
