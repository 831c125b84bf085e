import Derived.Test.YtojgnofagkekeaaDoorVMFN31
namespace Go.Proofs.YtojgnofagkekeaaDoor
open Go.Proofs.YtojgnofagkekeaaDoor.VM Go.RowKit
set_option maxRecDepth 100000
set_option linter.unusedVariables false
set_option maxHeartbeats 4000000
theorem HdB.append0 {P : Program} {C : Cfg} {f : FuncId} {t e : TypeId} {by_ : Nat} {z : AV} (hE : Elem P t e 1 by_ false z) {S : St} {n l : Nat} {y : AV} (hy : elemsA S false 1 y = some []) : builtinA P C f .append #[t, t] [.hnd n 0 l 1, y] S = some (.ret (.hnd n 0 l 1), S) := by
  have helem : elemA P t = some e := by simp [elemA, hE.und]
  simp only [builtinA, appendA, helem, hE.size, hE.agg, hE.bytes, hE.zero, hE.und, Option.bind_some, appendB, hy]
  rw [if_pos ⟨by omega, hE.zlen, rfl⟩]
  rfl
/-- One ahead of a list. -/
theorem HdB.cons {P : Program} {C : Cfg} {f : FuncId} {t e : TypeId} {by_ : Nat} {z : AV} (hE : Elem P t e 1 by_ false z) (hh : C.hnd f = true) {S0 S : St} {v : AV} {xs : List AV} {k : IntKind} {i : Int} (hk : Keep S0 S) (hv : HdB S0.next S v xs)
    (hs : (1 + xs.length) * by_ ≤ 140737488355328 ∧ 1 + xs.length ≤ 140737488355328) :
    ∃ n S2, builtinA P C f .append #[t, t] [.hnd S.next 0 1 1, v] (S.new (.cells [.int k i])) = some (.ret (.hnd n 0 (xs.length + 1) 1), S2) ∧ S0.next ≤ n ∧ n < S2.next ∧ S2.mem n = some (.cells (.int k i :: xs)) ∧ Keep S0 S2 := by
  have hk2 := hk.new (.cells [.int k i])
  have hn := hk.next
  obtain ⟨hnum, ⟨rfl, rfl⟩ | ⟨n, rest, p1, p2, rfl, p4, p5⟩⟩ := hv
  · exact ⟨S.next, _, HdB.append0 hE rfl, hn, by show S.next < S.next + 1; omega, mem_new _ _, hk2⟩
  · have hel : elemsA (S.new (.cells [.int k i])) false 1 (.hnd n 0 xs.length 1) = some xs := elems_nums (rest := rest) (cells_of_mem (mem_new_ne p4 (by omega))) (hnum.append p5)
    by_cases hne : xs = []
    · subst hne
      exact ⟨S.next, _, HdB.append0 hE hel, hn, by show S.next < S.next + 1; omega, mem_new _ _, hk2⟩
    · have h1 : HdB S0.next (S.new (.cells [.int k i])) (.hnd S.next 0 1 1) [AV.int k i] := ⟨nums_one k i, .inr ⟨S.next, [], hn, by show S.next < S.next + 1; omega, rfl, mem_new _ _, .nil⟩⟩
      obtain ⟨S2, a1, a2, a3, a4, a5⟩ := HdB.append (C := C) (f := f) hE hh h1 (by show S0.next ≤ S.next + 1; omega) hel hnum hne (by simpa using hs)
      have hl : ([AV.int k i] ++ xs).length = xs.length + 1 := by simp
      rw [hl] at a1
      refine ⟨_, S2, a1, by show S0.next ≤ S.next + 1; omega, by rw [a3]; exact Nat.lt_succ_self _, a4, ⟨by rw [a3]; show S0.next ≤ S.next + 1 + 1; omega, fun j hj => ?_⟩⟩
      rw [a5 j (by show j < S.next + 1; omega) (fun l q => by have := (AV.hnd.inj q).1; omega)]
      exact hk2.mem j hj
end Go.Proofs.YtojgnofagkekeaaDoor
namespace Go.Proofs.YtojgnofagkekeaaDoor
open Go.Proofs.YtojgnofagkekeaaDoor.VM Go.RowKit
set_option maxRecDepth 100000
set_option linter.unusedVariables false
set_option maxHeartbeats 4000000
theorem shortS_fit {m : Nat} (h : (decD m).length ≤ 800) : shortS m = decD m ∧ shortE m = 0 := by
  unfold shortS shortE
  rw [if_pos h, if_pos h]; exact ⟨rfl, rfl⟩
theorem shortS_not {m : Nat} (h : ¬ (decD m).length ≤ 800) : shortS m = [] ∧ shortE m = 11 := by
  unfold shortS shortE
  rw [if_neg h, if_neg h]; exact ⟨rfl, rfl⟩
theorem dec_len_mono {m n : Nat} (h : m ≤ n) : (decD m).length ≤ (decD n).length := by
  rcases Nat.lt_or_ge (decD n).length (decD m).length with q | q
  · rcases dec_long.1 q with ⟨_, r⟩ | r
    · have := dec_len_ge n; omega
    · have := List.length_pos_iff.2 (dec_head n).1; omega
  · exact q
/-! ### whole numbers below zero too -/
def ni (xs : List Int) : List AV := xs.map (AV.int .i64)
theorem ni_len (xs : List Int) : (ni xs).length = xs.length := by simp [ni]
theorem nn_ni (xs : List Nat) : nn .i64 xs = ni (xs.map fun (n : Nat) => (n : Int)) := by simp [nn, ni]
theorem ld_ni {S : St} {n i : Nat} {xs : List Int} {rest : List AV} {off : Nat} {K : AV → Prop} (hm : S.mem n = some (.cells (ni xs ++ rest))) (hi : i < xs.length) (ho : off = i) (h : K (.int .i64 xs[i])) :
    ∃ cs, S.cells n = some cs ∧ partF false (partA false 1 cs off) K := by
  subst ho
  refine ⟨_, cells_of_mem hm, ?_⟩
  show partF false ((ni xs ++ rest)[off]?) K
  rw [List.getElem?_append_left (by rw [ni_len]; exact hi)]
  rw [show (ni xs)[off]? = some (.int .i64 xs[off]) by simp [ni, hi]]
  exact h
theorem st_ni {S : St} {n i : Nat} {xs : List Int} {rest : List AV} {off : Nat} {x : Int} {K : List AV → Prop} (v : Int) (hm : S.mem n = some (.cells (ni xs ++ rest))) (hi : i < xs.length) (ho : off = i) (hx : x = v) (h : K (ni (xs.set i v) ++ rest)) :
    ∃ cs cs', S.cells n = some cs ∧ (if (AV.int .i64 x).cells.length = 1 ∧ (AV.int .i64 x).cells.all AV.leafOk = true ∧ off + 1 ≤ cs.length then some (setsA cs off (AV.int .i64 x).cells) else none) = some cs' ∧ K cs' := by
  subst ho hx
  refine ⟨_, _, cells_of_mem hm, if_pos ⟨rfl, rfl, by simp [ni_len]; omega⟩, ?_⟩
  show K ((ni xs ++ rest).set off (.int .i64 x))
  rw [List.set_append_left _ _ (by rw [ni_len]; exact hi), show (ni xs).set off (.int .i64 x) = ni (xs.set off x) by simp [ni, List.map_set]]
  exact h
def valZ : List Int → Int
  | [] => 0
  | x :: xs => x + 10 * valZ xs
theorem valZ_nat : ∀ xs : List Nat, valZ (xs.map fun (n : Nat) => (n : Int)) = (valB 10 xs : Nat)
  | [] => rfl
  | x :: xs => by rw [List.map_cons, valZ, valZ_nat xs, valB]; omega
theorem valZ_append : ∀ xs ys : List Int, valZ (xs ++ ys) = valZ xs + 10 ^ xs.length * valZ ys
  | [], ys => by simp [valZ]
  | x :: xs, ys => by
    rw [List.cons_append, valZ, valZ, valZ_append xs ys, List.length_cons, Int.pow_succ, Int.mul_add, Int.mul_comm (10 ^ xs.length) 10, Int.mul_assoc]
    omega
theorem valZ_set : ∀ (zs : List Int) (p : Nat) (v : Int) (h : p < zs.length), valZ (zs.set p v) = valZ zs + 10 ^ p * (v - zs[p])
  | z :: zs, 0, v, h => by simp [valZ]; omega
  | z :: zs, p + 1, v, h => by
    rw [List.set_cons_succ, valZ, valZ, valZ_set zs p v (by simpa using h), Int.mul_add, Int.pow_succ, Int.mul_comm (10 ^ p) 10, Int.mul_assoc, List.getElem_cons_succ]
    omega
theorem ni_int (xs : List Int) : Nums (ni xs) := fun x hx => by obtain ⟨n, _, rfl⟩ := List.mem_map.1 hx; exact ⟨_, _, rfl⟩
end Go.Proofs.YtojgnofagkekeaaDoor
namespace Go.Proofs.YtojgnofagkekeaaDoor
open Go.Proofs.YtojgnofagkekeaaDoor.VM Go.RowKit
set_option maxRecDepth 100000
set_option linter.unusedVariables false
set_option maxHeartbeats 4000000
theorem dec256 : ([50, 53, 54] : List UInt8) = decD 256 := by decide +kernel
theorem valD256 : valD [50, 53, 54] = 256 := by decide +kernel
theorem pow256 : (256 : Nat) ^ 400 ≤ 10 ^ 964 := by decide +kernel
theorem valY_len {bs : List UInt8} (h : bs.length ≤ 400) : (decD (valY bs)).length ≤ 965 :=
  dec_len_of (Nat.lt_of_lt_of_le (valY_lt bs) (Nat.le_trans (Nat.pow_le_pow_right (by decide) h) pow256))
theorem pow_half (q n : Nat) : q ^ n = (if n % 2 = 1 then q else 1) * (q * q) ^ (n / 2) := by
  have h : n = 2 * (n / 2) + n % 2 := by omega
  conv => lhs; rw [h]
  rw [Nat.pow_add, Nat.pow_mul, Nat.pow_two]
  split
  · rename_i e; rw [e, Nat.pow_one, Nat.mul_comm]
  · rename_i e; rw [show n % 2 = 0 by omega, Nat.pow_zero, Nat.mul_one, Nat.one_mul]
theorem t41 (h : Bool) (y n : Int) (S : St) : CallQ Tryd.prog (NC h) 41 [.int .i64 y, .int .i64 n] S fun r S1 => Keep S S1 ∧ r = .tuple [.str (arS (powOk y n) (y.toNat ^ n.toNat)), .int .i64 (arE (powOk y n) (y.toNat ^ n.toNat))] := by
  refine CallQ.of rfl (by kernel_rfl : Tryd.prog.funcs[41]? = some Tryd.f41) rfl (by decide) ?_
  conv => whnf
  refine br (fun h1 => ?_) (fun h1 => ?_)
  · conv => whnf
    exact ⟨.refl _, by unfold powOk; rw [decide_eq_false (by omega)]; rfl⟩
  conv => whnf
  refine br (fun h2 => ?_) (fun h2 => ?_)
  · conv => whnf
    exact ⟨.refl _, by unfold powOk; rw [decide_eq_false (by omega)]; rfl⟩
  conv => whnf
  refine br (fun h3 => ?_) (fun h3 => ?_)
  · conv => whnf
    exact ⟨.refl _, by unfold powOk; rw [decide_eq_false (by omega)]; rfl⟩
  conv => whnf
  refine br (fun h4 => ?_) (fun h4 => ?_)
  · conv => whnf
    exact ⟨.refl _, by unfold powOk; rw [decide_eq_false (by omega)]; rfl⟩
  have hok : powOk y n = true := decide_eq_true ⟨by omega, by omega, by omega, by omega⟩
  rw [hok]
  obtain ⟨y, rfl⟩ : ∃ z : Nat, y = z := ⟨y.toNat, by omega⟩
  obtain ⟨n, rfl⟩ : ∃ z : Nat, n = z := ⟨n.toNat, by omega⟩
  rw [Int.toNat_natCast, Int.toNat_natCast]
  conv => whnf
  rw [wrap_u64 (by omega) (by omega)]
  refine CallQ.mono (t40 h y (by omega) S) ?_
  rintro r S0 ⟨rfl, rfl⟩
  have hone : ([49] : List UInt8) = decD 1 := by decide +kernel
  have hfin : arS true (y ^ n) = shortS (y ^ n) ∧ arE true (y ^ n) = shortE (y ^ n) := ⟨rfl, rfl⟩
  rw [hfin.1, hfin.2]
  generalize hT : y ^ n = T at *
  have hyl : (decD y).length ≤ 10 := dec_len 9 y (by omega)
  conv => whnf
  refine CodeQ.loop (fun (q : Nat × Nat × Nat) => pat 47 [(1, .int .i64 q.1), (6, .str (decD q.2.1)), (7, .str (decD q.2.2))])
    (fun m q S1 => m = q.1 ∧ q.1 ≤ 4000 ∧ Keep S0 S1 ∧ (decD q.2.1).length ≤ 800 ∧ (decD q.2.2).length ≤ 2000 ∧ q.2.1 * q.2.2 ^ q.1 = T ∧ (q.2.2 = 0 ∨ 1 ≤ q.2.1 ∧ 1 ≤ q.2.2))
    ?_ n (n, 1, y) _ _ ⟨rfl, by omega, .refl _, by rw [← hone]; decide, by show (decD y).length ≤ 2000; omega, by rw [← hT]; simp, by show y = 0 ∨ 1 ≤ 1 ∧ 1 ≤ y; omega⟩ ⟨rfl, by rw [← hone], rfl, trivial⟩
  rintro m ⟨nn_, s, q⟩ S1 d ⟨hm, hn, k1, hs, hql, hv, hpos⟩
  dsimp only at *
  conv => whnf
  refine br (fun h5 => ?_) (fun h5 => ?_)
  rotate_left
  · obtain rfl : nn_ = 0 := by omega
    obtain rfl : s = T := by simpa using hv
    rw [(shortS_fit hs).1, (shortS_fit hs).2]
    conv => whnf
    exact ⟨k1, rfl⟩
  have h5 : 0 < nn_ := by omega
  have q1 : 1 ≤ (decD q).length := List.length_pos_iff.2 (dec_head q).1
  have s1 : 1 ≤ (decD s).length := List.length_pos_iff.2 (dec_head s).1
  have big : ∀ v, v ≤ T → ¬ (decD v).length ≤ 800 → shortS T = [] ∧ shortE T = 11 := fun v h1 h2 => shortS_not (fun h3 => h2 (Nat.le_trans (dec_len_mono h1) h3))
  conv => whnf
  refine br (fun h6 => ?_) (fun h6 => ?_)
  · have hq0 : ¬ q = 0 := fun e => by subst e; rw [show (decD 0).length = 1 by decide +kernel] at h6; omega
    have hle : q ≤ T := by
      obtain ⟨c1, c2⟩ := hpos.resolve_left hq0
      rw [← hv]
      calc q = 1 * q ^ 1 := by simp
        _ ≤ s * q ^ nn_ := Nat.mul_le_mul c1 (Nat.pow_le_pow_right c2 h5)
    obtain ⟨b1, b2⟩ := big q hle (by omega)
    rw [b1, b2]
    conv => whnf
    exact ⟨k1, rfl⟩
  have hql8 : (decD q).length ≤ 800 := by omega
  have hqq : (decD (q * q)).length ≤ 1700 := by
    have := dec_mul_len (dec_dig q) (dec_dig q)
    rw [valD_dec] at this
    omega
  have hsq : (decD (s * q)).length ≤ 1700 := by
    have := dec_mul_len (dec_dig s) (dec_dig q)
    rw [valD_dec, valD_dec] at this
    omega
  have hph := pow_half q nn_
  have w2 : ((nn_ : Nat) : Int).tmod 2 = ((nn_ % 2 : Nat) : Int) := by
    rw [Int.tmod_eq_emod_of_nonneg (by omega)]; omega
  have w3 : IntKind.i64.wrap (((nn_ : Nat) : Int).tdiv 2) = ((nn_ / 2 : Nat) : Int) := by
    rw [Int.tdiv_eq_ediv_of_nonneg (by omega), wrap_i64 (by omega) (by omega)]; omega
  conv => whnf
  refine ⟨by decide, ?_⟩
  rw [w2]
  conv => whnf
  refine brEq (fun h7 => ?_) (fun h7 => ?_)
  · rw [if_pos (by omega)] at hph
    have hv2 : s * q * (q * q) ^ (nn_ / 2) = T := by rw [← hv, hph, Nat.mul_assoc]
    have hp2 : q = 0 ∨ 1 ≤ s * q ∧ 1 ≤ q := by
      rcases hpos with e | ⟨c1, c2⟩
      · exact .inl e
      · exact .inr ⟨Nat.mul_pos c1 c2, c2⟩
    conv => whnf
    refine CallQ.mono (t56 h (decD s) (decD q) s1 (by omega) (dec_dig _) q1 (by omega) (dec_dig _) S1) ?_
    rintro r S2 ⟨k2, rfl⟩
    rw [valD_dec, valD_dec]
    conv => whnf
    refine br (fun h8 => ?_) (fun h8 => ?_)
    · have hle : s * q ≤ T := by
        rcases hp2 with e | ⟨c1, c2⟩
        · rw [e] at h8
          rw [Nat.mul_zero, show (decD 0).length = 1 by decide +kernel] at h8
          omega
        · rw [← hv2]
          calc s * q = s * q * 1 := (Nat.mul_one _).symm
            _ ≤ s * q * (q * q) ^ (nn_ / 2) := Nat.mul_le_mul_left _ (Nat.one_le_pow _ _ (Nat.mul_pos c2 c2))
      obtain ⟨b1, b2⟩ := big _ hle (by omega)
      rw [b1, b2]
      conv => whnf
      exact ⟨k1.trans k2, rfl⟩
    have k12 := k1.trans k2
    generalize s * q = s' at *
    conv => whnf
    refine ⟨by decide, ?_⟩
    rw [w3]
    conv => whnf
    refine br (fun h9 => ?_) (fun h9 => ?_)
    · conv => whnf
      refine CallQ.mono (t56 h (decD q) (decD q) q1 (by omega) (dec_dig _) q1 (by omega) (dec_dig _) S2) ?_
      rintro r S3 ⟨k3, rfl⟩
      rw [valD_dec]
      conv => whnf
      refine ⟨nn_ / 2, (nn_ / 2, s', q * q), by omega, ⟨rfl, by show nn_ / 2 ≤ _; omega, k12.trans k3, by show (decD s').length ≤ 800; omega, by show (decD (q * q)).length ≤ 2000; omega, hv2, ?_⟩, ⟨rfl, rfl, rfl, trivial⟩⟩
      rcases hp2 with e | ⟨c1, c2⟩
      · exact .inl (by rw [e])
      · exact .inr ⟨c1, Nat.mul_pos c2 c2⟩
    · have h0 : nn_ / 2 = 0 := by omega
      rw [h0, Nat.pow_zero, Nat.mul_one] at hv2
      conv => whnf
      refine ⟨nn_ / 2, (nn_ / 2, s', q), by omega, ⟨rfl, by show nn_ / 2 ≤ _; omega, k12, by show (decD s').length ≤ 800; omega, by show (decD q).length ≤ 2000; omega, by show s' * q ^ (nn_ / 2) = T; rw [h0, hv2]; simp, hp2⟩, ⟨rfl, rfl, rfl, trivial⟩⟩
  · rw [if_neg (by omega), Nat.one_mul] at hph
    have hv2 : s * (q * q) ^ (nn_ / 2) = T := by rw [← hv, hph]
    have hp2 := hpos
    have h8 : ¬ ((decD s).length : Int) > 800 := by omega
    conv => whnf
    refine br (fun q => absurd q h8) (fun _ => ?_)
    have k12 := k1
    conv => whnf
    refine ⟨by decide, ?_⟩
    rw [w3]
    conv => whnf
    refine br (fun h9 => ?_) (fun h9 => ?_)
    · conv => whnf
      refine CallQ.mono (t56 h (decD q) (decD q) q1 (by omega) (dec_dig _) q1 (by omega) (dec_dig _) S1) ?_
      rintro r S3 ⟨k3, rfl⟩
      rw [valD_dec]
      conv => whnf
      refine ⟨nn_ / 2, (nn_ / 2, s, q * q), by omega, ⟨rfl, by show nn_ / 2 ≤ _; omega, k12.trans k3, by show (decD s).length ≤ 800; omega, by show (decD (q * q)).length ≤ 2000; omega, hv2, ?_⟩, ⟨rfl, rfl, rfl, trivial⟩⟩
      rcases hp2 with e | ⟨c1, c2⟩
      · exact .inl (by rw [e])
      · exact .inr ⟨c1, Nat.mul_pos c2 c2⟩
    · have h0 : nn_ / 2 = 0 := by omega
      rw [h0, Nat.pow_zero, Nat.mul_one] at hv2
      conv => whnf
      refine ⟨nn_ / 2, (nn_ / 2, s, q), by omega, ⟨rfl, by show nn_ / 2 ≤ _; omega, k12, by show (decD s).length ≤ 800; omega, by show (decD q).length ≤ 2000; omega, by show s * q ^ (nn_ / 2) = T; rw [h0, hv2]; simp, hp2⟩, ⟨rfl, rfl, rfl, trivial⟩⟩
end Go.Proofs.YtojgnofagkekeaaDoor
