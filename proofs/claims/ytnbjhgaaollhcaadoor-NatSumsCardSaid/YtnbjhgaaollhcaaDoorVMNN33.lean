import Derived.Test.YtnbjhgaaollhcaaDoorVMNN31
namespace Go.Proofs.YtnbjhgaaollhcaaDoor
open Go.Proofs.YtnbjhgaaollhcaaDoor.VM Go.RowKit
set_option maxRecDepth 100000
set_option linter.unusedVariables false
set_option maxHeartbeats 4000000
theorem t30 (h : Bool) (a b : List UInt8) (S : St) : CallQ Tryd.prog (NC h) 30 [.str a, .str b] S fun r S1 => Keep S S1 ∧ r = .tuple [.str (arS (rightS a && rightS b) (valD a + valD b)), .int .i64 (arE (rightS a && rightS b) (valD a + valD b))] := by
  refine CallQ.of rfl (by kernel_rfl : Tryd.prog.funcs[30]? = some Tryd.f30) rfl (by decide) ?_
  conv => whnf
  refine CallQ.mono (t34 h a S) ?_
  rintro r S1 ⟨rfl, rfl⟩
  cases hra : rightS a
  · conv => whnf
    exact ⟨.refl _, rfl⟩
  conv => whnf
  refine CallQ.mono (t34 h b S1) ?_
  rintro r S2 ⟨rfl, rfl⟩
  cases hrb : rightS b
  · conv => whnf
    exact ⟨.refl _, rfl⟩
  obtain ⟨a1, a2, _⟩ := right_head hra
  obtain ⟨b1, b2, _⟩ := right_head hrb
  have lA := valD_lt (right_all hra).2
  have lB := valD_lt (right_all hrb).2
  have hsl : (decD (valD a + valD b)).length ≤ 2 ^ 40 := by
    refine Nat.le_trans (dec_len_of (k := a.length + b.length + 1) ?_) (by omega)
    have h1 : 10 ^ a.length ≤ 10 ^ (a.length + b.length) := Nat.pow_le_pow_right (by decide) (by omega)
    have h2 : 10 ^ b.length ≤ 10 ^ (a.length + b.length) := Nat.pow_le_pow_right (by decide) (by omega)
    rw [Nat.pow_succ]
    omega
  clear lA lB
  conv => whnf
  refine CallQ.mono (dig_right h a hra S2) ?_
  rintro r S3 ⟨k3, n1, rfl, r1⟩
  conv => whnf
  refine CallQ.mono (dig_right h b hrb S3) ?_
  rintro r S4 ⟨k4, n2, rfl, r2⟩
  have r1 := r1.keep k4
  have k24 := k3.trans k4
  have vA := valB_digL a
  have vB := valB_digL b
  have dA := digL_lt (right_all hra).2
  have dB' := digL_lt (right_all hrb).2
  rw [← digL_len a, ← digL_len b] at *
  rw [← vA, ← vB] at hsl ⊢
  generalize digL a = xs at *
  generalize digL b = ys at *
  obtain ⟨rx, p1, p2, p3, p4⟩ := r1
  obtain ⟨ry, q1, q2, q3, q4⟩ := r2
  clear vA vB
  have kn := k24.next
  generalize hL : max xs.length ys.length = L
  have hL1 : xs.length ≤ L ∧ ys.length ≤ L ∧ L ≤ 800 := by omega
  have hmx : (if (ys.length : Int) > (xs.length : Int) then (ys.length : Int) else (xs.length : Int)) = (L : Int) := by split <;> omega
  conv => whnf
  refine ⟨_, _, make_nn elI _ _ L hmx ⟨by omega, by omega⟩, ?_⟩
  conv => whnf
  refine CodeQ.loop (fun (i : Nat) => pat 66 [(6, .hnd n1 0 xs.length 1), (7, .hnd n2 0 ys.length 1), (8, .hnd S4.next 0 L 1), (9, .int .i64 i)])
    (fun m i S5 => m = xs.length - i ∧ i ≤ xs.length ∧ S4.next < S5.next ∧ Keep S4 S5 ∧ ∃ zs : List Nat, zs.length = L ∧ S5.mem S4.next = some (.cells (nn .i64 zs ++ [])) ∧ (∀ z ∈ zs, z ≤ 9) ∧ (∀ j, i ≤ j → zs.getD j 0 = 0) ∧ valB 10 zs = valB 10 (xs.take i))
    ?_ _ 0 _ _ ⟨rfl, Nat.zero_le _, by show S4.next < S4.next + 1; omega, (Keep.refl S4).new _, List.replicate L 0, by simp, mem_new _ _, fun z q => by rw [(List.mem_replicate.1 q).2]; exact Nat.zero_le _, fun j _ => by simp [List.getD, List.getElem?_replicate]; split <;> rfl, by rw [valB_rep]; simp [valB]⟩ ⟨rfl, rfl, rfl, rfl, trivial⟩
  rintro m i S5 d ⟨hm, hi, hn, k5, zs, z1, z2, z3, z4, z5⟩
  dsimp only at *
  conv => whnf
  refine br (fun h5 => ?_) (fun h5 => ?_)
  · have h5 : i < xs.length := by omega
    have hlt : i < zs.length := by omega
    have hxi := dA xs[i] (List.getElem_mem h5)
    have hz0 : zs[i] = 0 := by rw [getD_get hlt]; exact z4 i (Nat.le_refl _)
    have hst := set_add (b := 10) (v := xs[i]) hlt
    rw [z5, ← valB_take_succ 10 xs i h5] at hst
    have mx : S5.mem n1 = some (.cells (nn .i64 xs ++ rx)) := (k5.mem n1 p4).trans p1
    conv => whnf
    refine ⟨[0, 1, 2, 3, 4, 5, 6, 7, 8, 9, 10], [], by kernel_rfl, by kernel_rfl, by kernel_rfl, ?_⟩
    conv => whnf
    refine ⟨by omega, by omega, ?_⟩
    conv => whnf
    refine ld_nn z2 hlt (off_nat i) ?_
    conv => whnf
    refine ⟨by omega, by omega, ?_⟩
    conv => whnf
    refine ld_nn mx h5 (off_nat i) ?_
    conv => whnf
    refine ⟨by omega, by omega, ?_⟩
    conv => whnf
    refine st_nn (zs[i] + xs[i]) z2 hlt (off_nat i) (by rw [wrap_i64 (by omega) (by omega)]; omega) ?_
    conv => whnf
    refine ⟨xs.length - (i + 1), i + 1, by omega, ⟨rfl, h5, hn, k5.set _ _ (Nat.le_refl _), zs.set i (zs[i] + xs[i]), by simp [z1], mem_set _ _ _, mem_set_le z3 (by omega), fun j hj => by rw [getD_set_ne (by omega)]; exact z4 j (by omega), hst⟩, ⟨rfl, rfl, rfl, by rw [wrap_i64 (by omega) (by omega)]; rfl, trivial⟩⟩
  obtain rfl : i = xs.length := by omega
  rw [List.take_length] at z5
  conv => whnf
  refine CodeQ.loop (fun (i : Nat) => pat 66 [(7, .hnd n2 0 ys.length 1), (8, .hnd S4.next 0 L 1), (10, .int .i64 i)])
    (fun m i S6 => m = ys.length - i ∧ i ≤ ys.length ∧ S4.next < S6.next ∧ Keep S4 S6 ∧ ∃ us : List Nat, us.length = L ∧ S6.mem S4.next = some (.cells (nn .i64 us ++ [])) ∧ (∀ z ∈ us, z ≤ 18) ∧ (∀ j, i ≤ j → us.getD j 0 ≤ 9) ∧ valB 10 us = valB 10 xs + valB 10 (ys.take i))
    ?_ _ 0 _ _ ⟨rfl, Nat.zero_le _, hn, k5, zs, z1, z2, fun z q => Nat.le_trans (z3 z q) (by decide), fun j _ => ?_, by simp [valB, z5]⟩ ⟨rfl, rfl, rfl, trivial⟩
  rotate_left
  · rcases Nat.lt_or_ge j zs.length with q | q
    · rw [← getD_get q]; exact z3 _ (List.getElem_mem q)
    · simp [List.getD, List.getElem?_eq_none q]
  clear z1 z2 z3 z4 z5 k5 hn hm h5
  rintro m i S6 d6 ⟨hm, hi2, hn, k6, zs, z1, z2, z3, z4, z5⟩
  conv => whnf
  refine br (fun h5 => ?_) (fun h5 => ?_)
  · have h5 : i < ys.length := by omega
    have hlt : i < zs.length := by omega
    have hyi := dB' ys[i] (List.getElem_mem h5)
    have hz9 : zs[i] ≤ 9 := by rw [getD_get hlt]; exact z4 i (Nat.le_refl _)
    have hst := set_add (b := 10) (v := ys[i]) hlt
    rw [z5, Nat.add_assoc, ← valB_take_succ 10 ys i h5] at hst
    have my : S6.mem n2 = some (.cells (nn .i64 ys ++ ry)) := (k6.mem n2 q4).trans q1
    conv => whnf
    refine ⟨[0, 1, 2, 3, 4, 5, 6, 7, 8, 9, 10], [], by kernel_rfl, by kernel_rfl, by kernel_rfl, ?_⟩
    conv => whnf
    refine ⟨by omega, by omega, ?_⟩
    conv => whnf
    refine ld_nn z2 hlt (off_nat i) ?_
    conv => whnf
    refine ⟨by omega, by omega, ?_⟩
    conv => whnf
    refine ld_nn my h5 (off_nat i) ?_
    conv => whnf
    refine ⟨by omega, by omega, ?_⟩
    conv => whnf
    refine st_nn (zs[i] + ys[i]) z2 hlt (off_nat i) (by rw [wrap_i64 (by omega) (by omega)]; omega) ?_
    conv => whnf
    refine ⟨ys.length - (i + 1), i + 1, by omega, ⟨rfl, h5, hn, k6.set _ _ (Nat.le_refl _), zs.set i (zs[i] + ys[i]), by simp [z1], mem_set _ _ _, mem_set_le z3 (by omega), fun j hj => by rw [getD_set_ne (by omega)]; exact z4 j (by omega), hst⟩, ⟨rfl, rfl, by rw [wrap_i64 (by omega) (by omega)]; rfl, trivial⟩⟩
  obtain rfl : i = ys.length := by omega
  rw [List.take_length] at z5
  conv => whnf
  rw [← z1]
  refine CallQ.mono (t44 h S4.next [] zs S6 z2 hn (fun q => by rw [q] at z1; simp at z1; omega) (fun z q => Nat.le_trans (z3 z q) (by decide)) (by omega)) ?_
  rintro r S7 ⟨k7, rfl⟩
  rw [z5]
  conv => whnf
  refine CallQ.mono (t45 h _ hsl S7) ?_
  rintro r S8 ⟨rfl, rfl⟩
  conv => whnf
  exact ⟨(k24.trans k6).trans k7, rfl⟩
theorem HdB.append0 {P : Program} {C : Cfg} {f : FuncId} {t e : TypeId} {by_ : Nat} {z : AV} (hE : Elem P t e 1 by_ false z) {S : St} {n l : Nat} {y : AV} (hy : elemsA S false 1 y = some []) : builtinA P C f .append #[t, t] [.hnd n 0 l 1, y] S = some (.ret (.hnd n 0 l 1), S) := by
  have helem : elemA P t = some e := by simp [elemA, hE.und]
  simp only [builtinA, appendA, helem, hE.size, hE.agg, hE.bytes, hE.zero, hE.und, Option.bind_some, appendB, hy]
  rw [if_pos ⟨by omega, hE.zlen, rfl⟩]
  rfl
/-- One ahead of a list. -/
theorem HdB.cons {P : Program} {C : Cfg} {f : FuncId} {t e : TypeId} {by_ : Nat} {z : AV} (hE : Elem P t e 1 by_ false z) (hh : C.hnd f = true) {S0 S : St} {v : AV} {xs : List AV} {k : IntKind} {i : Int} (hk : Keep S0 S) (hv : HdB S0.next S v xs)
    (hs : (1 + xs.length) * by_ ≤ 140737488355328 ∧ 1 + xs.length ≤ 140737488355328) :
    ∃ n S2, builtinA P C f .append #[t, t] [.hnd S.next 0 1 1, v] (S.new (.cells [.int k i])) = some (.ret (.hnd n 0 (xs.length + 1) 1), S2) ∧ S0.next ≤ n ∧ n < S2.next ∧ S2.mem n = some (.cells (.int k i :: xs)) ∧ Keep S0 S2 := by
  have hk2 := hk.new (.cells [.int k i])
  have hn := hk.next
  obtain ⟨hnum, ⟨rfl, rfl⟩ | ⟨n, rest, p1, p2, rfl, p4, p5⟩⟩ := hv
  · exact ⟨S.next, _, HdB.append0 hE rfl, hn, by show S.next < S.next + 1; omega, mem_new _ _, hk2⟩
  · have hel : elemsA (S.new (.cells [.int k i])) false 1 (.hnd n 0 xs.length 1) = some xs := elems_nums (rest := rest) (cells_of_mem (mem_new_ne p4 (by omega))) (hnum.append p5)
    by_cases hne : xs = []
    · subst hne
      exact ⟨S.next, _, HdB.append0 hE hel, hn, by show S.next < S.next + 1; omega, mem_new _ _, hk2⟩
    · have h1 : HdB S0.next (S.new (.cells [.int k i])) (.hnd S.next 0 1 1) [AV.int k i] := ⟨nums_one k i, .inr ⟨S.next, [], hn, by show S.next < S.next + 1; omega, rfl, mem_new _ _, .nil⟩⟩
      obtain ⟨S2, a1, a2, a3, a4, a5⟩ := HdB.append (C := C) (f := f) hE hh h1 (by show S0.next ≤ S.next + 1; omega) hel hnum hne (by simpa using hs)
      have hl : ([AV.int k i] ++ xs).length = xs.length + 1 := by simp
      rw [hl] at a1
      refine ⟨_, S2, a1, by show S0.next ≤ S.next + 1; omega, by rw [a3]; exact Nat.lt_succ_self _, a4, ⟨by rw [a3]; show S0.next ≤ S.next + 1 + 1; omega, fun j hj => ?_⟩⟩
      rw [a5 j (by show j < S.next + 1; omega) (fun l q => by have := (AV.hnd.inj q).1; omega)]
      exact hk2.mem j hj
theorem t41 (h : Bool) (a : List UInt8) (y : Nat) (a1 : 1 ≤ a.length) (a2 : a.length ≤ 2 ^ 10) (ad : ∀ c ∈ a, 48 ≤ c.toNat ∧ c.toNat ≤ 57) (y0 : 0 < y) (y1 : y ≤ 1000000) (S : St) :
    CallQ Tryd.prog (NC h) 41 [.str a, .int .i64 y] S fun r S1 => Keep S S1 ∧ r = .tuple [.str (decD (valD a / y)), .int .i64 (valD a % y : Nat)] := by
  refine CallQ.of rfl (by kernel_rfl : Tryd.prog.funcs[41]? = some Tryd.f41) rfl (by decide) ?_
  conv => whnf
  refine CodeQ.loop (fun (q : AV × Nat × Nat) => pat 35 [(0, .str a), (1, .int .i64 y), (6, .int .i64 q.2.1), (7, q.1), (8, .int .i64 q.2.2)])
    (fun m q S1 => m = a.length - q.2.2 ∧ q.2.2 ≤ a.length ∧ Keep S S1 ∧ q.2.1 < y ∧ ∃ ls : List Nat, ls.length = q.2.2 ∧ HdB S.next S1 q.1 (nn .i64 ls) ∧ (∀ z ∈ ls, z < 10) ∧ valD (a.take q.2.2) = y * valB 10 ls + q.2.1)
    ?_ _ (.nils, 0, 0) _ _ ⟨rfl, Nat.zero_le _, .refl _, y0, [], rfl, HdB.nil _ _, by simp, by simp [valB, valD]⟩ ⟨rfl, rfl, rfl, rfl, rfl, trivial⟩
  rintro m ⟨v, r, i⟩ S1 d ⟨hm, hi, k1, hr, ls, l1, hv, l3, l4⟩
  dsimp only at *
  conv => whnf
  refine br (fun h5 => ?_) (fun h5 => ?_)
  rotate_left
  · obtain rfl : i = a.length := by omega
    rw [List.take_length] at l4
    have hq : valD a / y = valB 10 ls := by rw [l4, Nat.mul_add_div y0, Nat.div_eq_of_lt hr, Nat.add_zero]
    have hr2 : valD a % y = r := by rw [l4, Nat.mul_add_mod, Nat.mod_eq_of_lt hr]
    rw [hq, hr2]
    obtain ⟨n, rfl, rest, p1, p2, p3, p4⟩ := RdI.of hv (fun q => by rw [q] at l1; simp at l1; omega)
    conv => whnf
    refine CallQ.mono (t44 h n rest ls S1 p1 p4 (fun q => by rw [q] at l1; simp at l1; omega) (fun z q => Nat.le_trans (Nat.le_of_lt (l3 z q)) (by decide)) (by omega)) ?_
    rintro r S2 ⟨k2, rfl⟩
    conv => whnf
    exact ⟨k1.trans k2, rfl⟩
  have h5 : i < a.length := by omega
  have hc := ad (a.getD i 0) (by rw [List.getD_eq_getElem?_getD, List.getElem?_eq_getElem h5]; exact List.getElem_mem h5)
  have hv2 := valD_take a i h5
  conv => whnf
  refine ⟨by omega, a.getD i 0, getd h5, ?_⟩
  generalize a.getD i 0 = c at *
  generalize hdg : c.toNat - 48 = g at *
  have w1 : IntKind.i64.wrap (IntKind.i64.wrap ((r : Int) * 10) + IntKind.i64.wrap (IntKind.u8.wrap ((c.toNat : Int) - 48))) = ((r * 10 + g : Nat) : Int) := by
    rw [wrap_u8 (by omega) (by omega), wrap_i64 (x := (r : Int) * 10) (by omega) (by omega), wrap_i64 (x := (c.toNat : Int) - 48) (by omega) (by omega), wrap_i64 (by omega) (by omega)]; omega
  have hlt : (r * 10 + g) / y < 10 := by
    apply Nat.div_lt_of_lt_mul
    omega
  have hrl : (r * 10 + g) % y < y := Nat.mod_lt _ y0
  have hst : valD (a.take (i + 1)) = y * valB 10 ((r * 10 + g) / y :: ls) + (r * 10 + g) % y := by
    have := Nat.mod_add_div (r * 10 + g) y
    rw [hv2, l4, valB, Nat.mul_add, Nat.mul_left_comm y 10]
    unfold vstep
    omega
  have c2 : (((r * 10 + g : Nat) : Int)).tdiv (y : Int) = (((r * 10 + g) / y : Nat) : Int) := by
    rw [Int.tdiv_eq_ediv_of_nonneg (by omega), ← Int.natCast_ediv]
  have w3 : (((r * 10 + g : Nat) : Int)).tmod (y : Int) = (((r * 10 + g) % y : Nat) : Int) := by
    rw [Int.tmod_eq_emod_of_nonneg (by omega), ← Int.natCast_emod]
  generalize (r * 10 + g) / y = qd at *
  generalize (r * 10 + g) % y = rd at *
  have w2 : IntKind.i64.wrap ((((r * 10 + g : Nat) : Int)).tdiv (y : Int)) = (qd : Int) := by rw [c2, wrap_i64 (by omega) (by omega)]
  conv => whnf
  rw [w1]
  refine ⟨by omega, ?_⟩
  rw [w2]
  conv => whnf
  obtain ⟨n, S2, e1, e2, e3, e4, e5⟩ := HdB.cons (S0 := S) (C := NC h) (f := 41) elI rfl (k := .i64) (i := ((qd : Nat) : Int)) k1 hv (by rw [nn_len]; omega)
  rw [nn_len] at e1
  refine ⟨_, S2, e1, ?_⟩
  conv => whnf
  refine ⟨by omega, ?_⟩
  rw [w3]
  conv => whnf
  refine ⟨a.length - (i + 1), (_, rd, i + 1), by omega, ⟨rfl, h5, e5, hrl, qd :: ls, by simp [l1], ⟨nn_nums _ _, .inr ⟨n, [], e2, e3, by rw [nn_len]; rfl, by rw [List.append_nil]; exact e4, .nil⟩⟩, ?_, hst⟩, ⟨rfl, rfl, rfl, rfl, by rw [wrap_i64 (by omega) (by omega)]; rfl, trivial⟩⟩
  intro z q
  rcases List.mem_cons.1 q with rfl | q
  · exact hlt
  · exact l3 z q
theorem t15 (h : Bool) (a : List UInt8) (y : Int) (S : St) : CallQ Tryd.prog (NC h) 15 [.str a, .int .i64 y] S fun r S1 => Keep S S1 ∧
    r = if rightS a = true ∧ 1 ≤ y ∧ y ≤ 1000000 then .tuple [.str (decD (valD a / y.toNat)), .int .i64 (valD a % y.toNat : Nat), .int .i64 0] else .tuple [.str [], .int .i64 0, .int .i64 1] := by
  refine CallQ.of rfl (by kernel_rfl : Tryd.prog.funcs[15]? = some Tryd.f15) rfl (by decide) ?_
  conv => whnf
  refine CallQ.mono (t34 h a S) ?_
  rintro r S1 ⟨rfl, rfl⟩
  cases hra : rightS a
  · conv => whnf
    exact ⟨.refl _, by rw [if_neg (fun q => by cases q.1)]; rfl⟩
  conv => whnf
  refine br (fun h1 => ?_) (fun h1 => ?_)
  · conv => whnf
    exact ⟨.refl _, by rw [if_neg (fun q => by omega)]; rfl⟩
  conv => whnf
  refine br (fun h2 => ?_) (fun h2 => ?_)
  · conv => whnf
    exact ⟨.refl _, by rw [if_neg (fun q => by omega)]; rfl⟩
  rw [if_pos ⟨rfl, by omega, by omega⟩]
  obtain ⟨z, rfl⟩ : ∃ z : Nat, y = z := ⟨y.toNat, by omega⟩
  obtain ⟨a1, a2, _⟩ := right_head hra
  conv => whnf
  refine CallQ.mono (t41 h a z a1 (by omega) (right_all hra).2 (by omega) (by omega) S1) ?_
  rintro r S2 ⟨k2, rfl⟩
  conv => whnf
  exact ⟨k2, rfl⟩
end Go.Proofs.YtnbjhgaaollhcaaDoor
namespace Go.Proofs.YtnbjhgaaollhcaaDoor
open Go.Proofs.YtnbjhgaaollhcaaDoor.VM Go.RowKit
set_option maxRecDepth 100000
set_option linter.unusedVariables false
set_option maxHeartbeats 4000000
theorem shortS_fit {m : Nat} (h : (decD m).length ≤ 800) : shortS m = decD m ∧ shortE m = 0 := by
  unfold shortS shortE
  rw [if_pos h, if_pos h]; exact ⟨rfl, rfl⟩
theorem shortS_not {m : Nat} (h : ¬ (decD m).length ≤ 800) : shortS m = [] ∧ shortE m = 11 := by
  unfold shortS shortE
  rw [if_neg h, if_neg h]; exact ⟨rfl, rfl⟩
theorem dec_len_mono {m n : Nat} (h : m ≤ n) : (decD m).length ≤ (decD n).length := by
  rcases Nat.lt_or_ge (decD n).length (decD m).length with q | q
  · rcases dec_long.1 q with ⟨_, r⟩ | r
    · have := dec_len_ge n; omega
    · have := List.length_pos_iff.2 (dec_head n).1; omega
  · exact q
/-! ### whole numbers below zero too -/
def ni (xs : List Int) : List AV := xs.map (AV.int .i64)
theorem ni_len (xs : List Int) : (ni xs).length = xs.length := by simp [ni]
theorem nn_ni (xs : List Nat) : nn .i64 xs = ni (xs.map fun (n : Nat) => (n : Int)) := by simp [nn, ni]
theorem ld_ni {S : St} {n i : Nat} {xs : List Int} {rest : List AV} {off : Nat} {K : AV → Prop} (hm : S.mem n = some (.cells (ni xs ++ rest))) (hi : i < xs.length) (ho : off = i) (h : K (.int .i64 xs[i])) :
    ∃ cs, S.cells n = some cs ∧ partF false (partA false 1 cs off) K := by
  subst ho
  refine ⟨_, cells_of_mem hm, ?_⟩
  show partF false ((ni xs ++ rest)[off]?) K
  rw [List.getElem?_append_left (by rw [ni_len]; exact hi)]
  rw [show (ni xs)[off]? = some (.int .i64 xs[off]) by simp [ni, hi]]
  exact h
theorem st_ni {S : St} {n i : Nat} {xs : List Int} {rest : List AV} {off : Nat} {x : Int} {K : List AV → Prop} (v : Int) (hm : S.mem n = some (.cells (ni xs ++ rest))) (hi : i < xs.length) (ho : off = i) (hx : x = v) (h : K (ni (xs.set i v) ++ rest)) :
    ∃ cs cs', S.cells n = some cs ∧ (if (AV.int .i64 x).cells.length = 1 ∧ (AV.int .i64 x).cells.all AV.leafOk = true ∧ off + 1 ≤ cs.length then some (setsA cs off (AV.int .i64 x).cells) else none) = some cs' ∧ K cs' := by
  subst ho hx
  refine ⟨_, _, cells_of_mem hm, if_pos ⟨rfl, rfl, by simp [ni_len]; omega⟩, ?_⟩
  show K ((ni xs ++ rest).set off (.int .i64 x))
  rw [List.set_append_left _ _ (by rw [ni_len]; exact hi), show (ni xs).set off (.int .i64 x) = ni (xs.set off x) by simp [ni, List.map_set]]
  exact h
def valZ : List Int → Int
  | [] => 0
  | x :: xs => x + 10 * valZ xs
theorem valZ_nat : ∀ xs : List Nat, valZ (xs.map fun (n : Nat) => (n : Int)) = (valB 10 xs : Nat)
  | [] => rfl
  | x :: xs => by rw [List.map_cons, valZ, valZ_nat xs, valB]; omega
theorem valZ_append : ∀ xs ys : List Int, valZ (xs ++ ys) = valZ xs + 10 ^ xs.length * valZ ys
  | [], ys => by simp [valZ]
  | x :: xs, ys => by
    rw [List.cons_append, valZ, valZ, valZ_append xs ys, List.length_cons, Int.pow_succ, Int.mul_add, Int.mul_comm (10 ^ xs.length) 10, Int.mul_assoc]
    omega
theorem valZ_set : ∀ (zs : List Int) (p : Nat) (v : Int) (h : p < zs.length), valZ (zs.set p v) = valZ zs + 10 ^ p * (v - zs[p])
  | z :: zs, 0, v, h => by simp [valZ]; omega
  | z :: zs, p + 1, v, h => by
    rw [List.set_cons_succ, valZ, valZ, valZ_set zs p v (by simpa using h), Int.mul_add, Int.pow_succ, Int.mul_comm (10 ^ p) 10, Int.mul_assoc, List.getElem_cons_succ]
    omega
theorem ni_int (xs : List Int) : Nums (ni xs) := fun x hx => by obtain ⟨n, _, rfl⟩ := List.mem_map.1 hx; exact ⟨_, _, rfl⟩
theorem t31 (h : Bool) (a b : List UInt8) (ha : a.length ≤ 2 ^ 47) (hb : b.length ≤ 2 ^ 47) (S : St) : CallQ Tryd.prog (NC h) 31 [.str a, .str b] S fun r S1 => Keep S S1 ∧ r = .tuple [.str (arS (subOk a b) (valD a - valD b)), .int .i64 (arE (subOk a b) (valD a - valD b))] := by
  refine CallQ.of rfl (by kernel_rfl : Tryd.prog.funcs[31]? = some Tryd.f31) rfl (by decide) ?_
  conv => whnf
  refine CallQ.mono (t34 h a S) ?_
  rintro r S1 ⟨rfl, rfl⟩
  cases hra : rightS a
  · conv => whnf
    exact ⟨.refl _, by unfold subOk; rw [hra]; rfl⟩
  conv => whnf
  refine CallQ.mono (t34 h b S1) ?_
  rintro r S2 ⟨rfl, rfl⟩
  cases hrb : rightS b
  · conv => whnf
    exact ⟨.refl _, by unfold subOk; rw [hra, hrb]; rfl⟩
  conv => whnf
  refine CallQ.mono (t49 h a b ha hb S2) ?_
  rintro r S3 ⟨rfl, rfl⟩
  conv => whnf
  refine br (fun h0 => ?_) (fun h0 => ?_)
  · conv => whnf
    exact ⟨.refl _, by unfold subOk; rw [decide_eq_true h0, Bool.not_true, Bool.and_false]; rfl⟩
  have hok : subOk a b = true := by unfold subOk; rw [hra, hrb, decide_eq_false h0]; rfl
  rw [hok]
  obtain ⟨a1, a2, _⟩ := right_head hra
  obtain ⟨b1, b2, _⟩ := right_head hrb
  have hle := (ord_val hra hrb).2 h0
  have hll : b.length ≤ a.length := by
    rcases Nat.lt_or_ge a.length b.length with q | q
    · exact absurd (show ordS a b < 0 by unfold ordS; rw [if_neg (by omega), if_pos q]; decide) h0
    · exact q
  have hfit : (decD (valD a - valD b)).length ≤ 800 := by
    refine Nat.le_trans (dec_len_mono (Nat.sub_le _ _)) ?_
    rw [dec_valD hra]; exact a2
  have hres : arS true (valD a - valD b) = decD (valD a - valD b) ∧ arE true (valD a - valD b) = 0 := by
    unfold arS arE
    rw [if_pos rfl, if_pos rfl]
    exact shortS_fit hfit
  rw [hres.1, hres.2]
  conv => whnf
  refine CallQ.mono (dig_right h a hra S3) ?_
  rintro r S4 ⟨k3, n1, rfl, r1⟩
  conv => whnf
  refine CallQ.mono (dig_right h b hrb S4) ?_
  rintro r S5 ⟨k4, n2, rfl, r2⟩
  have r1' := r1
  have r1 := r1.keep k4
  have k24 := k3.trans k4
  have vA := valB_digL a
  have vB := valB_digL b
  have dA := digL_lt (right_all hra).2
  have dB' := digL_lt (right_all hrb).2
  have lA := digL_len a
  have lB := digL_len b
  rw [← lA, ← lB, ← vA, ← vB]
  rw [← lA] at a1 a2 hll
  rw [← lB] at b1 b2 hll
  rw [← vA, ← vB] at hle
  generalize digL a = xs at *
  generalize digL b = ys at *
  clear vA vB lA lB hres hfit
  obtain ⟨rx, p1, p2, p3, p4⟩ := r1
  obtain ⟨ry, q1, q2, q3, q4⟩ := r2
  obtain ⟨_, _, _, _, o4⟩ := r1'
  rw [nn_ni] at p1
  have kn := k24.next
  conv => whnf
  refine CodeQ.loop (fun (i : Nat) => pat 70 [(6, .hnd n1 0 xs.length 1), (7, .hnd n2 0 ys.length 1), (8, .int .i64 i)])
    (fun m i S6 => m = ys.length - i ∧ i ≤ ys.length ∧ S6.next = S5.next ∧ (∀ j, j ≠ n1 → S6.mem j = S5.mem j) ∧ ∃ zs : List Int, zs.length = xs.length ∧ S6.mem n1 = some (.cells (ni zs ++ rx)) ∧ (∀ z ∈ zs, -9 ≤ z ∧ z ≤ 9) ∧ (∀ j (hj : j < xs.length), i ≤ j → zs[j]? = some (xs[j] : Int)) ∧ valZ zs = (valB 10 xs : Nat) - (valB 10 (ys.take i) : Nat))
    ?_ _ 0 _ _ ⟨rfl, Nat.zero_le _, rfl, fun _ _ => rfl, xs.map fun (n : Nat) => (n : Int), by simp, p1, fun z q => ?_, fun j hj _ => by simp [hj], by rw [valZ_nat]; simp [valB]⟩ ⟨rfl, rfl, rfl, trivial⟩
  rotate_left
  · obtain ⟨x, hx, rfl⟩ := List.mem_map.1 q
    have := dA x hx
    omega
  rintro m i S6 d ⟨hm, hi, hn, k6, zs, z1, z2, z3, z4, z5⟩
  conv => whnf
  refine br (fun h5 => ?_) (fun h5 => ?_)
  · have h5 : i < ys.length := by omega
    have hlt : i < zs.length := by omega
    have hyi := dB' ys[i] (List.getElem_mem h5)
    have hzx : zs[i] = (xs[i] : Nat) := by
      have := z4 i (by omega) (Nat.le_refl _)
      rw [List.getElem?_eq_getElem hlt] at this
      exact Option.some.inj this
    have hxi := dA xs[i] (List.getElem_mem (by omega))
    have hst := valZ_set zs i (zs[i] - (ys[i] : Nat)) hlt
    have hpow : ((10 ^ i : Nat) : Int) = 10 ^ i := by simp
    have hst2 : valZ (zs.set i (zs[i] - (ys[i] : Nat))) = (valB 10 xs : Nat) - (valB 10 (ys.take (i + 1)) : Nat) := by
      rw [hst, z5, valB_take_succ 10 ys i h5, Int.natCast_add, Int.natCast_mul, hpow, show zs[i] - (ys[i] : Int) - zs[i] = -(ys[i] : Int) by omega, Int.mul_neg]
      omega
    have my : S6.mem n2 = some (.cells (nn .i64 ys ++ ry)) := (k6 n2 (by omega)).trans q1
    conv => whnf
    refine ⟨[0, 1, 2, 3, 4, 5, 6, 7, 8, 9, 10], [], by kernel_rfl, by kernel_rfl, by kernel_rfl, ?_⟩
    conv => whnf
    refine ⟨by omega, by omega, ?_⟩
    conv => whnf
    refine ld_ni z2 hlt (off_nat i) ?_
    conv => whnf
    refine ⟨by omega, by omega, ?_⟩
    conv => whnf
    refine ld_nn my h5 (off_nat i) ?_
    conv => whnf
    refine ⟨by omega, by omega, ?_⟩
    conv => whnf
    refine st_ni (zs[i] - (ys[i] : Nat)) z2 hlt (off_nat i) (by rw [wrap_i64 (by omega) (by omega)]) ?_
    conv => whnf
    refine ⟨ys.length - (i + 1), i + 1, by omega, ⟨rfl, h5, hn, fun j hj => by rw [← k6 j hj]; exact mem_set_ne rfl hj, zs.set i (zs[i] - (ys[i] : Nat)), by simp [z1], mem_set _ _ _, fun z q => ?_, fun j hj hj2 => ?_, hst2⟩, ⟨rfl, rfl, by rw [wrap_i64 (by omega) (by omega)]; rfl, trivial⟩⟩
    · rcases List.mem_or_eq_of_mem_set q with q | rfl
      · exact z3 z q
      · omega
    · rw [List.getElem?_set_ne (by omega)]; exact z4 j hj (by omega)
  obtain rfl : i = ys.length := by omega
  rw [List.take_length] at z5
  clear z4 h5 hm hi
  conv => whnf
  refine CodeQ.loop (fun (i : Nat) => pat 70 [(6, .hnd n1 0 xs.length 1), (9, .int .i64 i)])
    (fun m i S7 => m = xs.length - i ∧ S7.next = S5.next ∧ (∀ j, j ≠ n1 → S7.mem j = S5.mem j) ∧ ∃ (ds : List Nat) (es : List Int), ds.length = i ∧ ds.length + es.length = xs.length ∧ S7.mem n1 = some (.cells (ni ((ds.map fun (n : Nat) => (n : Int)) ++ es) ++ rx)) ∧ (∀ x ∈ ds, x < 10) ∧ (∀ z ∈ es.tail, -9 ≤ z ∧ z ≤ 9) ∧ (∀ z ∈ es.head?, -10 ≤ z ∧ z ≤ 9) ∧ ((valB 10 ds : Nat) : Int) + 10 ^ ds.length * valZ es = ((valB 10 xs - valB 10 ys : Nat) : Int))
    ?_ _ 0 _ _ ⟨rfl, hn, k6, [], zs, rfl, by simp [z1], z2, by simp, fun z q => z3 z (List.mem_of_mem_tail q), fun z q => by have := z3 z (List.mem_of_mem_head? q); omega, by simp [valB, z5]; omega⟩ ⟨rfl, rfl, trivial⟩
  clear z1 z2 z3 z5 hn k6
  rintro m i S7 d7 ⟨hm, hn, k7, ds, es, e1, e2, z2, e3, e4, e5, e6⟩
  conv => whnf
  refine br (fun h5 => ?_) (fun h5 => ?_)
  rotate_left
  · obtain rfl : es = [] := List.length_eq_zero_iff.1 (by omega)
    have hv : valB 10 ds = valB 10 xs - valB 10 ys := by simp only [valZ, Int.mul_zero, Int.add_zero] at e6; omega
    rw [List.append_nil, ← nn_ni] at z2
    have hdl : ds.length = xs.length := by simpa using e2
    conv => whnf
    rw [← hdl]
    refine CallQ.mono (t44 h n1 rx ds S7 z2 (by omega) (fun q => by rw [q] at hdl; simp at hdl; omega) (fun z q => Nat.le_trans (Nat.le_of_lt (e3 z q)) (by decide)) (by omega)) ?_
    rintro r S8 ⟨k8, rfl⟩
    rw [hv]
    conv => whnf
    refine ⟨?_, rfl⟩
    have k57 : Keep S3 S7 := ⟨by have := k24.next; omega, fun j hj => by rw [k7 j (by omega)]; exact k24.mem j hj⟩
    exact k57.trans k8
  obtain ⟨z, es, rfl⟩ : ∃ z t, es = z :: t := by cases es with | nil => simp at e2; omega | cons z t => exact ⟨z, t, rfl⟩
  have hz := e5 z (by simp)
  have e2' : ds.length + es.length + 1 = xs.length := by simpa [Nat.add_assoc] using e2
  have hlt : i < ((ds.map fun (n : Nat) => (n : Int)) ++ z :: es).length := by simp; omega
  have hgz : ((ds.map fun (n : Nat) => (n : Int)) ++ z :: es)[i] = z := by subst e1; simp
  have hset : ∀ v : Int, ((ds.map fun (n : Nat) => (n : Int)) ++ z :: es).set i v = (ds.map fun (n : Nat) => (n : Int)) ++ v :: es := fun v => by subst e1; simp
  have hpn : ((10 ^ ds.length : Nat) : Int) = 10 ^ ds.length := by simp
  have vlt := valB_lt e3
  conv => whnf
  refine ⟨by omega, by omega, ?_⟩
  conv => whnf
  refine ld_ni z2 hlt (off_nat i) ?_
  rw [hgz]
  conv => whnf
  refine br (fun h6 => ?_) (fun h6 => ?_)
  · have hne : es ≠ [] := by
      rintro rfl
      simp only [valZ, Int.mul_zero, Int.add_zero] at e6
      have h1 : (10 : Int) ^ ds.length * z ≤ 10 ^ ds.length * (-1) := Int.mul_le_mul_of_nonneg_left (by omega) (by rw [← hpn]; omega)
      omega
    obtain ⟨e, es, rfl⟩ : ∃ z t, es = z :: t := by cases es with | nil => exact absurd rfl hne | cons z t => exact ⟨z, t, rfl⟩
    have he := e4 e (by simp)
    conv => whnf
    refine ⟨by omega, by omega, ?_⟩
    conv => whnf
    refine ld_ni z2 hlt (off_nat i) ?_
    rw [hgz]
    conv => whnf
    refine ⟨by omega, by omega, ?_⟩
    conv => whnf
    refine st_ni (z + 10) z2 hlt (off_nat i) (by rw [wrap_i64 (by omega) (by omega)]) ?_
    rw [hset]
    have w1 : IntKind.i64.wrap ((i : Int) + 1) = ((i + 1 : Nat) : Int) := by rw [wrap_i64 (by omega) (by omega)]; rfl
    have hl2 : i + 1 < ((ds.map fun (n : Nat) => (n : Int)) ++ (z + 10) :: e :: es).length := by simp; omega
    have hg2 : ((ds.map fun (n : Nat) => (n : Int)) ++ (z + 10) :: e :: es)[i + 1] = e := by subst e1; simp
    have hs2 : ((ds.map fun (n : Nat) => (n : Int)) ++ (z + 10) :: e :: es).set (i + 1) (e - 1) = ((ds ++ [(z + 10).toNat]).map fun (n : Nat) => (n : Int)) ++ (e - 1) :: es := by
      subst e1
      have hzt : ((z + 10).toNat : Int) = z + 10 := Int.toNat_of_nonneg (by omega)
      rw [List.set_append_right _ _ (by simp)]
      rw [List.map_append, List.map_singleton, hzt]
      simp
    have hlen : (e :: es).length = es.length + 1 := rfl
    conv => whnf
    rw [w1]
    refine ⟨by omega, by omega, ?_⟩
    conv => whnf
    refine ld_ni (mem_set _ _ _) hl2 (off_nat (i + 1)) ?_
    rw [hg2]
    conv => whnf
    refine ⟨by omega, by omega, ?_⟩
    conv => whnf
    refine st_ni (e - 1) (mem_set _ _ _) hl2 (off_nat (i + 1)) (by rw [wrap_i64 (by omega) (by omega)]) ?_
    rw [hs2]
    conv => whnf
    refine ⟨xs.length - (i + 1), i + 1, by omega, ⟨rfl, hn, fun j hj => by rw [← k7 j hj]; exact mem_set_ne (mem_set_ne rfl hj) hj, ds ++ [(z + 10).toNat], (e - 1) :: es, by simp [e1], by simp; omega, mem_set _ _ _, fun x q => ?_, fun x q => e4 x (List.mem_cons_of_mem _ q), fun x q => ?_, ?_⟩, ⟨rfl, by rw [w1], trivial⟩⟩
    · rcases List.mem_append.1 q with q | q
      · exact e3 x q
      · have : x = (z + 10).toNat := by simpa using q
        omega
    · obtain rfl : e - 1 = x := by simpa using q
      omega
    · rw [← e6, valB_snoc, List.length_append, List.length_singleton, Int.natCast_add, Int.natCast_mul, hpn, Int.pow_succ, Int.toNat_of_nonneg (by omega), Int.add_assoc, Int.mul_assoc, ← Int.mul_add]
      congr 2
      simp only [valZ]
      omega
  · conv => whnf
    refine ⟨xs.length - (i + 1), i + 1, by omega, ⟨rfl, hn, k7, ds ++ [z.toNat], es, by simp [e1], by simp; omega, ?_, fun x q => ?_, fun x q => e4 x (List.mem_of_mem_tail q), fun x q => by have := e4 x (List.mem_of_mem_head? q); omega, ?_⟩, ⟨rfl, by rw [wrap_i64 (by omega) (by omega)]; rfl, trivial⟩⟩
    · have hzt : (z.toNat : Int) = z := Int.toNat_of_nonneg (by omega)
      rw [z2, List.map_append, List.map_singleton, hzt, List.append_assoc]
      rfl
    · rcases List.mem_append.1 q with q | q
      · exact e3 x q
      · have : x = z.toNat := by simpa using q
        omega
    · rw [← e6, valB_snoc, List.length_append, List.length_singleton, Int.natCast_add, Int.natCast_mul, hpn, Int.pow_succ, Int.toNat_of_nonneg (by omega), Int.add_assoc, Int.mul_assoc, ← Int.mul_add]
      rfl
end Go.Proofs.YtnbjhgaaollhcaaDoor
