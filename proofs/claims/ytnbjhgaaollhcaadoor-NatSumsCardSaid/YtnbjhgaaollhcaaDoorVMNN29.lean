import Derived.Test.YtnbjhgaaollhcaaDoorVMNN26
namespace Go.Proofs.YtnbjhgaaollhcaaDoor
open Go.Proofs.YtnbjhgaaollhcaaDoor.VM Go.RowKit
set_option maxRecDepth 100000
set_option linter.unusedVariables false
set_option maxHeartbeats 4000000
theorem cmp_anti : ∀ (a b : List UInt8), Lib.compareBytes a b = -1 → Lib.compareBytes b a = 1
  | [], [], h => by cases h
  | [], _ :: _, _ => rfl
  | _ :: _, [], h => by cases h
  | x :: a, y :: b, h => by
    unfold Lib.compareBytes at h ⊢
    split at h
    · rename_i q
      have q : x.toNat < y.toNat := q
      rw [if_neg (by show ¬ y.toNat < x.toNat; omega), if_pos (by show x.toNat < y.toNat; omega)]
    · rename_i q1
      split at h
      · cases h
      · rename_i q2
        rw [if_neg q2, if_neg q1]
        exact cmp_anti a b h
theorem right_len {a : List UInt8} (h : rightS a = true) : a = decD (valD a) := (dec_valD h).symm
/-- Of two right texts the one that stands ahead is the less number. -/
theorem ord_val {a b : List UInt8} (ha : rightS a = true) (hb : rightS b = true) : (ordS a b < 0 → valD a < valD b) ∧ (¬ ordS a b < 0 → valD b ≤ valD a) := by
  have key : ∀ {a b : List UInt8}, rightS a = true → rightS b = true → a.length < b.length → valD a < valD b := by
    intro a b ha hb hl
    have h1 := valD_lt (right_all ha).2
    have h2 : a.length < (decD (valD b)).length := by rw [dec_valD hb]; exact hl
    rcases dec_long.1 h2 with ⟨_, q⟩ | q
    · omega
    · have := (right_head ha).1; omega
  unfold ordS
  split
  · rename_i hl
    rcases cmp_val a b with q | q | q
    · have h1 := cmp_val_gt b a hl.symm (right_all hb).2 (right_all ha).2 (cmp_anti a b q) 0
      rw [q]
      exact ⟨fun _ => h1, fun h => absurd (by decide) h⟩
    · have := cmp_zero q
      subst this
      rw [q]
      exact ⟨fun h => absurd h (by decide), fun _ => Nat.le_refl _⟩
    · have h1 := cmp_val_gt a b hl (right_all ha).2 (right_all hb).2 q 0
      rw [q]
      exact ⟨fun h => absurd h (by decide), fun _ => Nat.le_of_lt h1⟩
  · rename_i hl
    split
    · rename_i hl2
      exact ⟨fun _ => key ha hb hl2, fun h => absurd (by decide) h⟩
    · exact ⟨fun h => absurd h (by decide), fun _ => Nat.le_of_lt (key hb ha (by omega))⟩
theorem add_step {zs : List Nat} {i y V W : Nat} (h : i < zs.length) (e : valB 1000000000 zs = V + W) : valB 1000000000 (zs.set i (zs[i] + y)) = V + (W + 1000000000 ^ i * y) := by
  have h1 := valB_set 1000000000 zs i (zs[i] + y) h
  rw [Nat.mul_add] at h1
  omega
theorem t26 (a b : List UInt8) (ha : a.length ≤ 2 ^ 47) (hb : b.length ≤ 2 ^ 47) (S : St) : CallQ Tryd.prog (NC true) 26 [.str a, .str b] S fun r S1 => Keep S S1 ∧ r = .tuple [.str (arS (rightS a && rightS b) (valD a + valD b)), .int .i64 (arE (rightS a && rightS b) (valD a + valD b))] := by
  refine CallQ.of rfl (by kernel_rfl : Tryd.prog.funcs[26]? = some Tryd.f26) rfl (by decide) ?_
  conv => whnf
  refine CallQ.mono (t50 true a b ha hb S) ?_
  rintro r S1 ⟨k1, ⟨hra, hrb, n1, n2, xs, ys, rfl, r1, r2⟩ | ⟨hn, rfl⟩⟩
  rotate_left
  · rw [hn]
    conv => whnf
    exact ⟨k1, rfl⟩
  rw [hra, hrb]
  have l1 := r1.lim hra
  have l2 := r2.lim hrb
  obtain ⟨rx, p1, p2, p3, p4, p5, p6, _⟩ := r1
  obtain ⟨ry, q1, q2, q3, q4, q5, q6, _⟩ := r2
  have q3' : S.next ≤ n2 := by omega
  conv => whnf
  refine br (fun h0 => ?_) (fun h0 => ?_)
  · conv => whnf
    refine CodeQ.loop (fun (i : Nat) => pat 46 [(6, .hnd n2 0 ys.length 1), (27, .hnd n1 0 xs.length 1), (28, .int .i64 xs.length), (29, .int .i64 i)])
      (fun m i S2 => m = xs.length - i ∧ i ≤ xs.length ∧ S2.next = S1.next ∧ (∀ j, j ≠ n2 → S2.mem j = S1.mem j) ∧ ∃ zs : List Nat, zs.length = ys.length ∧ S2.mem n2 = some (.cells (nn .u64 zs ++ ry)) ∧ (∀ z ∈ zs, z < 2000000000) ∧ (∀ j, i ≤ j → zs.getD j 0 = ys.getD j 0) ∧ valB 1000000000 zs = valB 1000000000 ys + valB 1000000000 (xs.take i))
      ?_ _ 0 _ _ ⟨rfl, Nat.zero_le _, rfl, fun _ _ => rfl, ys, rfl, q1, fun z q => Nat.lt_trans (q5 z q) (by decide), fun _ _ => rfl, by simp [valB]⟩ ⟨rfl, rfl, rfl, rfl, trivial⟩
    rintro m i S2 d ⟨rfl, hi, hn, k2, zs, z1, z2, z3, z4, z5⟩
    dsimp only at *
    conv => whnf
    refine br (fun h5 => ?_) (fun h5 => ?_)
    rotate_left
    · obtain rfl : i = xs.length := by omega
      rw [List.take_length, q6, p6] at z5
      have kk : Keep S S2 := ⟨by have := k1.next; omega, fun j hj => by rw [k2 j (by omega)]; exact k1.mem j hj⟩
      have hh : HdB S.next S2 (.hnd n2 0 ys.length 1) (nn .u64 zs) := ⟨nn_nums _ _, .inr ⟨n2, ry, by omega, by omega, by rw [nn_len, z1], z2, q2⟩⟩
      conv => whnf
      refine CallQ.mono (t36 S.next _ zs S2 hh kk.next (fun z q => Nat.lt_trans (z3 z q) (by decide)) (by omega)) ?_
      rintro r S3 ⟨t3, rfl⟩
      rw [z5, Nat.add_comm (valD b)]
      conv => whnf
      exact ⟨t3.keep kk hh, rfl⟩
    have h5 : i < xs.length := by omega
    have my : S2.mem n1 = some (.cells (nn .u64 xs ++ rx)) := by rw [k2 n1 (by omega)]; exact p1
    have hlt : i < zs.length := by omega
    have hyb := p5 xs[i] (List.getElem_mem h5)
    have hzb : zs[i] < 1000000000 := by rw [getD_get hlt, z4 i (Nat.le_refl _), ← getD_get (by omega : i < ys.length)]; exact q5 _ (List.getElem_mem _)
    have hst := add_step (y := xs[i]) hlt z5
    rw [← valB_take_succ 1000000000 xs i h5] at hst
    conv => whnf
    refine ⟨by omega, by omega, ?_⟩
    conv => whnf
    refine ld_nn my h5 (off_nat i) ?_
    generalize xs[i] = y at *
    conv => whnf
    refine ⟨by omega, by omega, ?_⟩
    conv => whnf
    refine ld_nn z2 hlt (off_nat i) ?_
    generalize zs[i] = z at *
    conv => whnf
    refine ⟨by omega, by omega, ?_⟩
    conv => whnf
    refine st_nn (z + y) z2 hlt (off_nat i) (by rw [wrap_u64 (by omega) (by omega)]; omega) ?_
    conv => whnf
    refine ⟨xs.length - (i + 1), i + 1, by omega, ⟨rfl, h5, hn, fun j hj => by rw [← k2 j hj]; exact mem_set_ne rfl hj, zs.set i (z + y), by simp [z1], mem_set _ _ _, mem_set_lt z3 (by omega), fun j hj => by rw [getD_set_ne (by omega)]; exact z4 j (by omega), hst⟩, ⟨rfl, rfl, rfl, by rw [wrap_i64 (by omega) (by omega)]; rfl, trivial⟩⟩
  · conv => whnf
    refine CodeQ.loop (fun (i : Nat) => pat 46 [(6, .hnd n1 0 xs.length 1), (27, .hnd n2 0 ys.length 1), (28, .int .i64 ys.length), (29, .int .i64 i)])
      (fun m i S2 => m = ys.length - i ∧ i ≤ ys.length ∧ S2.next = S1.next ∧ (∀ j, j ≠ n1 → S2.mem j = S1.mem j) ∧ ∃ zs : List Nat, zs.length = xs.length ∧ S2.mem n1 = some (.cells (nn .u64 zs ++ rx)) ∧ (∀ z ∈ zs, z < 2000000000) ∧ (∀ j, i ≤ j → zs.getD j 0 = xs.getD j 0) ∧ valB 1000000000 zs = valB 1000000000 xs + valB 1000000000 (ys.take i))
      ?_ _ 0 _ _ ⟨rfl, Nat.zero_le _, rfl, fun _ _ => rfl, xs, rfl, p1, fun z q => Nat.lt_trans (p5 z q) (by decide), fun _ _ => rfl, by simp [valB]⟩ ⟨rfl, rfl, rfl, rfl, trivial⟩
    rintro m i S2 d ⟨rfl, hi, hn, k2, zs, z1, z2, z3, z4, z5⟩
    dsimp only at *
    conv => whnf
    refine br (fun h5 => ?_) (fun h5 => ?_)
    rotate_left
    · obtain rfl : i = ys.length := by omega
      rw [List.take_length, p6, q6] at z5
      have kk : Keep S S2 := ⟨by have := k1.next; omega, fun j hj => by rw [k2 j (by omega)]; exact k1.mem j hj⟩
      have hh : HdB S.next S2 (.hnd n1 0 xs.length 1) (nn .u64 zs) := ⟨nn_nums _ _, .inr ⟨n1, rx, by omega, by omega, by rw [nn_len, z1], z2, p2⟩⟩
      conv => whnf
      refine CallQ.mono (t36 S.next _ zs S2 hh kk.next (fun z q => Nat.lt_trans (z3 z q) (by decide)) (by omega)) ?_
      rintro r S3 ⟨t3, rfl⟩
      rw [z5]
      conv => whnf
      exact ⟨t3.keep kk hh, rfl⟩
    have h5 : i < ys.length := by omega
    have my : S2.mem n2 = some (.cells (nn .u64 ys ++ ry)) := by rw [k2 n2 (by omega)]; exact q1
    have hlt : i < zs.length := by omega
    have hyb := q5 ys[i] (List.getElem_mem h5)
    have hzb : zs[i] < 1000000000 := by rw [getD_get hlt, z4 i (Nat.le_refl _), ← getD_get (by omega : i < xs.length)]; exact p5 _ (List.getElem_mem _)
    have hst := add_step (y := ys[i]) hlt z5
    rw [← valB_take_succ 1000000000 ys i h5] at hst
    conv => whnf
    refine ⟨by omega, by omega, ?_⟩
    conv => whnf
    refine ld_nn my h5 (off_nat i) ?_
    generalize ys[i] = y at *
    conv => whnf
    refine ⟨by omega, by omega, ?_⟩
    conv => whnf
    refine ld_nn z2 hlt (off_nat i) ?_
    generalize zs[i] = z at *
    conv => whnf
    refine ⟨by omega, by omega, ?_⟩
    conv => whnf
    refine st_nn (z + y) z2 hlt (off_nat i) (by rw [wrap_u64 (by omega) (by omega)]; omega) ?_
    conv => whnf
    refine ⟨ys.length - (i + 1), i + 1, by omega, ⟨rfl, h5, hn, fun j hj => by rw [← k2 j hj]; exact mem_set_ne rfl hj, zs.set i (z + y), by simp [z1], mem_set _ _ _, mem_set_lt z3 (by omega), fun j hj => by rw [getD_set_ne (by omega)]; exact z4 j (by omega), hst⟩, ⟨rfl, rfl, rfl, by rw [wrap_i64 (by omega) (by omega)]; rfl, trivial⟩⟩
theorem sub_step {zs ys : List Nat} {i o o2 v y V : Nat} (h : i < zs.length) (hy : y = ys.getD i 0) (hv : v + o + y = zs[i] + 1000000000 * o2) (e : valB 1000000000 zs + valB 1000000000 (ys.take i) = V + 1000000000 ^ i * o) :
    valB 1000000000 (zs.set i v) + valB 1000000000 (ys.take (i + 1)) = V + 1000000000 ^ (i + 1) * o2 := by
  have h1 := valB_set 1000000000 zs i v h
  have h2 := congrArg (1000000000 ^ i * ·) hv
  simp only [Nat.mul_add] at h2
  rw [← Nat.mul_assoc _ 1000000000] at h2
  have h3 : valB 1000000000 (ys.take (i + 1)) = valB 1000000000 (ys.take i) + 1000000000 ^ i * y := by
    rcases Nat.lt_or_ge i ys.length with q | q
    · rw [valB_take_succ _ _ _ q, hy, getD_get q]
    · rw [hy, List.take_of_length_le q, List.take_of_length_le (by omega)]
      simp [List.getD, List.getElem?_eq_none q]
  rw [h3, Nat.pow_succ]
  omega
/-- What may be taken from what. -/
def subOk (a b : List UInt8) : Bool := rightS a && rightS b && !decide (ordS a b < 0)
theorem t27 (a b : List UInt8) (ha : a.length ≤ 2 ^ 47) (hb : b.length ≤ 2 ^ 47) (S : St) : CallQ Tryd.prog (NC true) 27 [.str a, .str b] S fun r S1 => Keep S S1 ∧ r = .tuple [.str (arS (subOk a b) (valD a - valD b)), .int .i64 (arE (subOk a b) (valD a - valD b))] := by
  refine CallQ.of rfl (by kernel_rfl : Tryd.prog.funcs[27]? = some Tryd.f27) rfl (by decide) ?_
  conv => whnf
  refine CallQ.mono (t50 true a b ha hb S) ?_
  rintro r S1 ⟨k1, ⟨hra, hrb, n1, n2, xs, ys, rfl, r1, r2⟩ | ⟨hn, rfl⟩⟩
  rotate_left
  · unfold subOk
    rw [hn]
    conv => whnf
    exact ⟨k1, rfl⟩
  have l1 := r1.lim hra
  have l2 := r2.lim hrb
  obtain ⟨rx, p1, p2, p3, p4, p5, p6, p7⟩ := r1
  obtain ⟨ry, q1, q2, q3, q4, q5, q6, q7⟩ := r2
  conv => whnf
  refine CallQ.mono (t48 true a b ha hb S1) ?_
  rintro r S2 ⟨rfl, rfl⟩
  conv => whnf
  refine br (fun h0 => ?_) (fun h0 => ?_)
  · conv => whnf
    exact ⟨k1, by unfold subOk; rw [decide_eq_true h0, Bool.not_true, Bool.and_false]; rfl⟩
  have hok : subOk a b = true := by unfold subOk; rw [hra, hrb, decide_eq_false h0]; rfl
  rw [hok]
  have hle := (ord_val hra hrb).2 h0
  have hll : ys.length ≤ xs.length := by
    have : b.length ≤ a.length := by
      rcases Nat.lt_or_ge a.length b.length with q | q
      · exact absurd (show ordS a b < 0 by unfold ordS; rw [if_neg (by omega), if_pos q]; decide) h0
      · exact q
    omega
  conv => whnf
  refine CodeQ.loop (fun (q : Nat × Nat) => pat 67 [(6, .hnd n1 0 xs.length 1), (7, .hnd n2 0 ys.length 1), (9, .int .u64 q.2), (28, .int .i64 xs.length), (29, .int .i64 q.1)])
    (fun m q S3 => m = xs.length - q.1 ∧ q.1 ≤ xs.length ∧ S3.next = S2.next ∧ (∀ j, j ≠ n1 → S3.mem j = S2.mem j) ∧ q.2 ≤ 1 ∧ ∃ zs : List Nat, zs.length = xs.length ∧ S3.mem n1 = some (.cells (nn .u64 zs ++ rx)) ∧ (∀ z ∈ zs, z < 1000000000) ∧ valB 1000000000 zs + valB 1000000000 (ys.take q.1) = valB 1000000000 xs + 1000000000 ^ q.1 * q.2)
    ?_ _ (0, 0) _ _ ⟨rfl, Nat.zero_le _, rfl, fun _ _ => rfl, by decide, xs, rfl, p1, p5, by simp [valB]⟩ ⟨rfl, rfl, rfl, rfl, rfl, trivial⟩
  rintro m ⟨i, o⟩ S3 d ⟨rfl, hi, hn, k3, ho, zs, z1, z2, z3, z5⟩
  dsimp only at *
  conv => whnf
  refine br (fun h5 => ?_) (fun h5 => ?_)
  rotate_left
  · obtain rfl : i = xs.length := by omega
    rw [List.take_of_length_le hll, p6, q6] at z5
    have hlt := valB_lt z3
    rw [z1] at hlt
    have ho0 : o = 0 := by
      rcases Nat.eq_zero_or_pos o with q | q
      · exact q
      · have : o = 1 := by omega
        subst this
        omega
    subst ho0
    have z6 : valB 1000000000 zs = valD a - valD b := by omega
    have kk : Keep S S3 := ⟨by have := k1.next; omega, fun j hj => by rw [k3 j (by omega)]; exact k1.mem j hj⟩
    have hh : HdB S.next S3 (.hnd n1 0 xs.length 1) (nn .u64 zs) := ⟨nn_nums _ _, .inr ⟨n1, rx, by omega, by omega, by rw [nn_len, z1], z2, p2⟩⟩
    conv => whnf
    refine CallQ.mono (t36 S.next _ zs S3 hh kk.next (fun z q => Nat.lt_trans (z3 z q) (by decide)) (by omega)) ?_
    rintro r S4 ⟨t3, rfl⟩
    rw [z6]
    conv => whnf
    exact ⟨t3.keep kk hh, rfl⟩
  have h5 : i < xs.length := by omega
  have hlt : i < zs.length := by omega
  have hzb := z3 zs[i] (List.getElem_mem hlt)
  have hst := fun (v o2 y : Nat) (hy : y = ys.getD i 0) (hv : v + o + y = zs[i] + 1000000000 * o2) => sub_step (ys := ys) (v := v) (o2 := o2) hlt hy hv z5
  have my : S3.mem n2 = some (.cells (nn .u64 ys ++ ry)) := by rw [k3 n2 (by omega)]; exact q1
  conv => whnf
  refine br (fun h6 => ?_) (fun h6 => ?_)
  · have h6 : i < ys.length := by omega
    have hyb := q5 ys[i] (List.getElem_mem h6)
    have hyy : ys[i] = ys.getD i 0 := getD_get h6
    conv => whnf
    refine ⟨by omega, by omega, ?_⟩
    conv => whnf
    refine ld_nn my h6 (off_nat i) ?_
    generalize ys[i] = y at *
    have wy : IntKind.u64.wrap ((o : Int) + (y : Int)) = ((o + y : Nat) : Int) := by rw [wrap_u64 (by omega) (by omega)]; omega
    conv => whnf
    rw [wy]
    conv => whnf
    refine ⟨by omega, by omega, ?_⟩
    conv => whnf
    refine ld_nn z2 hlt (off_nat i) ?_
    generalize hz : zs[i] = z at *
    conv => whnf
    refine br (fun h7 => ?_) (fun h7 => ?_)
    · conv => whnf
      refine ⟨by omega, by omega, ?_⟩
      conv => whnf
      refine ld_nn z2 hlt (off_nat i) ?_
      rw [hz]
      conv => whnf
      refine ⟨by omega, by omega, ?_⟩
      conv => whnf
      refine st_nn (z + 1000000000) z2 hlt (off_nat i) (by rw [wrap_u64 (by omega) (by omega)]; omega) ?_
      conv => whnf
      refine ⟨by omega, by omega, ?_⟩
      conv => whnf
      have hlt2 : i < (zs.set i (z + 1000000000)).length := by simpa using hlt
      refine ld_nn (mem_set _ _ _) hlt2 (off_nat i) ?_
      rw [List.getElem_set_self]
      conv => whnf
      refine ⟨by omega, by omega, ?_⟩
      conv => whnf
      refine st_nn (z + 1000000000 - (o + y)) (mem_set _ _ _) hlt2 (off_nat i) (by rw [wrap_u64 (by omega) (by omega)]; omega) ?_
      conv => whnf
      have hs := hst (z + 1000000000 - (o + y)) 1 y hyy (by omega)
      refine ⟨xs.length - (i + 1), (i + 1, 1), by omega, ⟨rfl, h5, hn, fun j hj => by rw [← k3 j hj]; exact mem_set_ne (mem_set_ne rfl hj) hj, Nat.le_refl 1, (zs.set i (z + 1000000000)).set i (z + 1000000000 - (o + y)), by simp [z1], mem_set _ _ _, ?_, ?_⟩, ⟨rfl, rfl, rfl, rfl, by rw [wrap_i64 (by omega) (by omega)]; rfl, trivial⟩⟩
      · rw [List.set_set]; exact mem_set_lt z3 (by omega)
      · rw [List.set_set]; exact hs
    · conv => whnf
      refine ⟨by omega, by omega, ?_⟩
      conv => whnf
      refine ld_nn z2 hlt (off_nat i) ?_
      rw [hz]
      conv => whnf
      refine ⟨by omega, by omega, ?_⟩
      conv => whnf
      refine st_nn (z - (o + y)) z2 hlt (off_nat i) (by rw [wrap_u64 (by omega) (by omega)]; omega) ?_
      conv => whnf
      have hs := hst (z - (o + y)) 0 y hyy (by omega)
      refine ⟨xs.length - (i + 1), (i + 1, 0), by omega, ⟨rfl, h5, hn, fun j hj => by rw [← k3 j hj]; exact mem_set_ne rfl hj, Nat.zero_le 1, zs.set i (z - (o + y)), by simp [z1], mem_set _ _ _, mem_set_lt z3 (by omega), hs⟩, ⟨rfl, rfl, rfl, rfl, by rw [wrap_i64 (by omega) (by omega)]; rfl, trivial⟩⟩
  · obtain ⟨y, hy0, hyy⟩ : ∃ y, y = 0 ∧ y = ys.getD i 0 := ⟨0, rfl, by simp [List.getD, List.getElem?_eq_none (show ys.length ≤ i by omega)]⟩
    have wy : ((o : Nat) : Int) = ((o + y : Nat) : Int) := by omega
    rw [wy]
    conv => whnf
    refine ⟨by omega, by omega, ?_⟩
    conv => whnf
    refine ld_nn z2 hlt (off_nat i) ?_
    generalize hz : zs[i] = z at *
    conv => whnf
    refine br (fun h7 => ?_) (fun h7 => ?_)
    · conv => whnf
      refine ⟨by omega, by omega, ?_⟩
      conv => whnf
      refine ld_nn z2 hlt (off_nat i) ?_
      rw [hz]
      conv => whnf
      refine ⟨by omega, by omega, ?_⟩
      conv => whnf
      refine st_nn (z + 1000000000) z2 hlt (off_nat i) (by rw [wrap_u64 (by omega) (by omega)]; omega) ?_
      conv => whnf
      refine ⟨by omega, by omega, ?_⟩
      conv => whnf
      have hlt2 : i < (zs.set i (z + 1000000000)).length := by simpa using hlt
      refine ld_nn (mem_set _ _ _) hlt2 (off_nat i) ?_
      rw [List.getElem_set_self]
      conv => whnf
      refine ⟨by omega, by omega, ?_⟩
      conv => whnf
      refine st_nn (z + 1000000000 - (o + y)) (mem_set _ _ _) hlt2 (off_nat i) (by rw [wrap_u64 (by omega) (by omega)]; omega) ?_
      conv => whnf
      have hs := hst (z + 1000000000 - (o + y)) 1 y hyy (by omega)
      refine ⟨xs.length - (i + 1), (i + 1, 1), by omega, ⟨rfl, h5, hn, fun j hj => by rw [← k3 j hj]; exact mem_set_ne (mem_set_ne rfl hj) hj, Nat.le_refl 1, (zs.set i (z + 1000000000)).set i (z + 1000000000 - (o + y)), by simp [z1], mem_set _ _ _, ?_, ?_⟩, ⟨rfl, rfl, rfl, rfl, by rw [wrap_i64 (by omega) (by omega)]; rfl, trivial⟩⟩
      · rw [List.set_set]; exact mem_set_lt z3 (by omega)
      · rw [List.set_set]; exact hs
    · conv => whnf
      refine ⟨by omega, by omega, ?_⟩
      conv => whnf
      refine ld_nn z2 hlt (off_nat i) ?_
      rw [hz]
      conv => whnf
      refine ⟨by omega, by omega, ?_⟩
      conv => whnf
      refine st_nn (z - (o + y)) z2 hlt (off_nat i) (by rw [wrap_u64 (by omega) (by omega)]; omega) ?_
      conv => whnf
      have hs := hst (z - (o + y)) 0 y hyy (by omega)
      refine ⟨xs.length - (i + 1), (i + 1, 0), by omega, ⟨rfl, h5, hn, fun j hj => by rw [← k3 j hj]; exact mem_set_ne rfl hj, Nat.zero_le 1, zs.set i (z - (o + y)), by simp [z1], mem_set _ _ _, mem_set_lt z3 (by omega), hs⟩, ⟨rfl, rfl, rfl, rfl, by rw [wrap_i64 (by omega) (by omega)]; rfl, trivial⟩⟩
end Go.Proofs.YtnbjhgaaollhcaaDoor
namespace Go.Proofs.YtnbjhgaaollhcaaDoor
open Go.Proofs.YtnbjhgaaollhcaaDoor.VM Go.RowKit
set_option maxRecDepth 100000
set_option linter.unusedVariables false
set_option maxHeartbeats 4000000
theorem dec_long800 {n : Nat} (h : 10 ^ 800 ≤ n) : ¬ (decD n).length ≤ 800 := by
  have := dec_long.2 (.inl ⟨by decide, h⟩ : 0 < 800 ∧ 10 ^ 800 ≤ n ∨ 800 = 0)
  omega
/-- Powers. -/
def powOk (b n : Int) : Bool := decide (0 ≤ b ∧ b ≤ 1000000 ∧ 0 ≤ n ∧ n ≤ 4000)
theorem t11 (y n : Int) (S : St) : CallQ Tryd.prog (NC true) 11 [.int .i64 y, .int .i64 n] S fun r S1 => Keep S S1 ∧ r = .tuple [.str (arS (powOk y n) (y.toNat ^ n.toNat)), .int .i64 (arE (powOk y n) (y.toNat ^ n.toNat))] := by
  refine CallQ.of rfl (by kernel_rfl : Tryd.prog.funcs[11]? = some Tryd.f11) rfl (by decide) ?_
  conv => whnf
  refine br (fun h1 => ?_) (fun h1 => ?_)
  · conv => whnf
    exact ⟨.refl _, by unfold powOk; rw [decide_eq_false (by omega)]; rfl⟩
  conv => whnf
  refine br (fun h2 => ?_) (fun h2 => ?_)
  · conv => whnf
    exact ⟨.refl _, by unfold powOk; rw [decide_eq_false (by omega)]; rfl⟩
  conv => whnf
  refine br (fun h3 => ?_) (fun h3 => ?_)
  · conv => whnf
    exact ⟨.refl _, by unfold powOk; rw [decide_eq_false (by omega)]; rfl⟩
  conv => whnf
  refine br (fun h4 => ?_) (fun h4 => ?_)
  · conv => whnf
    exact ⟨.refl _, by unfold powOk; rw [decide_eq_false (by omega)]; rfl⟩
  have hok : powOk y n = true := decide_eq_true ⟨by omega, by omega, by omega, by omega⟩
  rw [hok]
  obtain ⟨y, rfl⟩ : ∃ z : Nat, y = z := ⟨y.toNat, by omega⟩
  obtain ⟨n, rfl⟩ : ∃ z : Nat, n = z := ⟨n.toNat, by omega⟩
  rw [Int.toNat_natCast, Int.toNat_natCast]
  conv => whnf
  rw [wrap_u64 (by omega) (by omega)]
  have m0 : ((S.new (.cells [.int .u64 1])).new (.cells [.int .u64 y])).mem S.next = some (.cells (nn .u64 [1] ++ [])) := mem_new_ne (mem_new _ _) (by show S.next ≠ S.next + 1; omega)
  have m1 : ((S.new (.cells [.int .u64 1])).new (.cells [.int .u64 y])).mem (S.next + 1) = some (.cells (nn .u64 [y] ++ [])) := mem_new _ _
  have hp1 : placesB 1000000000 (y ^ 0) = [1] := by rw [Nat.pow_zero, placesB_pos (by decide) (by decide), Nat.mod_eq_of_lt (by decide), Nat.div_eq_of_lt (by decide), placesB_zero]
  have hh0 : HdB S.next ((S.new (.cells [.int .u64 1])).new (.cells [.int .u64 y])) (.hnd S.next 0 1 1) (nn .u64 (placesB 1000000000 (y ^ 0))) := by
    rw [hp1]
    exact ⟨nn_nums _ _, .inr ⟨S.next, [], Nat.le_refl _, by show S.next < S.next + 1 + 1; omega, rfl, m0, .nil⟩⟩
  have hk0 : Keep S ((S.new (.cells [.int .u64 1])).new (.cells [.int .u64 y])) := ((Keep.refl S).new _).new _
  refine CodeQ.loop (fun (q : AV × Nat) => pat 40 [(6, q.1), (7, .hnd (S.next + 1) 0 1 1), (26, .int .i64 n), (27, .int .i64 q.2)])
    (fun m q S1 => m = n - q.2 ∧ q.2 ≤ n ∧ Keep S S1 ∧ S.next + 1 < S1.next ∧ S1.mem (S.next + 1) = some (.cells (nn .u64 [y] ++ [])) ∧ HdB S.next S1 q.1 (nn .u64 (placesB 1000000000 (y ^ q.2))) ∧ (placesB 1000000000 (y ^ q.2)).length ≤ 89)
    ?_ _ (.hnd S.next 0 1 1, 0) _ _ ⟨rfl, Nat.zero_le _, hk0, by show S.next + 1 < S.next + 1 + 1; omega, m1, hh0, by rw [hp1]; decide⟩ ⟨rfl, rfl, rfl, rfl, trivial⟩
  clear m0 m1 hh0 hk0
  rintro m ⟨v, i⟩ S1 d ⟨rfl, hi, k1, n1, mb, hv, hl⟩
  dsimp only at *
  conv => whnf
  refine br (fun h5 => ?_) (fun h5 => ?_)
  rotate_left
  · obtain rfl : i = n := by omega
    conv => whnf
    refine CallQ.mono (t36 S.next v _ S1 hv k1.next (fun z q => Nat.lt_trans (placesB_lt (by decide) _ z q) (by decide)) (by omega)) ?_
    rintro r S3 ⟨t3, rfl⟩
    rw [valB_places (by decide)]
    conv => whnf
    exact ⟨t3.keep k1 hv, rfl⟩
  have h5 : i < n := by omega
  conv => whnf
  refine CallQ.mono (t35 true S.next v _ [y] (S.next + 1) [] S1 hv mb n1 (placesB_lt (by decide) _) (by simp; omega) (by omega) (by simp)) ?_
  rintro r S2 ⟨g1, k2⟩
  rw [valB_places (by decide), valB_one, show y ^ i * y = y ^ (i + 1) from rfl] at g1
  have g2 := g1.low k1.next
  have kk := k1.trans k2
  have mb2 : S2.mem (S.next + 1) = some (.cells (nn .u64 [y] ++ [])) := by rw [k2.mem _ n1]; exact mb
  have hn2 := k2.next
  have hbig : 89 < (placesB 1000000000 (y ^ (i + 1))).length → arS true (y ^ n) = [] ∧ arE true (y ^ n) = 11 := fun q => by
    have h1 := places_len_ge (b := 1000000000) (by decide) 89 _ q
    have h2 : y ^ (i + 1) ≤ y ^ n := by
      rcases Nat.eq_zero_or_pos y with e | e
      · subst e
        rw [Nat.zero_pow (by omega)] at h1
        exact absurd h1 (by decide +kernel)
      · exact Nat.pow_le_pow_right e h5
    have h3 : (10 : Nat) ^ 800 ≤ 1000000000 ^ 89 := by decide +kernel
    have h4 := dec_long800 (Nat.le_trans h3 (Nat.le_trans h1 h2))
    unfold arS arE shortS shortE
    rw [if_pos rfl, if_pos rfl, if_neg h4, if_neg h4]
    exact ⟨rfl, rfl⟩
  obtain ⟨_, ⟨rfl, q⟩ | ⟨n3, r3, p1, p2, rfl, p4, p5⟩⟩ := g1
  · have hl0 : (placesB 1000000000 (y ^ (i + 1))).length = 0 := by rw [List.map_eq_nil_iff.1 q]; rfl
    conv => whnf
    refine br (fun h6 => absurd h6 (by decide)) (fun _ => ?_)
    conv => whnf
    refine ⟨n - (i + 1), (_, i + 1), by omega, ⟨rfl, h5, kk, by omega, mb2, g2, by show (placesB 1000000000 (y ^ (i + 1))).length ≤ 89; omega⟩, ⟨rfl, rfl, rfl, by rw [wrap_i64 (by omega) (by omega)]; rfl, trivial⟩⟩
  · rw [nn_len] at g2 ⊢
    conv => whnf
    refine br (fun h6 => ?_) (fun h6 => ?_)
    · obtain ⟨e1, e2⟩ := hbig (by omega)
      rw [e1, e2]
      conv => whnf
      exact ⟨kk, rfl⟩
    conv => whnf
    refine ⟨n - (i + 1), (_, i + 1), by omega, ⟨rfl, h5, kk, by omega, mb2, g2, by show (placesB 1000000000 (y ^ (i + 1))).length ≤ 89; omega⟩, ⟨rfl, rfl, rfl, by rw [wrap_i64 (by omega) (by omega)]; rfl, trivial⟩⟩
/-- Bytes' number. -/
def bstep (n : Nat) (c : UInt8) : Nat := n * 256 + c.toNat
def valY (bs : List UInt8) : Nat := bs.foldl bstep 0
theorem valY_lt : ∀ bs : List UInt8, valY bs < 256 ^ bs.length := by
  have key : ∀ (bs : List UInt8) (m k : Nat), m < 256 ^ k → bs.foldl bstep m < 256 ^ (k + bs.length) := by
    intro bs
    induction bs with
    | nil => intro m k h; exact h
    | cons c bs ih =>
      intro m k h
      have hc := c.toNat_lt
      have := ih (bstep m c) (k + 1) (by unfold bstep; rw [Nat.pow_succ]; omega)
      rw [List.foldl_cons, List.length_cons]
      rwa [show k + (bs.length + 1) = k + 1 + bs.length by omega]
  intro bs
  have := key bs 0 0 (by decide)
  rwa [Nat.zero_add] at this
theorem valY_take (s : List UInt8) (i : Nat) (h : i < s.length) : valY (s.take (i + 1)) = valY (s.take i) * 256 + (s.getD i 0).toNat := by
  unfold valY
  rw [List.take_succ_eq_append_getElem h, List.foldl_append, List.getD_eq_getElem?_getD, List.getElem?_eq_getElem h]
  rfl
def bytesOk (bs : List UInt8) : Bool := decide (bs.length ≤ 400)
/-- The number of bytes, if they are not too many. -/
def fromS (bs : List UInt8) : List UInt8 := if bs.length ≤ 400 then shortS (valY bs) else []
def fromE (bs : List UInt8) : Int := if bs.length ≤ 400 then shortE (valY bs) else 11
theorem places_mul {n m k : Nat} (h : (placesB 1000000000 n).length ≤ k) (hm : m < 1000000000) : (placesB 1000000000 (n * m)).length ≤ k + 1 := by
  refine places_len (by decide) (k + 1) _ ?_
  have := valB_lt (placesB_lt (b := 1000000000) (by decide) n)
  rw [valB_places (by decide)] at this
  have h2 := Nat.pow_le_pow_right (show 0 < 1000000000 by decide) h
  rw [Nat.pow_succ]
  exact Nat.mul_lt_mul'' (Nat.lt_of_lt_of_le this h2) hm
theorem t16 (v0 : AV) (bs : List UInt8) (hv0 : Elems v0 (bs.map u8)) (hbl : bs.length ≤ 2 ^ 47) (S : St) : CallQ Tryd.prog (NC true) 16 [v0] S fun r S1 => Keep S S1 ∧ r = .tuple [.str (fromS bs), .int .i64 (fromE bs)] := by
  rcases hv0 with ⟨rfl, q⟩ | ⟨tp, rfl⟩
  · obtain rfl : bs = [] := List.map_eq_nil_iff.1 q
    refine CallQ.of rfl (by kernel_rfl : Tryd.prog.funcs[16]? = some Tryd.f16) rfl (by decide) ?_
    conv => whnf
    refine br (fun h6 => absurd h6 (by decide)) (fun _ => ?_)
    conv => whnf
    refine CodeQ.round ?_
    conv => whnf
    refine br (fun h6 => absurd h6 (by decide)) (fun _ => ?_)
    conv => whnf
    refine CallQ.mono (t36 S.next .nils [] S (HdB.nil _ _) (Nat.le_refl _) (by simp) (by simp)) ?_
    rintro r S3 ⟨t3, rfl⟩
    conv => whnf
    exact ⟨t3.keep (.refl _) (HdB.nil _ _), rfl⟩
  have hlm : (bs.map u8).length = bs.length := by simp
  refine CallQ.of rfl (by kernel_rfl : Tryd.prog.funcs[16]? = some Tryd.f16) rfl (by decide) ?_
  conv => whnf
  rw [hlm]
  refine br (fun h6 => ?_) (fun h6 => ?_)
  · conv => whnf
    exact ⟨.refl _, by unfold fromS fromE; rw [if_neg (by omega), if_neg (by omega)]; rfl⟩
  have hle : bs.length ≤ 400 := by omega
  have e1 : fromS bs = shortS (valY bs) := if_pos hle
  have e2 : fromE bs = shortE (valY bs) := if_pos hle
  rw [e1, e2]
  conv => whnf
  have hpl : ∀ i, (placesB 1000000000 (valY (bs.take i))).length ≤ 400 := fun i => by
    refine places_len (by decide) 400 _ (Nat.lt_of_lt_of_le (valY_lt _) ?_)
    refine Nat.le_trans (Nat.pow_le_pow_right (by decide) (show (bs.take i).length ≤ 400 by simp; omega)) (by decide +kernel)
  refine CodeQ.loop (fun (q : AV × Nat) => pat 27 [(4, q.1), (10, .lst (bs.map u8) tp), (11, .int .i64 bs.length), (12, .int .i64 q.2)])
    (fun m q S1 => m = bs.length - q.2 ∧ q.2 ≤ bs.length ∧ Keep S S1 ∧ HdB S.next S1 q.1 (nn .u64 (placesB 1000000000 (valY (bs.take q.2)))))
    ?_ _ (.nils, 0) _ _ ⟨rfl, Nat.zero_le _, .refl _, by rw [List.take_zero, show valY [] = 0 from rfl, placesB_zero]; exact HdB.nil _ _⟩ ⟨rfl, rfl, by rw [← hlm], rfl, trivial⟩
  rintro m ⟨v, i⟩ S1 d ⟨rfl, hi, k1, hv⟩
  dsimp only at *
  conv => whnf
  refine br (fun h5 => ?_) (fun h5 => ?_)
  rotate_left
  · obtain rfl : i = bs.length := by omega
    rw [List.take_length] at hv
    have hpl2 := hpl bs.length
    rw [List.take_length] at hpl2
    conv => whnf
    refine CallQ.mono (t36 S.next v _ S1 hv k1.next (fun z q => Nat.lt_trans (placesB_lt (by decide) _ z q) (by decide)) (by omega)) ?_
    rintro r S3 ⟨t3, rfl⟩
    rw [valB_places (by decide)]
    conv => whnf
    exact ⟨t3.keep k1 hv, rfl⟩
  have h5 : i < bs.length := by omega
  conv => whnf
  refine ⟨by omega, u8 (bs.getD i 0), by simp [h5, List.getD], rfl, ?_⟩
  conv => whnf
  have hpi := hpl i
  have n1 := k1.next
  refine CallQ.mono (t35 true S.next v _ [256] S1.next [] (S1.new (.cells [.int .u64 256])) (hv.keep ((Keep.refl S1).new _)) (mem_new _ _) (by show S1.next < S1.next + 1; omega) (placesB_lt (by decide) _) (by simp) (by omega) (by simp)) ?_
  rintro r S2 ⟨g1, k2⟩
  have k3 := (k1.new (.cells [.int .u64 256])).trans k2
  rw [valB_places (by decide), valB_one] at g1
  have hpl3 := places_mul (m := 256) hpi (by decide)
  have hc := (bs.getD i 0).toNat_lt
  conv => whnf
  rw [wrap_u64 (by omega) (by omega)]
  refine CallQ.mono (t42 true _ r _ (bs.getD i 0).toNat S2 g1 (placesB_lt (by decide) _) (by omega) (by omega)) ?_
  rintro r4 S4 ⟨k4, g4⟩
  rw [valB_places (by decide), ← valY_take bs i h5] at g4
  conv => whnf
  refine ⟨bs.length - (i + 1), (r4, i + 1), by omega, ⟨rfl, h5, k3.trans k4, g4.low k3.next⟩, ⟨rfl, rfl, rfl, by rw [wrap_i64 (by omega) (by omega)]; rfl, trivial⟩⟩
end Go.Proofs.YtnbjhgaaollhcaaDoor
namespace Go.Proofs.YtnbjhgaaollhcaaDoor
open Go.Proofs.YtnbjhgaaollhcaaDoor.VM Go.RowKit
set_option maxRecDepth 100000
set_option linter.unusedVariables false
set_option maxHeartbeats 4000000
/-- A written list, whole in its array, or none. -/
def HdX (b : Nat) (S : St) (v : AV) (xs : List AV) : Prop := Nums xs ∧ ((v = .nils ∧ xs = []) ∨ ∃ n, b ≤ n ∧ n < S.next ∧ v = .hnd n 0 xs.length 1 ∧ S.mem n = some (.cells xs))
theorem HdX.hdB {b : Nat} {S : St} {v : AV} {xs : List AV} (h : HdX b S v xs) : HdB b S v xs := by
  obtain ⟨h0, h1 | ⟨n, h1, h2, h3, h4⟩⟩ := h
  · exact ⟨h0, .inl h1⟩
  · exact ⟨h0, .inr ⟨n, [], h1, h2, h3, by rw [List.append_nil]; exact h4, .nil⟩⟩
theorem HdX.keep {b : Nat} {S S1 : St} {v : AV} {xs : List AV} (h : HdX b S v xs) (k : Keep S S1) : HdX b S1 v xs := by
  obtain ⟨h0, h1 | ⟨n, h1, h2, h3, h4⟩⟩ := h
  · exact ⟨h0, .inl h1⟩
  · exact ⟨h0, .inr ⟨n, h1, Nat.lt_of_lt_of_le h2 k.next, h3, by rw [k.mem n h2]; exact h4⟩⟩
/-- .. as its cells tell. -/
def HdC (b : Nat) (S : St) (v : AV) (xs : List AV) : Prop := (v = .nils ∧ xs = []) ∨ ∃ n, b ≤ n ∧ n < S.next ∧ v = .hnd n 0 xs.length 1 ∧ S.cells n = some xs
theorem HdC.keep {b : Nat} {S S1 : St} {v : AV} {xs : List AV} (h : HdC b S v xs) (k : Keep S S1) : HdC b S1 v xs := by
  obtain h1 | ⟨n, h1, h2, h3, h4⟩ := h
  · exact .inl h1
  · exact .inr ⟨n, h1, Nat.lt_of_lt_of_le h2 k.next, h3, by rw [kcells k h2]; exact h4⟩
theorem HdC.shed {b : Nat} {S : St} {v : AV} {xs : List AV} (h : HdC b S v xs) : v.shed = v := by
  obtain ⟨rfl, rfl⟩ | ⟨n, _, _, rfl, _⟩ := h <;> rfl
theorem rev_hdX (h : Bool) (b : Nat) (v : AV) (xs : List AV) (S : St) (hv : HdX b S v xs) (hl : xs.length ≤ 2 ^ 40) : CallQ Tryd.prog (NC h) 47 [v] S fun r S1 => HdC b S1 v xs.reverse ∧ Turn S S1 v := by
  obtain ⟨h0, ⟨rfl, rfl⟩ | ⟨n, h1, h2, rfl, h4⟩⟩ := hv
  · refine CallQ.of rfl (by kernel_rfl : Tryd.prog.funcs[47]? = some Tryd.f47) rfl (by decide) ?_
    conv => whnf
    refine CodeQ.round ?_
    conv => whnf
    refine br (fun q => absurd q (by decide)) (fun _ => ?_)
    conv => whnf
    exact ⟨.inl ⟨rfl, rfl⟩, .refl _ _⟩
  · refine CallQ.mono (t47 h xs (fun x hx => List.all_eq_true.1 h0.leaf x hx) n 0 S (cells_of_mem h4) hl) ?_
    rintro r S1 ⟨e1, e2, e3⟩
    exact ⟨.inr ⟨n, h1, by omega, by simp, e2⟩, by omega, fun j hj hne => e3 j fun q => hne xs.length (by rw [q])⟩
/-- A written list of bytes as a text. -/
theorem conv_hdC {b : Nat} {S : St} {v : AV} {bs : List UInt8} (h : HdC b S v (bs.map u8)) : convertA Tryd.prog S 34 9 v = some (.str bs) := by
  obtain ⟨rfl, q⟩ | ⟨n, _, _, rfl, q⟩ := h
  · obtain rfl : bs = [] := List.map_eq_nil_iff.1 q
    rfl
  · exact conv_hnd bs q (by simp)
/-- A number's bytes, the highest first. -/
def lowY (n : Nat) : List UInt8 := (placesB 256 n).map UInt8.ofNat
def beY (n : Nat) : List UInt8 := (lowY n).reverse
theorem lowY_zero : lowY 0 = [] := by unfold lowY; rw [placesB_zero]; rfl
theorem lowY_pos {n : Nat} (h : n ≠ 0) : lowY n = UInt8.ofNat (n % 256) :: lowY (n / 256) := by unfold lowY; rw [placesB_pos (by decide) h]; rfl
theorem wrap_mod256 (n : Nat) : IntKind.u8.wrap ((n % 256 : Nat) : Int) = ((UInt8.ofNat (n % 256)).toNat : Int) := wrap_u8_nat _
theorem t18 (s : List UInt8) (hl : s.length ≤ 2 ^ 47) (S : St) : CallQ Tryd.prog (NC true) 18 [.str s] S fun r S1 => Keep S S1 ∧
    ((rightS s = false ∧ r = .tuple [.nils, .int .i64 1]) ∨ (rightS s = true ∧ ∃ w, r = .tuple [w, .int .i64 0] ∧ HdC S.next S1 w ((beY (valD s)).map u8))) := by
  refine CallQ.of rfl (by kernel_rfl : Tryd.prog.funcs[18]? = some Tryd.f18) rfl (by decide) ?_
  conv => whnf
  refine CallQ.mono (t33 true s hl S) ?_
  rintro r S1 ⟨k1, rfl⟩
  cases hr : rightS s
  · conv => whnf
    exact ⟨k1, .inl ⟨rfl, rfl⟩⟩
  conv => whnf
  refine CallQ.mono (read_right true s hr S1) ?_
  rintro r S2 ⟨k2, n1, xs, rfl, r1⟩
  have l1 := r1.lim hr
  have d1 := r1.hdB
  obtain ⟨rest, q1, q2, q3, q4, q5, q6, _⟩ := r1
  conv => whnf
  refine CallQ.mono (t46 true S1.next _ xs S2 d1 k2.next (fun z q => Nat.lt_trans (q5 z q) (by decide)) (by omega)) ?_
  rintro v0 S3 ⟨g0, t3⟩
  have k3 : Keep S S3 := k1.trans (t3.keep k2 d1)
  rw [q6] at g0
  have g0 := g0.low k1.next
  have hpl : ∀ q, q ≤ valD s → (placesB 1000000000 q).length ≤ 89 := fun q hq => by
    refine Nat.le_trans (places_len (by decide) xs.length _ ?_) l1.2
    rw [← q6] at hq
    exact Nat.lt_of_le_of_lt hq (valB_lt q5)
  conv => whnf
  have hout : ∀ (S5 : St) (w : AV), Keep S S5 → HdX S.next S5 w ((lowY (valD s)).map u8) → (lowY (valD s)).length ≤ 2 ^ 40 → CallQ Tryd.prog (NC true) 47 [w] S5 fun r S6 => Keep S S6 ∧ HdC S.next S6 w ((beY (valD s)).map u8) := by
    intro S5 w k5 hw hl5
    refine CallQ.mono (rev_hdX true S.next w _ S5 hw (by simpa using hl5)) ?_
    rintro r S6 ⟨g6, t6⟩
    rw [← List.map_reverse] at g6
    exact ⟨t6.keep k5 hw.hdB, g6⟩
  have hyl : (lowY (valD s)).length ≤ 2 ^ 40 := by
    unfold lowY
    rw [List.length_map]
    refine Nat.le_trans (places_len (b := 256) (by decide) (4 * xs.length) _ ?_) (by omega)
    rw [← q6, Nat.pow_mul]
    exact Nat.lt_of_lt_of_le (valB_lt q5) (Nat.pow_le_pow_left (by decide) _)
  refine CodeQ.loop (fun (q : AV × AV × Nat) => pat 29 [(4, q.2.1), (5, q.1)])
    (fun m q S4 => m = q.2.2 ∧ q.2.2 ≤ valD s ∧ Keep S S4 ∧ HdB S.next S4 q.1 (nn .u64 (placesB 1000000000 q.2.2)) ∧ ∃ ds : List UInt8, HdX S.next S4 q.2.1 (ds.map u8) ∧ lowY (valD s) = ds ++ lowY q.2.2 ∧ ∀ n, q.2.1 = .hnd n 0 ds.length 1 → ∀ l, q.1 ≠ .hnd n 0 l 1)
    ?_ _ (v0, .nils, valD s) _ _ ⟨rfl, Nat.le_refl _, k3, g0, [], ⟨.nil, .inl ⟨rfl, rfl⟩⟩, rfl, fun n q => by cases q⟩ ⟨rfl, rfl, trivial⟩
  clear g0 t3 k3 d1 q1 q2 q3 q4 q5 k2
  rintro m ⟨v, w, q⟩ S4 d ⟨hm, hq, k4, hv, ds, hw, hd, hne⟩
  dsimp only at *
  have hp := hpl q hq
  have hvc : (v = .nils ∧ q = 0) ∨ ∃ n rest, S.next ≤ n ∧ n < S4.next ∧ v = .hnd n 0 (placesB 1000000000 q).length 1 ∧ S4.mem n = some (.cells (nn .u64 (placesB 1000000000 q) ++ rest)) := by
    obtain ⟨_, ⟨rfl, e⟩ | ⟨n, rest, p1, p2, rfl, p4, _⟩⟩ := hv
    · left
      have e2 : placesB 1000000000 q = [] := List.map_eq_nil_iff.1 e
      have := valB_places (b := 1000000000) (by decide) q
      rw [e2] at this
      exact ⟨rfl, this.symm⟩
    · exact .inr ⟨n, rest, p1, p2, by rw [nn_len], p4⟩
  have hexit : q = 0 → HdX S.next S4 w ((lowY (valD s)).map u8) := fun e => by
    rw [hd, e, lowY_zero, List.append_nil]; exact hw
  obtain ⟨rfl, rfl⟩ | ⟨n2, rest2, p1, p2, rfl, p4⟩ := hvc
  · conv => whnf
    refine br (fun h6 => absurd h6 (by decide)) (fun _ => ?_)
    conv => whnf
    refine CallQ.mono (hout S4 w k4 (hexit rfl) hyl) ?_
    rintro r S6 ⟨k6, g6⟩
    conv => whnf
    refine ⟨k6, .inr ⟨rfl, w, ?_, g6⟩⟩
    show AV.tuple [w.shed, _] = _
    rw [g6.shed]; rfl
  conv => whnf
  refine br (fun h6 => ?_) (fun h6 => ?_)
  rotate_left
  · have e : q = 0 := by
      rcases Nat.eq_zero_or_pos q with e | e
      · exact e
      · rw [placesB_pos (by decide) (by omega)] at h6; simp at h6
    conv => whnf
    refine CallQ.mono (hout S4 w k4 (hexit e) hyl) ?_
    rintro r S6 ⟨k6, g6⟩
    conv => whnf
    refine ⟨k6, .inr ⟨rfl, w, ?_, g6⟩⟩
    show AV.tuple [w.shed, _] = _
    rw [g6.shed]; rfl
  have hq0 : q ≠ 0 := fun e => by rw [e, placesB_zero] at h6; exact absurd h6 (by decide)
  have e0 := valB_places (b := 1000000000) (by decide) q
  conv => whnf
  refine CallQ.mono (t39 n2 rest2 _ 256 S4 p4 p2 (placesB_lt (by decide) _) (by omega) (by decide) (by decide)) ?_
  rintro r S5 ⟨k5, v5, rfl, g5⟩
  rw [e0] at g5 ⊢
  conv => whnf
  rw [wrap_mod256]
  have k45 := k4.trans k5
  obtain ⟨S6, a1, a2, a3, a4, a5, a6⟩ := HdB.push (S0 := S) (C := NC true) (f := 18) elB rfl (k := .u8) (i := ((UInt8.ofNat (q % 256)).toNat : Nat)) k45 (hw.keep k5).hdB (by have := congrArg List.length hd; simp only [List.length_append, List.length_map] at this ⊢; omega)
  refine ⟨_, S6, a1, ?_⟩
  conv => whnf
  have hw4 : ∀ j l, w = .hnd j 0 l 1 → j < S4.next := by
    intro j l e
    obtain ⟨_, ⟨e2, _⟩ | ⟨n, _, g2, e2, _⟩⟩ := hw
    · rw [e2] at e; cases e
    · rw [e2] at e; cases e; exact g2
  have n45 := k5.next
  refine ⟨q / 256, (v5, _, q / 256), by omega, ⟨rfl, by show q / 256 ≤ _; omega, a3, ?_, ds ++ [UInt8.ofNat (q % 256)], ?_, ?_, ?_⟩, ⟨rfl, rfl, trivial⟩⟩
  · refine (g5.mono (by omega) (fun j hj1 hj2 _ => a6 j hj2 (fun l e => ?_))).low k4.next
    have := hw4 j l e
    omega
  · rw [List.map_append]
    exact ⟨a2.1, .inr ⟨S5.next + 1, by have := k45.next; omega, by omega, rfl, a5⟩⟩
  · rw [hd, lowY_pos hq0]; simp
  · intro j e l e2
    obtain ⟨_, ⟨e3, _⟩ | ⟨n, _, b1, b2, e3, _⟩⟩ := g5
    · rw [e3] at e2; cases e2
    · rw [e3] at e2
      have := (AV.hnd.inj e).1
      have := (AV.hnd.inj e2).1
      omega
end Go.Proofs.YtnbjhgaaollhcaaDoor
