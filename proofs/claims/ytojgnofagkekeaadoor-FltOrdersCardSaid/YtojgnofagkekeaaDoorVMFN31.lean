import Derived.Test.YtojgnofagkekeaaDoorVMFN29
namespace Go.Proofs.YtojgnofagkekeaaDoor
open Go.Proofs.YtojgnofagkekeaaDoor.VM Go.RowKit
set_option maxRecDepth 100000
set_option linter.unusedVariables false
set_option maxHeartbeats 4000000
theorem elI : Elem Tryd.prog 96 3 1 8 false (.int .i64 0) := ⟨by kernel_rfl, by kernel_rfl, by kernel_rfl, by kernel_rfl, by kernel_rfl, rfl, by decide⟩
/-- A read list, in an array of its own. -/
def RdI (b : Nat) (S : St) (n : Nat) (xs : List Nat) : Prop := ∃ rest, S.mem n = some (.cells (nn .i64 xs ++ rest)) ∧ Nums rest ∧ b ≤ n ∧ n < S.next
theorem RdI.hdB {b : Nat} {S : St} {n : Nat} {xs : List Nat} (h : RdI b S n xs) : HdB b S (.hnd n 0 xs.length 1) (nn .i64 xs) := by
  obtain ⟨rest, h1, h2, h3, h4⟩ := h
  exact ⟨nn_nums _ _, .inr ⟨n, rest, h3, h4, by rw [nn_len], h1, h2⟩⟩
theorem RdI.of {b : Nat} {S : St} {v : AV} {xs : List Nat} (h : HdB b S v (nn .i64 xs)) (hne : xs ≠ []) : ∃ n, v = .hnd n 0 xs.length 1 ∧ RdI b S n xs := by
  obtain ⟨_, ⟨rfl, q⟩ | ⟨n, r, p1, p2, rfl, p4, p5⟩⟩ := h
  · exact absurd (List.map_eq_nil_iff.1 q) hne
  · exact ⟨n, by rw [nn_len], r, p4, p5, p1, p2⟩
theorem RdI.keep {b : Nat} {S S1 : St} {n : Nat} {xs : List Nat} (h : RdI b S n xs) (k : Keep S S1) : RdI b S1 n xs := by
  obtain ⟨rest, h1, h2, h3, h4⟩ := h
  exact ⟨rest, (k.mem n h4).trans h1, h2, h3, Nat.lt_of_lt_of_le h4 k.next⟩
theorem RdI.low {b c : Nat} {S : St} {n : Nat} {xs : List Nat} (h : RdI b S n xs) (hc : c ≤ b) : RdI c S n xs := by
  obtain ⟨rest, h1, h2, h3, h4⟩ := h
  exact ⟨rest, h1, h2, by omega, h4⟩
theorem digL_drop (s : List UInt8) (j : Nat) (h : j < s.length) : digL (s.drop j) = digL (s.drop (j + 1)) ++ [(s.getD j 0).toNat - 48] := by
  have e : s.drop j = s.getD j 0 :: s.drop (j + 1) := by
    rw [List.drop_eq_getElem_cons h, List.getD_eq_getElem?_getD, List.getElem?_eq_getElem h]; rfl
  rw [e]
  unfold digL
  simp
theorem t71 (h : Bool) (s : List UInt8) (hl : s.length ≤ 2 ^ 20) (hd : ∀ c ∈ s, 48 ≤ c.toNat ∧ c.toNat ≤ 57) (S : St) : CallQ Tryd.prog (NC h) 71 [.str s] S fun r S1 => Keep S S1 ∧ HdB S.next S1 r (nn .i64 (digL s)) := by
  refine CallQ.of rfl (by kernel_rfl : Tryd.prog.funcs[71]? = some Tryd.f71) rfl (by decide) ?_
  conv => whnf
  rw [wrap_i64 (by omega) (by omega)]
  refine CodeQ.loop (fun (q : AV × Nat) => pat 21 [(0, .str s), (3, q.1), (4, .int .i64 ((q.2 : Int) - 1))])
    (fun m q S1 => m = q.2 ∧ q.2 ≤ s.length ∧ Keep S S1 ∧ HdB S.next S1 q.1 (nn .i64 (digL (s.drop q.2))))
    ?_ _ (.nils, s.length) _ _ ⟨rfl, Nat.le_refl _, .refl _, by rw [List.drop_length]; exact HdB.nil _ _⟩ ⟨rfl, rfl, rfl, trivial⟩
  rintro m ⟨v, j⟩ S1 d ⟨hm, hj, k1, hv⟩
  dsimp only at *
  conv => whnf
  refine br (fun h5 => ?_) (fun h5 => ?_)
  rotate_left
  · obtain rfl : j = 0 := by omega
    conv => whnf
    rw [hv.shed2]
    exact ⟨k1, hv⟩
  obtain ⟨j, rfl⟩ : ∃ i, j = i + 1 := ⟨j - 1, by omega⟩
  have h5 : j < s.length := by omega
  have ej : ((j + 1 : Nat) : Int) - 1 = (j : Int) := by omega
  rw [ej]
  have hc := hd (s.getD j 0) (by rw [List.getD_eq_getElem?_getD, List.getElem?_eq_getElem h5]; exact List.getElem_mem h5)
  conv => whnf
  refine ⟨by omega, s.getD j 0, getd h5, ?_⟩
  generalize hcc : s.getD j 0 = c at *
  have w1 : IntKind.i64.wrap (IntKind.u8.wrap ((c.toNat : Int) - 48)) = ((c.toNat - 48 : Nat) : Int) := by
    rw [wrap_u8 (by omega) (by omega), wrap_i64 (by omega) (by omega)]; omega
  conv => whnf
  rw [w1]
  have hdl : (digL (s.drop (j + 1))).length ≤ s.length := by rw [digL_len]; simp
  obtain ⟨S2, a1, a2, a3, a4, a5, a6⟩ := HdB.push (S0 := S) (C := NC h) (f := 71) elI rfl (k := .i64) (i := ((c.toNat - 48 : Nat) : Int)) k1 hv (by rw [nn_len]; omega)
  refine ⟨_, S2, a1, ?_⟩
  conv => whnf
  refine ⟨j, (_, j), by omega, ⟨rfl, by show j ≤ _; omega, a3, ?_⟩, ⟨rfl, rfl, by rw [wrap_i64 (by omega) (by omega)], trivial⟩⟩
  show HdB S.next S2 _ (nn .i64 (digL (s.drop j)))
  rw [digL_drop s j h5, hcc, nn_app]
  exact a2
/-- What was read of a right text. -/
theorem dig_right (h : Bool) (s : List UInt8) (hr : rightS s = true) (S : St) : CallQ Tryd.prog (NC h) 71 [.str s] S fun r S1 => Keep S S1 ∧ ∃ n, r = .hnd n 0 s.length 1 ∧ RdI S.next S1 n (digL s) := by
  obtain ⟨h1, h2, _⟩ := right_head hr
  refine CallQ.mono (t71 h s (by omega) (right_all hr).2 S) ?_
  rintro r S1 ⟨k, hv⟩
  obtain ⟨n, rfl, q⟩ := RdI.of hv (fun q => by have := congrArg List.length q; rw [digL_len, List.length_nil] at this; omega)
  exact ⟨k, n, by rw [digL_len], q⟩
/-- Digits as bytes. -/
def dB (ds : List Nat) : List UInt8 := ds.map fun d => UInt8.ofNat (48 + d)
theorem dB_app (ds es : List Nat) : dB (ds ++ es) = dB ds ++ dB es := by simp [dB]
theorem dB_len (ds : List Nat) : (dB ds).length = ds.length := by simp [dB]
def b8 (bs : List UInt8) : List AV := bs.map u8
theorem b8_app (bs cs : List UInt8) : b8 (bs ++ cs) = b8 bs ++ b8 cs := by simp [b8]
theorem b8_len (bs : List UInt8) : (b8 bs).length = bs.length := by simp [b8]
theorem b8_get (bs : List UInt8) (rest : List AV) (i : Nat) (h : i < bs.length) : (b8 bs ++ rest)[i]? = some (u8 bs[i]) := by
  rw [List.getElem?_append_left (by rw [b8_len]; exact h)]
  simp [b8, h]
theorem ld_b8 {S : St} {n i : Nat} {bs : List UInt8} {rest : List AV} {off : Nat} {K : AV → Prop} (hm : S.mem n = some (.cells (b8 bs ++ rest))) (hi : i < bs.length) (ho : off = i) (h : K (u8 bs[i])) :
    ∃ cs, S.cells n = some cs ∧ partF false (partA false 1 cs off) K := by
  subst ho
  refine ⟨_, cells_of_mem hm, ?_⟩
  show partF false ((b8 bs ++ rest)[off]?) K
  rw [b8_get bs rest off hi]
  exact h
theorem conv_hdB {b : Nat} {S : St} {v : AV} {bs : List UInt8} (h : HdB b S v (b8 bs)) : convertA Tryd.prog S 79 9 v = some (.str bs) := by
  obtain ⟨_, ⟨rfl, q⟩ | ⟨n, r, _, _, rfl, q, _⟩⟩ := h
  · obtain rfl : bs = [] := List.map_eq_nil_iff.1 q
    rfl
  · show ((S.cells n).bind fun cs => if 1 = 1 ∧ 0 + (b8 bs).length ≤ cs.length then (bytesOfA ((cs.drop 0).take (b8 bs).length)).map AV.str else none) = _
    rw [cells_of_mem q]
    simp only [Option.bind_some, List.drop_zero]
    rw [if_pos ⟨trivial, by simp⟩, List.take_append_of_le_length (Nat.le_refl _), List.take_length]
    unfold b8
    rw [bytesOfA_u8]
    rfl
theorem dig_step (p c e w : Nat) : p * ((c + e) % 10) + p * 10 * ((c + e) / 10 + w) = p * (c + (e + 10 * w)) := by
  have := Nat.mod_add_div (c + e) 10
  rw [Nat.mul_assoc, ← Nat.mul_add]
  congr 1
  omega
theorem t72 (h : Bool) (nv : Nat) (rv : List AV) (xs : List Nat) (S : St) (hm : S.mem nv = some (.cells (nn .i64 xs ++ rv))) (hnv : nv < S.next) (hne : xs ≠ []) (hx : ∀ x ∈ xs, x ≤ 2 ^ 40) (hl : xs.length ≤ 2 ^ 20) :
    CallQ Tryd.prog (NC h) 72 [.hnd nv 0 xs.length 1] S fun r S1 => Keep S S1 ∧ r = .str (decD (valB 10 xs)) := by
  refine CallQ.of rfl (by kernel_rfl : Tryd.prog.funcs[72]? = some Tryd.f72) rfl (by decide) ?_
  conv => whnf
  refine CodeQ.loop (fun (q : AV × Nat × Nat) => pat 74 [(0, .hnd nv 0 xs.length 1), (3, .int .i64 q.2.1), (4, q.1), (5, .int .i64 q.2.2)])
    (fun m q S1 => m = (xs.length - q.2.2) * 2 ^ 50 + q.2.1 ∧ q.2.1 ≤ 2 ^ 41 ∧ Keep S S1 ∧ ∃ ds : List Nat, ds.length = q.2.2 ∧ q.2.2 + q.2.1 ≤ 2 ^ 42 ∧ (∀ d ∈ ds, d < 10) ∧ HdB S.next S1 q.1 (b8 (dB ds)) ∧ valB 10 xs = valB 10 ds + 10 ^ ds.length * (q.2.1 + valB 10 (xs.drop q.2.2)))
    ?_ _ (.nils, 0, 0) _ _ ⟨rfl, by decide, .refl _, [], rfl, by decide, by simp, HdB.nil _ _, by simp [valB]⟩ ⟨rfl, rfl, rfl, rfl, trivial⟩
  rintro m ⟨v, c, i⟩ S1 d ⟨hmm, hc, k1, ds, e1, e2, e3, hv, e4⟩
  dsimp only at *
  conv => whnf
  refine br (fun h5 => ?_) (fun h5 => ?_)
  · have h5 : i < xs.length := by omega
    have m1 : S1.mem nv = some (.cells (nn .i64 xs ++ rv)) := (k1.mem nv hnv).trans hm
    have hxi := hx xs[i] (List.getElem_mem h5)
    rw [List.drop_eq_getElem_cons h5, valB] at e4
    conv => whnf
    refine br (fun _ => ?_) (fun q => absurd (by omega) q)
    conv => whnf
    refine ⟨by omega, by omega, ?_⟩
    conv => whnf
    refine ld_nn m1 h5 (off_nat i) ?_
    generalize xs[i] = e at *
    have w1 : IntKind.i64.wrap ((c : Int) + (e : Int)) = ((c + e : Nat) : Int) := by rw [wrap_i64 (by omega) (by omega)]; omega
    conv => whnf
    rw [w1]
    have w2 : (((c + e) : Nat) : Int).tmod 10 = (((c + e) % 10 : Nat) : Int) := by
      rw [Int.tmod_eq_emod_of_nonneg (by omega)]; omega
    have w3 : IntKind.i64.wrap ((((c + e) : Nat) : Int).tdiv 10) = (((c + e) / 10 : Nat) : Int) := by
      rw [Int.tdiv_eq_ediv_of_nonneg (by omega), wrap_i64 (by omega) (by omega)]; omega
    have w4 : IntKind.u8.wrap (IntKind.i64.wrap (48 + (((c + e) % 10 : Nat) : Int))) = ((UInt8.ofNat (48 + (c + e) % 10)).toNat : Int) := by
      rw [wrap_i64 (by omega) (by omega), show (48 : Int) + (((c + e) % 10 : Nat) : Int) = ((48 + (c + e) % 10 : Nat) : Int) by omega, wrap_u8_nat]
    refine ⟨by decide, ?_⟩
    rw [w2]
    conv => whnf
    rw [w4]
    obtain ⟨S2, a1, a2, a3, a4, a5, a6⟩ := HdB.push (S0 := S) (C := NC h) (f := 72) elB rfl (k := .u8) (i := ((UInt8.ofNat (48 + (c + e) % 10)).toNat : Nat)) k1 hv (by rw [b8_len, dB_len]; omega)
    refine ⟨_, S2, a1, ?_⟩
    conv => whnf
    refine ⟨by decide, ?_⟩
    rw [w3]
    conv => whnf
    refine ⟨(xs.length - (i + 1)) * 2 ^ 50 + (c + e) / 10, (_, (c + e) / 10, i + 1), by omega, ⟨rfl, by show (c + e) / 10 ≤ _; omega, a3, ds ++ [(c + e) % 10], by simp [e1], by show i + 1 + (c + e) / 10 ≤ _; omega, ?_, ?_, ?_⟩, ⟨rfl, rfl, rfl, by rw [wrap_i64 (by omega) (by omega)]; rfl, trivial⟩⟩
    · intro x q
      rcases List.mem_append.1 q with q | q
      · exact e3 x q
      · obtain rfl : x = (c + e) % 10 := by simpa using q
        exact Nat.mod_lt _ (by decide)
    · rw [dB_app, b8_app]; exact a2
    · show valB 10 xs = valB 10 (ds ++ [(c + e) % 10]) + 10 ^ (ds ++ [(c + e) % 10]).length * ((c + e) / 10 + valB 10 (xs.drop (i + 1)))
      rw [e4, valB_snoc, List.length_append, List.length_singleton, Nat.pow_succ, Nat.add_assoc, dig_step]
  have hdr : xs.drop i = [] := List.drop_eq_nil_of_le (by omega)
  rw [hdr] at e4
  conv => whnf
  refine br (fun h6 => ?_) (fun h6 => ?_)
  · conv => whnf
    refine br (fun q => absurd q (by omega)) (fun _ => ?_)
    conv => whnf
    have w2 : ((c : Nat) : Int).tmod 10 = ((c % 10 : Nat) : Int) := by
      rw [Int.tmod_eq_emod_of_nonneg (by omega)]; omega
    have w3 : IntKind.i64.wrap (((c : Nat) : Int).tdiv 10) = ((c / 10 : Nat) : Int) := by
      rw [Int.tdiv_eq_ediv_of_nonneg (by omega), wrap_i64 (by omega) (by omega)]; omega
    have w4 : IntKind.u8.wrap (IntKind.i64.wrap (48 + ((c % 10 : Nat) : Int))) = ((UInt8.ofNat (48 + c % 10)).toNat : Int) := by
      rw [wrap_i64 (by omega) (by omega), show (48 : Int) + ((c % 10 : Nat) : Int) = ((48 + c % 10 : Nat) : Int) by omega, wrap_u8_nat]
    refine ⟨by decide, ?_⟩
    rw [w2]
    conv => whnf
    rw [w4]
    obtain ⟨S2, a1, a2, a3, a4, a5, a6⟩ := HdB.push (S0 := S) (C := NC h) (f := 72) elB rfl (k := .u8) (i := ((UInt8.ofNat (48 + c % 10)).toNat : Nat)) k1 hv (by rw [b8_len, dB_len]; omega)
    refine ⟨_, S2, a1, ?_⟩
    conv => whnf
    refine ⟨by decide, ?_⟩
    rw [w3]
    conv => whnf
    refine ⟨(xs.length - (i + 1)) * 2 ^ 50 + c / 10, (_, c / 10, i + 1), by omega, ⟨rfl, by show c / 10 ≤ _; omega, a3, ds ++ [c % 10], by simp [e1], by show i + 1 + c / 10 ≤ _; omega, ?_, ?_, ?_⟩, ⟨rfl, rfl, rfl, by rw [wrap_i64 (by omega) (by omega)]; rfl, trivial⟩⟩
    · intro x q
      rcases List.mem_append.1 q with q | q
      · exact e3 x q
      · obtain rfl : x = c % 10 := by simpa using q
        exact Nat.mod_lt _ (by decide)
    · rw [dB_app, b8_app]; exact a2
    · show valB 10 xs = valB 10 (ds ++ [c % 10]) + 10 ^ (ds ++ [c % 10]).length * (c / 10 + valB 10 (xs.drop (i + 1)))
      have := dig_step (10 ^ ds.length) c 0 0
      simp only [Nat.add_zero, Nat.mul_zero] at this
      rw [List.drop_eq_nil_of_le (show xs.length ≤ i + 1 by omega), show valB 10 [] = 0 from rfl, Nat.add_zero, List.length_append, List.length_singleton, Nat.pow_succ, valB_snoc, Nat.add_assoc, this, e4]
      rfl
  obtain rfl : c = 0 := by omega
  have e4 : valB 10 xs = valB 10 ds := by rw [e4]; simp [valB]
  have hl1 : 1 ≤ ds.length := by have := List.length_pos_iff.2 hne; omega
  have hl2 : ds.length ≤ 2 ^ 42 := by omega
  obtain ⟨_, ⟨rfl, q⟩ | ⟨n, rest, p1, p2, rfl, p4, p5⟩⟩ := hv
  · have : dB ds = [] := List.map_eq_nil_iff.1 q
    have := congrArg List.length this
    rw [dB_len, List.length_nil] at this; omega
  rw [b8_len, dB_len]
  rw [e4]
  clear e4 h5 h6 hmm hdr hc e1 e2
  conv => whnf
  refine CodeQ.loop (fun (L : Nat) => pat 74 [(4, .hnd n 0 L 1)])
    (fun m L S2 => S2 = S1 ∧ m = L ∧ ∃ fs : List Nat, fs.length = L ∧ 1 ≤ L ∧ L ≤ 2 ^ 42 ∧ (∃ rest, Nums rest ∧ S1.mem n = some (.cells (b8 (dB fs) ++ rest))) ∧ (∀ d ∈ fs, d < 10) ∧ valB 10 ds = valB 10 fs)
    ?_ _ ds.length _ _ ⟨rfl, rfl, ds, rfl, hl1, hl2, ⟨rest, p5, p4⟩, e3, rfl⟩ ⟨rfl, trivial⟩
  clear e3 p4 p5
  rintro m L S2 d2 ⟨rfl, hm2, fs, f1, f2, f3, ⟨rest, f5, f4⟩, f6, f7⟩
  subst f1
  rw [f7]
  conv => whnf
  refine br (fun h5 => ?_) (fun h5 => ?_)
  rotate_left
  · have hcond : fs.length = 1 ∨ fs.getLast? ≠ some 0 := .inl (by omega)
    have hdec : (dB fs).reverse = decD (valB 10 fs) := dec_of fs f6 (fun q => by rw [q] at f2; simp at f2) hcond
    rw [← hdec]
    conv => whnf
    refine CodeQ.loop (fun (q : AV × Nat) => pat 74 [(4, .hnd n 0 fs.length 1), (6, q.1), (7, .int .i64 ((q.2 : Int) - 1))])
      (fun m q S3 => m = q.2 ∧ q.2 ≤ fs.length ∧ Keep S S3 ∧ n < S3.next ∧ S3.mem n = some (.cells (b8 (dB fs) ++ rest)) ∧ HdB (n + 1) S3 q.1 (b8 ((dB fs).drop q.2).reverse))
      ?_ _ (.hnd S2.next 0 0 1, fs.length) _ _ ⟨rfl, Nat.le_refl _, k1.new _, by show n < S2.next + 1; omega, mem_new_ne f4 (by omega), by rw [List.drop_of_length_le (by rw [dB_len]; exact Nat.le_refl _)]; exact ⟨.nil, .inr ⟨S2.next, [], p2, by show S2.next < S2.next + 1; omega, rfl, mem_new _ _, .nil⟩⟩⟩ ⟨rfl, rfl, by rw [wrap_i64 (by omega) (by omega)], trivial⟩
    rintro m ⟨v, j⟩ S3 d3 ⟨hm3, hj, k3, n3, mn, hv⟩
    dsimp only at *
    conv => whnf
    refine br (fun h5 => ?_) (fun h5 => ?_)
    rotate_left
    · obtain rfl : j = 0 := by omega
      rw [List.drop_zero] at hv
      have hcv := conv_hdB hv
      obtain ⟨_, ⟨rfl, q⟩ | ⟨n4, r4, _, _, rfl, q4, _⟩⟩ := hv
      · have : (dB fs).reverse = [] := List.map_eq_nil_iff.1 q
        have := congrArg List.length this
        rw [List.length_reverse, dB_len, List.length_nil] at this; omega
      conv => whnf
      refine brEq (fun q => ?_) (fun _ => ?_)
      · rw [b8_len, List.length_reverse, dB_len] at q; omega
      conv => whnf
      refine ⟨_, hcv, ?_⟩
      conv => whnf
      exact ⟨k3, rfl⟩
    obtain ⟨j, rfl⟩ : ∃ i, j = i + 1 := ⟨j - 1, by omega⟩
    have ej : ((j + 1 : Nat) : Int) - 1 = (j : Int) := by omega
    rw [ej]
    have hjl : j < (dB fs).length := by rw [dB_len]; omega
    conv => whnf
    refine ⟨by omega, by omega, ?_⟩
    conv => whnf
    refine ld_b8 mn hjl (off_nat j) ?_
    conv => whnf
    obtain ⟨S4, a1, a2, a3, a4, a5, a6⟩ := HdB.push (S0 := { S3 with next := n + 1 }) (C := NC h) (f := 72) elB rfl (k := .u8) (i := ((dB fs)[j].toNat : Nat)) (S := S3) ⟨n3, fun _ _ => rfl⟩ hv (by rw [b8_len, List.length_reverse, List.length_drop, dB_len]; omega)
    refine ⟨_, S4, a1, ?_⟩
    conv => whnf
    refine ⟨j, (_, j), by omega, ⟨rfl, by show j ≤ _; omega, ⟨by have := k3.next; omega, fun i hi => by rw [a3.mem i (by show i < n + 1; omega)]; exact k3.mem i hi⟩, by omega, by rw [a3.mem n (Nat.lt_succ_self n)]; exact mn, ?_⟩, ⟨rfl, rfl, by rw [wrap_i64 (by omega) (by omega)], trivial⟩⟩
    show HdB (n + 1) S4 _ (b8 ((dB fs).drop j).reverse)
    rw [List.drop_eq_getElem_cons hjl, List.reverse_cons, b8_app]
    exact a2
  obtain ⟨zs, z, rfl⟩ : ∃ t c, fs = t ++ [c] := ⟨fs.dropLast, fs.getLast (by intro q; subst q; simp at h5), (List.dropLast_concat_getLast _).symm⟩
  have hlen : (zs ++ [z]).length = zs.length + 1 := by simp
  have hz := f6 z (by simp)
  have hlz : zs.length < (dB (zs ++ [z])).length := by rw [dB_len]; omega
  have hgz : (dB (zs ++ [z]))[zs.length] = UInt8.ofNat (48 + z) := by simp [dB]
  have w0 : IntKind.i64.wrap (((zs ++ [z]).length : Int) - 1) = (zs.length : Int) := by rw [wrap_i64 (by omega) (by omega)]; omega
  conv => whnf
  rw [w0]
  refine ⟨by omega, by omega, ?_⟩
  conv => whnf
  refine ld_b8 f4 hlz (off_nat zs.length) ?_
  rw [hgz]
  have hzt : (UInt8.ofNat (48 + z)).toNat = 48 + z := by rw [UInt8.toNat_ofNat']; omega
  conv => whnf
  refine brEq (fun h6 => ?_) (fun h6 => ?_)
  rotate_left
  · have hcond : (zs ++ [z]).length = 1 ∨ (zs ++ [z]).getLast? ≠ some 0 := .inr (by simp; omega)
    have hdec : (dB (zs ++ [z])).reverse = decD (valB 10 (zs ++ [z])) := dec_of (zs ++ [z]) f6 (fun q => by rw [q] at f2; simp at f2) hcond
    rw [← hdec]
    conv => whnf
    refine CodeQ.loop (fun (q : AV × Nat) => pat 74 [(4, .hnd n 0 (zs ++ [z]).length 1), (6, q.1), (7, .int .i64 ((q.2 : Int) - 1))])
      (fun m q S3 => m = q.2 ∧ q.2 ≤ (zs ++ [z]).length ∧ Keep S S3 ∧ n < S3.next ∧ S3.mem n = some (.cells (b8 (dB (zs ++ [z])) ++ rest)) ∧ HdB (n + 1) S3 q.1 (b8 ((dB (zs ++ [z])).drop q.2).reverse))
      ?_ _ (.hnd S2.next 0 0 1, (zs ++ [z]).length) _ _ ⟨rfl, Nat.le_refl _, k1.new _, by show n < S2.next + 1; omega, mem_new_ne f4 (by omega), by rw [List.drop_of_length_le (by rw [dB_len]; exact Nat.le_refl _)]; exact ⟨.nil, .inr ⟨S2.next, [], p2, by show S2.next < S2.next + 1; omega, rfl, mem_new _ _, .nil⟩⟩⟩ ⟨rfl, rfl, by rw [wrap_i64 (by omega) (by omega)], trivial⟩
    rintro m ⟨v, j⟩ S3 d3 ⟨hm3, hj, k3, n3, mn, hv⟩
    dsimp only at *
    conv => whnf
    refine br (fun h5 => ?_) (fun h5 => ?_)
    rotate_left
    · obtain rfl : j = 0 := by omega
      rw [List.drop_zero] at hv
      have hcv := conv_hdB hv
      obtain ⟨_, ⟨rfl, q⟩ | ⟨n4, r4, _, _, rfl, q4, _⟩⟩ := hv
      · have : (dB (zs ++ [z])).reverse = [] := List.map_eq_nil_iff.1 q
        have := congrArg List.length this
        rw [List.length_reverse, dB_len, List.length_nil] at this; omega
      conv => whnf
      refine brEq (fun q => ?_) (fun _ => ?_)
      · rw [b8_len, List.length_reverse, dB_len] at q; omega
      conv => whnf
      refine ⟨_, hcv, ?_⟩
      conv => whnf
      exact ⟨k3, rfl⟩
    obtain ⟨j, rfl⟩ : ∃ i, j = i + 1 := ⟨j - 1, by omega⟩
    have ej : ((j + 1 : Nat) : Int) - 1 = (j : Int) := by omega
    rw [ej]
    have hjl : j < (dB (zs ++ [z])).length := by rw [dB_len]; omega
    conv => whnf
    refine ⟨by omega, by omega, ?_⟩
    conv => whnf
    refine ld_b8 mn hjl (off_nat j) ?_
    conv => whnf
    obtain ⟨S4, a1, a2, a3, a4, a5, a6⟩ := HdB.push (S0 := { S3 with next := n + 1 }) (C := NC h) (f := 72) elB rfl (k := .u8) (i := ((dB (zs ++ [z]))[j].toNat : Nat)) (S := S3) ⟨n3, fun _ _ => rfl⟩ hv (by rw [b8_len, List.length_reverse, List.length_drop, dB_len]; omega)
    refine ⟨_, S4, a1, ?_⟩
    conv => whnf
    refine ⟨j, (_, j), by omega, ⟨rfl, by show j ≤ _; omega, ⟨by have := k3.next; omega, fun i hi => by rw [a3.mem i (by show i < n + 1; omega)]; exact k3.mem i hi⟩, by omega, by rw [a3.mem n (Nat.lt_succ_self n)]; exact mn, ?_⟩, ⟨rfl, rfl, by rw [wrap_i64 (by omega) (by omega)], trivial⟩⟩
    show HdB (n + 1) S4 _ (b8 ((dB (zs ++ [z])).drop j).reverse)
    rw [List.drop_eq_getElem_cons hjl, List.reverse_cons, b8_app]
    exact a2
  obtain rfl : z = 0 := by omega
  conv => whnf
  refine ⟨_, slice_hnd_to elB.und elB.size n _ zs.length (by omega) _ w0 _, ?_⟩
  conv => whnf
  refine ⟨zs.length, zs.length, by omega, ⟨rfl, rfl, zs, rfl, by omega, by omega, ⟨b8 (dB [0]) ++ rest, ?_, ?_⟩, fun x q => f6 x (by simp [q]), by rw [valB_snoc]; simp⟩, ⟨rfl, trivial⟩⟩
  · intro x hx2
    rcases List.mem_append.1 hx2 with q | q
    · exact nums_u8 _ x q
    · exact f5 x q
  · rw [f4, dB_app, b8_app, List.append_assoc]
end Go.Proofs.YtojgnofagkekeaaDoor
namespace Go.Proofs.YtojgnofagkekeaaDoor
open Go.Proofs.YtojgnofagkekeaaDoor.VM Go.RowKit
set_option maxRecDepth 100000
set_option linter.unusedVariables false
set_option maxHeartbeats 4000000
theorem set_add {b : Nat} {zs : List Nat} {p v : Nat} (h : p < zs.length) : valB b (zs.set p (zs[p] + v)) = valB b zs + b ^ p * v := by
  have h1 := valB_set b zs p (zs[p] + v) h
  rw [Nat.mul_add] at h1
  omega
theorem dig_some (h : Bool) (s : List UInt8) (h1 : 1 ≤ s.length) (h2 : s.length ≤ 2 ^ 10) (hd : ∀ c ∈ s, 48 ≤ c.toNat ∧ c.toNat ≤ 57) (S : St) : CallQ Tryd.prog (NC h) 71 [.str s] S fun r S1 => Keep S S1 ∧ ∃ n, r = .hnd n 0 s.length 1 ∧ RdI S.next S1 n (digL s) := by
  refine CallQ.mono (t71 h s (by omega) hd S) ?_
  rintro r S1 ⟨k, hv⟩
  obtain ⟨n, rfl, q⟩ := RdI.of hv (fun q => by have := congrArg List.length q; rw [digL_len, List.length_nil] at this; omega)
  exact ⟨k, n, by rw [digL_len], q⟩
theorem mem_set_le {zs : List Nat} {p v b : Nat} (h : ∀ z ∈ zs, z ≤ b) (hv : v ≤ b) : ∀ z ∈ zs.set p v, z ≤ b := fun z hz => by
  rcases List.mem_or_eq_of_mem_set hz with q | rfl
  · exact h z q
  · exact hv
theorem t56 (h : Bool) (a b : List UInt8) (a1 : 1 ≤ a.length) (a2 : a.length ≤ 2 ^ 10) (ad : ∀ c ∈ a, 48 ≤ c.toNat ∧ c.toNat ≤ 57) (b1 : 1 ≤ b.length) (b2 : b.length ≤ 2 ^ 10) (bd : ∀ c ∈ b, 48 ≤ c.toNat ∧ c.toNat ≤ 57) (S : St) :
    CallQ Tryd.prog (NC h) 56 [.str a, .str b] S fun r S1 => Keep S S1 ∧ r = .str (decD (valD a * valD b)) := by
  refine CallQ.of rfl (by kernel_rfl : Tryd.prog.funcs[56]? = some Tryd.f56) rfl (by decide) ?_
  conv => whnf
  refine CallQ.mono (dig_some h a a1 a2 ad S) ?_
  rintro r S1 ⟨k1, n1, rfl, r1⟩
  conv => whnf
  refine CallQ.mono (dig_some h b b1 b2 bd S1) ?_
  rintro r S2 ⟨k2, n2, rfl, r2⟩
  have r1 := r1.keep k2
  have k12 := k1.trans k2
  rw [← digL_len a, ← digL_len b] at *
  have vA := valB_digL a
  have vB := valB_digL b
  have dA := digL_lt ad
  have dB' := digL_lt bd
  rw [← vA, ← vB]
  generalize digL a = xs at *
  generalize digL b = ys at *
  obtain ⟨rx, p1, p2, p3, p4⟩ := r1
  obtain ⟨ry, q1, q2, q3, q4⟩ := r2
  clear r1 vA vB
  have kn := k12.next
  conv => whnf
  refine ⟨_, _, make_nn elI _ _ (xs.length + ys.length) (by rw [wrap_i64 (by omega) (by omega)]; omega) ⟨by omega, by omega⟩, ?_⟩
  conv => whnf
  refine CodeQ.loop (fun (i : Nat) => pat 51 [(5, .hnd n1 0 xs.length 1), (6, .hnd n2 0 ys.length 1), (7, .hnd S2.next 0 (xs.length + ys.length) 1), (8, .int .i64 i)])
    (fun m i S3 => m = xs.length - i ∧ i ≤ xs.length ∧ S2.next < S3.next ∧ Keep S2 S3 ∧ ∃ zs : List Nat, zs.length = xs.length + ys.length ∧ S3.mem S2.next = some (.cells (nn .i64 zs ++ [])) ∧ (∀ z ∈ zs, z ≤ 81 * (i * ys.length)) ∧ valB 10 zs = valB 10 (xs.take i) * valB 10 ys)
    ?_ _ 0 _ _ ⟨rfl, Nat.zero_le _, by show S2.next < S2.next + 1; omega, (Keep.refl S2).new _, List.replicate (xs.length + ys.length) 0, by simp, mem_new _ _, fun z q => by rw [(List.mem_replicate.1 q).2]; exact Nat.zero_le _, by rw [valB_rep]; simp [valB]⟩ ⟨rfl, rfl, rfl, rfl, trivial⟩
  rintro m i S3 d ⟨hm, hi, hn, k3, zs, z1, z2, z3, z5⟩
  dsimp only at *
  have hb1 : i * ys.length ≤ xs.length * ys.length := Nat.mul_le_mul_right _ hi
  have hb2 : xs.length * ys.length ≤ 2 ^ 10 * 2 ^ 10 := Nat.mul_le_mul a2 b2
  conv => whnf
  refine br (fun h5 => ?_) (fun h5 => ?_)
  rotate_left
  · obtain rfl : i = xs.length := by omega
    rw [List.take_length] at z5
    conv => whnf
    rw [← z1]
    refine CallQ.mono (t72 h S2.next [] zs S3 z2 hn (fun q => by rw [q] at z1; simp at z1; omega) (fun z q => Nat.le_trans (z3 z q) (by omega)) (by omega)) ?_
    rintro r S4 ⟨k4, rfl⟩
    rw [z5]
    conv => whnf
    exact ⟨(k12.trans k3).trans k4, rfl⟩
  have h5 : i < xs.length := by omega
  have hxi := dA xs[i] (List.getElem_mem h5)
  have hb3 : (i + 1) * ys.length ≤ xs.length * ys.length := Nat.mul_le_mul_right _ h5
  rw [Nat.add_mul, Nat.one_mul] at hb3
  conv => whnf
  refine CodeQ.loop (fun (k : Nat) => pat 51 [(5, .hnd n1 0 xs.length 1), (6, .hnd n2 0 ys.length 1), (7, .hnd S2.next 0 (xs.length + ys.length) 1), (8, .int .i64 i), (9, .int .i64 k)])
    (fun m k S4 => m = ys.length - k ∧ k ≤ ys.length ∧ S2.next < S4.next ∧ Keep S2 S4 ∧ ∃ us : List Nat, us.length = xs.length + ys.length ∧ S4.mem S2.next = some (.cells (nn .i64 us ++ [])) ∧ (∀ z ∈ us, z ≤ 81 * (i * ys.length + k)) ∧ valB 10 us = valB 10 zs + 10 ^ i * (xs[i] * valB 10 (ys.take k)))
    ?_ _ 0 _ _ ⟨rfl, Nat.zero_le _, hn, k3, zs, z1, z2, z3, by simp [valB]⟩ ⟨rfl, rfl, rfl, rfl, rfl, trivial⟩
  rintro m4 k S4 d4 ⟨hm4, hk, hn4, k4, us, u1, u2, u3, u5⟩
  dsimp only at *
  conv => whnf
  refine br (fun h6 => ?_) (fun h6 => ?_)
  rotate_left
  · obtain rfl : k = ys.length := by omega
    rw [List.take_length] at u5
    conv => whnf
    refine ⟨xs.length - (i + 1), i + 1, by omega, ⟨rfl, h5, hn4, k4, us, u1, u2, fun z q => Nat.le_trans (u3 z q) (by rw [Nat.add_mul, Nat.one_mul]; exact Nat.le_refl _), ?_⟩, ⟨rfl, rfl, rfl, by rw [wrap_i64 (by omega) (by omega)]; rfl, trivial⟩⟩
    rw [u5, z5, valB_take_succ 10 xs i h5, Nat.add_mul, Nat.mul_assoc]
  have h6 : k < ys.length := by omega
  have hyk := dB' ys[k] (List.getElem_mem h6)
  have hlt : i + k < us.length := by omega
  have hu := u3 us[i + k] (List.getElem_mem hlt)
  have hxy : xs[i] * ys[k] ≤ 9 * 9 := Nat.mul_le_mul (by omega) (by omega)
  have w0 : IntKind.i64.wrap ((i : Int) + (k : Int)) = ((i + k : Nat) : Int) := by rw [wrap_i64 (by omega) (by omega)]; omega
  have mx : S4.mem n1 = some (.cells (nn .i64 xs ++ rx)) := (k4.mem n1 p4).trans p1
  have my : S4.mem n2 = some (.cells (nn .i64 ys ++ ry)) := (k4.mem n2 q4).trans q1
  have hst : valB 10 (us.set (i + k) (us[i + k] + xs[i] * ys[k])) = valB 10 zs + 10 ^ i * (xs[i] * valB 10 (ys.take (k + 1))) := by
    rw [set_add hlt, u5, valB_take_succ 10 ys k h6, Nat.pow_add, Nat.add_assoc, Nat.mul_assoc (10 ^ i), ← Nat.mul_add, Nat.mul_add xs[i], Nat.mul_left_comm xs[i]]
  have w1 : IntKind.i64.wrap ((us[i + k] : Int) + IntKind.i64.wrap ((xs[i] : Int) * (ys[k] : Int))) = ((us[i + k] + xs[i] * ys[k] : Nat) : Int) := by
    rw [show (xs[i] : Int) * (ys[k] : Int) = ((xs[i] * ys[k] : Nat) : Int) by simp, wrap_i64 (x := ((xs[i] * ys[k] : Nat) : Int)) (by omega) (by omega), wrap_i64 (by omega) (by omega)]
    omega
  conv => whnf
  refine ⟨[0, 1, 2, 3, 4, 5, 6, 7, 8, 9, 10, 11, 12, 13, 14, 15, 16, 17], [], by kernel_rfl, by kernel_rfl, by kernel_rfl, ?_⟩
  conv => whnf
  rw [w0]
  refine ⟨by omega, by omega, ?_⟩
  conv => whnf
  refine ld_nn u2 hlt (off_nat (i + k)) ?_
  conv => whnf
  refine ⟨by omega, by omega, ?_⟩
  conv => whnf
  refine ld_nn mx h5 (off_nat i) ?_
  conv => whnf
  refine ⟨by omega, by omega, ?_⟩
  conv => whnf
  refine ld_nn my h6 (off_nat k) ?_
  conv => whnf
  refine ⟨by omega, by omega, ?_⟩
  conv => whnf
  refine st_nn (us[i + k] + xs[i] * ys[k]) u2 hlt (off_nat (i + k)) w1 ?_
  conv => whnf
  refine ⟨ys.length - (k + 1), k + 1, by omega, ⟨rfl, h6, hn4, k4.set _ _ (Nat.le_refl _), us.set (i + k) (us[i + k] + xs[i] * ys[k]), by simp [u1], mem_set _ _ _, mem_set_le (fun z q => Nat.le_trans (u3 z q) (by omega)) (by omega), hst⟩, ⟨rfl, rfl, rfl, rfl, by rw [wrap_i64 (by omega) (by omega)]; rfl, trivial⟩⟩
theorem t57 (h : Bool) (m : Nat) (hl : (decD m).length ≤ 2 ^ 40) (S : St) : CallQ Tryd.prog (NC h) 57 [.str (decD m)] S fun r S1 => S1 = S ∧ r = .tuple [.str (shortS m), .int .i64 (shortE m)] := by
  refine CallQ.of rfl (by kernel_rfl : Tryd.prog.funcs[57]? = some Tryd.f57) rfl (by decide) ?_
  conv => whnf
  refine br (fun h5 => ?_) (fun h5 => ?_)
  · conv => whnf
    exact ⟨rfl, by unfold shortS shortE; rw [if_neg (by omega), if_neg (by omega)]; rfl⟩
  · conv => whnf
    exact ⟨rfl, by unfold shortS shortE; rw [if_pos (by omega), if_pos (by omega)]; rfl⟩
theorem dec_len_of {m k : Nat} (h : m < 10 ^ k) : (decD m).length ≤ k + 1 := dec_len k m (Nat.lt_of_lt_of_le h (Nat.pow_le_pow_right (by decide) (by omega)))
theorem dec_mul_len {a b : List UInt8} (ad : ∀ c ∈ a, 48 ≤ c.toNat ∧ c.toNat ≤ 57) (bd : ∀ c ∈ b, 48 ≤ c.toNat ∧ c.toNat ≤ 57) : (decD (valD a * valD b)).length ≤ a.length + b.length + 1 :=
  dec_len_of (by rw [Nat.pow_add]; exact Nat.mul_lt_mul'' (valD_lt ad) (valD_lt bd))
theorem t42 (h : Bool) (a b : List UInt8) (S : St) : CallQ Tryd.prog (NC h) 42 [.str a, .str b] S fun r S1 => Keep S S1 ∧ r = .tuple [.str (arS (rightS a && rightS b) (valD a * valD b)), .int .i64 (arE (rightS a && rightS b) (valD a * valD b))] := by
  refine CallQ.of rfl (by kernel_rfl : Tryd.prog.funcs[42]? = some Tryd.f42) rfl (by decide) ?_
  conv => whnf
  refine CallQ.mono (t55 h a S) ?_
  rintro r S1 ⟨rfl, rfl⟩
  cases hra : rightS a
  · conv => whnf
    exact ⟨.refl _, rfl⟩
  conv => whnf
  refine CallQ.mono (t55 h b S1) ?_
  rintro r S2 ⟨rfl, rfl⟩
  cases hrb : rightS b
  · conv => whnf
    exact ⟨.refl _, rfl⟩
  obtain ⟨a1, a2, _⟩ := right_head hra
  obtain ⟨b1, b2, _⟩ := right_head hrb
  conv => whnf
  refine CallQ.mono (t56 h a b a1 (by omega) (right_all hra).2 b1 (by omega) (right_all hrb).2 S2) ?_
  rintro r S3 ⟨k3, rfl⟩
  have hl := dec_mul_len (right_all hra).2 (right_all hrb).2
  conv => whnf
  refine CallQ.mono (t57 h _ (by omega) S3) ?_
  rintro r S4 ⟨rfl, rfl⟩
  conv => whnf
  exact ⟨k3, rfl⟩
end Go.Proofs.YtojgnofagkekeaaDoor
