import Derived.Test.YtnbjhgaaollhcaaDoorVMNN2
import Derived.Test.YtnbjhgaaollhcaaDoorVMKit3
namespace Go.Proofs.YtnbjhgaaollhcaaDoor
open Go.Proofs.YtnbjhgaaollhcaaDoor.VM Go.RowKit
set_option maxRecDepth 100000
set_option linter.unusedVariables false
set_option maxHeartbeats 2000000
theorem leaf_cells {v : AV} (h : v.leafOk = true) : v.cells = [v] := by cases v <;> simp_all [AV.leafOk, AV.cells]
theorem store_leaf {v : AV} (h : v.leafOk = true) {cs : List AV} {off i : Nat} (ho : off = i) (hi : i < cs.length) : (if v.cells.length = 1 ∧ v.cells.all AV.leafOk = true ∧ off + 1 ≤ cs.length then some (setsA cs off v.cells) else none) = some (cs.set i v) := by
  subst ho
  rw [leaf_cells h, if_pos ⟨rfl, by simp [h], by omega⟩]
  rfl

/-- Swapping from both ends. -/
theorem t47 (h : Bool) (xs : List AV) (hx : ∀ x ∈ xs, x.leafOk = true) (n off : Nat) (S : St) (hc : S.cells n = some xs) (hl : xs.length ≤ 2 ^ 40) :
    CallQ Tryd.prog (NC h) 47 [.hnd n 0 xs.length 1] S fun r S1 => S1.next = S.next ∧ S1.cells n = some xs.reverse ∧ ∀ m, m ≠ n → S1.mem m = S.mem m := by
  refine CallQ.of rfl (by kernel_rfl : Tryd.prog.funcs[47]? = some Tryd.f47) rfl (by decide) ?_
  conv => whnf
  refine CodeQ.loop (fun (i : Nat) => pat 28 [(0, .hnd n 0 xs.length 1), (2, .int .i64 i), (3, .int .i64 ((xs.length : Int) - 1 - i))])
    (fun m i S1 => i + m = xs.length ∧ S1.next = S.next ∧ (∀ m, m ≠ n → S1.mem m = S.mem m) ∧ ∃ ys, S1.cells n = some ys ∧ ys.length = xs.length ∧ ∀ k, k < xs.length → ys[k]? = if k < i ∨ xs.length - i ≤ k then xs[xs.length - 1 - k]? else xs[k]?)
    ?_ xs.length 0 _ _ ⟨by omega, rfl, fun _ _ => rfl, xs, hc, rfl, fun k hk => by simp; omega⟩ ⟨rfl, rfl, by rw [wrap_i64 (by omega) (by omega)]; simp, trivial⟩
  intro m i S1 d ⟨e1, e2, e3, ys, e4, e5, e6⟩
  conv => whnf
  intro c hc
  cases c
  · conv => whnf
    simp at hc
    refine ⟨e2, ?_, e3⟩
    have : ys = xs.reverse := by
      refine List.ext_getElem? (fun k => ?_)
      rcases Nat.lt_or_ge k xs.length with hk | hk
      · rw [e6 k hk, List.getElem?_reverse hk]
        split
        · rfl
        · rename_i hn
          have : k = xs.length - 1 - k := by omega
          rw [← this]
      · rw [List.getElem?_eq_none (by omega), List.getElem?_eq_none (by simpa using hk)]
    rw [e4, this]
  · simp at hc
    conv => whnf
    refine ⟨[0, 1, 4, 5, 6, 7, 8, 9, 10, 11, 12, 13, 2, 3, 14, 15], [], by kernel_rfl, by kernel_rfl, by kernel_rfl, ?_⟩
    conv => whnf
    refine ⟨by omega, by omega, ?_⟩
    conv => whnf
    have hy : ∀ k (h : k < ys.length), ys[k].leafOk = true := by
      intro k h
      have h1 := e6 k (by omega)
      rw [List.getElem?_eq_getElem h] at h1
      split at h1
      · exact hx _ (List.mem_of_getElem? h1.symm)
      · exact hx _ (List.mem_of_getElem? h1.symm)
    have hj : ((xs.length : Int) - 1 - i).toNat = xs.length - 1 - i := by omega
    have lj : xs.length - 1 - i < ys.length := by omega
    have li : i < ys.length := by omega
    refine ⟨ys, e4, partF_of (v := ys[xs.length - 1 - i]) ?_ ?_⟩
    · show ys[0 + ((xs.length : Int) - 1 - i).toNat * 1]? = _
      rw [hj]; simp
    conv => whnf
    refine ⟨by omega, by omega, ?_⟩
    conv => whnf
    refine ⟨ys, e4, partF_of (v := ys[i]) ?_ ?_⟩
    · show ys[0 + (i : Int).toNat * 1]? = _
      simp [li]
    conv => whnf
    refine ⟨by omega, by omega, ?_⟩
    conv => whnf
    refine ⟨ys, ys.set i ys[xs.length - 1 - i], e4, ?_, ?_⟩
    · exact store_leaf (hy _ lj) (show 0 + (i : Int).toNat * 1 = i by simp) li
    conv => whnf
    refine ⟨by omega, by omega, ?_⟩
    conv => whnf
    refine ⟨ys.set i ys[xs.length - 1 - i], (ys.set i ys[xs.length - 1 - i]).set (xs.length - 1 - i) ys[i], cells_set _ _ _, store_leaf (hy _ li) (show 0 + ((xs.length : Int) - 1 - i).toNat * 1 = xs.length - 1 - i by rw [hj]; simp) (by simpa using lj), ?_⟩
    conv => whnf
    refine ⟨m - 1, i + 1, by omega, ⟨by omega, e2, fun k hk => ?_, _, cells_set _ _ _, by simp [e5], fun k hk => ?_⟩, ⟨rfl, by rw [wrap_i64 (by omega) (by omega)]; rfl, by rw [wrap_i64 (by omega) (by omega)]; congr 1; omega, trivial⟩⟩
    · simp [St.set, upd, hk, e3 k hk]
    · have hyj := e6 (xs.length - 1 - i) (by omega)
      have hyi := e6 i (by omega)
      rw [List.getElem?_set, List.getElem?_set, List.length_set]
      rw [List.getElem?_eq_getElem lj, if_neg (by omega)] at hyj
      rw [List.getElem?_eq_getElem li, if_neg (by omega)] at hyi
      by_cases a : xs.length - 1 - i = k
      · subst a
        rw [if_pos rfl, if_pos lj, if_pos (by omega), hyi]
        congr 1; omega
      · rw [if_neg a]
        by_cases b : i = k
        · subst b
          rw [if_pos rfl, if_pos li, if_pos (by omega), hyj]
        · rw [if_neg b, e6 k hk]
          by_cases q : k < i ∨ xs.length - i ≤ k
          · rw [if_pos q, if_pos (by omega)]
          · rw [if_neg q, if_neg (by omega)]
end Go.Proofs.YtnbjhgaaollhcaaDoor
namespace Go.Proofs.YtnbjhgaaollhcaaDoor
open Go.Proofs.YtnbjhgaaollhcaaDoor.VM Go.RowKit
set_option maxRecDepth 100000
set_option linter.unusedVariables false
set_option maxHeartbeats 2000000
/-- A number's digits. -/
def decD (n : Nat) : List UInt8 := if h : n < 10 then [UInt8.ofNat (48 + n)] else decD (n / 10) ++ [UInt8.ofNat (48 + n % 10)]
termination_by n
decreasing_by omega
def dec0 (n : Nat) : List UInt8 := if n = 0 then [] else decD n
theorem dec_step (n : Nat) : decD n = dec0 (n / 10) ++ [UInt8.ofNat (48 + n % 10)] := by
  conv => lhs; unfold decD
  split
  · rename_i h
    have h1 : n / 10 = 0 := by omega
    have h2 : n % 10 = n := by omega
    rw [h1, h2]; rfl
  · have h1 : n / 10 ≠ 0 := by omega
    unfold dec0
    rw [if_neg h1]
theorem dec_len : ∀ (k n : Nat), n < 10 ^ (k + 1) → (decD n).length ≤ k + 1
  | 0, n, h => by
    rw [dec_step, show n / 10 = 0 by omega]; simp [dec0]
  | k + 1, n, h => by
    rw [dec_step]
    by_cases h0 : n / 10 = 0
    · simp [dec0, h0]
    · have := dec_len k (n / 10) (by rw [Nat.pow_succ] at h; omega)
      simp [dec0, h0]; omega
theorem elB : Elem Tryd.prog 34 5 1 1 false (.int .u8 0) := ⟨by kernel_rfl, by kernel_rfl, by kernel_rfl, by kernel_rfl, by kernel_rfl, rfl, by decide⟩
theorem nums_u8 (bs : List UInt8) : Nums (bs.map u8) := fun x hx => by obtain ⟨b, _, rfl⟩ := List.mem_map.1 hx; exact ⟨_, _, rfl⟩
theorem conv_hnd {S : St} {n l : Nat} (bs : List UInt8) (h : S.cells n = some (bs.map u8)) (hl : l = bs.length) : convertA Tryd.prog S 34 9 (.hnd n 0 l 1) = some (.str bs) := by
  show ((S.cells n).bind fun cs => if 1 = 1 ∧ 0 + l ≤ cs.length then (bytesOfA ((cs.drop 0).take l)).map AV.str else none) = _
  subst hl
  rw [h]
  simp only [Option.bind_some, List.drop_zero]
  rw [if_pos ⟨trivial, by simp⟩, List.take_of_length_le (by simp), bytesOfA_u8]
  rfl
theorem t23 (h : Bool) (n : Nat) (hn : n < 2 ^ 64) (S : St) : CallQ Tryd.prog (NC h) 23 [.int .u64 n] S fun r S1 => r = .str (decD n) ∧ Keep S S1 := by
  have hlen := dec_len 19 n (by have : (10 : Nat) ^ 20 = 100000000000000000000 := rfl; omega)
  refine CallQ.of rfl (by kernel_rfl : Tryd.prog.funcs[23]? = some Tryd.f23) rfl (by decide) ?_
  conv => whnf
  refine CodeQ.loop (fun (q : Nat × AV) => pat 19 [(0, .int .u64 q.1), (3, q.2)])
    (fun m q S1 => m = q.1 + 1 ∧ q.1 < 2 ^ 64 ∧ Keep S S1 ∧ ∃ bs : List UInt8, HdB S.next S1 q.2 (bs.map u8) ∧ decD q.1 ++ bs.reverse = decD n) ?_ (n + 1) (n, .nils) _ _ ⟨rfl, hn, .refl _, [], HdB.nil _ _, by simp⟩ ⟨rfl, rfl, trivial⟩
  rintro m ⟨n', v⟩ S1 d ⟨rfl, k1, k2, bs, hv, k4⟩
  dsimp only at *
  have hbl : bs.length ≤ 20 := by have := congrArg List.length k4; simp at this; omega
  have hr : (n' : Int).tmod 10 = ((n' % 10 : Nat) : Int) := by
    rw [Int.tmod_eq_emod_of_nonneg (by omega)]; omega
  have hq : (n' : Int).tdiv 10 = ((n' / 10 : Nat) : Int) := by
    rw [Int.tdiv_eq_ediv_of_nonneg (by omega)]; omega
  have e1 : IntKind.u8.wrap (IntKind.u64.wrap (48 + ((n' % 10 : Nat) : Int))) = ((UInt8.ofNat (48 + n' % 10)).toNat : Int) := by
    rw [wrap_u64 (by omega) (by omega), show (48 : Int) + ((n' % 10 : Nat) : Int) = ((48 + n' % 10 : Nat) : Int) by omega, wrap_u8_nat]
  have e2 : IntKind.u64.wrap ((n' / 10 : Nat) : Int) = ((n' / 10 : Nat) : Int) := wrap_u64 (by omega) (by omega)
  conv => whnf
  refine ⟨by decide, ?_⟩
  rw [hr]
  conv => whnf
  rw [e1]
  generalize hc : UInt8.ofNat (48 + n' % 10) = c at *
  have hn1 := k2.next
  obtain ⟨S2, a1, a2, a3, a5, a4⟩ := HdB.append (C := NC h) (f := 23) (S := S1.new (.cells [u8 c])) (y := .hnd S1.next 0 1 1) (ys := [u8 c]) elB rfl (hv.mono (by show S1.next ≤ S1.next + 1; omega) (fun j hj hj2 _ => by simp [St.new, upd]; omega)) (by show S.next ≤ S1.next + 1; omega)
    (elems_nums (xs := [u8 c]) (rest := []) (by unfold St.cells; simp [St.new, upd]) (nums_u8 [c])) (nums_u8 [c]) (by simp) (by simp; omega)
  have eM : bs.map u8 ++ [u8 c] = (bs ++ [c]).map u8 := by simp
  rw [eM] at a1 a2 a5
  refine ⟨_, S2, a1, ?_⟩
  have k3 : Keep S S2 := by
    refine ⟨by rw [a3]; show S.next ≤ S1.next + 1 + 1; omega, fun j hj => ?_⟩
    rw [a4 j (by show j < S1.next + 1; omega) (fun l q => ?_)]
    · rw [← k2.mem j hj]; simp [St.new, upd]; omega
    · obtain ⟨_, ⟨q2, _⟩ | ⟨nn, _, q2, _, q3, _⟩⟩ := hv
      · rw [q2] at q; cases q
      · rw [q3] at q; cases q; omega
  clear a1 a4
  conv => whnf
  refine ⟨by decide, ?_⟩
  rw [hq, e2]
  conv => whnf
  refine brEq (fun h0 => ?_) (fun h0 => ?_)
  · have h0 : n' / 10 = 0 := by omega
    have hd : decD n = (bs ++ [c]).reverse := by
      rw [← k4, dec_step, h0, hc]; simp [dec0]
    conv => whnf
    refine CallQ.mono (t47 h ((bs ++ [c]).map u8) (fun x hx => List.all_eq_true.1 (nums_u8 _).leaf x hx) _ 0 S2 (by unfold St.cells; rw [a5]) (by simp; omega)) ?_
    rintro r S3 ⟨g1, g2, g3⟩
    conv => whnf
    refine ⟨_, conv_hnd _ (by rw [g2, ← List.map_reverse]) (by simp), ?_⟩
    conv => whnf
    exact ⟨by rw [hd]; rfl, ⟨by have := k3.next; omega, fun j hj => by rw [g3 j (by show j ≠ S1.next + 1; omega)]; exact k3.mem j hj⟩⟩
  have h0 : n' / 10 ≠ 0 := by omega
  conv => whnf
  refine ⟨n' / 10 + 1, (n' / 10, _), by omega, ⟨rfl, by omega, k3, bs ++ [c], a2, ?_⟩, ⟨rfl, rfl, trivial⟩⟩
  rw [← k4, dec_step n', hc]
  unfold dec0
  rw [if_neg h0]
  simp
end Go.Proofs.YtnbjhgaaollhcaaDoor
namespace Go.Proofs.YtnbjhgaaollhcaaDoor
open Go.Proofs.YtnbjhgaaollhcaaDoor.VM Go.RowKit
set_option maxRecDepth 100000
set_option linter.unusedVariables false
set_option maxHeartbeats 2000000
theorem conv_u8 (bs : List UInt8) (t : Tip) (S : St) : convertA Tryd.prog S 34 9 (.lst (bs.map u8) t) = some (.str bs) := by
  have : convertA Tryd.prog S 34 9 (.lst (bs.map u8) t) = (bytesOfA (bs.map u8)).map AV.str := rfl
  rw [this, bytesOfA_u8]; rfl
theorem t24 (h : Bool) (n : Nat) (hn : n < 2 ^ 64) (S : St) : CallQ Tryd.prog (NC h) 24 [.int .u64 n] S fun r S1 => S1 = S ∧ r = .str (decD n) := by
  refine CallQ.of rfl (by kernel_rfl : Tryd.prog.funcs[24]? = some Tryd.f24) rfl (by decide) ?_
  conv => whnf
  refine CodeQ.loop (fun (q : Nat × List UInt8 × Bool) => pat 21 [(0, .int .u64 q.1), (3, .str q.2.1), (4, .bool q.2.2)])
    (fun m q S1 => S1 = S ∧ m = q.1 + (if q.2.2 = true then 1 else 0) ∧ q.1 < 2 ^ 64 ∧ q.2.1.length ≤ 100 - (if q.1 = 0 then 0 else 1) ∧ ((q.2.2 = true ∧ q.1 = n ∧ q.2.1 = []) ∨ (q.2.2 = false ∧ dec0 q.1 ++ q.2.1 = decD n))) ?_ (n + 1) (n, [], true) _ _
    ⟨rfl, rfl, hn, by simp, .inl ⟨rfl, rfl, rfl⟩⟩ ⟨rfl, rfl, rfl, trivial⟩
  have hlen := dec_len 19 n (by have : (10 : Nat) ^ 20 = 100000000000000000000 := rfl; omega)
  rintro m ⟨n', s, fst⟩ S1 d ⟨rfl, k1, k2, _, k4⟩
  dsimp only at k1 k2 k4 ⊢
  have hr : (n' : Int).tmod 10 = ((n' % 10 : Nat) : Int) := by
    rw [Int.tmod_eq_emod_of_nonneg (by omega)]; omega
  have hq : (n' : Int).tdiv 10 = ((n' / 10 : Nat) : Int) := by
    rw [Int.tdiv_eq_ediv_of_nonneg (by omega)]; omega
  have e1 : IntKind.u8.wrap (IntKind.u64.wrap (48 + ((n' % 10 : Nat) : Int))) = ((UInt8.ofNat (48 + n' % 10)).toNat : Int) := by
    rw [wrap_u64 (by omega) (by omega), show (48 : Int) + ((n' % 10 : Nat) : Int) = ((48 + n' % 10 : Nat) : Int) by omega, wrap_u8_nat]
  have e2 : IntKind.u64.wrap ((n' / 10 : Nat) : Int) = ((n' / 10 : Nat) : Int) := wrap_u64 (by omega) (by omega)
  cases fst
  · rcases k4 with ⟨h, _⟩ | ⟨_, k4⟩
    · cases h
    have hsl : s.length ≤ 20 := by have := congrArg List.length k4; simp at this; omega
    conv => whnf
    intro c hc
    cases c
    · conv => whnf
      have h0 : n' = 0 := by simp at hc; omega
      subst h0
      refine ⟨rfl, ?_⟩
      show AV.str s = AV.str _
      rw [← k4]; rfl
    have h0 : 0 < n' := by simp at hc; omega
    conv => whnf
    refine ⟨by decide, ?_⟩
    rw [hr]
    conv => whnf
    rw [e1]
    refine ⟨_, conv_u8 [UInt8.ofNat (48 + n' % 10)] .full _, ?_⟩
    conv => whnf
    refine ⟨by simp; omega, ?_⟩
    conv => whnf
    refine ⟨by decide, ?_⟩
    rw [hq, e2]
    conv => whnf
    refine ⟨n' / 10, (n' / 10, [UInt8.ofNat (48 + n' % 10)] ++ s, false), by simp at k1; omega, ⟨rfl, by simp, by show n' / 10 < _; omega, by show _ ≤ _; simp only [List.length_append, List.length_singleton]; split <;> omega, .inr ⟨rfl, ?_⟩⟩, ⟨rfl, rfl, rfl, trivial⟩⟩
    show dec0 (n' / 10) ++ ([UInt8.ofNat (48 + n' % 10)] ++ s) = _
    rw [← List.append_assoc, ← dec_step, ← k4]
    have : n' ≠ 0 := by omega
    simp [dec0, this]
  · rcases k4 with ⟨_, rfl, rfl⟩ | ⟨h, _⟩
    rotate_left
    · cases h
    conv => whnf
    refine ⟨by decide, ?_⟩
    rw [hr]
    conv => whnf
    rw [e1]
    refine ⟨_, conv_u8 [UInt8.ofNat (48 + n' % 10)] .full _, ?_⟩
    conv => whnf
    refine ⟨by simp, ?_⟩
    conv => whnf
    refine ⟨by decide, ?_⟩
    rw [hq, e2]
    conv => whnf
    refine ⟨n' / 10, (n' / 10, [UInt8.ofNat (48 + n' % 10)] ++ [], false), by simp at k1; omega, ⟨rfl, by simp, by show n' / 10 < _; omega, by show _ ≤ _; simp; split <;> omega, .inr ⟨rfl, ?_⟩⟩, ⟨rfl, rfl, rfl, trivial⟩⟩
    show dec0 (n' / 10) ++ ([UInt8.ofNat (48 + n' % 10)] ++ []) = _
    rw [List.append_nil, ← dec_step]
end Go.Proofs.YtnbjhgaaollhcaaDoor
namespace Go.Proofs.YtnbjhgaaollhcaaDoor
open Go.Proofs.YtnbjhgaaollhcaaDoor.VM Go.RowKit
set_option maxRecDepth 100000
set_option linter.unusedVariables false
set_option maxHeartbeats 2000000
def isD (c : UInt8) : Bool := decide (48 ≤ c.toNat ∧ c.toNat ≤ 57)
/-- A text is a number's digits. -/
def rightS (s : List UInt8) : Bool := decide (1 ≤ s.length) && decide (s.length ≤ 800) && !(decide (s.getD 0 0 = 48) && decide (1 < s.length)) && s.all isD
theorem isD_no {c : UInt8} (h : c.toNat < 48 ∨ 57 < c.toNat) : isD c = false := decide_eq_false (by omega)
theorem isD_yes {c : UInt8} (h : 48 ≤ c.toNat) (h2 : c.toNat ≤ 57) : isD c = true := decide_eq_true ⟨h, h2⟩
theorem all_step (s : List UInt8) (i : Nat) (h : i < s.length) : (s.drop i).all isD = (isD (s.getD i 0) && (s.drop (i + 1)).all isD) := by
  rw [List.drop_eq_getElem_cons h, List.all_cons, List.getD_eq_getElem?_getD, List.getElem?_eq_getElem h]
  rfl
theorem getd {l : List UInt8} {i : Nat} (h : i < l.length) : l[i]? = some (l.getD i 0) := by simp [List.getD, h]
theorem t34 (h : Bool) (s : List UInt8) (S : St) : CallQ Tryd.prog (NC h) 34 [.str s] S fun r S1 => S1 = S ∧ r = .bool (rightS s) := by
  refine CallQ.of rfl (by kernel_rfl : Tryd.prog.funcs[34]? = some Tryd.f34) rfl (by decide) ?_
  conv => whnf
  refine brEq (fun h0 => ?_) (fun h0 => ?_)
  · have h0 : s.length = 0 := by omega
    conv => whnf
    exact ⟨rfl, by unfold rightS; rw [h0]; rfl⟩
  have h0 : 0 < s.length := by omega
  conv => whnf
  refine br (fun h1 => ?_) (fun h1 => ?_)
  · have h1 : ¬ s.length ≤ 800 := by omega
    conv => whnf
    exact ⟨rfl, by show AV.bool false = AV.bool _; unfold rightS; simp [h1]⟩
  have h1 : s.length ≤ 800 := by omega
  conv => whnf
  refine ⟨by decide, s.getD 0 0, getd h0, ?_⟩
  have hlp : s.getD 0 0 = 48 ∧ 1 < s.length ∨ rightS s = s.all isD := by
    by_cases q : s.getD 0 0 = 48 ∧ 1 < s.length
    · exact .inl q
    · right
      unfold rightS
      have : (decide (s.getD 0 0 = 48) && decide (1 < s.length)) = false := by simpa using q
      rw [this]
      simp [h1]; omega
  conv => whnf
  refine brEq (fun h2 => ?_) (fun h2 => ?_)
  · have h2 : s.getD 0 0 = 48 := UInt8.toNat_inj.1 (show (s.getD 0 0).toNat = (48 : UInt8).toNat by have : (48 : UInt8).toNat = 48 := rfl; omega)
    conv => whnf
    refine br (fun h3 => ?_) (fun h3 => ?_)
    · have h3 : 1 < s.length := by omega
      conv => whnf
      exact ⟨rfl, by show AV.bool false = AV.bool _; unfold rightS; rw [decide_eq_true h2, decide_eq_true h3]; simp⟩
    have hr : rightS s = s.all isD := hlp.resolve_left fun q => absurd q.2 (by omega)
    rw [hr]
    conv => whnf
    refine CodeQ.loop (fun (i : Nat) => pat 38 [(0, .str s), (3, .int .i64 i)]) (fun m i S1 => S1 = S ∧ i ≤ s.length ∧ m = s.length - i ∧ s.all isD = (s.drop i).all isD) ?_ _ 0 _ _ ⟨rfl, Nat.zero_le _, rfl, rfl⟩ ⟨rfl, rfl, trivial⟩
    rintro m i S1 d ⟨rfl, hi, hm, ha⟩
    dsimp only at *
    conv => whnf
    refine br (fun h5 => ?_) (fun h5 => ?_)
    rotate_left
    · have h5 : s.length ≤ i := by omega
      rw [List.drop_eq_nil_of_le h5] at ha
      conv => whnf
      exact ⟨rfl, by show AV.bool _ = AV.bool (s.all isD); rw [ha]; rfl⟩
    have h5 : i < s.length := by omega
    rw [all_step s i h5] at ha
    conv => whnf
    refine ⟨by omega, s.getD i 0, getd h5, ?_⟩
    conv => whnf
    refine br (fun h6 => ?_) (fun h6 => ?_)
    · have hd : isD (s.getD i 0) = false := isD_no (by omega)
      rw [hd] at ha
      conv => whnf
      exact ⟨rfl, by show AV.bool _ = AV.bool (s.all isD); rw [ha]; rfl⟩
    conv => whnf
    refine ⟨by omega, s.getD i 0, getd h5, ?_⟩
    conv => whnf
    refine br (fun h7 => ?_) (fun h7 => ?_)
    · have hd : isD (s.getD i 0) = false := isD_no (by omega)
      rw [hd] at ha
      conv => whnf
      exact ⟨rfl, by show AV.bool _ = AV.bool (s.all isD); rw [ha]; rfl⟩
    have hd : isD (s.getD i 0) = true := isD_yes (by omega) (by omega)
    rw [hd, Bool.true_and] at ha
    conv => whnf
    refine ⟨s.length - (i + 1), i + 1, by omega, ⟨rfl, h5, rfl, ha⟩, ⟨rfl, ?_, trivial⟩⟩
    rw [wrap_i64 (by omega) (by omega)]; rfl
  have h2 : s.getD 0 0 ≠ 48 := fun q => h2 (by rw [q]; rfl)
  have hr : rightS s = s.all isD := hlp.resolve_left fun q => h2 q.1
  rw [hr]
  conv => whnf
  refine CodeQ.loop (fun (i : Nat) => pat 38 [(0, .str s), (3, .int .i64 i)]) (fun m i S1 => S1 = S ∧ i ≤ s.length ∧ m = s.length - i ∧ s.all isD = (s.drop i).all isD) ?_ _ 0 _ _ ⟨rfl, Nat.zero_le _, rfl, rfl⟩ ⟨rfl, rfl, trivial⟩
  rintro m i S1 d ⟨rfl, hi, hm, ha⟩
  dsimp only at *
  conv => whnf
  refine br (fun h5 => ?_) (fun h5 => ?_)
  rotate_left
  · have h5 : s.length ≤ i := by omega
    rw [List.drop_eq_nil_of_le h5] at ha
    conv => whnf
    exact ⟨rfl, by show AV.bool _ = AV.bool (s.all isD); rw [ha]; rfl⟩
  have h5 : i < s.length := by omega
  rw [all_step s i h5] at ha
  conv => whnf
  refine ⟨by omega, s.getD i 0, getd h5, ?_⟩
  conv => whnf
  refine br (fun h6 => ?_) (fun h6 => ?_)
  · have hd : isD (s.getD i 0) = false := isD_no (by omega)
    rw [hd] at ha
    conv => whnf
    exact ⟨rfl, by show AV.bool _ = AV.bool (s.all isD); rw [ha]; rfl⟩
  conv => whnf
  refine ⟨by omega, s.getD i 0, getd h5, ?_⟩
  conv => whnf
  refine br (fun h7 => ?_) (fun h7 => ?_)
  · have hd : isD (s.getD i 0) = false := isD_no (by omega)
    rw [hd] at ha
    conv => whnf
    exact ⟨rfl, by show AV.bool _ = AV.bool (s.all isD); rw [ha]; rfl⟩
  have hd : isD (s.getD i 0) = true := isD_yes (by omega) (by omega)
  rw [hd, Bool.true_and] at ha
  conv => whnf
  refine ⟨s.length - (i + 1), i + 1, by omega, ⟨rfl, h5, rfl, ha⟩, ⟨rfl, ?_, trivial⟩⟩
  rw [wrap_i64 (by omega) (by omega)]; rfl
theorem t58 (h : Bool) (b : Bool) (S : St) : CallQ Tryd.prog (NC h) 58 [.bool b] S fun r S1 => S1 = S ∧ r = .int .i64 (if b = true then 1 else 0) := by
  cases b
  all_goals
    refine CallQ.of rfl (by kernel_rfl : Tryd.prog.funcs[58]? = some Tryd.f58) rfl (by decide) ?_
    conv => whnf
    exact ⟨rfl, rfl⟩
/-- How two texts stand, by length and then by bytes. -/
def ordS (a b : List UInt8) : Int := if a.length = b.length then Lib.compareBytes a b else if a.length < b.length then -1 else 1
theorem t59 (h : Bool) (a b : List UInt8) (S : St) : CallQ Tryd.prog (NC h) 59 [.str a, .str b] S fun r S1 => S1 = S ∧ r = .int .i64 (Lib.compareBytes a b) := by
  refine CallQ.of rfl (by kernel_rfl : Tryd.prog.funcs[59]? = some Tryd.f59) rfl (by decide) ?_
  conv => whnf
  refine CallQ.intr (g := cmpG) rfl rfl ?_
  conv => whnf
  exact ⟨rfl, rfl⟩
theorem t48 (h : Bool) (a b : List UInt8) (ha : a.length ≤ 2 ^ 47) (hb : b.length ≤ 2 ^ 47) (S : St) : CallQ Tryd.prog (NC h) 48 [.str a, .str b] S fun r S1 => S1 = S ∧ r = .int .i64 (ordS a b) := by
  refine CallQ.of rfl (by kernel_rfl : Tryd.prog.funcs[48]? = some Tryd.f48) rfl (by decide) ?_
  conv => whnf
  refine brNe (fun h0 => ?_) (fun h0 => ?_)
  · have h0 : a.length ≠ b.length := by omega
    conv => whnf
    refine br (fun h1 => ?_) (fun h1 => ?_)
    · have h1 : a.length < b.length := by omega
      conv => whnf
      refine CallQ.mono (t58 h true S) ?_
      rintro r S1 ⟨rfl, rfl⟩
      conv => whnf
      exact ⟨rfl, by unfold ordS; rw [if_neg h0, if_pos h1]; rfl⟩
    · have h1 : ¬ a.length < b.length := by omega
      conv => whnf
      refine CallQ.mono (t58 h false S) ?_
      rintro r S1 ⟨rfl, rfl⟩
      conv => whnf
      exact ⟨rfl, by unfold ordS; rw [if_neg h0, if_neg h1]; rfl⟩
  have h0 : a.length = b.length := by omega
  conv => whnf
  refine CallQ.mono (t59 h a b S) ?_
  rintro r S1 ⟨rfl, rfl⟩
  conv => whnf
  exact ⟨rfl, by unfold ordS; rw [if_pos h0]; rfl⟩
end Go.Proofs.YtnbjhgaaollhcaaDoor
