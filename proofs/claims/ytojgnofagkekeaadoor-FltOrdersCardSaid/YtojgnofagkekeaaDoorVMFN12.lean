import Derived.Test.YtojgnofagkekeaaDoorVMFN2
import Derived.Test.YtojgnofagkekeaaDoorVMKit3
namespace Go.Proofs.YtojgnofagkekeaaDoor
open Go.Proofs.YtojgnofagkekeaaDoor.VM Go.RowKit
set_option maxRecDepth 100000
set_option linter.unusedVariables false
set_option maxHeartbeats 2000000
theorem leaf_cells {v : AV} (h : v.leafOk = true) : v.cells = [v] := by cases v <;> simp_all [AV.leafOk, AV.cells]
theorem store_leaf {v : AV} (h : v.leafOk = true) {cs : List AV} {off i : Nat} (ho : off = i) (hi : i < cs.length) : (if v.cells.length = 1 ∧ v.cells.all AV.leafOk = true ∧ off + 1 ≤ cs.length then some (setsA cs off v.cells) else none) = some (cs.set i v) := by
  subst ho
  rw [leaf_cells h, if_pos ⟨rfl, by simp [h], by omega⟩]
  rfl

/-- Swapping from both ends. -/
theorem t50 (h : Bool) (xs : List AV) (hx : ∀ x ∈ xs, x.leafOk = true) (n off : Nat) (S : St) (hc : S.cells n = some xs) (hl : xs.length ≤ 2 ^ 40) :
    CallQ Tryd.prog (NC h) 50 [.hnd n 0 xs.length 1] S fun r S1 => S1.next = S.next ∧ S1.cells n = some xs.reverse ∧ ∀ m, m ≠ n → S1.mem m = S.mem m := by
  refine CallQ.of rfl (by kernel_rfl : Tryd.prog.funcs[50]? = some Tryd.f50) rfl (by decide) ?_
  conv => whnf
  refine CodeQ.loop (fun (i : Nat) => pat 28 [(0, .hnd n 0 xs.length 1), (2, .int .i64 i), (3, .int .i64 ((xs.length : Int) - 1 - i))])
    (fun m i S1 => i + m = xs.length ∧ S1.next = S.next ∧ (∀ m, m ≠ n → S1.mem m = S.mem m) ∧ ∃ ys, S1.cells n = some ys ∧ ys.length = xs.length ∧ ∀ k, k < xs.length → ys[k]? = if k < i ∨ xs.length - i ≤ k then xs[xs.length - 1 - k]? else xs[k]?)
    ?_ xs.length 0 _ _ ⟨by omega, rfl, fun _ _ => rfl, xs, hc, rfl, fun k hk => by simp; omega⟩ ⟨rfl, rfl, by rw [wrap_i64 (by omega) (by omega)]; simp, trivial⟩
  intro m i S1 d ⟨e1, e2, e3, ys, e4, e5, e6⟩
  conv => whnf
  intro c hc
  cases c
  · conv => whnf
    simp at hc
    refine ⟨e2, ?_, e3⟩
    have : ys = xs.reverse := by
      refine List.ext_getElem? (fun k => ?_)
      rcases Nat.lt_or_ge k xs.length with hk | hk
      · rw [e6 k hk, List.getElem?_reverse hk]
        split
        · rfl
        · rename_i hn
          have : k = xs.length - 1 - k := by omega
          rw [← this]
      · rw [List.getElem?_eq_none (by omega), List.getElem?_eq_none (by simpa using hk)]
    rw [e4, this]
  · simp at hc
    conv => whnf
    refine ⟨[0, 1, 4, 5, 6, 7, 8, 9, 10, 11, 12, 13, 2, 3, 14, 15], [], by kernel_rfl, by kernel_rfl, by kernel_rfl, ?_⟩
    conv => whnf
    refine ⟨by omega, by omega, ?_⟩
    conv => whnf
    have hy : ∀ k (h : k < ys.length), ys[k].leafOk = true := by
      intro k h
      have h1 := e6 k (by omega)
      rw [List.getElem?_eq_getElem h] at h1
      split at h1
      · exact hx _ (List.mem_of_getElem? h1.symm)
      · exact hx _ (List.mem_of_getElem? h1.symm)
    have hj : ((xs.length : Int) - 1 - i).toNat = xs.length - 1 - i := by omega
    have lj : xs.length - 1 - i < ys.length := by omega
    have li : i < ys.length := by omega
    refine ⟨ys, e4, partF_of (v := ys[xs.length - 1 - i]) ?_ ?_⟩
    · show ys[0 + ((xs.length : Int) - 1 - i).toNat * 1]? = _
      rw [hj]; simp
    conv => whnf
    refine ⟨by omega, by omega, ?_⟩
    conv => whnf
    refine ⟨ys, e4, partF_of (v := ys[i]) ?_ ?_⟩
    · show ys[0 + (i : Int).toNat * 1]? = _
      simp [li]
    conv => whnf
    refine ⟨by omega, by omega, ?_⟩
    conv => whnf
    refine ⟨ys, ys.set i ys[xs.length - 1 - i], e4, ?_, ?_⟩
    · exact store_leaf (hy _ lj) (show 0 + (i : Int).toNat * 1 = i by simp) li
    conv => whnf
    refine ⟨by omega, by omega, ?_⟩
    conv => whnf
    refine ⟨ys.set i ys[xs.length - 1 - i], (ys.set i ys[xs.length - 1 - i]).set (xs.length - 1 - i) ys[i], cells_set _ _ _, store_leaf (hy _ li) (show 0 + ((xs.length : Int) - 1 - i).toNat * 1 = xs.length - 1 - i by rw [hj]; simp) (by simpa using lj), ?_⟩
    conv => whnf
    refine ⟨m - 1, i + 1, by omega, ⟨by omega, e2, fun k hk => ?_, _, cells_set _ _ _, by simp [e5], fun k hk => ?_⟩, ⟨rfl, by rw [wrap_i64 (by omega) (by omega)]; rfl, by rw [wrap_i64 (by omega) (by omega)]; congr 1; omega, trivial⟩⟩
    · simp [St.set, upd, hk, e3 k hk]
    · have hyj := e6 (xs.length - 1 - i) (by omega)
      have hyi := e6 i (by omega)
      rw [List.getElem?_set, List.getElem?_set, List.length_set]
      rw [List.getElem?_eq_getElem lj, if_neg (by omega)] at hyj
      rw [List.getElem?_eq_getElem li, if_neg (by omega)] at hyi
      by_cases a : xs.length - 1 - i = k
      · subst a
        rw [if_pos rfl, if_pos lj, if_pos (by omega), hyi]
        congr 1; omega
      · rw [if_neg a]
        by_cases b : i = k
        · subst b
          rw [if_pos rfl, if_pos li, if_pos (by omega), hyj]
        · rw [if_neg b, e6 k hk]
          by_cases q : k < i ∨ xs.length - i ≤ k
          · rw [if_pos q, if_pos (by omega)]
          · rw [if_neg q, if_neg (by omega)]
end Go.Proofs.YtojgnofagkekeaaDoor
namespace Go.Proofs.YtojgnofagkekeaaDoor
open Go.Proofs.YtojgnofagkekeaaDoor.VM Go.RowKit
set_option maxRecDepth 100000
set_option linter.unusedVariables false
set_option maxHeartbeats 2000000
/-- A number's digits. -/
def decD (n : Nat) : List UInt8 := if h : n < 10 then [UInt8.ofNat (48 + n)] else decD (n / 10) ++ [UInt8.ofNat (48 + n % 10)]
termination_by n
decreasing_by omega
def dec0 (n : Nat) : List UInt8 := if n = 0 then [] else decD n
theorem dec_step (n : Nat) : decD n = dec0 (n / 10) ++ [UInt8.ofNat (48 + n % 10)] := by
  conv => lhs; unfold decD
  split
  · rename_i h
    have h1 : n / 10 = 0 := by omega
    have h2 : n % 10 = n := by omega
    rw [h1, h2]; rfl
  · have h1 : n / 10 ≠ 0 := by omega
    unfold dec0
    rw [if_neg h1]
theorem dec_len : ∀ (k n : Nat), n < 10 ^ (k + 1) → (decD n).length ≤ k + 1
  | 0, n, h => by
    rw [dec_step, show n / 10 = 0 by omega]; simp [dec0]
  | k + 1, n, h => by
    rw [dec_step]
    by_cases h0 : n / 10 = 0
    · simp [dec0, h0]
    · have := dec_len k (n / 10) (by rw [Nat.pow_succ] at h; omega)
      simp [dec0, h0]; omega
theorem elB : Elem Tryd.prog 79 5 1 1 false (.int .u8 0) := ⟨by kernel_rfl, by kernel_rfl, by kernel_rfl, by kernel_rfl, by kernel_rfl, rfl, by decide⟩
theorem nums_u8 (bs : List UInt8) : Nums (bs.map u8) := fun x hx => by obtain ⟨b, _, rfl⟩ := List.mem_map.1 hx; exact ⟨_, _, rfl⟩
theorem conv_hnd {S : St} {n l : Nat} (bs : List UInt8) (h : S.cells n = some (bs.map u8)) (hl : l = bs.length) : convertA Tryd.prog S 79 9 (.hnd n 0 l 1) = some (.str bs) := by
  show ((S.cells n).bind fun cs => if 1 = 1 ∧ 0 + l ≤ cs.length then (bytesOfA ((cs.drop 0).take l)).map AV.str else none) = _
  subst hl
  rw [h]
  simp only [Option.bind_some, List.drop_zero]
  rw [if_pos ⟨trivial, by simp⟩, List.take_of_length_le (by simp), bytesOfA_u8]
  rfl
theorem t33 (h : Bool) (n : Nat) (hn : n < 2 ^ 64) (S : St) : CallQ Tryd.prog (NC h) 33 [.int .u64 n] S fun r S1 => r = .str (decD n) ∧ Keep S S1 := by
  have hlen := dec_len 19 n (by have : (10 : Nat) ^ 20 = 100000000000000000000 := rfl; omega)
  refine CallQ.of rfl (by kernel_rfl : Tryd.prog.funcs[33]? = some Tryd.f33) rfl (by decide) ?_
  conv => whnf
  refine CodeQ.loop (fun (q : Nat × AV) => pat 19 [(0, .int .u64 q.1), (3, q.2)])
    (fun m q S1 => m = q.1 + 1 ∧ q.1 < 2 ^ 64 ∧ Keep S S1 ∧ ∃ bs : List UInt8, HdB S.next S1 q.2 (bs.map u8) ∧ decD q.1 ++ bs.reverse = decD n) ?_ (n + 1) (n, .nils) _ _ ⟨rfl, hn, .refl _, [], HdB.nil _ _, by simp⟩ ⟨rfl, rfl, trivial⟩
  rintro m ⟨n', v⟩ S1 d ⟨rfl, k1, k2, bs, hv, k4⟩
  dsimp only at *
  have hbl : bs.length ≤ 20 := by have := congrArg List.length k4; simp at this; omega
  have hr : (n' : Int).tmod 10 = ((n' % 10 : Nat) : Int) := by
    rw [Int.tmod_eq_emod_of_nonneg (by omega)]; omega
  have hq : (n' : Int).tdiv 10 = ((n' / 10 : Nat) : Int) := by
    rw [Int.tdiv_eq_ediv_of_nonneg (by omega)]; omega
  have e1 : IntKind.u8.wrap (IntKind.u64.wrap (48 + ((n' % 10 : Nat) : Int))) = ((UInt8.ofNat (48 + n' % 10)).toNat : Int) := by
    rw [wrap_u64 (by omega) (by omega), show (48 : Int) + ((n' % 10 : Nat) : Int) = ((48 + n' % 10 : Nat) : Int) by omega, wrap_u8_nat]
  have e2 : IntKind.u64.wrap ((n' / 10 : Nat) : Int) = ((n' / 10 : Nat) : Int) := wrap_u64 (by omega) (by omega)
  conv => whnf
  refine ⟨by decide, ?_⟩
  rw [hr]
  conv => whnf
  rw [e1]
  generalize hc : UInt8.ofNat (48 + n' % 10) = c at *
  have hn1 := k2.next
  obtain ⟨S2, a1, a2, a3, a5, a4⟩ := HdB.append (C := NC h) (f := 33) (S := S1.new (.cells [u8 c])) (y := .hnd S1.next 0 1 1) (ys := [u8 c]) elB rfl (hv.mono (by show S1.next ≤ S1.next + 1; omega) (fun j hj hj2 _ => by simp [St.new, upd]; omega)) (by show S.next ≤ S1.next + 1; omega)
    (elems_nums (xs := [u8 c]) (rest := []) (by unfold St.cells; simp [St.new, upd]) (nums_u8 [c])) (nums_u8 [c]) (by simp) (by simp; omega)
  have eM : bs.map u8 ++ [u8 c] = (bs ++ [c]).map u8 := by simp
  rw [eM] at a1 a2 a5
  refine ⟨_, S2, a1, ?_⟩
  have k3 : Keep S S2 := by
    refine ⟨by rw [a3]; show S.next ≤ S1.next + 1 + 1; omega, fun j hj => ?_⟩
    rw [a4 j (by show j < S1.next + 1; omega) (fun l q => ?_)]
    · rw [← k2.mem j hj]; simp [St.new, upd]; omega
    · obtain ⟨_, ⟨q2, _⟩ | ⟨nn, _, q2, _, q3, _⟩⟩ := hv
      · rw [q2] at q; cases q
      · rw [q3] at q; cases q; omega
  clear a1 a4
  conv => whnf
  refine ⟨by decide, ?_⟩
  rw [hq, e2]
  conv => whnf
  refine brEq (fun h0 => ?_) (fun h0 => ?_)
  · have h0 : n' / 10 = 0 := by omega
    have hd : decD n = (bs ++ [c]).reverse := by
      rw [← k4, dec_step, h0, hc]; simp [dec0]
    conv => whnf
    refine CallQ.mono (t50 h ((bs ++ [c]).map u8) (fun x hx => List.all_eq_true.1 (nums_u8 _).leaf x hx) _ 0 S2 (by unfold St.cells; rw [a5]) (by simp; omega)) ?_
    rintro r S3 ⟨g1, g2, g3⟩
    conv => whnf
    refine ⟨_, conv_hnd _ (by rw [g2, ← List.map_reverse]) (by simp), ?_⟩
    conv => whnf
    exact ⟨by rw [hd]; rfl, ⟨by have := k3.next; omega, fun j hj => by rw [g3 j (by show j ≠ S1.next + 1; omega)]; exact k3.mem j hj⟩⟩
  have h0 : n' / 10 ≠ 0 := by omega
  conv => whnf
  refine ⟨n' / 10 + 1, (n' / 10, _), by omega, ⟨rfl, by omega, k3, bs ++ [c], a2, ?_⟩, ⟨rfl, rfl, trivial⟩⟩
  rw [← k4, dec_step n', hc]
  unfold dec0
  rw [if_neg h0]
  simp
end Go.Proofs.YtojgnofagkekeaaDoor
namespace Go.Proofs.YtojgnofagkekeaaDoor
open Go.Proofs.YtojgnofagkekeaaDoor.VM Go.RowKit
set_option maxRecDepth 100000
set_option linter.unusedVariables false
set_option maxHeartbeats 2000000
theorem conv_u8 (bs : List UInt8) (t : Tip) (S : St) : convertA Tryd.prog S 79 9 (.lst (bs.map u8) t) = some (.str bs) := by
  have : convertA Tryd.prog S 79 9 (.lst (bs.map u8) t) = (bytesOfA (bs.map u8)).map AV.str := rfl
  rw [this, bytesOfA_u8]; rfl
theorem t40 (h : Bool) (n : Nat) (hn : n < 2 ^ 64) (S : St) : CallQ Tryd.prog (NC h) 40 [.int .u64 n] S fun r S1 => S1 = S ∧ r = .str (decD n) := by
  refine CallQ.of rfl (by kernel_rfl : Tryd.prog.funcs[40]? = some Tryd.f40) rfl (by decide) ?_
  conv => whnf
  refine CodeQ.loop (fun (q : Nat × List UInt8 × Bool) => pat 21 [(0, .int .u64 q.1), (3, .str q.2.1), (4, .bool q.2.2)])
    (fun m q S1 => S1 = S ∧ m = q.1 + (if q.2.2 = true then 1 else 0) ∧ q.1 < 2 ^ 64 ∧ q.2.1.length ≤ 100 - (if q.1 = 0 then 0 else 1) ∧ ((q.2.2 = true ∧ q.1 = n ∧ q.2.1 = []) ∨ (q.2.2 = false ∧ dec0 q.1 ++ q.2.1 = decD n))) ?_ (n + 1) (n, [], true) _ _
    ⟨rfl, rfl, hn, by simp, .inl ⟨rfl, rfl, rfl⟩⟩ ⟨rfl, rfl, rfl, trivial⟩
  have hlen := dec_len 19 n (by have : (10 : Nat) ^ 20 = 100000000000000000000 := rfl; omega)
  rintro m ⟨n', s, fst⟩ S1 d ⟨rfl, k1, k2, _, k4⟩
  dsimp only at k1 k2 k4 ⊢
  have hr : (n' : Int).tmod 10 = ((n' % 10 : Nat) : Int) := by
    rw [Int.tmod_eq_emod_of_nonneg (by omega)]; omega
  have hq : (n' : Int).tdiv 10 = ((n' / 10 : Nat) : Int) := by
    rw [Int.tdiv_eq_ediv_of_nonneg (by omega)]; omega
  have e1 : IntKind.u8.wrap (IntKind.u64.wrap (48 + ((n' % 10 : Nat) : Int))) = ((UInt8.ofNat (48 + n' % 10)).toNat : Int) := by
    rw [wrap_u64 (by omega) (by omega), show (48 : Int) + ((n' % 10 : Nat) : Int) = ((48 + n' % 10 : Nat) : Int) by omega, wrap_u8_nat]
  have e2 : IntKind.u64.wrap ((n' / 10 : Nat) : Int) = ((n' / 10 : Nat) : Int) := wrap_u64 (by omega) (by omega)
  cases fst
  · rcases k4 with ⟨h, _⟩ | ⟨_, k4⟩
    · cases h
    have hsl : s.length ≤ 20 := by have := congrArg List.length k4; simp at this; omega
    conv => whnf
    intro c hc
    cases c
    · conv => whnf
      have h0 : n' = 0 := by simp at hc; omega
      subst h0
      refine ⟨rfl, ?_⟩
      show AV.str s = AV.str _
      rw [← k4]; rfl
    have h0 : 0 < n' := by simp at hc; omega
    conv => whnf
    refine ⟨by decide, ?_⟩
    rw [hr]
    conv => whnf
    rw [e1]
    refine ⟨_, conv_u8 [UInt8.ofNat (48 + n' % 10)] .full _, ?_⟩
    conv => whnf
    refine ⟨by simp; omega, ?_⟩
    conv => whnf
    refine ⟨by decide, ?_⟩
    rw [hq, e2]
    conv => whnf
    refine ⟨n' / 10, (n' / 10, [UInt8.ofNat (48 + n' % 10)] ++ s, false), by simp at k1; omega, ⟨rfl, by simp, by show n' / 10 < _; omega, by show _ ≤ _; simp only [List.length_append, List.length_singleton]; split <;> omega, .inr ⟨rfl, ?_⟩⟩, ⟨rfl, rfl, rfl, trivial⟩⟩
    show dec0 (n' / 10) ++ ([UInt8.ofNat (48 + n' % 10)] ++ s) = _
    rw [← List.append_assoc, ← dec_step, ← k4]
    have : n' ≠ 0 := by omega
    simp [dec0, this]
  · rcases k4 with ⟨_, rfl, rfl⟩ | ⟨h, _⟩
    rotate_left
    · cases h
    conv => whnf
    refine ⟨by decide, ?_⟩
    rw [hr]
    conv => whnf
    rw [e1]
    refine ⟨_, conv_u8 [UInt8.ofNat (48 + n' % 10)] .full _, ?_⟩
    conv => whnf
    refine ⟨by simp, ?_⟩
    conv => whnf
    refine ⟨by decide, ?_⟩
    rw [hq, e2]
    conv => whnf
    refine ⟨n' / 10, (n' / 10, [UInt8.ofNat (48 + n' % 10)] ++ [], false), by simp at k1; omega, ⟨rfl, by simp, by show n' / 10 < _; omega, by show _ ≤ _; simp; split <;> omega, .inr ⟨rfl, ?_⟩⟩, ⟨rfl, rfl, rfl, trivial⟩⟩
    show dec0 (n' / 10) ++ ([UInt8.ofNat (48 + n' % 10)] ++ []) = _
    rw [List.append_nil, ← dec_step]
end Go.Proofs.YtojgnofagkekeaaDoor
namespace Go.Proofs.YtojgnofagkekeaaDoor
open Go.Proofs.YtojgnofagkekeaaDoor.VM Go.RowKit
set_option maxRecDepth 100000
set_option linter.unusedVariables false
set_option maxHeartbeats 2000000
def isD (c : UInt8) : Bool := decide (48 ≤ c.toNat ∧ c.toNat ≤ 57)
/-- A text is a number's digits. -/
def rightS (s : List UInt8) : Bool := decide (1 ≤ s.length) && decide (s.length ≤ 800) && !(decide (s.getD 0 0 = 48) && decide (1 < s.length)) && s.all isD
theorem isD_no {c : UInt8} (h : c.toNat < 48 ∨ 57 < c.toNat) : isD c = false := decide_eq_false (by omega)
theorem isD_yes {c : UInt8} (h : 48 ≤ c.toNat) (h2 : c.toNat ≤ 57) : isD c = true := decide_eq_true ⟨h, h2⟩
theorem all_step (s : List UInt8) (i : Nat) (h : i < s.length) : (s.drop i).all isD = (isD (s.getD i 0) && (s.drop (i + 1)).all isD) := by
  rw [List.drop_eq_getElem_cons h, List.all_cons, List.getD_eq_getElem?_getD, List.getElem?_eq_getElem h]
  rfl
theorem getd {l : List UInt8} {i : Nat} (h : i < l.length) : l[i]? = some (l.getD i 0) := by simp [List.getD, h]
theorem t55 (h : Bool) (s : List UInt8) (S : St) : CallQ Tryd.prog (NC h) 55 [.str s] S fun r S1 => S1 = S ∧ r = .bool (rightS s) := by
  refine CallQ.of rfl (by kernel_rfl : Tryd.prog.funcs[55]? = some Tryd.f55) rfl (by decide) ?_
  conv => whnf
  refine brEq (fun h0 => ?_) (fun h0 => ?_)
  · have h0 : s.length = 0 := by omega
    conv => whnf
    exact ⟨rfl, by unfold rightS; rw [h0]; rfl⟩
  have h0 : 0 < s.length := by omega
  conv => whnf
  refine br (fun h1 => ?_) (fun h1 => ?_)
  · have h1 : ¬ s.length ≤ 800 := by omega
    conv => whnf
    exact ⟨rfl, by show AV.bool false = AV.bool _; unfold rightS; simp [h1]⟩
  have h1 : s.length ≤ 800 := by omega
  conv => whnf
  refine ⟨by decide, s.getD 0 0, getd h0, ?_⟩
  have hlp : s.getD 0 0 = 48 ∧ 1 < s.length ∨ rightS s = s.all isD := by
    by_cases q : s.getD 0 0 = 48 ∧ 1 < s.length
    · exact .inl q
    · right
      unfold rightS
      have : (decide (s.getD 0 0 = 48) && decide (1 < s.length)) = false := by simpa using q
      rw [this]
      simp [h1]; omega
  conv => whnf
  refine brEq (fun h2 => ?_) (fun h2 => ?_)
  · have h2 : s.getD 0 0 = 48 := UInt8.toNat_inj.1 (show (s.getD 0 0).toNat = (48 : UInt8).toNat by have : (48 : UInt8).toNat = 48 := rfl; omega)
    conv => whnf
    refine br (fun h3 => ?_) (fun h3 => ?_)
    · have h3 : 1 < s.length := by omega
      conv => whnf
      exact ⟨rfl, by show AV.bool false = AV.bool _; unfold rightS; rw [decide_eq_true h2, decide_eq_true h3]; simp⟩
    have hr : rightS s = s.all isD := hlp.resolve_left fun q => absurd q.2 (by omega)
    rw [hr]
    conv => whnf
    refine CodeQ.loop (fun (i : Nat) => pat 38 [(0, .str s), (3, .int .i64 i)]) (fun m i S1 => S1 = S ∧ i ≤ s.length ∧ m = s.length - i ∧ s.all isD = (s.drop i).all isD) ?_ _ 0 _ _ ⟨rfl, Nat.zero_le _, rfl, rfl⟩ ⟨rfl, rfl, trivial⟩
    rintro m i S1 d ⟨rfl, hi, hm, ha⟩
    dsimp only at *
    conv => whnf
    refine br (fun h5 => ?_) (fun h5 => ?_)
    rotate_left
    · have h5 : s.length ≤ i := by omega
      rw [List.drop_eq_nil_of_le h5] at ha
      conv => whnf
      exact ⟨rfl, by show AV.bool _ = AV.bool (s.all isD); rw [ha]; rfl⟩
    have h5 : i < s.length := by omega
    rw [all_step s i h5] at ha
    conv => whnf
    refine ⟨by omega, s.getD i 0, getd h5, ?_⟩
    conv => whnf
    refine br (fun h6 => ?_) (fun h6 => ?_)
    · have hd : isD (s.getD i 0) = false := isD_no (by omega)
      rw [hd] at ha
      conv => whnf
      exact ⟨rfl, by show AV.bool _ = AV.bool (s.all isD); rw [ha]; rfl⟩
    conv => whnf
    refine ⟨by omega, s.getD i 0, getd h5, ?_⟩
    conv => whnf
    refine br (fun h7 => ?_) (fun h7 => ?_)
    · have hd : isD (s.getD i 0) = false := isD_no (by omega)
      rw [hd] at ha
      conv => whnf
      exact ⟨rfl, by show AV.bool _ = AV.bool (s.all isD); rw [ha]; rfl⟩
    have hd : isD (s.getD i 0) = true := isD_yes (by omega) (by omega)
    rw [hd, Bool.true_and] at ha
    conv => whnf
    refine ⟨s.length - (i + 1), i + 1, by omega, ⟨rfl, h5, rfl, ha⟩, ⟨rfl, ?_, trivial⟩⟩
    rw [wrap_i64 (by omega) (by omega)]; rfl
  have h2 : s.getD 0 0 ≠ 48 := fun q => h2 (by rw [q]; rfl)
  have hr : rightS s = s.all isD := hlp.resolve_left fun q => h2 q.1
  rw [hr]
  conv => whnf
  refine CodeQ.loop (fun (i : Nat) => pat 38 [(0, .str s), (3, .int .i64 i)]) (fun m i S1 => S1 = S ∧ i ≤ s.length ∧ m = s.length - i ∧ s.all isD = (s.drop i).all isD) ?_ _ 0 _ _ ⟨rfl, Nat.zero_le _, rfl, rfl⟩ ⟨rfl, rfl, trivial⟩
  rintro m i S1 d ⟨rfl, hi, hm, ha⟩
  dsimp only at *
  conv => whnf
  refine br (fun h5 => ?_) (fun h5 => ?_)
  rotate_left
  · have h5 : s.length ≤ i := by omega
    rw [List.drop_eq_nil_of_le h5] at ha
    conv => whnf
    exact ⟨rfl, by show AV.bool _ = AV.bool (s.all isD); rw [ha]; rfl⟩
  have h5 : i < s.length := by omega
  rw [all_step s i h5] at ha
  conv => whnf
  refine ⟨by omega, s.getD i 0, getd h5, ?_⟩
  conv => whnf
  refine br (fun h6 => ?_) (fun h6 => ?_)
  · have hd : isD (s.getD i 0) = false := isD_no (by omega)
    rw [hd] at ha
    conv => whnf
    exact ⟨rfl, by show AV.bool _ = AV.bool (s.all isD); rw [ha]; rfl⟩
  conv => whnf
  refine ⟨by omega, s.getD i 0, getd h5, ?_⟩
  conv => whnf
  refine br (fun h7 => ?_) (fun h7 => ?_)
  · have hd : isD (s.getD i 0) = false := isD_no (by omega)
    rw [hd] at ha
    conv => whnf
    exact ⟨rfl, by show AV.bool _ = AV.bool (s.all isD); rw [ha]; rfl⟩
  have hd : isD (s.getD i 0) = true := isD_yes (by omega) (by omega)
  rw [hd, Bool.true_and] at ha
  conv => whnf
  refine ⟨s.length - (i + 1), i + 1, by omega, ⟨rfl, h5, rfl, ha⟩, ⟨rfl, ?_, trivial⟩⟩
  rw [wrap_i64 (by omega) (by omega)]; rfl
/-- How two texts stand, by length and then by bytes. -/
def ordS (a b : List UInt8) : Int := if a.length = b.length then Lib.compareBytes a b else if a.length < b.length then -1 else 1
end Go.Proofs.YtojgnofagkekeaaDoor
namespace Go.Proofs.YtojgnofagkekeaaDoor
open Go.Proofs.YtojgnofagkekeaaDoor.VM Go.RowKit
set_option maxRecDepth 100000
set_option linter.unusedVariables false
set_option maxHeartbeats 2000000
theorem cmp_self : ∀ a : List UInt8, Lib.compareBytes a a = 0
  | [] => rfl
  | x :: a => by unfold Lib.compareBytes; rw [if_neg (UInt8.lt_irrefl x), if_neg (UInt8.lt_irrefl x)]; exact cmp_self a
theorem cmp_zero : ∀ {a b : List UInt8}, Lib.compareBytes a b = 0 → a = b
  | [], [], _ => rfl
  | [], _ :: _, h => by cases h
  | _ :: _, [], h => by cases h
  | x :: a, y :: b, h => by
    unfold Lib.compareBytes at h
    split at h
    · cases h
    split at h
    · cases h
    · rename_i h1 h2
      have e : x = y := UInt8.le_antisymm (UInt8.not_lt.1 h2) (UInt8.not_lt.1 h1)
      rw [e, cmp_zero h]
theorem cmp_val : ∀ (a b : List UInt8), Lib.compareBytes a b = -1 ∨ Lib.compareBytes a b = 0 ∨ Lib.compareBytes a b = 1
  | [], [] => .inr (.inl rfl)
  | [], _ :: _ => .inl rfl
  | _ :: _, [] => .inr (.inr rfl)
  | x :: a, y :: b => by
    unfold Lib.compareBytes
    split
    · exact .inl rfl
    split
    · exact .inr (.inr rfl)
    · exact cmp_val a b
theorem less_cmp : ∀ (a b : List UInt8), Op.bytesLess a b = decide (Lib.compareBytes a b = -1)
  | [], [] => rfl
  | [], _ :: _ => rfl
  | _ :: _, [] => rfl
  | x :: a, y :: b => by
    unfold Op.bytesLess Lib.compareBytes
    by_cases h1 : x < y
    · simp [h1]
    · by_cases h2 : y < x
      · have : x ≠ y := fun e => h1 (by rw [e] at h2; exact absurd h2 (UInt8.lt_irrefl _))
        simp [h1, h2, this]
      · have e : x = y := UInt8.le_antisymm (UInt8.not_lt.1 h2) (UInt8.not_lt.1 h1)
        simp [e, less_cmp a b]
end Go.Proofs.YtojgnofagkekeaaDoor
namespace Go.Proofs.YtojgnofagkekeaaDoor
open Go.Proofs.YtojgnofagkekeaaDoor.VM Go.RowKit
set_option maxRecDepth 100000
set_option linter.unusedVariables false
set_option maxHeartbeats 2000000
theorem set_at (c : UInt8) : setL[c.toNat]? = some (.bool (isD c)) := by
  unfold setL
  rw [List.getElem?_map, List.getElem?_range (by have := c.toNat_lt; omega)]
  rfl
theorem t78 (h : Bool) (c : UInt8) (p : Nat) (S : St) (hp : S.cells p = some setL) : CallQ Tryd.prog (NC h) 78 [.ptr p 0, u8 c] S fun r S1 => S1 = S ∧ r = .bool (isD c) := by
  have hlt := c.toNat_lt
  refine CallQ.of rfl (by kernel_rfl : Tryd.prog.funcs[78]? = some Tryd.f78) rfl (by decide) ?_
  conv => whnf
  refine ⟨by omega, by simp; omega, ?_⟩
  conv => whnf
  refine ⟨_, hp, partF_of (v := .bool (isD c)) ?_ ?_⟩
  · show setL[0 + ((c.toNat : Nat) : Int).toNat * 1]? = _
    rw [show 0 + ((c.toNat : Nat) : Int).toNat * 1 = c.toNat by simp]
    exact set_at c
  conv => whnf
  exact ⟨rfl, rfl⟩
theorem und9 : Tryd.prog.underlying 9 = some .string := by kernel_rfl
theorem str_from (s : List UInt8) (i : Nat) (hi : i ≤ s.length) (b : Int) (hb : b = i) : sliceA Tryd.prog 9 (.str s) (some (.int .i64 b)) none none = some (.str (s.drop i)) := by
  subst hb
  unfold sliceA
  simp only [und9, Option.isSome_none, Bool.false_eq_true, if_false, boundA, Option.bind_some]
  rw [if_pos ⟨by omega, by omega⟩]
  simp only [Option.bind_some, Int.toNat_natCast, List.take_length]
theorem str_to (s : List UInt8) (i : Nat) (hi : i ≤ s.length) (b : Int) (hb : b = i) : sliceA Tryd.prog 9 (.str s) none (some (.int .i64 b)) none = some (.str (s.take i)) := by
  subst hb
  unfold sliceA
  simp only [und9, Option.isSome_none, Bool.false_eq_true, if_false, boundA]
  rw [if_pos ⟨by omega, by omega⟩]
  simp only [Option.bind_some, Int.toNat_natCast, List.drop_zero]
theorem t66 (h : Bool) (s : List UInt8) (p : Nat) (S : St) (hp : S.cells p = some setL) : CallQ Tryd.prog (NC h) 66 [.str s, .ptr p 0] S fun r S1 => S1 = S ∧ r = .str (s.dropWhile isD) := by
  refine CallQ.of rfl (by kernel_rfl : Tryd.prog.funcs[66]? = some Tryd.f66) rfl (by decide) ?_
  conv => whnf
  refine CodeQ.loop (fun (x : List UInt8) => pat 16 [(0, .str x), (1, .ptr p 0)]) (fun m x S1 => S1 = S ∧ m = x.length ∧ s.dropWhile isD = x.dropWhile isD) ?_ _ s _ _ ⟨rfl, rfl, rfl⟩ ⟨rfl, rfl, trivial⟩
  rintro m x S1 d ⟨rfl, hm, ha⟩
  dsimp only at *
  conv => whnf
  refine br (fun h5 => ?_) (fun h5 => ?_)
  rotate_left
  · have h5 : x = [] := List.length_eq_zero_iff.1 (by omega)
    subst h5
    conv => whnf
    exact ⟨rfl, by rw [ha]; rfl⟩
  obtain ⟨c, x, rfl⟩ : ∃ c t, x = c :: t := by cases x with | nil => simp at h5 | cons c t => exact ⟨c, t, rfl⟩
  conv => whnf
  refine ⟨by decide, c, rfl, ?_⟩
  conv => whnf
  refine CallQ.mono (t78 h c p S1 hp) ?_
  rintro r S2 ⟨rfl, rfl⟩
  rw [List.dropWhile_cons] at ha
  cases hd : isD c
  · rw [hd] at ha
    conv => whnf
    exact ⟨rfl, by rw [ha]; rfl⟩
  rw [hd] at ha
  conv => whnf
  refine ⟨_, str_from (c :: x) 1 (by simp) 1 rfl, ?_⟩
  conv => whnf
  exact ⟨x.length, x, by simp at hm; omega, ⟨rfl, rfl, ha⟩, ⟨rfl, rfl, trivial⟩⟩
/-- Without what stands behind. -/
def trimR (s : List UInt8) : List UInt8 := (s.reverse.dropWhile isD).reverse
theorem t67 (h : Bool) (s : List UInt8) (hl : s.length ≤ 2 ^ 47) (p : Nat) (S : St) (hp : S.cells p = some setL) : CallQ Tryd.prog (NC h) 67 [.str s, .ptr p 0] S fun r S1 => S1 = S ∧ r = .str (trimR s) := by
  refine CallQ.of rfl (by kernel_rfl : Tryd.prog.funcs[67]? = some Tryd.f67) rfl (by decide) ?_
  conv => whnf
  refine CodeQ.loop (fun (x : List UInt8) => pat 22 [(0, .str x), (1, .ptr p 0)]) (fun m x S1 => S1 = S ∧ m = x.length ∧ x.length ≤ 2 ^ 47 ∧ trimR s = trimR x) ?_ _ s _ _ ⟨rfl, rfl, hl, rfl⟩ ⟨rfl, rfl, trivial⟩
  rintro m x S1 d ⟨rfl, hm, hx, ha⟩
  dsimp only at *
  conv => whnf
  refine br (fun h5 => ?_) (fun h5 => ?_)
  rotate_left
  · have h5 : x = [] := List.length_eq_zero_iff.1 (by omega)
    subst h5
    conv => whnf
    exact ⟨rfl, by rw [ha]; rfl⟩
  obtain ⟨x, c, rfl⟩ : ∃ t c, x = t ++ [c] := ⟨x.dropLast, x.getLast (by intro q; subst q; simp at h5), (List.dropLast_concat_getLast _).symm⟩
  have hlen : (x ++ [c]).length = x.length + 1 := by simp
  conv => whnf
  rw [wrap_i64 (by omega) (by omega)]
  refine ⟨by omega, c, ?_, ?_⟩
  · rw [show (((x ++ [c]).length : Int) - 1).toNat = x.length by omega]; simp
  conv => whnf
  refine CallQ.mono (t78 h c p S1 hp) ?_
  rintro r S2 ⟨rfl, rfl⟩
  have ht : trimR (x ++ [c]) = if isD c = true then trimR x else x ++ [c] := by
    unfold trimR
    rw [List.reverse_append, List.reverse_singleton, List.singleton_append, List.dropWhile_cons]
    split
    · rfl
    · simp
  rw [ht] at ha
  cases hd : isD c
  · rw [hd] at ha
    conv => whnf
    exact ⟨rfl, by rw [ha]; rfl⟩
  rw [hd] at ha
  conv => whnf
  refine ⟨_, str_to (x ++ [c]) x.length (by simp) _ (by rw [wrap_i64 (by omega) (by omega)]; omega), ?_⟩
  rw [List.take_left]
  conv => whnf
  exact ⟨x.length, x, by omega, ⟨rfl, rfl, by omega, ha⟩, ⟨rfl, rfl, trivial⟩⟩
end Go.Proofs.YtojgnofagkekeaaDoor
namespace Go.Proofs.YtojgnofagkekeaaDoor
open Go.Proofs.YtojgnofagkekeaaDoor.VM Go.RowKit
set_option maxRecDepth 100000
set_option linter.unusedVariables false
set_option maxHeartbeats 2000000
def trimS (s : List UInt8) : List UInt8 := (trimR s).dropWhile isD
theorem trim_len (s : List UInt8) : (trimR s).length ≤ s.length := by
  unfold trimR
  have := (List.dropWhile_suffix (l := s.reverse) isD).length_le
  simp at this ⊢
  exact this
theorem t51 (h : Bool) (s : List UInt8) (hl : s.length ≤ 2 ^ 47) (S : St) : CallQ Tryd.prog (NC h) 51 [.str s, .str digs10] S fun r S1 => Keep S S1 ∧ r = .str (trimS s) := by
  refine CallQ.of rfl (by kernel_rfl : Tryd.prog.funcs[51]? = some Tryd.f51) rfl (by decide) ?_
  conv => whnf
  refine brSEq (fun h0 => ?_) (fun h0 => ?_)
  · have h0 : s = [] := h0
    subst h0
    conv => whnf
    exact ⟨.refl _, rfl⟩
  conv => whnf
  refine brSEq (fun h1 => absurd h1 (by decide)) (fun _ => ?_)
  conv => whnf
  refine brEq (fun h1 => absurd h1 (by decide)) (fun _ => ?_)
  conv => whnf
  refine CallQ.intr (g := setG) rfl rfl ?_
  conv => whnf
  refine ⟨_, _, cells_new _ _, store_agg rfl rfl rfl, ?_⟩
  conv => whnf
  generalize hS1 : (S.new _).set _ _ = S1
  have k1 : Keep S S1 := by rw [← hS1]; exact ((Keep.refl S).new _).set _ _ (Nat.le_refl _)
  have c1 : S1.cells S.next = some setL := by rw [← hS1, cells_set]
  clear hS1
  refine CallQ.mono (t67 h s hl S.next S1 c1) ?_
  rintro r S2 ⟨rfl, rfl⟩
  conv => whnf
  refine CallQ.mono (t66 h (trimR s) S.next S2 c1) ?_
  rintro r S3 ⟨rfl, rfl⟩
  conv => whnf
  exact ⟨k1, rfl⟩
theorem dropW_nil {p : UInt8 → Bool} : ∀ {l : List UInt8}, l.dropWhile p = [] ↔ ∀ x ∈ l, p x = true
  | [] => by simp
  | x :: l => by
    rw [List.dropWhile_cons]
    split
    · rename_i h; rw [dropW_nil]; simp [h]
    · rename_i h
      constructor
      · intro q; cases q
      · intro q; exact absurd (q x (by simp)) h
theorem trim_all (s : List UInt8) : (trimS s = []) = (s.all isD = true) := by
  unfold trimS trimR
  apply propext
  constructor
  · intro h
    rw [dropW_nil] at h
    rw [List.all_eq_true]
    intro x hx
    by_cases q : x ∈ (s.reverse.dropWhile isD).reverse
    · exact h x q
    · have e := List.takeWhile_append_dropWhile (p := isD) (l := s.reverse)
      have hx2 : x ∈ s.reverse := List.mem_reverse.2 hx
      rw [← e] at hx2
      rcases List.mem_append.1 hx2 with q2 | q2
      · exact List.all_eq_true.1 List.all_takeWhile x q2
      · exact absurd (List.mem_reverse.2 q2) q
  · intro h
    have h2 : s.reverse.dropWhile isD = [] := by
      rw [dropW_nil]
      intro x hx
      exact List.all_eq_true.1 h x (List.mem_reverse.1 hx)
    rw [h2]; rfl
theorem t61 (h : Bool) (s : List UInt8) (hl : s.length ≤ 2 ^ 47) (S : St) : CallQ Tryd.prog (NC h) 61 [.str s] S fun r S1 => Keep S S1 ∧ r = .bool (rightS s) := by
  refine CallQ.of rfl (by kernel_rfl : Tryd.prog.funcs[61]? = some Tryd.f61) rfl (by decide) ?_
  conv => whnf
  refine brSEq (fun h0 => ?_) (fun h0 => ?_)
  · have h0 : s = [] := h0
    subst h0
    conv => whnf
    exact ⟨.refl _, rfl⟩
  have h0 : 0 < s.length := List.length_pos_iff.2 (fun q => h0 q)
  conv => whnf
  refine br (fun h1 => ?_) (fun h1 => ?_)
  · have h1 : ¬ s.length ≤ 800 := by omega
    conv => whnf
    exact ⟨.refl _, by show AV.bool false = AV.bool _; unfold rightS; simp [h1]⟩
  have h1 : s.length ≤ 800 := by omega
  conv => whnf
  refine ⟨by decide, s.getD 0 0, getd h0, ?_⟩
  have hlp : s.getD 0 0 = 48 ∧ 1 < s.length ∨ rightS s = s.all isD := by
    by_cases q : s.getD 0 0 = 48 ∧ 1 < s.length
    · exact .inl q
    · right
      unfold rightS
      have : (decide (s.getD 0 0 = 48) && decide (1 < s.length)) = false := by simpa using q
      rw [this]
      simp [h1]; omega
  conv => whnf
  refine brEq (fun h2 => ?_) (fun h2 => ?_)
  · have h2 : s.getD 0 0 = 48 := UInt8.toNat_inj.1 (show (s.getD 0 0).toNat = (48 : UInt8).toNat by have : (48 : UInt8).toNat = 48 := rfl; omega)
    conv => whnf
    refine brSNe (fun h3 => ?_) (fun h3 => ?_)
    · have h3 : s ≠ [48] := h3
      have h4 : 1 < s.length := by
        match s, h0, h2, h3 with
        | [c], _, h2, h3 => exact absurd (by simpa using h2) h3
        | _ :: _ :: _, _, _, _ => simp
      conv => whnf
      exact ⟨.refl _, by show AV.bool false = AV.bool _; unfold rightS; rw [decide_eq_true h2, decide_eq_true h4]; simp⟩
    have h3 : s = [48] := h3
    have hr : rightS s = s.all isD := hlp.resolve_left fun q => by rw [h3] at q; exact absurd q.2 (by decide)
    rw [hr]
    conv => whnf
    refine CallQ.mono (t51 h s hl S) ?_
    rintro r S1 ⟨k1, rfl⟩
    conv => whnf
    refine brSEq (fun h3 => ?_) (fun h3 => ?_)
    · have h3 : trimS s = [] := h3
      conv => whnf
      exact ⟨k1, by rw [trim_all] at h3; rw [h3]; rfl⟩
    · have h3 : ¬ trimS s = [] := h3
      conv => whnf
      exact ⟨k1, by rw [trim_all] at h3; rw [Bool.not_eq_true] at h3; rw [h3]; rfl⟩
  have h2 : s.getD 0 0 ≠ 48 := fun q => h2 (by rw [q]; rfl)
  have hr : rightS s = s.all isD := hlp.resolve_left fun q => h2 q.1
  rw [hr]
  conv => whnf
  refine CallQ.mono (t51 h s hl S) ?_
  rintro r S1 ⟨k1, rfl⟩
  conv => whnf
  refine brSEq (fun h3 => ?_) (fun h3 => ?_)
  · have h3 : trimS s = [] := h3
    conv => whnf
    exact ⟨k1, by rw [trim_all] at h3; rw [h3]; rfl⟩
  · have h3 : ¬ trimS s = [] := h3
    conv => whnf
    exact ⟨k1, by rw [trim_all] at h3; rw [Bool.not_eq_true] at h3; rw [h3]; rfl⟩
end Go.Proofs.YtojgnofagkekeaaDoor
namespace Go.Proofs.YtojgnofagkekeaaDoor
open Go.Proofs.YtojgnofagkekeaaDoor.VM Go.RowKit
set_option maxRecDepth 100000
set_option linter.unusedVariables false
set_option maxHeartbeats 2000000
/-- A text's number, in 64 bits. -/
def wstep (n : Nat) (c : UInt8) : Nat := (n * 10 + (c.toNat - 48)) % 2 ^ 64
def wval (s : List UInt8) : Nat := s.foldl wstep 0
def maxD : List UInt8 := [49, 56, 52, 52, 54, 55, 52, 52, 48, 55, 51, 55, 48, 57, 53, 53, 49, 54, 49, 53]
def wordV (s : List UInt8) : AV := if rightS s = true ∧ ¬ ordS s maxD > 0 then .tuple [.int .u64 (wval s), .bool true] else .tuple [.int .u64 0, .bool false]
theorem wrap_mod (x : Int) : IntKind.u64.wrap x = x % 18446744073709551616 := by simp [IntKind.wrap, IntKind.bits, IntKind.signed]
theorem word_step (n : Nat) (c : UInt8) (h : 48 ≤ c.toNat) (h2 : c.toNat ≤ 57) : IntKind.u64.wrap (IntKind.u64.wrap ((n : Int) * 10) + IntKind.u64.wrap (IntKind.u8.wrap ((c.toNat : Int) - 48))) = ((wstep n c : Nat) : Int) := by
  rw [wrap_u8 (by omega) (by omega), wrap_mod, wrap_mod, wrap_mod]
  unfold wstep
  omega
theorem right_all {s : List UInt8} (h : rightS s = true) : s.length ≤ 800 ∧ ∀ c ∈ s, 48 ≤ c.toNat ∧ c.toNat ≤ 57 := by
  unfold rightS at h
  simp only [Bool.and_eq_true, decide_eq_true_eq] at h
  exact ⟨h.1.1.2, fun c hc => of_decide_eq_true (List.all_eq_true.1 h.2 c hc)⟩
end Go.Proofs.YtojgnofagkekeaaDoor
namespace Go.Proofs.YtojgnofagkekeaaDoor
open Go.Proofs.YtojgnofagkekeaaDoor.VM Go.RowKit
set_option maxRecDepth 100000
set_option linter.unusedVariables false
set_option maxHeartbeats 2000000
theorem dec_low (s : List UInt8) (p : Nat) (h : p < s.length) (hc : (s.getD p 0).toNat < 128) : Utf8.decode ⟨s.toArray⟩ p = ((s.getD p 0).toNat, 1) := by
  have e : (ByteArray.mk s.toArray).get! p = s.getD p 0 := by
    show s.toArray[p]! = _
    simp [List.getD, h]
  unfold Utf8.decode
  dsimp only
  have e2 : ((ByteArray.mk s.toArray).get! (p + 0)).toNat = (s.getD p 0).toNat := by rw [Nat.add_zero, e]
  rw [if_pos (by rw [e2]; exact hc), e2]
theorem word_step32 (n : Nat) (c : UInt8) (h : 48 ≤ c.toNat) (h2 : c.toNat ≤ 57) : IntKind.u64.wrap (IntKind.u64.wrap ((n : Int) * 10) + IntKind.u64.wrap (IntKind.i32.wrap ((c.toNat : Int) - 48))) = ((wstep n c : Nat) : Int) := by
  have e : IntKind.i32.wrap ((c.toNat : Int) - 48) = (c.toNat : Int) - 48 := by
    simp [IntKind.wrap, IntKind.bits, IntKind.signed]
    split <;> omega
  rw [e, wrap_mod, wrap_mod, wrap_mod]
  unfold wstep
  omega
theorem max_dec : decD 18446744073709551615 = maxD := by decide +kernel
end Go.Proofs.YtojgnofagkekeaaDoor
namespace Go.Proofs.YtojgnofagkekeaaDoor
open Go.Proofs.YtojgnofagkekeaaDoor.VM Go.RowKit
set_option maxRecDepth 100000
set_option linter.unusedVariables false
set_option maxHeartbeats 2000000
/-- A text's number. -/
def vstep (n : Nat) (c : UInt8) : Nat := n * 10 + (c.toNat - 48)
def valD (s : List UInt8) : Nat := s.foldl vstep 0
theorem valD_snoc (s : List UInt8) (c : UInt8) : valD (s ++ [c]) = valD s * 10 + (c.toNat - 48) := by unfold valD; rw [List.foldl_append]; rfl
theorem valD_dec : ∀ n, valD (decD n) = n := by
  intro n
  induction n using Nat.strongRecOn with
  | _ n ih =>
    unfold decD
    split
    · rename_i h
      show 0 * 10 + ((UInt8.ofNat (48 + n)).toNat - 48) = n
      rw [UInt8.toNat_ofNat']; omega
    · rename_i h
      rw [valD_snoc, ih (n / 10) (by omega), UInt8.toNat_ofNat']
      omega
theorem wval_val : ∀ s : List UInt8, wval s = valD s % 2 ^ 64 := by
  have key : ∀ (s : List UInt8) (m : Nat), s.foldl wstep (m % 2 ^ 64) = s.foldl vstep m % 2 ^ 64 := by
    intro s
    induction s with
    | nil => intro m; rfl
    | cons c s ih =>
      intro m
      rw [List.foldl_cons, List.foldl_cons, ← ih (vstep m c)]
      congr 1
      unfold wstep vstep
      omega
  intro s
  exact key s 0
theorem dec_dig : ∀ n, ∀ c ∈ decD n, 48 ≤ c.toNat ∧ c.toNat ≤ 57 := by
  intro n
  induction n using Nat.strongRecOn with
  | _ n ih =>
    intro c hc
    unfold decD at hc
    split at hc
    · rename_i h
      obtain rfl : c = UInt8.ofNat (48 + n) := by simpa using hc
      rw [UInt8.toNat_ofNat']; omega
    · rename_i h
      rcases List.mem_append.1 hc with q | q
      · exact ih (n / 10) (by omega) c q
      · obtain rfl : c = UInt8.ofNat (48 + n % 10) := by simpa using q
        rw [UInt8.toNat_ofNat']; omega
theorem dec_head : ∀ n, decD n ≠ [] ∧ ((decD n).getD 0 0 = 48 → n = 0) := by
  intro n
  induction n using Nat.strongRecOn with
  | _ n ih =>
    unfold decD
    split
    · rename_i h
      refine ⟨by simp, fun q => ?_⟩
      have q : UInt8.ofNat (48 + n) = 48 := q
      have := congrArg UInt8.toNat q
      rw [UInt8.toNat_ofNat'] at this
      have h48 : (48 : UInt8).toNat = 48 := rfl
      omega
    · rename_i h
      obtain ⟨h1, h2⟩ := ih (n / 10) (by omega)
      refine ⟨by simp, fun q => ?_⟩
      have e : (decD (n / 10) ++ [UInt8.ofNat (48 + n % 10)]).getD 0 0 = (decD (n / 10)).getD 0 0 := by
        cases hd : decD (n / 10) with
        | nil => exact absurd hd h1
        | cons a t => rfl
      rw [e] at q
      have := h2 q
      omega
theorem right_dec {n : Nat} (h : n < 2 ^ 64) : rightS (decD n) = true := by
  have hlen := dec_len 19 n (by have : (10 : Nat) ^ 20 = 100000000000000000000 := rfl; omega)
  obtain ⟨h1, h2⟩ := dec_head n
  have h3 : 1 ≤ (decD n).length := List.length_pos_iff.2 h1
  have h4 : (decD n).all isD = true := List.all_eq_true.2 fun c hc => decide_eq_true (dec_dig n c hc)
  unfold rightS
  rw [h4, decide_eq_true h3, decide_eq_true (show (decD n).length ≤ 800 by omega)]
  by_cases q : (decD n).getD 0 0 = 48
  · have := h2 q
    subst this
    have : (decD 0).length = 1 := by unfold decD; rfl
    rw [this]; simp
  · rw [decide_eq_false q]; rfl
/-- Of two texts of one length the one that stands behind is the greater number. -/
theorem cmp_val_gt : ∀ (a b : List UInt8), a.length = b.length → (∀ c ∈ a, 48 ≤ c.toNat ∧ c.toNat ≤ 57) → (∀ c ∈ b, 48 ≤ c.toNat ∧ c.toNat ≤ 57) → Lib.compareBytes a b = 1 → ∀ m, b.foldl vstep m < a.foldl vstep m := by
  have lt : ∀ (a b : List UInt8), a.length = b.length → (∀ c ∈ a, 48 ≤ c.toNat ∧ c.toNat ≤ 57) → (∀ c ∈ b, 48 ≤ c.toNat ∧ c.toNat ≤ 57) → ∀ m k, m < k → b.foldl vstep m < a.foldl vstep k := by
    intro a
    induction a with
    | nil => intro b hl _ _ m k h; cases b with | nil => exact h | cons => cases hl
    | cons x a ih =>
      intro b hl ha hb m k h
      cases b with
      | nil => cases hl
      | cons y b =>
        rw [List.foldl_cons, List.foldl_cons]
        have h1 := ha x (by simp)
        have h2 := hb y (by simp)
        exact ih b (by simpa using hl) (fun c hc => ha c (by simp [hc])) (fun c hc => hb c (by simp [hc])) _ _ (by unfold vstep; omega)
  intro a
  induction a with
  | nil => intro b hl _ _ h; cases b with | nil => cases h | cons => cases hl
  | cons x a ih =>
    intro b hl ha hb h m
    cases b with
    | nil => cases hl
    | cons y b =>
      have h1 := ha x (by simp)
      have h2 := hb y (by simp)
      have ha' : ∀ c ∈ a, 48 ≤ c.toNat ∧ c.toNat ≤ 57 := fun c hc => ha c (by simp [hc])
      have hb' : ∀ c ∈ b, 48 ≤ c.toNat ∧ c.toNat ≤ 57 := fun c hc => hb c (by simp [hc])
      unfold Lib.compareBytes at h
      rw [List.foldl_cons, List.foldl_cons]
      split at h
      · cases h
      split at h
      · rename_i q
        have q : y.toNat < x.toNat := q
        exact lt a b (by simpa using hl) ha' hb' _ _ (by unfold vstep; omega)
      · rename_i q1 q2
        have e : x = y := UInt8.le_antisymm (UInt8.not_lt.1 q2) (UInt8.not_lt.1 q1)
        subst e
        exact ih b (by simpa using hl) ha' hb' h _
theorem ord_dec {n : Nat} (h : n < 2 ^ 64) : ¬ ordS (decD n) maxD > 0 := by
  have hlen := dec_len 19 n (by have : (10 : Nat) ^ 20 = 100000000000000000000 := rfl; omega)
  have hm : maxD.length = 20 := rfl
  unfold ordS
  split
  · rename_i hl
    rcases cmp_val (decD n) maxD with q | q | q
    · rw [q]; decide
    · rw [q]; decide
    · have := cmp_val_gt (decD n) maxD hl (dec_dig n) (by decide) q 0
      have e1 : (decD n).foldl vstep 0 = n := valD_dec n
      have e2 : maxD.foldl vstep 0 = 18446744073709551615 := by decide +kernel
      omega
  · split
    · decide
    · omega
/-- What was put as a word is read as it. -/
theorem word_dec {n : Nat} (h : n < 2 ^ 64) : wordV (decD n) = .tuple [.int .u64 n, .bool true] := by
  unfold wordV
  rw [if_pos ⟨right_dec h, ord_dec h⟩, wval_val, valD_dec, Nat.mod_eq_of_lt h]
end Go.Proofs.YtojgnofagkekeaaDoor
