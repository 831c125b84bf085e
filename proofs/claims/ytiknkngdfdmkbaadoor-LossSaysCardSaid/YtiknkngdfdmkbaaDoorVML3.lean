import Derived.Test.YtiknkngdfdmkbaaDoorVML2
namespace Go.Proofs.YtiknkngdfdmkbaaDoor
open Go.Proofs.YtiknkngdfdmkbaaDoor.VM
set_option maxRecDepth 100000
set_option linter.unusedVariables false

theorem zeros_run (n : Nat) (h0 : 0 < n) (hn : n ≤ 2 ^ 40) (S : St) : builtinA Tryd.prog LC 43 .append #[23, 3] [.nils, .int .i64 n] S = some (.ret (.hnd S.next 0 n 1), S.new (.cells (rep [.int .u8 0] n))) := by
  have h : builtinA Tryd.prog LC 43 .append #[23, 3] [.nils, .int .i64 n] S = (zerosA LC 43 S 1 1 (.int .u8 0) .nils (.int .i64 n)).bind retA := rfl
  rw [h]
  unfold zerosA
  simp only
  rw [if_pos ⟨by omega, by decide, rfl, by simp [sizeOk]; omega, rfl⟩]
  rfl

theorem t43 (n : Nat) (h0 : 0 < n) (hn : n ≤ 2 ^ 40) (S : St) : CallQ Tryd.prog LC 43 [.nils, .int .i64 n] S fun r S1 => r = .hnd S.next 0 0 1 ∧ S1 = S.new (.cells (rep [.int .u8 0] n)) := by
  refine CallQ.of rfl (by kernel_rfl : Tryd.prog.funcs[43]? = some Tryd.f43) rfl (by decide) ?_
  conv => whnf
  intro c hc
  have : c = false := by rw [hc]; simp
  subst this
  conv => whnf
  have e0 : IntKind.i64.wrap ((n : Int) - IntKind.i64.wrap (0 - ((0 : Nat) : Int))) = n := by
    rw [show (IntKind.i64.wrap (0 - ((0 : Nat) : Int))) = 0 from rfl, wrap_i64 (by omega) (by omega)]; omega
  intro c hc
  rw [e0] at hc
  have : c = true := by rw [hc]; simp; omega
  subst this
  rw [e0]
  conv => whnf
  refine ⟨.nils, rfl, ?_⟩
  conv => whnf
  refine ⟨_, _, zeros_run n h0 hn S, ?_⟩
  conv => whnf
  refine ⟨.hnd S.next 0 0 1, rfl, ?_⟩
  conv => whnf
  exact ⟨rfl, rfl⟩

theorem leaf_cells {v : AV} (h : v.leafOk = true) : v.cells = [v] := by cases v <;> simp_all [AV.leafOk, AV.cells]
theorem store_leaf {v : AV} (h : v.leafOk = true) {cs : List AV} {off i : Nat} (ho : off = i) (hi : i < cs.length) : (if v.cells.length = 1 ∧ v.cells.all AV.leafOk = true ∧ off + 1 ≤ cs.length then some (setsA cs off v.cells) else none) = some (cs.set i v) := by
  subst ho
  rw [leaf_cells h, if_pos ⟨rfl, by simp [h], by omega⟩]
  rfl

/-- Swapping from both ends. -/
theorem t35 (xs : List AV) (hx : ∀ x ∈ xs, x.leafOk = true) (n off : Nat) (S : St) (hc : S.cells n = some xs) (hl : xs.length ≤ 2 ^ 40) :
    CallQ Tryd.prog LC 35 [.hnd n 0 xs.length 1] S fun r S1 => S1.next = S.next ∧ S1.cells n = some xs.reverse ∧ ∀ m, m ≠ n → S1.mem m = S.mem m := by
  refine CallQ.of rfl (by kernel_rfl : Tryd.prog.funcs[35]? = some Tryd.f35) rfl (by decide) ?_
  conv => whnf
  refine CodeQ.loop (fun (i : Nat) => pat 28 [(0, .hnd n 0 xs.length 1), (2, .int .i64 i), (3, .int .i64 ((xs.length : Int) - 1 - i))])
    (fun m i S1 => i + m = xs.length ∧ S1.next = S.next ∧ (∀ m, m ≠ n → S1.mem m = S.mem m) ∧ ∃ ys, S1.cells n = some ys ∧ ys.length = xs.length ∧ ∀ k, k < xs.length → ys[k]? = if k < i ∨ xs.length - i ≤ k then xs[xs.length - 1 - k]? else xs[k]?)
    ?_ xs.length 0 _ _ ⟨by omega, rfl, fun _ _ => rfl, xs, hc, rfl, fun k hk => by simp; omega⟩ ⟨rfl, rfl, by rw [wrap_i64 (by omega) (by omega)]; simp, trivial⟩
  intro m i S1 d ⟨e1, e2, e3, ys, e4, e5, e6⟩
  conv => whnf
  intro c hc
  cases c
  · conv => whnf
    simp at hc
    refine ⟨e2, ?_, e3⟩
    have : ys = xs.reverse := by
      refine List.ext_getElem? (fun k => ?_)
      rcases Nat.lt_or_ge k xs.length with hk | hk
      · rw [e6 k hk, List.getElem?_reverse hk]
        split
        · rfl
        · rename_i hn
          have : k = xs.length - 1 - k := by omega
          rw [← this]
      · rw [List.getElem?_eq_none (by omega), List.getElem?_eq_none (by simpa using hk)]
    rw [e4, this]
  · simp at hc
    conv => whnf
    refine ⟨[0, 1, 4, 5, 6, 7, 8, 9, 10, 11, 12, 13, 2, 3, 14, 15], [], by kernel_rfl, by kernel_rfl, by kernel_rfl, ?_⟩
    conv => whnf
    refine ⟨by omega, by omega, ?_⟩
    conv => whnf
    have hy : ∀ k (h : k < ys.length), ys[k].leafOk = true := by
      intro k h
      have h1 := e6 k (by omega)
      rw [List.getElem?_eq_getElem h] at h1
      split at h1
      · exact hx _ (List.mem_of_getElem? h1.symm)
      · exact hx _ (List.mem_of_getElem? h1.symm)
    have hj : ((xs.length : Int) - 1 - i).toNat = xs.length - 1 - i := by omega
    have lj : xs.length - 1 - i < ys.length := by omega
    have li : i < ys.length := by omega
    refine ⟨ys, e4, partF_of (v := ys[xs.length - 1 - i]) ?_ ?_⟩
    · show ys[0 + ((xs.length : Int) - 1 - i).toNat * 1]? = _
      rw [hj]; simp
    conv => whnf
    refine ⟨by omega, by omega, ?_⟩
    conv => whnf
    refine ⟨ys, e4, partF_of (v := ys[i]) ?_ ?_⟩
    · show ys[0 + (i : Int).toNat * 1]? = _
      simp [li]
    conv => whnf
    refine ⟨by omega, by omega, ?_⟩
    conv => whnf
    refine ⟨ys, ys.set i ys[xs.length - 1 - i], e4, ?_, ?_⟩
    · exact store_leaf (hy _ lj) (show 0 + (i : Int).toNat * 1 = i by simp) li
    conv => whnf
    refine ⟨by omega, by omega, ?_⟩
    conv => whnf
    refine ⟨ys.set i ys[xs.length - 1 - i], (ys.set i ys[xs.length - 1 - i]).set (xs.length - 1 - i) ys[i], cells_set _ _ _, store_leaf (hy _ li) (show 0 + ((xs.length : Int) - 1 - i).toNat * 1 = xs.length - 1 - i by rw [hj]; simp) (by simpa using lj), ?_⟩
    conv => whnf
    refine ⟨m - 1, i + 1, by omega, ⟨by omega, e2, fun k hk => ?_, _, cells_set _ _ _, by simp [e5], fun k hk => ?_⟩, ⟨rfl, by rw [wrap_i64 (by omega) (by omega)]; rfl, by rw [wrap_i64 (by omega) (by omega)]; congr 1; omega, trivial⟩⟩
    · simp [St.set, upd, hk, e3 k hk]
    · have hyj := e6 (xs.length - 1 - i) (by omega)
      have hyi := e6 i (by omega)
      rw [List.getElem?_set, List.getElem?_set, List.length_set]
      rw [List.getElem?_eq_getElem lj, if_neg (by omega)] at hyj
      rw [List.getElem?_eq_getElem li, if_neg (by omega)] at hyi
      by_cases a : xs.length - 1 - i = k
      · subst a
        rw [if_pos rfl, if_pos lj, if_pos (by omega), hyi]
        congr 1; omega
      · rw [if_neg a]
        by_cases b : i = k
        · subst b
          rw [if_pos rfl, if_pos li, if_pos (by omega), hyj]
        · rw [if_neg b, e6 k hk]
          by_cases q : k < i ∨ xs.length - i ≤ k
          · rw [if_pos q, if_pos (by omega)]
          · rw [if_neg q, if_neg (by omega)]
end Go.Proofs.YtiknkngdfdmkbaaDoor
