import Derived.Test.YtkbfappjlolmaaaVMC1
namespace Go.Proofs.Ytkbfappjlolmaaa
open Go.Proofs.Ytkbfappjlolmaaa.VM Go.RowKit
set_option maxRecDepth 100000
set_option linter.unusedVariables false
set_option linter.unusedSimpArgs false
set_option maxHeartbeats 1000000
/-! A cursor that nobody made: none, or one of zeros. -/
theorem cells_keep {S S1 : St} (h : Keep S S1) {j : Nat} (hj : j < S.next) : S1.cells j = S.cells j := by unfold St.cells; rw [h.mem j hj]
/-- The two of them. -/
def Nob (S : St) (v : AV) : Prop := v = .nul ∨ ∃ c, v = .ptr c 0 ∧ c < S.next ∧ S.cells c = some [.bool false, .nils, .int .i64 0, .int .i64 0, .int .i64 0]
theorem Nob.keep {S S1 : St} {v : AV} (h : Nob S v) (k : Keep S S1) : Nob S1 v := by
  rcases h with rfl | ⟨c, rfl, h1, h2⟩
  · exact .inl rfl
  · exact .inr ⟨c, rfl, by have := k.next; omega, (cells_keep k h1).trans h2⟩
theorem f11n (S : St) (v : AV) (hv : Nob S v) : CallQ Try.prog CC 11 [v] S fun r S1 => r = .agg [.int .i64 2, .int .i64 0] ∧ Keep S S1 := by
  refine CallQ.of rfl (by kernel_rfl : Try.prog.funcs[11]? = some Try.f11) rfl (by decide) ?_
  rcases hv with rfl | ⟨c, rfl, hlt, hc⟩
  · conv => whnf
    intro b hb
    subst hb
    conv => whnf
    refine ⟨_, _, cells_new _ _, store_agg rfl rfl rfl, ?_⟩
    conv => whnf
    refine ⟨.agg [.int .i64 2, .int .i64 0], by show (St.cells _ S.next).bind _ = _; rw [cells_set]; rfl, ?_⟩
    conv => whnf
    exact ⟨rfl, ((Keep.refl S).new _).set _ _ (Nat.le_refl _)⟩
  · conv => whnf
    intro b hb
    subst hb
    conv => whnf
    have hc1 : ∀ cs, (S.new (.cells cs)).cells c = some [.bool false, .nils, .int .i64 0, .int .i64 0, .int .i64 0] := fun cs => cells_new_ne hc (by omega)
    refine ⟨_, hc1 _, ?_⟩
    conv => whnf
    refine ⟨_, _, cells_new _ _, store_agg rfl rfl rfl, ?_⟩
    conv => whnf
    refine ⟨.agg [.int .i64 2, .int .i64 0], by show (St.cells _ S.next).bind _ = _; rw [cells_set]; rfl, ?_⟩
    conv => whnf
    exact ⟨rfl, ((Keep.refl S).new _).set _ _ (Nat.le_refl _)⟩
theorem eq29 (fw fa : Int) : eqF Try.prog 29 (.agg [.int .i64 fw, .int .i64 fa]) (.agg [ofLeaf (.int .i64 0), ofLeaf (.int .i64 0)]) = some (fw == 0 && (fa == 0 && true)) := by kernel_rfl
theorem f23n (S : St) (v : AV) (hv : Nob S v) : CallQ Try.prog CC 23 [v] S fun r S1 => r = .bool false ∧ Keep S S1 := by
  have hf := f11n S v hv
  refine CallQ.of rfl (by kernel_rfl : Try.prog.funcs[23]? = some Try.f23) rfl (by decide) ?_
  rcases hv with rfl | ⟨c, rfl, hlt, hc⟩
  all_goals
    conv => whnf
    refine CallQ.mono hf ?_
    rintro r S1 ⟨rfl, h⟩
    conv => whnf
    rw [eq29]
    intro b hb
    subst hb
    conv => whnf
    exact ⟨rfl, h⟩
theorem f16n (S : St) (v : AV) (hv : Nob S v) (n : Int) : CallQ Try.prog CC 16 [v, .int .i64 n] S fun r S1 => r = .int .u64 0 ∧ Keep S S1 := by
  have hf := f23n S v hv
  refine CallQ.of rfl (by kernel_rfl : Try.prog.funcs[16]? = some Try.f16) rfl (by decide) ?_
  rcases hv with rfl | ⟨c, rfl, hlt, hc⟩
  all_goals
    conv => whnf
    refine ⟨[0, 1, 2, 3, 5, 7, 8, 9, 10, 6, 4, 11, 12, 13], [(6, [10])], by kernel_rfl, by kernel_rfl, by kernel_rfl, ?_⟩
    conv => whnf
    refine CallQ.mono hf ?_
    rintro r S1 ⟨rfl, h⟩
    conv => whnf
    exact ⟨rfl, h⟩
theorem f10n (S : St) (v : AV) (hv : Nob S v) : CallQ Try.prog CC 10 [v] S fun r S1 => r = .int .u64 0 ∧ Keep S S1 := by
  have hf := f23n S v hv
  refine CallQ.of rfl (by kernel_rfl : Try.prog.funcs[10]? = some Try.f10) rfl (by decide) ?_
  rcases hv with rfl | ⟨c, rfl, hlt, hc⟩
  all_goals
    conv => whnf
    refine CallQ.mono hf ?_
    rintro r S1 ⟨rfl, h⟩
    conv => whnf
    exact ⟨rfl, h⟩
theorem f28n (S : St) (v : AV) (hv : Nob S v) (n : Int) : CallQ Try.prog CC 28 [v, .int .i64 n] S fun r S1 => r = .nils ∧ Keep S S1 := by
  have hf := f23n S v hv
  refine CallQ.of rfl (by kernel_rfl : Try.prog.funcs[28]? = some Try.f28) rfl (by decide) ?_
  rcases hv with rfl | ⟨c, rfl, hlt, hc⟩
  all_goals
    conv => whnf
    refine ⟨[0, 1, 2, 3, 4, 5, 6, 7, 8, 9, 10, 11, 12, 13, 14, 15, 16, 17, 18, 19, 20, 21, 22, 23, 24, 25, 26, 27, 28, 29, 30, 31, 32, 33, 34, 35], [], by kernel_rfl, by kernel_rfl, by kernel_rfl, ?_⟩
    conv => whnf
    refine CallQ.mono hf ?_
    rintro r S1 ⟨rfl, h⟩
    conv => whnf
    exact ⟨rfl, h⟩
theorem f22n (S : St) : CallQ Try.prog CC 22 [.nils] S fun r S1 => r = .nils ∧ Keep S S1 := by
  refine CallQ.of rfl (by kernel_rfl : Try.prog.funcs[22]? = some Try.f22) rfl (by decide) ?_
  conv => whnf
  refine brB (fun _ => ?_) (fun h => by cases h)
  conv => whnf
  exact ⟨rfl, .refl _⟩
theorem f17n (S : St) (v : AV) (hv : Nob S v) (n : Int) : CallQ Try.prog CC 17 [v, .int .i64 n] S fun r S1 => r = .nils ∧ Keep S S1 := by
  have hf := f28n S v hv n
  refine CallQ.of rfl (by kernel_rfl : Try.prog.funcs[17]? = some Try.f17) rfl (by decide) ?_
  rcases hv with rfl | ⟨c, rfl, hlt, hc⟩
  all_goals
    conv => whnf
    refine CallQ.mono hf ?_
    rintro r S1 ⟨rfl, h⟩
    conv => whnf
    refine CallQ.mono (f22n S1) ?_
    rintro r S2 ⟨rfl, h2⟩
    conv => whnf
    exact ⟨rfl, h.trans h2⟩
theorem f12n (S : St) (v : AV) (hv : Nob S v) : CallQ Try.prog CC 12 [v] S fun r S1 => r = .int .i64 0 ∧ Keep S S1 := by
  refine CallQ.of rfl (by kernel_rfl : Try.prog.funcs[12]? = some Try.f12) rfl (by decide) ?_
  rcases hv with rfl | ⟨c, rfl, hlt, hc⟩
  · conv => whnf
    intro b hb
    subst hb
    conv => whnf
    exact ⟨rfl, .refl _⟩
  · conv => whnf
    intro b hb
    subst hb
    conv => whnf
    refine ⟨_, hc, ?_⟩
    conv => whnf
    exact ⟨rfl, .refl _⟩
theorem f18n (S : St) (v : AV) (hv : Nob S v) : CallQ Try.prog CC 18 [v] S fun r S1 => r = .int .i64 0 ∧ Keep S S1 := by
  refine CallQ.of rfl (by kernel_rfl : Try.prog.funcs[18]? = some Try.f18) rfl (by decide) ?_
  rcases hv with rfl | ⟨c, rfl, hlt, hc⟩
  · conv => whnf
    intro b hb
    subst hb
    conv => whnf
    exact ⟨rfl, .refl _⟩
  · conv => whnf
    intro b hb
    subst hb
    conv => whnf
    refine ⟨[0, 1, 2, 3, 4, 5, 6, 7, 8, 9, 10], [], by kernel_rfl, by kernel_rfl, by kernel_rfl, ?_⟩
    conv => whnf
    refine ⟨_, hc, ?_⟩
    conv => whnf
    refine ⟨_, hc, ?_⟩
    conv => whnf
    exact ⟨rfl, .refl _⟩
end Go.Proofs.Ytkbfappjlolmaaa
namespace Go.Proofs.Ytkbfappjlolmaaa
open Go.Proofs.Ytkbfappjlolmaaa.VM Go.RowKit
set_option maxRecDepth 100000
set_option linter.unusedVariables false
set_option linter.unusedSimpArgs false
set_option maxHeartbeats 1000000
/-! Cursors that were made, over written bytes. -/
theorem chunk_take : ∀ (n : Nat) (cs : List AV), n ≤ cs.length → chunk false 1 n cs = cs.take n
  | 0, _, _ => by simp [chunk]
  | n + 1, [], h => by simp at h
  | n + 1, x :: cs, h => by
    show (if false then _ else (x :: cs).headD .undef) :: chunk false 1 n ((x :: cs).drop 1) = _
    simp [chunk_take n cs (by simpa using h)]
theorem elems_hnd {S : St} {p off n : Nat} {full : List UInt8} (hc : S.cells p = some (full.map u8)) (h : off + n ≤ full.length) : elemsA S false 1 (.hnd p off n 1) = some (((full.drop off).take n).map u8) := by
  show (S.cells p).bind _ = _
  rw [hc]
  simp only [Option.bind_some]
  rw [if_pos ⟨trivial, by simpa using h, by unfold chunkOk; rw [plain_u8]; rfl⟩, chunk_take _ _ (by simp; omega), List.map_take, List.map_drop]
theorem append_b47 {P : Program} {C : Cfg} {f : FuncId} {t e : TypeId} {z : AV} (hE : Elem P t e 1 1 false z) {S : St} {n : Nat} {y : AV} {ds bs : List UInt8} {rest : List AV} (hn : S.cells n = some (ds.map u8 ++ rest)) (hr : rest.all AV.leafOk = true) (hy : elemsA S false 1 y = some (bs.map u8)) (hne : bs ≠ [])
    (hs : ds.length + bs.length ≤ 140737488355328) :
    builtinA P C f .append #[t, t] [.hnd n 0 ds.length 1, y] S = some (.ret (.hnd S.next 0 (ds.length + bs.length) 1), (S.set n none).new (.cells ((ds ++ bs).map u8))) := by
  have hun := hE.und
  have helem : elemA P t = some e := by simp [elemA, hun]
  have hl : bs.length ≠ 0 := fun h => hne (List.length_eq_zero_iff.1 h)
  simp only [builtinA, appendA, helem, hE.size, hE.agg, hE.bytes, hE.zero, hun, Option.bind_some, appendB, hy, shed_u8]
  rw [if_pos ⟨by omega, hE.zlen, wellA_u8 bs⟩]
  simp only [List.length_map, if_neg hl, hn, Option.bind_some]
  rw [if_pos ⟨trivial, by simp [sizeOk]; omega, by simp, by rw [List.all_append, leaf_u8, hr]; rfl⟩]
  simp only [Option.bind_some, retA, List.drop_zero, Nat.mul_one, flat_u8, List.map_append]
  rw [List.take_append_of_le_length (by simp), List.take_of_length_le (by simp)]
theorem append_none {P : Program} {C : Cfg} {f : FuncId} {t e : TypeId} {z : AV} (hE : Elem P t e 1 1 false z) {S : St} {n : Nat} {y : AV} (hy : elemsA S false 1 y = some []) :
    builtinA P C f .append #[t, t] [.hnd n 0 0 1, y] S = some (.ret (.hnd n 0 0 1), S) := by
  have hun := hE.und
  have helem : elemA P t = some e := by simp [elemA, hun]
  simp only [builtinA, appendA, helem, hE.size, hE.agg, hE.bytes, hE.zero, hun, Option.bind_some, appendB, hy]
  rw [if_pos ⟨by omega, hE.zlen, rfl⟩]
  rfl
/-- Written bytes. -/
def Wr (S : St) (bs : List UInt8) (v : AV) (q : Nat) : Prop := v = .hnd q 0 bs.length 1 ∧ q < S.next ∧ S.mem q = some (.cells (bs.map u8))
def EmL (v : AV) : Prop := ∃ t, v = .lst [] t
/-- Clone, of something. -/
theorem f22h (S : St) (v : AV) (bs : List UInt8) (hv : (∃ xs t, v = .lst xs t) ∨ ∃ p off n, v = .hnd p off n 1) (hl : bs.length ≤ 2 ^ 47) (he : ∀ S1, Keep S S1 → elemsA S1 false 1 v = some (bs.map u8)) :
    CallQ Try.prog CC 22 [v] S fun r S1 => ∃ q, Wr S1 bs r q ∧ S.next ≤ q ∧ Keep S S1 := by
  refine CallQ.of rfl (by kernel_rfl : Try.prog.funcs[22]? = some Try.f22) rfl (by decide) ?_
  rcases hv with ⟨xs, t, rfl⟩ | ⟨p, off, n, rfl⟩
  all_goals
    conv => whnf
    refine brB (fun h => by cases h) (fun _ => ?_)
    conv => whnf
    have hn : (S.new (.cells [])).cells S.next = some (([] : List UInt8).map u8 ++ []) := cells_new _ _
    by_cases hb : bs = []
    · subst hb
      refine ⟨_, _, append_none (C := CC) (f := 22) el22 (he _ ((Keep.refl S).new _)), ?_⟩
      conv => whnf
      exact ⟨S.next, ⟨rfl, by show S.next < S.next + 1; omega, mem_new _ _⟩, Nat.le_refl _, (Keep.refl _).new _⟩
    · refine ⟨_, _, append_b47 (C := CC) (f := 22) (ds := []) el22 hn rfl (he _ ((Keep.refl S).new _)) hb (by simp; omega), ?_⟩
      conv => whnf
      refine ⟨S.next + 1, ⟨?_, by show S.next + 1 < S.next + 1 + 1; omega, ?_⟩, by omega, (((Keep.refl S).new _).set S.next _ (Nat.le_refl _)).new _⟩
      · show AV.hnd _ 0 (0 + bs.length) 1 = _
        rw [Nat.zero_add]; rfl
      · exact mem_new ((S.new (.cells [])).set S.next none) (.cells (([] ++ bs).map u8))
/-- A cursor in memory. -/
def Cu (S : St) (c : Nat) (v : AV) (a : Int) : Prop := c < S.next ∧ S.cells c = some [.bool true, v, .int .i64 a, .int .i64 0, .int .i64 0]
theorem Cu.keep {S S1 : St} {c : Nat} {v : AV} {a : Int} (h : Cu S c v a) (k : Keep S S1) : Cu S1 c v a := ⟨by have := k.next; have := h.1; omega, (cells_keep k h.1).trans h.2⟩
theorem f9n (S : St) : CallQ Try.prog CC 9 [.nils] S fun r S1 => ∃ c, r = .ptr c 0 ∧ Cu S1 c .nils 0 ∧ S.next ≤ c ∧ Keep S S1 := by
  refine CallQ.of rfl (by kernel_rfl : Try.prog.funcs[9]? = some Try.f9) rfl (by decide) ?_
  conv => whnf
  refine CallQ.mono (f22n S) ?_
  rintro r S1 ⟨rfl, k⟩
  conv => whnf
  exact ⟨S1.next, rfl, ⟨by show S1.next < S1.next + 1; omega, cells_new _ _⟩, k.next, k.new _⟩
theorem f9h (S : St) (v : AV) (bs : List UInt8) (hv : (∃ xs t, v = .lst xs t) ∨ ∃ p off n, v = .hnd p off n 1) (hl : bs.length ≤ 2 ^ 47) (he : ∀ S1, Keep S S1 → elemsA S1 false 1 v = some (bs.map u8)) :
    CallQ Try.prog CC 9 [v] S fun r S1 => ∃ c q w, r = .ptr c 0 ∧ Wr S1 bs w q ∧ Cu S1 c w 0 ∧ S.next ≤ c ∧ S.next ≤ q ∧ q ≠ c ∧ Keep S S1 := by
  have hc := f22h S v bs hv hl he
  refine CallQ.of rfl (by kernel_rfl : Try.prog.funcs[9]? = some Try.f9) rfl (by decide) ?_
  rcases hv with ⟨xs, t, rfl⟩ | ⟨p, off, n, rfl⟩
  all_goals
    conv => whnf
    refine CallQ.mono hc ?_
    rintro r S1 ⟨q, ⟨rfl, h1, h2⟩, h3, k⟩
    conv => whnf
    refine ⟨S1.next, q, _, rfl, ⟨rfl, ?_, ?_⟩, ⟨?_, cells_new _ _⟩, k.next, h3, by omega, k.new _⟩
    · show q < S1.next + 1; omega
    · exact mem_new_ne h2 (by omega)
    · show S1.next < S1.next + 1; omega
theorem f11m (S : St) (c : Nat) (v : AV) (a : Int) (h : Cu S c v a) : CallQ Try.prog CC 11 [.ptr c 0] S fun r S1 => r = .agg [.int .i64 0, .int .i64 0] ∧ Keep S S1 := by
  obtain ⟨hlt, hc⟩ := h
  refine CallQ.of rfl (by kernel_rfl : Try.prog.funcs[11]? = some Try.f11) rfl (by decide) ?_
  conv => whnf
  intro b hb
  subst hb
  conv => whnf
  have hc1 : ∀ cs, (S.new (.cells cs)).cells c = some [.bool true, v, .int .i64 a, .int .i64 0, .int .i64 0] := fun cs => cells_new_ne hc (by omega)
  refine ⟨_, hc1 _, ?_⟩
  conv => whnf
  refine ⟨_, hc1 _, ?_⟩
  conv => whnf
  refine ⟨_, _, cells_new _ _, store_agg rfl rfl rfl, ?_⟩
  conv => whnf
  refine ⟨.agg [.int .i64 0, .int .i64 0], by show (St.cells _ S.next).bind _ = _; rw [cells_set]; rfl, ?_⟩
  conv => whnf
  exact ⟨rfl, ((Keep.refl S).new _).set _ _ (Nat.le_refl _)⟩
theorem f23m (S : St) (c : Nat) (v : AV) (a : Int) (h : Cu S c v a) : CallQ Try.prog CC 23 [.ptr c 0] S fun r S1 => r = .bool true ∧ Keep S S1 := by
  refine CallQ.of rfl (by kernel_rfl : Try.prog.funcs[23]? = some Try.f23) rfl (by decide) ?_
  conv => whnf
  refine CallQ.mono (f11m S c v a h) ?_
  rintro r S1 ⟨rfl, k⟩
  conv => whnf
  rw [eq29]
  intro b hb
  subst hb
  conv => whnf
  exact ⟨rfl, k⟩
theorem f24m (S : St) (c : Nat) (e p : Int) : CallQ Try.prog CC 24 [.ptr c 0, .bool true, .int .i64 e, .int .i64 p] S fun r S1 => r = .bool true ∧ S1 = S := by
  refine CallQ.of rfl (by kernel_rfl : Try.prog.funcs[24]? = some Try.f24) rfl (by decide) ?_
  conv => whnf
  exact ⟨rfl, rfl⟩
theorem f18m0 (S : St) (c : Nat) (h : Cu S c .nils 0) : CallQ Try.prog CC 18 [.ptr c 0] S fun r S1 => r = .int .i64 0 ∧ S1 = S := by
  obtain ⟨hlt, hc⟩ := h
  refine CallQ.of rfl (by kernel_rfl : Try.prog.funcs[18]? = some Try.f18) rfl (by decide) ?_
  conv => whnf
  intro b hb
  subst hb
  conv => whnf
  refine ⟨[0, 1, 2, 3, 4, 5, 6, 7, 8, 9, 10], [], by kernel_rfl, by kernel_rfl, by kernel_rfl, ?_⟩
  conv => whnf
  refine ⟨_, hc, ?_⟩
  conv => whnf
  refine ⟨_, hc, ?_⟩
  conv => whnf
  exact ⟨rfl, rfl⟩
theorem f18m (S : St) (c q n a : Nat) (ha : a ≤ n) (hn : n ≤ 2 ^ 47) (h : Cu S c (.hnd q 0 n 1) a) : CallQ Try.prog CC 18 [.ptr c 0] S fun r S1 => r = .int .i64 ((n - a : Nat) : Int) ∧ S1 = S := by
  obtain ⟨hlt, hc⟩ := h
  refine CallQ.of rfl (by kernel_rfl : Try.prog.funcs[18]? = some Try.f18) rfl (by decide) ?_
  conv => whnf
  intro b hb
  subst hb
  conv => whnf
  refine ⟨[0, 1, 2, 3, 4, 5, 6, 7, 8, 9, 10], [], by kernel_rfl, by kernel_rfl, by kernel_rfl, ?_⟩
  conv => whnf
  refine ⟨_, hc, ?_⟩
  conv => whnf
  refine ⟨_, hc, ?_⟩
  conv => whnf
  refine ⟨?_, rfl⟩
  rw [wrap_i64 (by omega) (by omega)]
  show AV.int .i64 _ = _
  congr 1
  omega
end Go.Proofs.Ytkbfappjlolmaaa
namespace Go.Proofs.Ytkbfappjlolmaaa
open Go.Proofs.Ytkbfappjlolmaaa.VM Go.RowKit
set_option maxRecDepth 100000
set_option linter.unusedVariables false
set_option linter.unusedSimpArgs false
set_option maxHeartbeats 1000000
/-! Take. -/
theorem sl_take (q len a n : Nat) (h : a + n ≤ len) : sliceA Try.prog 22 (.hnd q 0 len 1) (some (.int .i64 a)) (some (.int .i64 (a + n : Nat))) (some (.int .i64 (a + n : Nat))) = some (if n = 0 then .lst [] .full else .hnd q a n 1) := by
  have hu := el22.und
  have hs := el22.size
  unfold sliceA
  simp only [hu, hs, Option.bind_some, Option.isSome_some, Option.isNone_some, Bool.false_eq_true, and_false, if_false, boundA]
  rw [if_pos ⟨by omega, by omega⟩]
  simp only [Option.bind_some, Int.toNat_natCast]
  rw [if_pos ⟨by omega, by omega⟩]
  simp only [Option.bind_some, Int.toNat_natCast]
  rw [if_pos ⟨by omega, by omega⟩]
  simp only [Option.bind_some, Int.toNat_natCast, if_true]
  by_cases hn : n = 0
  · rw [if_pos ⟨trivial, by omega⟩, if_pos hn]
  · rw [if_neg (fun h => hn (by omega)), if_pos (by omega), if_neg hn]
    congr 2 <;> omega
theorem sl_nil : sliceA Try.prog 22 .nils (some (.int .i64 0)) (some (.int .i64 0)) (some (.int .i64 0)) = some .nils := by kernel_rfl
/-- Nothing turns but the cursor. -/
def Bu (c : Nat) (S S1 : St) : Prop := S.next ≤ S1.next ∧ ∀ j, j < S.next → j ≠ c → S1.mem j = S.mem j
theorem f28m (S : St) (c q len a n : Nat) (hl : len ≤ 2 ^ 47) (ha : a + n ≤ len) (h : Cu S c (.hnd q 0 len 1) a) :
    CallQ Try.prog CC 28 [.ptr c 0, .int .i64 n] S fun r S1 => r = (if n = 0 then .lst [] .lost else .hnd q a n 1) ∧ Cu S1 c (.hnd q 0 len 1) ((a + n : Nat) : Int) ∧ Bu c S S1 := by
  refine CallQ.of rfl (by kernel_rfl : Try.prog.funcs[28]? = some Try.f28) rfl (by decide) ?_
  conv => whnf
  refine ⟨[0, 1, 2, 3, 4, 5, 6, 7, 8, 9, 10, 11, 12, 13, 14, 15, 16, 17, 18, 19, 20, 21, 22, 23, 24, 25, 26, 27, 28, 29, 30, 31, 32, 33, 34, 35], [], by kernel_rfl, by kernel_rfl, by kernel_rfl, ?_⟩
  conv => whnf
  refine CallQ.mono (f23m S c _ a h) ?_
  rintro r S1 ⟨rfl, k1⟩
  obtain ⟨hlt, hc⟩ := h.keep k1
  conv => whnf
  refine br (fun _ => ?_) (fun h => by exfalso; omega)
  conv => whnf
  refine ⟨_, hc, ?_⟩
  conv => whnf
  refine CallQ.mono (f24m S1 c 1 a) ?_
  rintro r S2 ⟨rfl, rfl⟩
  conv => whnf
  refine ⟨_, hc, ?_⟩
  conv => whnf
  refine ⟨_, hc, ?_⟩
  have ew : IntKind.i64.wrap ((len : Int) - (a : Int)) = ((len - a : Nat) : Int) := by rw [wrap_i64 (by omega) (by omega)]; omega
  conv => whnf
  rw [ew]
  refine br (fun _ => ?_) (fun h => by exfalso; omega)
  conv => whnf
  refine ⟨_, hc, ?_⟩
  conv => whnf
  refine CallQ.mono (f24m S2 c 3 len) ?_
  rintro r S3 ⟨rfl, rfl⟩
  conv => whnf
  refine ⟨_, hc, ?_⟩
  conv => whnf
  refine ⟨_, hc, ?_⟩
  have ea : IntKind.i64.wrap ((a : Int) + (n : Int)) = ((a + n : Nat) : Int) := by rw [wrap_i64 (by omega) (by omega)]; omega
  conv => whnf
  rw [ea]
  refine ⟨_, _, hc, if_pos ⟨rfl, rfl, Nat.le_of_ble_eq_true rfl⟩, ?_⟩
  conv => whnf
  generalize hS4 : S3.set c _ = S4
  have hc4 : S4.cells c = some [.bool true, .hnd q 0 len 1, .int .i64 (a + n : Nat), .int .i64 0, .int .i64 0] := by rw [← hS4]; exact cells_set _ _ _
  have hb : Bu c S S4 := ⟨by rw [← hS4]; exact k1.next, fun j h1 h2 => by rw [← hS4]; exact mem_set_ne (k1.mem j h1) h2⟩
  have hn4 : c < S4.next := by rw [← hS4]; exact hlt
  clear hS4
  refine ⟨[0, 1, 2, 3, 4, 5, 6, 7, 8, 9, 10, 11, 12, 13, 14], [], by kernel_rfl, by kernel_rfl, by kernel_rfl, ?_⟩
  conv => whnf
  refine ⟨_, hc4, ?_⟩
  conv => whnf
  refine ⟨_, hc4, ?_⟩
  conv => whnf
  refine ⟨_, hc4, ?_⟩
  conv => whnf
  have hsl := sl_take q len a n ha
  by_cases hn : n = 0
  · rw [if_pos hn] at hsl ⊢
    refine ⟨_, hsl, ?_⟩
    conv => whnf
    exact ⟨rfl, ⟨hn4, hc4⟩, hb⟩
  · rw [if_neg hn] at hsl ⊢
    refine ⟨_, hsl, ?_⟩
    conv => whnf
    exact ⟨rfl, ⟨hn4, hc4⟩, hb⟩
theorem f28z (S : St) (c : Nat) (h : Cu S c .nils 0) :
    CallQ Try.prog CC 28 [.ptr c 0, .int .i64 0] S fun r S1 => r = .nils ∧ Cu S1 c .nils 0 ∧ Bu c S S1 := by
  refine CallQ.of rfl (by kernel_rfl : Try.prog.funcs[28]? = some Try.f28) rfl (by decide) ?_
  conv => whnf
  refine ⟨[0, 1, 2, 3, 4, 5, 6, 7, 8, 9, 10, 11, 12, 13, 14, 15, 16, 17, 18, 19, 20, 21, 22, 23, 24, 25, 26, 27, 28, 29, 30, 31, 32, 33, 34, 35], [], by kernel_rfl, by kernel_rfl, by kernel_rfl, ?_⟩
  conv => whnf
  refine CallQ.mono (f23m S c _ 0 h) ?_
  rintro r S1 ⟨rfl, k1⟩
  obtain ⟨hlt, hc⟩ := h.keep k1
  conv => whnf
  refine br (fun _ => ?_) (fun h => by exfalso; omega)
  conv => whnf
  refine ⟨_, hc, ?_⟩
  conv => whnf
  refine CallQ.mono (f24m S1 c 1 0) ?_
  rintro r S2 ⟨rfl, rfl⟩
  conv => whnf
  refine ⟨_, hc, ?_⟩
  conv => whnf
  refine ⟨_, hc, ?_⟩
  conv => whnf
  refine br (fun _ => ?_) (fun h => by exfalso; exact h (by decide))
  conv => whnf
  refine ⟨_, hc, ?_⟩
  conv => whnf
  refine CallQ.mono (f24m S2 c 3 0) ?_
  rintro r S3 ⟨rfl, rfl⟩
  conv => whnf
  refine ⟨_, hc, ?_⟩
  conv => whnf
  refine ⟨_, hc, ?_⟩
  conv => whnf
  refine ⟨_, _, hc, if_pos ⟨rfl, rfl, Nat.le_of_ble_eq_true rfl⟩, ?_⟩
  conv => whnf
  generalize hS4 : S3.set c _ = S4
  have hc4 : S4.cells c = some [.bool true, .nils, .int .i64 0, .int .i64 0, .int .i64 0] := by rw [← hS4]; exact cells_set _ _ _
  have hb : Bu c S S4 := ⟨by rw [← hS4]; exact k1.next, fun j h1 h2 => by rw [← hS4]; exact mem_set_ne (k1.mem j h1) h2⟩
  have hn4 : c < S4.next := by rw [← hS4]; exact hlt
  clear hS4
  refine ⟨[0, 1, 2, 3, 4, 5, 6, 7, 8, 9, 10, 11, 12, 13, 14], [], by kernel_rfl, by kernel_rfl, by kernel_rfl, ?_⟩
  conv => whnf
  refine ⟨_, hc4, ?_⟩
  conv => whnf
  refine ⟨_, hc4, ?_⟩
  conv => whnf
  refine ⟨_, hc4, ?_⟩
  conv => whnf
  refine ⟨_, sl_nil, ?_⟩
  conv => whnf
  exact ⟨rfl, ⟨hn4, hc4⟩, hb⟩
/-- Take, of bytes that are there. -/
theorem f17m (S : St) (c q a n : Nat) (bs : List UInt8) (hl : bs.length ≤ 2 ^ 47) (ha : a + n ≤ bs.length) (h : Cu S c (.hnd q 0 bs.length 1) a) (hq : S.mem q = some (.cells (bs.map u8))) (hqc : q ≠ c) (hql : q < S.next) :
    CallQ Try.prog CC 17 [.ptr c 0, .int .i64 n] S fun r S1 => ∃ p, Wr S1 ((bs.drop a).take n) r p ∧ S.next ≤ p ∧ Cu S1 c (.hnd q 0 bs.length 1) ((a + n : Nat) : Int) ∧ Bu c S S1 := by
  refine CallQ.of rfl (by kernel_rfl : Try.prog.funcs[17]? = some Try.f17) rfl (by decide) ?_
  conv => whnf
  refine CallQ.mono (f28m S c q bs.length a n hl ha h) ?_
  rintro r S1 ⟨hr, hc1, hb1, hb2⟩
  have hq1 : S1.mem q = some (.cells (bs.map u8)) := (hb2 q hql hqc).trans hq
  have fin : ∀ r' S2, (∃ p, Wr S2 ((bs.drop a).take n) r' p ∧ S1.next ≤ p ∧ Keep S1 S2) → ∃ p, Wr S2 ((bs.drop a).take n) r' p ∧ S.next ≤ p ∧ Cu S2 c (.hnd q 0 bs.length 1) ((a + n : Nat) : Int) ∧ Bu c S S2 := by
    rintro r' S2 ⟨p, h1, h2, k⟩
    exact ⟨p, h1, by omega, hc1.keep k, by have := k.next; omega, fun j h3 h4 => (k.mem j (by omega)).trans (hb2 j h3 h4)⟩
  by_cases hn : n = 0
  · rw [if_pos hn] at hr
    subst hr
    have hcl := f22h S1 (.lst [] .lost) ((bs.drop a).take n) (.inl ⟨_, _, rfl⟩) (by simp; omega) (fun _ _ => by rw [hn]; rfl)
    conv => whnf
    refine CallQ.mono hcl ?_
    rintro r' S2 ⟨p, ⟨rfl, h1, h2⟩, h3, k⟩
    conv => whnf
    exact fin _ _ ⟨p, ⟨rfl, h1, h2⟩, h3, k⟩
  · rw [if_neg hn] at hr
    subst hr
    have hcl := f22h S1 (.hnd q a n 1) ((bs.drop a).take n) (.inr ⟨_, _, _, rfl⟩) (by simp; omega) (fun S2 k => elems_hnd (by unfold St.cells; rw [k.mem q (by omega), hq1]) ha)
    conv => whnf
    refine CallQ.mono hcl ?_
    rintro r' S2 ⟨p, ⟨rfl, h1, h2⟩, h3, k⟩
    conv => whnf
    exact fin _ _ ⟨p, ⟨rfl, h1, h2⟩, h3, k⟩
theorem f17z (S : St) (c : Nat) (h : Cu S c .nils 0) : CallQ Try.prog CC 17 [.ptr c 0, .int .i64 0] S fun r S1 => r = .nils ∧ Cu S1 c .nils 0 ∧ Bu c S S1 := by
  refine CallQ.of rfl (by kernel_rfl : Try.prog.funcs[17]? = some Try.f17) rfl (by decide) ?_
  conv => whnf
  refine CallQ.mono (f28z S c h) ?_
  rintro r S1 ⟨rfl, hc1, hb1, hb2⟩
  conv => whnf
  refine CallQ.mono (f22n S1) ?_
  rintro r S2 ⟨rfl, k⟩
  conv => whnf
  exact ⟨rfl, hc1.keep k, by have := k.next; omega, fun j h3 h4 => (k.mem j (by omega)).trans (hb2 j h3 h4)⟩
theorem conv_hnd (S : St) (p : Nat) (bs : List UInt8) (h : S.mem p = some (.cells (bs.map u8))) : convertA Try.prog S 22 9 (.hnd p 0 bs.length 1) = some (.str bs) := by
  have u1 : Try.prog.underlying 22 = some (.slice 5) := el22.und
  have u2 : Try.prog.underlying 9 = some .string := by kernel_rfl
  have u3 : Try.prog.underlying 5 = some (.int .u8) := by kernel_rfl
  unfold convertA
  simp only [u1, u2, u3, cells_of_mem h, Option.bind_some]
  rw [if_pos ⟨trivial, by simp⟩, List.drop_zero, List.take_of_length_le (by simp), bytesOfA_u8]
  rfl
/-- Same, of written bytes. -/
theorem f14h (S : St) (p q : Nat) (bs cs : List UInt8) (v w : AV) (h1 : Wr S bs v p) (h2 : Wr S cs w q) : CallQ Try.prog CC 14 [v, w] S fun r S1 => r = .bool (decide (bs = cs)) ∧ S1 = S := by
  obtain ⟨rfl, _, h3⟩ := h1
  obtain ⟨rfl, _, h4⟩ := h2
  refine CallQ.of rfl (by kernel_rfl : Try.prog.funcs[14]? = some Try.f14) rfl (by decide) ?_
  conv => whnf
  refine ⟨_, conv_hnd S p bs h3, ?_⟩
  conv => whnf
  refine ⟨_, conv_hnd S q cs h4, ?_⟩
  conv => whnf
  intro b hb
  conv => whnf
  refine ⟨?_, rfl⟩
  show AV.bool b = _
  rw [hb]
  congr 1
  rw [Bool.eq_iff_iff]; simp
theorem f14z (S : St) (q : Nat) (w : AV) (h2 : Wr S [] w q) : CallQ Try.prog CC 14 [.nils, w] S fun r S1 => r = .bool true ∧ S1 = S := by
  obtain ⟨rfl, _, h4⟩ := h2
  refine CallQ.of rfl (by kernel_rfl : Try.prog.funcs[14]? = some Try.f14) rfl (by decide) ?_
  conv => whnf
  refine ⟨_, conv_hnd S q [] h4, ?_⟩
  conv => whnf
  intro b hb
  subst hb
  conv => whnf
  exact ⟨rfl, rfl⟩
theorem f14zz (S : St) : CallQ Try.prog CC 14 [.nils, .nils] S fun r S1 => r = .bool true ∧ S1 = S := by
  refine CallQ.of rfl (by kernel_rfl : Try.prog.funcs[14]? = some Try.f14) rfl (by decide) ?_
  conv => whnf
  intro b hb
  subst hb
  conv => whnf
  exact ⟨rfl, rfl⟩
end Go.Proofs.Ytkbfappjlolmaaa
