import Derived.Test.YtiknkngdfdmkbaaDoorVML28
import Derived.Test.YtiknkngdfdmkbaaDoorVML12
import Derived.Test.YtiknkngdfdmkbaaDoorVMRow
import Derived.Test.YtiknkngdfdmkbaaDoorRows
import Derived.Test.YtiknkngdfdmkbaaDoorTie
import Derived.Test.YtiknkngdfdmkbaaDoorCards
import Derived.ProofKit
import Derived.LaidMore
import Derived.OpenShut
import Derived.SevenTiedAt
namespace Go.Proofs.YtiknkngdfdmkbaaDoor
open Go.Proofs.YtiknkngdfdmkbaaDoor.VM Go.ChangeShapes Go.WideShapes Go.ChangeAt Go.RowKit
set_option maxRecDepth 100000
set_option linter.unusedVariables false

theorem lift_list {α β : Type} {f : α → β} {ok : α → Prop} : ∀ (xs : List β), (∀ x ∈ xs, ∃ a, x = f a ∧ ok a) → ∃ l : List α, xs = l.map f ∧ ∀ a ∈ l, ok a
  | [], _ => ⟨[], rfl, fun _ h => (List.not_mem_nil h).elim⟩
  | x :: xs, h => by
    obtain ⟨l, h1, h2⟩ := lift_list xs (fun y hy => h y (by simp [hy]))
    obtain ⟨a, h3, h4⟩ := h x (by simp)
    exact ⟨a :: l, by simp [h1, h3], fun b hb => by
      rcases List.mem_cons.1 hb with rfl | hb
      · exact h4
      · exact h2 b hb⟩

theorem c3 : Tryd.prog.cellsOf 3 = 1 := by kernel_rfl
theorem c32 : Tryd.prog.cellsOf 32 = 1 := by kernel_rfl
theorem c33 : Tryd.prog.cellsOf 33 = 1 := by kernel_rfl
theorem c35 : Tryd.prog.cellsOf 35 = 3 := by kernel_rfl
theorem s35 : Nat.ble Tryd.prog.types.size 35 = false := by kernel_rfl
theorem typed_int {n : Nat} {t : TypeId} {k : IntKind} {av : List AV} {b : Nat} (hu : Tryd.prog.underlying t = some (.int k)) (h : Typed Tryd.prog n t av b) : ∃ i, av = [.int k i] ∧ (Lit.int k i).wf = true := by
  cases n with
  | zero => exact h.elim
  | succ n =>
    unfold Typed at h
    rw [hu] at h
    exact h
theorem wf_u64 {i : Int} (h : (Lit.int .u64 i).wf = true) : 0 ≤ i ∧ i < 2 ^ 64 := by
  simp [Lit.wf, IntKind.min, IntKind.max, IntKind.signed, IntKind.bits] at h
  omega
theorem typed_ints {n : Nat} {av : List AV} {b : Nat} (h : Typed Tryd.prog n 32 av b) : ∃ (s : AV) (ps : List Int), av = [s] ∧ Elems s (ps.map I64) ∧ ∀ p ∈ ps, (Lit.int .i64 p).wf = true := by
  cases n with
  | zero => exact h.elim
  | succ n =>
    unfold Typed at h
    rw [Tryd.underlying32] at h
    rcases h with h | rfl | ⟨ys, rfl, hl, hby, hb, hy⟩
    · rw [c3] at h; cases h
    · exact ⟨.nils, [], rfl, .inl ⟨rfl, rfl⟩, fun _ h => (List.not_mem_nil h).elim⟩
    · obtain ⟨ps, e, hp⟩ := lift_list (f := I64) (ok := fun p => (Lit.int .i64 p).wf = true) (ys.map fun y => mkElt (isAggA Tryd.prog 3 == some true) y.1) (by
        intro x hx
        obtain ⟨y, hy1, rfl⟩ := List.mem_map.1 hx
        obtain ⟨_, ht⟩ := hy y hy1
        cases n with
        | zero => exact ht.elim
        | succ n =>
          unfold Typed at ht
          rw [Tryd.underlying3] at ht
          obtain ⟨i, hi, hw⟩ := ht
          rw [hi]
          exact ⟨i, rfl, hw⟩)
      exact ⟨_, ps, rfl, .inr ⟨_, by rw [e]⟩, hp⟩
theorem typed_loss {n : Nat} {av : List AV} {b : Nat} (hl : av.length = 3) (h : Typed Tryd.prog n 35 av b) : ∃ l : Ls, AV.agg av = l.v ∧ l.Ok ∧ ∀ p ∈ l.ps, (Lit.int .i64 p).wf = true := by
  cases n with
  | zero => exact h.elim
  | succ n =>
    unfold Typed at h
    rw [Tryd.underlying35] at h
    rcases h with h | ⟨bs, _, _, h⟩
    · exact absurd (Nat.ble_eq_true_of_le h) (by rw [s35]; decide)
    · obtain ⟨x, y, z, rfl⟩ : ∃ x y z, av = [x, y, z] := by
        match av, hl with
        | [x, y, z], _ => exact ⟨x, y, z, rfl⟩
      obtain ⟨s, ps, e0, h0, hwp⟩ := typed_ints (h 0 _ rfl)
      obtain ⟨kind, e1, h1⟩ := typed_int Tryd.underlying3 (h 1 _ rfl)
      obtain ⟨m, e2, h2⟩ := typed_int Tryd.underlying33 (h 2 _ rfl)
      have e0 : List.take (Tryd.prog.cellsOf 32) [x, y, z] = [s] := e0
      have e1 : List.take (Tryd.prog.cellsOf 3) [y, z] = [.int .i64 kind] := e1
      have e2 : List.take (Tryd.prog.cellsOf 33) [z] = [.int .u64 m] := e2
      rw [c32] at e0
      rw [c3] at e1
      rw [c33] at e2
      obtain rfl : x = s := (List.cons.inj e0).1
      obtain rfl : y = .int .i64 kind := (List.cons.inj e1).1
      obtain rfl : z = .int .u64 m := (List.cons.inj e2).1
      obtain ⟨hm1, hm2⟩ := wf_u64 h2
      refine ⟨⟨x, ps, kind, m.toNat⟩, ?_, ⟨h0, by show m.toNat < 2 ^ 64; omega⟩, hwp⟩
      show AV.agg [x, .int .i64 kind, .int .u64 m] = .agg [x, .int .i64 kind, .int .u64 (m.toNat : Nat)]
      rw [Int.toNat_of_nonneg hm1]
theorem ag35 : (isAggA Tryd.prog 35 == some true) = true := by kernel_rfl
theorem typed_losses {n : Nat} {av : List AV} {b : Nat} (h : Typed Tryd.prog n 22 av b) : ∃ (s : AV) (ls : List Ls), av = [s] ∧ Elems s (ls.map Ls.v) ∧ ∀ l ∈ ls, l.Ok := by
  cases n with
  | zero => exact h.elim
  | succ n =>
    unfold Typed at h
    rw [Tryd.underlying22] at h
    rcases h with h | rfl | ⟨ys, rfl, hl, hby, hb, hy⟩
    · rw [c35] at h; cases h
    · exact ⟨.nils, [], rfl, .inl ⟨rfl, rfl⟩, fun _ h => (List.not_mem_nil h).elim⟩
    · rw [ag35]
      obtain ⟨ls, e, hp⟩ := lift_list (f := Ls.v) (ok := Ls.Ok) (ys.map fun y => mkElt true y.1) (by
        intro x hx
        obtain ⟨y, hy1, rfl⟩ := List.mem_map.1 hx
        obtain ⟨hl, ht⟩ := hy y hy1
        rw [c35] at hl
        obtain ⟨l, q1, q2, _⟩ := typed_loss hl ht
        exact ⟨l, q1, q2⟩)
      exact ⟨_, ls, rfl, .inr ⟨_, by rw [e]⟩, hp⟩

theorem own : ownKnob Tryd.prog.godebug = none := by kernel_rfl
theorem laidOut : laidOutB Tryd.prog = true := by kernel_rfl
theorem contigs : allContig Tryd.prog = true := by kernel_rfl
theorem mixed : Tryd.prog.follows .mixedOrders = true := by kernel_rfl


def laid3 : List (String × DataW Unit) := [("math/bits.deBruijn32tab", Rows.laid_math_bits_deBruijn32tab), ("math/bits.deBruijn64tab", Rows.laid_math_bits_deBruijn64tab), ("internal/strconv.uint64pow10", Rows.laid_internal_strconv_uint64pow10)]
theorem door_met (os : Os) (args : Array Value) : laidMetH Tryd.prog laid3 ((World.doorLaid Tryd.prog 400 os).forCall (fun _ _ => 0) ⟨#[], args, []⟩).memory :=
  laidMetH_of_parts3 (fuel := 8) (laidMet_of_run' 8 (by kernel_rfl) (by kernel_rfl)) (by kernel_rfl) (by kernel_rfl)


theorem gPow : Tryd.prog.globalNamed "internal/strconv.uint64pow10" = some 0 := by kernel_rfl
theorem tPow : (Tryd.prog.globals[0]?).map (·.type) = some 82 := by kernel_rfl
theorem c82 : Tryd.prog.cellsOf 82 = 20 := by kernel_rfl
/-- The row's condition gives the table. -/
theorem ok_of {W : World} (h : laidMetH Tryd.prog laid3 W) : Glob.okw W := by
  rw [MakeChecks.laidMetH_plain _ _ _ (by kernel_rfl)] at h
  obtain ⟨ps, ⟨g0, t0, cs0, f0, p0, q0, hg0, ht0, hv0, hd0, ⟨g1, t1, cs1, f1, p1, q1, hg1, ht1, hv1, hd1, ⟨g2, t2, cs2, f2, p2, q2, hg2, ht2, hv2, hd2, _, _⟩, _⟩, _⟩, _, _⟩ := h
  obtain rfl := Option.some.inj (gPow.symm.trans hg2)
  obtain rfl := Option.some.inj (tPow.symm.trans ht2)
  have hd : DataW.trod _ Tryd.prog W 0 _ false f2 82 cs2.toList = some (Lib.tabData .u64 Lib.pow10Tab, p2) := hd2
  have := Lib.cells_of_tab (n := 20) Tryd.underlying82 Tryd.underlying33 c33 c82 hd
  show Lib.TabIs _ _ _ _ _
  unfold Lib.TabIs
  rw [hv2, ← this]
theorem wf_i64 {i : Int} (h : (Lit.int .i64 i).wf = true) : -9223372036854775808 ≤ i ∧ i ≤ 9223372036854775807 := by
  simp [Lit.wf, IntKind.min, IntKind.max, IntKind.signed, IntKind.bits] at h
  omega
end Go.Proofs.YtiknkngdfdmkbaaDoor
