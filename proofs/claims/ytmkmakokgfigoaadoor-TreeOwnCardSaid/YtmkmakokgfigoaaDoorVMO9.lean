import Derived.Test.YtmkmakokgfigoaaDoorVMO3
import Derived.Test.YtmkmakokgfigoaaDoorVMRow
import Derived.Test.YtmkmakokgfigoaaDoorRows
import Derived.Test.YtmkmakokgfigoaaDoorTie
import Derived.Test.YtmkmakokgfigoaaDoorCards
import Derived.ProofKit
import Derived.LaidMore
import Derived.OpenShut
import Derived.SevenTiedAt
import Derived.Lay
namespace Go.Proofs.YtmkmakokgfigoaaDoor
open Go.Proofs.YtmkmakokgfigoaaDoor.VM Go.ChangeShapes Go.WideShapes Go.ChangeAt Go.RowKit
set_option maxRecDepth 100000
set_option linter.unusedVariables false

theorem lift_list {α β : Type} {f : α → β} {ok : α → Prop} : ∀ (xs : List β), (∀ x ∈ xs, ∃ a, x = f a ∧ ok a) → ∃ l : List α, xs = l.map f ∧ ∀ a ∈ l, ok a
  | [], _ => ⟨[], rfl, fun _ h => (List.not_mem_nil h).elim⟩
  | x :: xs, h => by
    obtain ⟨l, h1, h2⟩ := lift_list xs (fun y hy => h y (by simp [hy]))
    obtain ⟨a, h3, h4⟩ := h x (by simp)
    exact ⟨a :: l, by simp [h1, h3], fun b hb => by
      rcases List.mem_cons.1 hb with rfl | hb
      · exact h4
      · exact h2 b hb⟩

theorem c3 : Tryd.prog.cellsOf 3 = 1 := by kernel_rfl
theorem c4 : Tryd.prog.cellsOf 4 = 1 := by kernel_rfl
theorem c5 : Tryd.prog.cellsOf 5 = 1 := by kernel_rfl
theorem c9 : Tryd.prog.cellsOf 9 = 1 := by kernel_rfl
theorem c22 : Tryd.prog.cellsOf 22 = 1 := by kernel_rfl
theorem c23 : Tryd.prog.cellsOf 23 = 1 := by kernel_rfl
theorem c24 : Tryd.prog.cellsOf 24 = 1 := by kernel_rfl
theorem c26 : Tryd.prog.cellsOf 26 = 9 := by kernel_rfl
theorem b5 : Tryd.prog.bytesOf 5 = 1 := by kernel_rfl
theorem b26 : 1 ≤ Tryd.prog.bytesOf 26 := of_decide_eq_true (by kernel_rfl)
theorem s26 : Nat.ble Tryd.prog.types.size 26 = false := by kernel_rfl
theorem ag26 : (isAggA Tryd.prog 26 == some true) = true := by kernel_rfl
theorem typed_int {n : Nat} {t : TypeId} {k : IntKind} {av : List AV} {b : Nat} (hu : Tryd.prog.underlying t = some (.int k)) (h : Typed Tryd.prog n t av b) : ∃ i, av = [.int k i] ∧ (Lit.int k i).wf = true := by
  cases n with
  | zero => exact h.elim
  | succ n =>
    unfold Typed at h
    rw [hu] at h
    exact h
theorem typed_bool {n : Nat} {av : List AV} {b : Nat} (h : Typed Tryd.prog n 4 av b) : ∃ c, av = [.bool c] := by
  cases n with
  | zero => exact h.elim
  | succ n =>
    unfold Typed at h
    rw [Tryd.underlying4] at h
    exact h
theorem typed_str {n : Nat} {av : List AV} {b : Nat} (h : Typed Tryd.prog n 9 av b) : ∃ s : List UInt8, av = [.str s] ∧ s.length ≤ 2 ^ 47 := by
  cases n with
  | zero => exact h.elim
  | succ n =>
    unfold Typed at h
    rw [Tryd.underlying9] at h
    obtain ⟨s, h1, h2, _⟩ := h
    exact ⟨s, h1, by unfold reachBytes at h2; omega⟩
theorem wf_u64 {i : Int} (h : (Lit.int .u64 i).wf = true) : 0 ≤ i ∧ i < 2 ^ 64 := by
  simp [Lit.wf, IntKind.min, IntKind.max, IntKind.signed, IntKind.bits] at h
  omega
theorem typed_bytes {n : Nat} {av : List AV} {b : Nat} (h : Typed Tryd.prog n 23 av b) : ∃ (f : Sl) (bs : List UInt8), av = [slV f (bs.map u8)] ∧ (f = .nil → bs = []) ∧ bs.length ≤ 2 ^ 47 := by
  cases n with
  | zero => exact h.elim
  | succ n =>
    unfold Typed at h
    rw [Tryd.underlying23] at h
    rcases h with h | rfl | ⟨ys, rfl, hl, hby, hb, hy⟩
    · rw [c5] at h; cases h
    · exact ⟨.nil, [], rfl, fun _ => rfl, by simp⟩
    · obtain ⟨bs, e, _⟩ := lift_list (f := u8) (ok := fun _ => True) (ys.map fun y => mkElt (isAggA Tryd.prog 5 == some true) y.1) (by
        intro x hx
        obtain ⟨y, hy1, rfl⟩ := List.mem_map.1 hx
        obtain ⟨_, ht⟩ := hy y hy1
        obtain ⟨i, hi, hw⟩ := typed_int Tryd.underlying5 ht
        rw [hi]
        have : 0 ≤ i ∧ i < 256 := by
          simp [Lit.wf, IntKind.min, IntKind.max, IntKind.signed, IntKind.bits] at hw
          omega
        refine ⟨UInt8.ofNat i.toNat, ?_, trivial⟩
        show AV.int .u8 i = .int .u8 ((UInt8.ofNat i.toNat).toNat : Nat)
        congr 1
        rw [UInt8.toNat_ofNat']
        omega)
      refine ⟨.lst .lost, bs, by rw [e]; rfl, fun h => Sl.noConfusion h, ?_⟩
      have := congrArg List.length e
      simp at this
      rw [b5] at hby
      unfold reachBytes at hby
      omega
theorem typed_nodes_of {n : Nat} (H : ∀ av b, av.length = 9 → Typed Tryd.prog n 26 av b → ∃ x : Nd, AV.agg av = x.v ∧ x.Ok) {av : List AV} {b : Nat} (h : Typed Tryd.prog (n + 1) 24 av b) : ∃ (f : Sl) (xs : List Nd), av = [slV f (Nd.vs xs)] ∧ (f = .nil → xs = []) ∧ xs.length ≤ 2 ^ 47 ∧ Nd.Oks xs := by
  unfold Typed at h
  rw [Tryd.underlying24] at h
  rcases h with h | rfl | ⟨ys, rfl, hl, hby, hb, hy⟩
  · rw [c26] at h; cases h
  · exact ⟨.nil, [], rfl, fun _ => rfl, by simp, trivial⟩
  · rw [ag26]
    obtain ⟨xs, e, hx⟩ := lift_list (f := Nd.v) (ok := Nd.Ok) (ys.map fun y => mkElt true y.1) (by
      intro x hx
      obtain ⟨y, hy1, rfl⟩ := List.mem_map.1 hx
      obtain ⟨hl, ht⟩ := hy y hy1
      rw [c26] at hl
      exact H _ _ hl ht)
    refine ⟨.lst .lost, xs, by rw [e, vs_map]; rfl, fun h => Sl.noConfusion h, ?_, oks_iff.2 hx⟩
    have := congrArg List.length e
    simp at this
    have := Nat.mul_le_mul_left ys.length b26
    unfold reachBytes at hby
    omega
theorem typed_node : ∀ (N n : Nat), n ≤ N → ∀ (av : List AV) (b : Nat), av.length = 9 → Typed Tryd.prog n 26 av b → ∃ x : Nd, AV.agg av = x.v ∧ x.Ok
  | _, 0, _, _, _, _, h => h.elim
  | 0, n + 1, hn, _, _, _, _ => by omega
  | N + 1, n + 1, hn, av, b, hl, h => by
    unfold Typed at h
    rw [Tryd.underlying26] at h
    rcases h with h | ⟨ws, _, _, h⟩
    · exact absurd (Nat.ble_eq_true_of_le h) (by rw [s26]; decide)
    · obtain ⟨x0, x1, x2, x3, x4, x5, x6, x7, x8, rfl⟩ : ∃ x0 x1 x2 x3 x4 x5 x6 x7 x8, av = [x0, x1, x2, x3, x4, x5, x6, x7, x8] := by
        match av, hl with
        | [x0, x1, x2, x3, x4, x5, x6, x7, x8], _ => exact ⟨x0, x1, x2, x3, x4, x5, x6, x7, x8, rfl⟩
      have nodes : ∀ av b, Typed Tryd.prog n 24 av b → ∃ (f : Sl) (xs : List Nd), av = [slV f (Nd.vs xs)] ∧ (f = .nil → xs = []) ∧ xs.length ≤ 2 ^ 47 ∧ Nd.Oks xs := by
        intro av b ht
        cases n with
        | zero => exact ht.elim
        | succ m => exact typed_nodes_of (typed_node N m (by omega)) ht
      obtain ⟨kind, e0, h0⟩ := typed_int Tryd.underlying3 (h 0 _ rfl)
      obtain ⟨m, e1, h1⟩ := typed_int Tryd.underlying22 (h 1 _ rfl)
      obtain ⟨neg, e2⟩ := typed_bool (h 2 _ rfl)
      obtain ⟨dg, e3, h3⟩ := typed_str (h 3 _ rfl)
      obtain ⟨ex, e4, h4⟩ := typed_int Tryd.underlying3 (h 4 _ rfl)
      obtain ⟨tx, e5, h5⟩ := typed_str (h 5 _ rfl)
      obtain ⟨fb, bs, e6, h6, h6'⟩ := typed_bytes (h 6 _ rfl)
      obtain ⟨fk, keys, e7, h7, h7', h7''⟩ := nodes _ _ (h 7 _ rfl)
      obtain ⟨fd, kids, e8, h8, h8', h8''⟩ := nodes _ _ (h 8 _ rfl)
      have e0 : List.take (Tryd.prog.cellsOf 3) [x0, x1, x2, x3, x4, x5, x6, x7, x8] = [_] := e0
      have e1 : List.take (Tryd.prog.cellsOf 22) [x1, x2, x3, x4, x5, x6, x7, x8] = [_] := e1
      have e2 : List.take (Tryd.prog.cellsOf 4) [x2, x3, x4, x5, x6, x7, x8] = [_] := e2
      have e3 : List.take (Tryd.prog.cellsOf 9) [x3, x4, x5, x6, x7, x8] = [_] := e3
      have e4 : List.take (Tryd.prog.cellsOf 3) [x4, x5, x6, x7, x8] = [_] := e4
      have e5 : List.take (Tryd.prog.cellsOf 9) [x5, x6, x7, x8] = [_] := e5
      have e6 : List.take (Tryd.prog.cellsOf 23) [x6, x7, x8] = [_] := e6
      have e7 : List.take (Tryd.prog.cellsOf 24) [x7, x8] = [_] := e7
      have e8 : List.take (Tryd.prog.cellsOf 24) [x8] = [_] := e8
      rw [c3] at e0 e4
      rw [c22] at e1
      rw [c4] at e2
      rw [c9] at e3 e5
      rw [c23] at e6
      rw [c24] at e7 e8
      obtain rfl : x0 = _ := (List.cons.inj e0).1
      obtain rfl : x1 = _ := (List.cons.inj e1).1
      obtain rfl : x2 = _ := (List.cons.inj e2).1
      obtain rfl : x3 = _ := (List.cons.inj e3).1
      obtain rfl : x4 = _ := (List.cons.inj e4).1
      obtain rfl : x5 = _ := (List.cons.inj e5).1
      obtain rfl : x6 = _ := (List.cons.inj e6).1
      obtain rfl : x7 = _ := (List.cons.inj e7).1
      obtain rfl : x8 = _ := (List.cons.inj e8).1
      obtain ⟨hm1, hm2⟩ := wf_u64 h1
      refine ⟨.mk kind m.toNat neg dg ex tx fb bs fk keys fd kids, ?_, h6, h7, h8, h6', h7', h8', h7'', h8''⟩
      show AV.agg [_, .int .u64 m, _, _, _, _, _, _, _] = .agg [_, .int .u64 (m.toNat : Nat), _, _, _, _, _, _, _]
      rw [Int.toNat_of_nonneg hm1]
theorem own : ownKnob Tryd.prog.godebug = none := by kernel_rfl
theorem laidOut : laidOutB Tryd.prog = true := by kernel_rfl
theorem contigs : allContig Tryd.prog = true := by kernel_rfl
def laid2 : List (String × DataW Unit) := [("unicode/utf8.acceptRanges", Rows.laid_unicode_utf8_acceptRanges), ("unicode/utf8.first", Rows.laid_unicode_utf8_first)]
theorem laid_met (os : Os) (args : Array Value) : laidMetH Tryd.prog laid2 ((World.laidAll Tryd.prog os laid2).forCall (fun _ _ => 0) ⟨#[], args, []⟩).memory := by
  rw [MakeChecks.laidMetH_plain _ _ _ (by kernel_rfl)]
  exact laidMet_laidAll _ (by kernel_rfl) (by kernel_rfl)
end Go.Proofs.YtmkmakokgfigoaaDoor
