import Derived.Test.YtmkmakokgfigoaaDoorVMT9
import Derived.Test.YtmkmakokgfigoaaDoorVMT25
namespace Go.Proofs.YtmkmakokgfigoaaDoor
open Go.Proofs.YtmkmakokgfigoaaDoor.VM Go.ChangeShapes Go.WideShapes Go.ChangeAt Go.RowKit
set_option maxRecDepth 100000
set_option linter.unusedVariables false
/-- A tree whose lists and strings are no longer than they can be. -/
def OkS (x : Nd) : Prop := x.Ok ∧ Sb (er x)
theorem typed_nodes_of2 {n : Nat} (H : ∀ av b, av.length = 9 → Typed Tryd.prog n 26 av b → ∃ x : Nd, AV.agg av = x.v ∧ OkS x) {av : List AV} {b : Nat} (h : Typed Tryd.prog (n + 1) 24 av b) : ∃ (f : Sl) (xs : List Nd), av = [slV f (Nd.vs xs)] ∧ (f = .nil → xs = []) ∧ xs.length ≤ 2 ^ 47 ∧ ∀ x ∈ xs, OkS x := by
  unfold Typed at h
  rw [Tryd.underlying24] at h
  rcases h with h | rfl | ⟨ys, rfl, hl, hby, hb, hy⟩
  · rw [c26] at h; cases h
  · exact ⟨.nil, [], rfl, fun _ => rfl, by simp, fun _ h => (List.not_mem_nil h).elim⟩
  · rw [ag26]
    obtain ⟨xs, e, hx⟩ := lift_list (f := Nd.v) (ok := OkS) (ys.map fun y => mkElt true y.1) (by
      intro x hx
      obtain ⟨y, hy1, rfl⟩ := List.mem_map.1 hx
      obtain ⟨hl, ht⟩ := hy y hy1
      rw [c26] at hl
      exact H _ _ hl ht)
    refine ⟨.lst .lost, xs, by rw [e, vs_map]; rfl, fun h => Sl.noConfusion h, ?_, hx⟩
    have := congrArg List.length e
    simp at this
    have := Nat.mul_le_mul_left ys.length b26
    unfold reachBytes at hby
    omega
theorem typed_node2 : ∀ (N n : Nat), n ≤ N → ∀ (av : List AV) (b : Nat), av.length = 9 → Typed Tryd.prog n 26 av b → ∃ x : Nd, AV.agg av = x.v ∧ OkS x
  | _, 0, _, _, _, _, h => h.elim
  | 0, n + 1, hn, _, _, _, _ => by omega
  | N + 1, n + 1, hn, av, b, hl, h => by
    unfold Typed at h
    rw [Tryd.underlying26] at h
    rcases h with h | ⟨ws, _, _, h⟩
    · exact absurd (Nat.ble_eq_true_of_le h) (by rw [s26]; decide)
    · obtain ⟨x0, x1, x2, x3, x4, x5, x6, x7, x8, rfl⟩ : ∃ x0 x1 x2 x3 x4 x5 x6 x7 x8, av = [x0, x1, x2, x3, x4, x5, x6, x7, x8] := by
        match av, hl with
        | [x0, x1, x2, x3, x4, x5, x6, x7, x8], _ => exact ⟨x0, x1, x2, x3, x4, x5, x6, x7, x8, rfl⟩
      have nodes : ∀ av b, Typed Tryd.prog n 24 av b → ∃ (f : Sl) (xs : List Nd), av = [slV f (Nd.vs xs)] ∧ (f = .nil → xs = []) ∧ xs.length ≤ 2 ^ 47 ∧ ∀ x ∈ xs, OkS x := by
        intro av b ht
        cases n with
        | zero => exact ht.elim
        | succ m => exact typed_nodes_of2 (typed_node2 N m (by omega)) ht
      obtain ⟨kind, e0, h0⟩ := typed_int Tryd.underlying3 (h 0 _ rfl)
      obtain ⟨m, e1, h1⟩ := typed_int Tryd.underlying22 (h 1 _ rfl)
      obtain ⟨neg, e2⟩ := typed_bool (h 2 _ rfl)
      obtain ⟨dg, e3, h3⟩ := typed_str (h 3 _ rfl)
      obtain ⟨ex, e4, h4⟩ := typed_int Tryd.underlying3 (h 4 _ rfl)
      obtain ⟨tx, e5, h5⟩ := typed_str (h 5 _ rfl)
      obtain ⟨fb, bs, e6, h6, h6'⟩ := typed_bytes (h 6 _ rfl)
      obtain ⟨fk, keys, e7, h7, h7', h7''⟩ := nodes _ _ (h 7 _ rfl)
      obtain ⟨fd, kids, e8, h8, h8', h8''⟩ := nodes _ _ (h 8 _ rfl)
      have e0 : List.take (Tryd.prog.cellsOf 3) [x0, x1, x2, x3, x4, x5, x6, x7, x8] = [_] := e0
      have e1 : List.take (Tryd.prog.cellsOf 22) [x1, x2, x3, x4, x5, x6, x7, x8] = [_] := e1
      have e2 : List.take (Tryd.prog.cellsOf 4) [x2, x3, x4, x5, x6, x7, x8] = [_] := e2
      have e3 : List.take (Tryd.prog.cellsOf 9) [x3, x4, x5, x6, x7, x8] = [_] := e3
      have e4 : List.take (Tryd.prog.cellsOf 3) [x4, x5, x6, x7, x8] = [_] := e4
      have e5 : List.take (Tryd.prog.cellsOf 9) [x5, x6, x7, x8] = [_] := e5
      have e6 : List.take (Tryd.prog.cellsOf 23) [x6, x7, x8] = [_] := e6
      have e7 : List.take (Tryd.prog.cellsOf 24) [x7, x8] = [_] := e7
      have e8 : List.take (Tryd.prog.cellsOf 24) [x8] = [_] := e8
      rw [c3] at e0 e4
      rw [c22] at e1
      rw [c4] at e2
      rw [c9] at e3 e5
      rw [c23] at e6
      rw [c24] at e7 e8
      obtain rfl : x0 = _ := (List.cons.inj e0).1
      obtain rfl : x1 = _ := (List.cons.inj e1).1
      obtain rfl : x2 = _ := (List.cons.inj e2).1
      obtain rfl : x3 = _ := (List.cons.inj e3).1
      obtain rfl : x4 = _ := (List.cons.inj e4).1
      obtain rfl : x5 = _ := (List.cons.inj e5).1
      obtain rfl : x6 = _ := (List.cons.inj e6).1
      obtain rfl : x7 = _ := (List.cons.inj e7).1
      obtain rfl : x8 = _ := (List.cons.inj e8).1
      obtain ⟨hm1, hm2⟩ := wf_u64 h1
      refine ⟨.mk kind m.toNat neg dg ex tx fb bs fk keys fd kids, ?_, ⟨h6, h7, h8, h6', h7', h8', oks_iff.2 fun x h => (h7'' x h).1, oks_iff.2 fun x h => (h8'' x h).1⟩, ?_⟩
      rotate_left
      · simp only [er, Sb, sbs_iff, ers_map]
        exact ⟨h3, h5, fun y hy => by obtain ⟨x, hx, rfl⟩ := List.mem_map.1 hy; exact (h7'' x hx).2, fun y hy => by obtain ⟨x, hx, rfl⟩ := List.mem_map.1 hy; exact (h8'' x hx).2⟩
      show AV.agg [_, .int .u64 m, _, _, _, _, _, _, _] = .agg [_, .int .u64 (m.toNat : Nat), _, _, _, _, _, _, _]
      rw [Int.toNat_of_nonneg hm1]
end Go.Proofs.YtmkmakokgfigoaaDoor
