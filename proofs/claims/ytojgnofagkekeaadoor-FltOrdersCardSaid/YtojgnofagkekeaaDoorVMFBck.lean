import Derived.RangeFuncLeaves
import Derived.Shelf.Abstract
import Derived.WalkKit
import Derived.OwnWalkIn
import Derived.TacticsInMore
import Derived.LoopNIn
import Derived.LoopIn
import Derived.RangeFuncSeq
import Derived.Test.YtojgnofagkekeaaDoorChecked
namespace Go.Proofs.YtojgnofagkekeaaDoor
open Go.RowKit Go.Shelf
attribute [local go_sem] Oper.semAt_some
set_option linter.unusedVariables false
set_option maxRecDepth 100000 in
set_option maxHeartbeats 2000000 in
/-- The closure that slices.Backward hands back: from the last place to the first. -/
theorem back_in (n : Nat) (l Bs Bo b off len cap : Nat) (hreach : len * 8 ≤ 140737488355328) (J : Nat → World → Prop)
    (hsl : ∀ k W, J k W → W.cell? ⟨Bs, Bo, none⟩ = some (.slice (some ⟨b, off, none⟩) len cap))
    (hY : ∀ k W, k < len → J (k + 1) W → ∃ x, W.cell? ⟨b, off + k, none⟩ = some x ∧ YieldAt Fence.wide (n - 1) Tryd.prog l #[.int .i64 k, x] W fun e W' => e = .returned (.bool true) ∧ J k W')
    (W : World) (h0 : J len W) :
    CallsIn Fence.wide n Tryd.prog 83 #[.func (.yield l) #[] #[], .pointer (some ⟨Bs, Bo, none⟩)] W fun e W' => (∃ v, e = .returned v) ∧ J 0 W' := by
  have hro : Fence.wide.round = none := rfl
  have h7 : Fence.wide.fn 83 := trivial
  have hn : Fence.wide.depth.isSome = true → 1 ≤ n := fun q => by cases q
  have hs0 := hsl len W h0
  refine callsIn_of_wp Tryd.func83 rfl h7 ?_ hro
  simp only [Tryd.ntmps83, List.size_toArray, List.length_cons, List.length_nil, Nat.reduceAdd, Nat.reduceSub, Array.replicate_succ, Array.replicate_zero, List.push_toArray, List.append_toArray, List.nil_append, List.cons_append]
  gi_wp2
  gi_loopw [3] (fun i wr => ∃ k : Nat, k ≤ len ∧ i = .int .i64 ((k : Int) - 1) ∧ J k wr)
    (fun i _ => (intOf i + 1).toNat)
  case atStart => exact ⟨len, Nat.le_refl _, rfl, h0⟩
  case round =>
    obtain ⟨k, hk, rfl, hJs⟩ := hrel
    have hs1 := hsl k wr hJs
    rcases Nat.eq_zero_or_pos k with rfl | hk0
    · gi_wp2
      go_end0
      exact ⟨⟨_, rfl⟩, hJs⟩
    · obtain ⟨j, rfl⟩ : ∃ j, k = j + 1 := ⟨k - 1, by omega⟩
      obtain ⟨x, hcx, fn, tmps, assign, body, hy, hR⟩ := hY j wr (by omega) hJs
      have ej : ((j + 1 : Nat) : Int) - 1 = (j : Int) := by omega
      rw [ej]
      gi_wp2
      refine ⟨hn, hR.mono ?_⟩
      rintro e W3 ⟨rfl, hJ3⟩
      gi_wp2
      go_roundw
      case rel => exact ⟨j, by omega, rfl, hJ3⟩
      case measure => simp [intOf] <;> omega
set_option maxRecDepth 100000 in
set_option maxHeartbeats 1000000 in
/-- .. at the nil slice: no round. -/
theorem back_nil (n : Nat) (l Bs Bo cap : Nat) (oa : Option Addr) (J : World → Prop) (W : World) (hs0 : W.cell? ⟨Bs, Bo, none⟩ = some (.slice oa 0 cap)) (h0 : J W) :
    CallsIn Fence.wide n Tryd.prog 83 #[.func (.yield l) #[] #[], .pointer (some ⟨Bs, Bo, none⟩)] W fun e W' => (∃ v, e = .returned v) ∧ J W' := by
  have hro : Fence.wide.round = none := rfl
  have h7 : Fence.wide.fn 83 := trivial
  refine callsIn_of_wp Tryd.func83 rfl h7 ?_ hro
  simp only [Tryd.ntmps83, List.size_toArray, List.length_cons, List.length_nil, Nat.reduceAdd, Nat.reduceSub, Array.replicate_succ, Array.replicate_zero, List.push_toArray, List.append_toArray, List.nil_append, List.cons_append]
  gi_wp2
  gi_loopw [3] (fun i wr => i = .int .i64 (-1) ∧ J wr) (fun _ _ => 0)
  case atStart => exact ⟨rfl, h0⟩
  case round =>
    obtain ⟨rfl, hJs⟩ := hrel
    gi_wp2
    go_end0
    exact ⟨⟨_, rfl⟩, hJs⟩
end Go.Proofs.YtojgnofagkekeaaDoor
