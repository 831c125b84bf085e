import Derived.Test.YtmkmakokgfigoaaDoorVMT16
namespace Go.Proofs.YtmkmakokgfigoaaDoor
open Go.Proofs.YtmkmakokgfigoaaDoor.VM
set_option maxRecDepth 100000
set_option linter.unusedVariables false
set_option maxHeartbeats 1000000

def Nd.keys : Nd → List Nd | .mk _ _ _ _ _ _ _ _ _ keys _ _ => keys
def Nd.kids : Nd → List Nd | .mk _ _ _ _ _ _ _ _ _ _ _ kids => kids
def WayOk (x : Nd) (k : Int) (r : AV) : Prop := ∃ (j : Int) (key ok : Bool), r = .tuple [.int .i64 j, .bool key, .bool ok] ∧ (ok = false → stepN x k = none) ∧ (ok = true → 0 ≤ j ∧ j < 2 ^ 63 ∧ ∃ y, stepN x k = some y ∧ (if key = true then x.keys else x.kids)[j.toNat]? = some y)
theorem way_in {x : Nd} {xs : List Nd} {k j : Int} {key ok : Bool} (h1 : stepN x k = xs[j.toNat]?) (h2 : (if key = true then x.keys else x.kids) = xs) (hj : 0 ≤ j) (hj2 : j < 2 ^ 63) (hok : ok = decide (j < (xs.length : Nat))) : WayOk x k (.tuple [.int .i64 j, .bool key, .bool ok]) := by
  refine ⟨j, key, ok, rfl, fun h => ?_, fun h => ?_⟩
  · rw [h1, List.getElem?_eq_none]
    have : ¬ (j < (xs.length : Nat)) := by rw [h] at hok; simpa using hok.symm
    omega
  · have : j < (xs.length : Nat) := by rw [h] at hok; simpa using hok.symm
    have hlt : j.toNat < xs.length := by omega
    exact ⟨hj, hj2, xs[j.toNat], by rw [h1, List.getElem?_eq_getElem hlt], by rw [h2, List.getElem?_eq_getElem hlt]⟩
theorem way_out {x : Nd} {k j : Int} {key : Bool} (h1 : stepN x k = none) : WayOk x k (.tuple [.int .i64 j, .bool key, .bool false]) :=
  ⟨j, key, false, rfl, fun _ => h1, fun h => by cases h⟩

theorem t47 (x : Nd) (hx : x.Ok) (k : Int) (h1 : -2 ^ 63 ≤ k) (h2 : k < 2 ^ 63) (S : St) : CallQ Tryd.prog TC 47 [x.v, .int .i64 k] S fun r S1 => WayOk x k r ∧ Keep S S1 := by
  obtain ⟨kind, n, neg, dg, ex, tx, fb, bs, fk, keys, fd, kids⟩ := x
  obtain ⟨x1, x2, x3, x4, x5, x6, x7, x8⟩ := hx
  refine CallQ.of rfl (by kernel_rfl : Tryd.prog.funcs[47]? = some Tryd.f47) rfl (by decide) ?_
  rcases fk with _ | tk <;> rcases fd with _ | td
  · conv => whnf
    intro c hc
    cases c
    rotate_left
    · have hp : k < 0 := by simpa using hc
      conv => whnf
      refine ⟨way_out (by simp [stepN, hp]), .refl _⟩
    have hp : 0 ≤ k := by simpa using hc
    have hp' : ¬ k < 0 := by omega
    conv => whnf
    intro c1 hc1
    cases c1
    rotate_left
    · have hk : kind = 8 := by simpa using hc1
      conv => whnf
      refine ⟨by decide, ?_⟩
      conv => whnf
      intro c3 hc3
      cases c3
      · have hm : ¬ k % 2 = 0 := by rw [← odd hp]; simpa using hc3
        conv => whnf
        intro c4 hc4
        obtain rfl : c4 = true := by rw [hc4]; exact decide_eq_true hk
        conv => whnf
        refine ⟨[0, 1, 2, 3, 4, 5, 6, 7, 8, 9, 10], [], by kernel_rfl, by kernel_rfl, by kernel_rfl, ?_⟩
        conv => whnf
        refine ⟨by decide, ?_⟩
        rw [half hp h2]
        conv => whnf
        refine ⟨by decide, ?_⟩
        rw [half hp h2]
        conv => whnf
        intro c6 hc6
        conv => whnf
        refine ⟨?_, .refl _⟩
        exact way_in (xs := kids) (by simp [stepN, hk, hm, hp']) rfl (by omega) (by omega) (by rw [hc6]; rw [x3 rfl]; rfl)
      · have hm : k % 2 = 0 := by rw [← odd hp]; simpa using hc3
        conv => whnf
        refine ⟨[0, 1, 2, 3, 4, 5, 6, 7, 8, 9, 10], [], by kernel_rfl, by kernel_rfl, by kernel_rfl, ?_⟩
        conv => whnf
        refine ⟨by decide, ?_⟩
        rw [half hp h2]
        conv => whnf
        refine ⟨by decide, ?_⟩
        rw [half hp h2]
        conv => whnf
        intro c6 hc6
        conv => whnf
        refine ⟨?_, .refl _⟩
        exact way_in (xs := keys) (by simp [stepN, hk, hm, hp']) rfl (by omega) (by omega) (by rw [hc6]; rw [x2 rfl]; rfl)
    have hk : kind ≠ 8 := by simpa using hc1
    conv => whnf
    intro c4 hc4
    obtain rfl : c4 = false := by rw [hc4]; exact decide_eq_false hk
    conv => whnf
    intro c5 hc5
    cases c5
    rotate_left
    · have hk7 : kind = 7 := by simpa using hc5
      conv => whnf
      refine ⟨[0, 1, 2, 3, 4, 5, 6, 7, 8], [], by kernel_rfl, by kernel_rfl, by kernel_rfl, ?_⟩
      conv => whnf
      intro c6 hc6
      conv => whnf
      refine ⟨?_, .refl _⟩
      exact way_in (xs := kids) (by simp [stepN, hk7, hp']) rfl (by omega) (by omega) (by rw [hc6]; rw [x3 rfl]; rfl)
    have hk7 : kind ≠ 7 := by simpa using hc5
    conv => whnf
    intro c5 hc5
    cases c5
    rotate_left
    · have hk9 : kind = 9 := by simpa using hc5
      conv => whnf
      refine ⟨[0, 1, 2, 3, 4, 5, 6, 7, 8], [], by kernel_rfl, by kernel_rfl, by kernel_rfl, ?_⟩
      conv => whnf
      intro c6 hc6
      conv => whnf
      refine ⟨?_, .refl _⟩
      exact way_in (xs := kids) (by simp [stepN, hk9, hp']) rfl (by omega) (by omega) (by rw [hc6]; rw [x3 rfl]; rfl)
    have hk9 : kind ≠ 9 := by simpa using hc5
    conv => whnf
    refine ⟨way_out (by simp [stepN, hk, hk7, hk9]), .refl _⟩
  · conv => whnf
    intro c hc
    cases c
    rotate_left
    · have hp : k < 0 := by simpa using hc
      conv => whnf
      refine ⟨way_out (by simp [stepN, hp]), .refl _⟩
    have hp : 0 ≤ k := by simpa using hc
    have hp' : ¬ k < 0 := by omega
    conv => whnf
    intro c1 hc1
    cases c1
    rotate_left
    · have hk : kind = 8 := by simpa using hc1
      conv => whnf
      refine ⟨by decide, ?_⟩
      conv => whnf
      intro c3 hc3
      cases c3
      · have hm : ¬ k % 2 = 0 := by rw [← odd hp]; simpa using hc3
        conv => whnf
        intro c4 hc4
        obtain rfl : c4 = true := by rw [hc4]; exact decide_eq_true hk
        conv => whnf
        refine ⟨[0, 1, 2, 3, 4, 5, 6, 7, 8, 9, 10], [], by kernel_rfl, by kernel_rfl, by kernel_rfl, ?_⟩
        conv => whnf
        refine ⟨by decide, ?_⟩
        rw [half hp h2]
        conv => whnf
        refine ⟨by decide, ?_⟩
        rw [half hp h2]
        conv => whnf
        intro c6 hc6
        conv => whnf
        refine ⟨?_, .refl _⟩
        exact way_in (xs := kids) (by simp [stepN, hk, hm, hp']) rfl (by omega) (by omega) (by rw [hc6]; rw [vs_len])
      · have hm : k % 2 = 0 := by rw [← odd hp]; simpa using hc3
        conv => whnf
        refine ⟨[0, 1, 2, 3, 4, 5, 6, 7, 8, 9, 10], [], by kernel_rfl, by kernel_rfl, by kernel_rfl, ?_⟩
        conv => whnf
        refine ⟨by decide, ?_⟩
        rw [half hp h2]
        conv => whnf
        refine ⟨by decide, ?_⟩
        rw [half hp h2]
        conv => whnf
        intro c6 hc6
        conv => whnf
        refine ⟨?_, .refl _⟩
        exact way_in (xs := keys) (by simp [stepN, hk, hm, hp']) rfl (by omega) (by omega) (by rw [hc6]; rw [x2 rfl]; rfl)
    have hk : kind ≠ 8 := by simpa using hc1
    conv => whnf
    intro c4 hc4
    obtain rfl : c4 = false := by rw [hc4]; exact decide_eq_false hk
    conv => whnf
    intro c5 hc5
    cases c5
    rotate_left
    · have hk7 : kind = 7 := by simpa using hc5
      conv => whnf
      refine ⟨[0, 1, 2, 3, 4, 5, 6, 7, 8], [], by kernel_rfl, by kernel_rfl, by kernel_rfl, ?_⟩
      conv => whnf
      intro c6 hc6
      conv => whnf
      refine ⟨?_, .refl _⟩
      exact way_in (xs := kids) (by simp [stepN, hk7, hp']) rfl (by omega) (by omega) (by rw [hc6]; rw [vs_len])
    have hk7 : kind ≠ 7 := by simpa using hc5
    conv => whnf
    intro c5 hc5
    cases c5
    rotate_left
    · have hk9 : kind = 9 := by simpa using hc5
      conv => whnf
      refine ⟨[0, 1, 2, 3, 4, 5, 6, 7, 8], [], by kernel_rfl, by kernel_rfl, by kernel_rfl, ?_⟩
      conv => whnf
      intro c6 hc6
      conv => whnf
      refine ⟨?_, .refl _⟩
      exact way_in (xs := kids) (by simp [stepN, hk9, hp']) rfl (by omega) (by omega) (by rw [hc6]; rw [vs_len])
    have hk9 : kind ≠ 9 := by simpa using hc5
    conv => whnf
    refine ⟨way_out (by simp [stepN, hk, hk7, hk9]), .refl _⟩
  · conv => whnf
    intro c hc
    cases c
    rotate_left
    · have hp : k < 0 := by simpa using hc
      conv => whnf
      refine ⟨way_out (by simp [stepN, hp]), .refl _⟩
    have hp : 0 ≤ k := by simpa using hc
    have hp' : ¬ k < 0 := by omega
    conv => whnf
    intro c1 hc1
    cases c1
    rotate_left
    · have hk : kind = 8 := by simpa using hc1
      conv => whnf
      refine ⟨by decide, ?_⟩
      conv => whnf
      intro c3 hc3
      cases c3
      · have hm : ¬ k % 2 = 0 := by rw [← odd hp]; simpa using hc3
        conv => whnf
        intro c4 hc4
        obtain rfl : c4 = true := by rw [hc4]; exact decide_eq_true hk
        conv => whnf
        refine ⟨[0, 1, 2, 3, 4, 5, 6, 7, 8, 9, 10], [], by kernel_rfl, by kernel_rfl, by kernel_rfl, ?_⟩
        conv => whnf
        refine ⟨by decide, ?_⟩
        rw [half hp h2]
        conv => whnf
        refine ⟨by decide, ?_⟩
        rw [half hp h2]
        conv => whnf
        intro c6 hc6
        conv => whnf
        refine ⟨?_, .refl _⟩
        exact way_in (xs := kids) (by simp [stepN, hk, hm, hp']) rfl (by omega) (by omega) (by rw [hc6]; rw [x3 rfl]; rfl)
      · have hm : k % 2 = 0 := by rw [← odd hp]; simpa using hc3
        conv => whnf
        refine ⟨[0, 1, 2, 3, 4, 5, 6, 7, 8, 9, 10], [], by kernel_rfl, by kernel_rfl, by kernel_rfl, ?_⟩
        conv => whnf
        refine ⟨by decide, ?_⟩
        rw [half hp h2]
        conv => whnf
        refine ⟨by decide, ?_⟩
        rw [half hp h2]
        conv => whnf
        intro c6 hc6
        conv => whnf
        refine ⟨?_, .refl _⟩
        exact way_in (xs := keys) (by simp [stepN, hk, hm, hp']) rfl (by omega) (by omega) (by rw [hc6]; rw [vs_len])
    have hk : kind ≠ 8 := by simpa using hc1
    conv => whnf
    intro c4 hc4
    obtain rfl : c4 = false := by rw [hc4]; exact decide_eq_false hk
    conv => whnf
    intro c5 hc5
    cases c5
    rotate_left
    · have hk7 : kind = 7 := by simpa using hc5
      conv => whnf
      refine ⟨[0, 1, 2, 3, 4, 5, 6, 7, 8], [], by kernel_rfl, by kernel_rfl, by kernel_rfl, ?_⟩
      conv => whnf
      intro c6 hc6
      conv => whnf
      refine ⟨?_, .refl _⟩
      exact way_in (xs := kids) (by simp [stepN, hk7, hp']) rfl (by omega) (by omega) (by rw [hc6]; rw [x3 rfl]; rfl)
    have hk7 : kind ≠ 7 := by simpa using hc5
    conv => whnf
    intro c5 hc5
    cases c5
    rotate_left
    · have hk9 : kind = 9 := by simpa using hc5
      conv => whnf
      refine ⟨[0, 1, 2, 3, 4, 5, 6, 7, 8], [], by kernel_rfl, by kernel_rfl, by kernel_rfl, ?_⟩
      conv => whnf
      intro c6 hc6
      conv => whnf
      refine ⟨?_, .refl _⟩
      exact way_in (xs := kids) (by simp [stepN, hk9, hp']) rfl (by omega) (by omega) (by rw [hc6]; rw [x3 rfl]; rfl)
    have hk9 : kind ≠ 9 := by simpa using hc5
    conv => whnf
    refine ⟨way_out (by simp [stepN, hk, hk7, hk9]), .refl _⟩
  · conv => whnf
    intro c hc
    cases c
    rotate_left
    · have hp : k < 0 := by simpa using hc
      conv => whnf
      refine ⟨way_out (by simp [stepN, hp]), .refl _⟩
    have hp : 0 ≤ k := by simpa using hc
    have hp' : ¬ k < 0 := by omega
    conv => whnf
    intro c1 hc1
    cases c1
    rotate_left
    · have hk : kind = 8 := by simpa using hc1
      conv => whnf
      refine ⟨by decide, ?_⟩
      conv => whnf
      intro c3 hc3
      cases c3
      · have hm : ¬ k % 2 = 0 := by rw [← odd hp]; simpa using hc3
        conv => whnf
        intro c4 hc4
        obtain rfl : c4 = true := by rw [hc4]; exact decide_eq_true hk
        conv => whnf
        refine ⟨[0, 1, 2, 3, 4, 5, 6, 7, 8, 9, 10], [], by kernel_rfl, by kernel_rfl, by kernel_rfl, ?_⟩
        conv => whnf
        refine ⟨by decide, ?_⟩
        rw [half hp h2]
        conv => whnf
        refine ⟨by decide, ?_⟩
        rw [half hp h2]
        conv => whnf
        intro c6 hc6
        conv => whnf
        refine ⟨?_, .refl _⟩
        exact way_in (xs := kids) (by simp [stepN, hk, hm, hp']) rfl (by omega) (by omega) (by rw [hc6]; rw [vs_len])
      · have hm : k % 2 = 0 := by rw [← odd hp]; simpa using hc3
        conv => whnf
        refine ⟨[0, 1, 2, 3, 4, 5, 6, 7, 8, 9, 10], [], by kernel_rfl, by kernel_rfl, by kernel_rfl, ?_⟩
        conv => whnf
        refine ⟨by decide, ?_⟩
        rw [half hp h2]
        conv => whnf
        refine ⟨by decide, ?_⟩
        rw [half hp h2]
        conv => whnf
        intro c6 hc6
        conv => whnf
        refine ⟨?_, .refl _⟩
        exact way_in (xs := keys) (by simp [stepN, hk, hm, hp']) rfl (by omega) (by omega) (by rw [hc6]; rw [vs_len])
    have hk : kind ≠ 8 := by simpa using hc1
    conv => whnf
    intro c4 hc4
    obtain rfl : c4 = false := by rw [hc4]; exact decide_eq_false hk
    conv => whnf
    intro c5 hc5
    cases c5
    rotate_left
    · have hk7 : kind = 7 := by simpa using hc5
      conv => whnf
      refine ⟨[0, 1, 2, 3, 4, 5, 6, 7, 8], [], by kernel_rfl, by kernel_rfl, by kernel_rfl, ?_⟩
      conv => whnf
      intro c6 hc6
      conv => whnf
      refine ⟨?_, .refl _⟩
      exact way_in (xs := kids) (by simp [stepN, hk7, hp']) rfl (by omega) (by omega) (by rw [hc6]; rw [vs_len])
    have hk7 : kind ≠ 7 := by simpa using hc5
    conv => whnf
    intro c5 hc5
    cases c5
    rotate_left
    · have hk9 : kind = 9 := by simpa using hc5
      conv => whnf
      refine ⟨[0, 1, 2, 3, 4, 5, 6, 7, 8], [], by kernel_rfl, by kernel_rfl, by kernel_rfl, ?_⟩
      conv => whnf
      intro c6 hc6
      conv => whnf
      refine ⟨?_, .refl _⟩
      exact way_in (xs := kids) (by simp [stepN, hk9, hp']) rfl (by omega) (by omega) (by rw [hc6]; rw [vs_len])
    have hk9 : kind ≠ 9 := by simpa using hc5
    conv => whnf
    refine ⟨way_out (by simp [stepN, hk, hk7, hk9]), .refl _⟩
end Go.Proofs.YtmkmakokgfigoaaDoor
