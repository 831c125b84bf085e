import Derived.Test.YtmkmakokgfigoaaDoorVMP5
namespace Go.Proofs.YtmkmakokgfigoaaDoor
open Go.Proofs.YtmkmakokgfigoaaDoor.VM Go.RowKit
set_option maxRecDepth 100000
set_option linter.unusedVariables false
set_option linter.unusedSimpArgs false
set_option maxHeartbeats 4000000
/-- What Put answers. -/
def PutR (x : Nd) (ps : List Int) (y : Nd) (r : AV) : Prop :=
  ((few x = false ∨ few y = false) ∧ r = .tuple [zN.v, .int .i64 8]) ∨ (few x = true ∧ few y = true ∧ putP (er x) ps (er y) = none ∧ r = .tuple [zN.v, .int .i64 19]) ∨
    (few x = true ∧ few y = true ∧ ∃ u z, putP (er x) ps (er y) = some u ∧ er z = u ∧ z.Ok ∧ z.v.shed = z.v ∧ r = .tuple [z.v, .int .i64 0])
/-! The document's own step: which place a number leads to. -/
def WayX (x : Nd) (k : Int) (r : AV) : Prop := ∃ (j : Int) (key ok : Bool), r = .tuple [.int .i64 j, .bool key, .bool ok] ∧ (ok = false → wayQ (er x) k = none) ∧ (ok = true → 0 ≤ j ∧ j < 2 ^ 63 ∧ wayQ (er x) k = some (key, j.toNat))
theorem wayQ_er (kind : Int) (n : Nat) (neg : Bool) (dg : List UInt8) (ex : Int) (tx : List UInt8) (fb : Sl) (bs : List UInt8) (fk : Sl) (keys : List Nd) (fd : Sl) (kids : List Nd) (k : Int) :
    wayQ (er (.mk kind n neg dg ex tx fb bs fk keys fd kids)) k = wayP kind keys.length kids.length k := by simp only [er, wayQ, len_ers]
theorem wayx_in {kind : Int} {n : Nat} {neg : Bool} {dg : List UInt8} {ex : Int} {tx : List UInt8} {fb : Sl} {bs : List UInt8} {fk : Sl} {keys : List Nd} {fd : Sl} {kids : List Nd} {xs : List Nd} {k j : Int} {key ok : Bool}
    (h1 : wayP kind keys.length kids.length k = if j.toNat < xs.length then some (key, j.toNat) else none) (h2 : (if key = true then keys else kids) = xs) (hj : 0 ≤ j) (hj2 : j < 2 ^ 63) (hok : ok = decide (j < (xs.length : Nat))) : WayX (.mk kind n neg dg ex tx fb bs fk keys fd kids) k (.tuple [.int .i64 j, .bool key, .bool ok]) := by
  refine ⟨j, key, ok, rfl, fun h => ?_, fun h => ?_⟩
  · rw [wayQ_er, h1, if_neg]
    have : ¬ (j < (xs.length : Nat)) := by rw [h] at hok; simpa using hok.symm
    omega
  · have : j < (xs.length : Nat) := by rw [h] at hok; simpa using hok.symm
    exact ⟨hj, hj2, by rw [wayQ_er, h1, if_pos (by omega)]⟩
theorem wayx_out {kind : Int} {n : Nat} {neg : Bool} {dg : List UInt8} {ex : Int} {tx : List UInt8} {fb : Sl} {bs : List UInt8} {fk : Sl} {keys : List Nd} {fd : Sl} {kids : List Nd} {k j : Int} {key : Bool} (h1 : wayP kind keys.length kids.length k = none) : WayX (.mk kind n neg dg ex tx fb bs fk keys fd kids) k (.tuple [.int .i64 j, .bool key, .bool false]) :=
  ⟨j, key, false, rfl, fun _ => by rw [wayQ_er]; exact h1, fun h => by cases h⟩
theorem t47x (x : Nd) (hx : x.Ok) (k : Int) (h1 : -2 ^ 63 ≤ k) (h2 : k < 2 ^ 63) (S : St) : CallQ Tryd.prog TC 47 [x.v, .int .i64 k] S fun r S1 => WayX x k r ∧ Keep S S1 := by
  obtain ⟨kind, n, neg, dg, ex, tx, fb, bs, fk, keys, fd, kids⟩ := x
  obtain ⟨x1, x2, x3, x4, x5, x6, x7, x8⟩ := hx
  refine CallQ.of rfl (by kernel_rfl : Tryd.prog.funcs[47]? = some Tryd.f47) rfl (by decide) ?_
  rcases fk with _ | tk <;> rcases fd with _ | td
  · conv => whnf
    intro c hc
    cases c
    rotate_left
    · have hp : k < 0 := by simpa using hc
      conv => whnf
      refine ⟨wayx_out (by simp [wayP, hp]), .refl _⟩
    have hp : 0 ≤ k := by simpa using hc
    have hp' : ¬ k < 0 := by omega
    conv => whnf
    intro c1 hc1
    cases c1
    rotate_left
    · have hk : kind = 8 := by simpa using hc1
      conv => whnf
      refine ⟨by decide, ?_⟩
      conv => whnf
      intro c3 hc3
      cases c3
      · have hm : ¬ k % 2 = 0 := by rw [← odd hp]; simpa using hc3
        conv => whnf
        intro c4 hc4
        obtain rfl : c4 = true := by rw [hc4]; exact decide_eq_true hk
        conv => whnf
        refine ⟨[0, 1, 2, 3, 4, 5, 6, 7, 8, 9, 10], [], by kernel_rfl, by kernel_rfl, by kernel_rfl, ?_⟩
        conv => whnf
        refine ⟨by decide, ?_⟩
        rw [half hp h2]
        conv => whnf
        refine ⟨by decide, ?_⟩
        rw [half hp h2]
        conv => whnf
        intro c6 hc6
        conv => whnf
        refine ⟨?_, .refl _⟩
        exact wayx_in (xs := kids) (by simp [wayP, hk, hm, hp']) rfl (by omega) (by omega) (by rw [hc6]; rw [x3 rfl]; rfl)
      · have hm : k % 2 = 0 := by rw [← odd hp]; simpa using hc3
        conv => whnf
        refine ⟨[0, 1, 2, 3, 4, 5, 6, 7, 8, 9, 10], [], by kernel_rfl, by kernel_rfl, by kernel_rfl, ?_⟩
        conv => whnf
        refine ⟨by decide, ?_⟩
        rw [half hp h2]
        conv => whnf
        refine ⟨by decide, ?_⟩
        rw [half hp h2]
        conv => whnf
        intro c6 hc6
        conv => whnf
        refine ⟨?_, .refl _⟩
        exact wayx_in (xs := keys) (by simp [wayP, hk, hm, hp']) rfl (by omega) (by omega) (by rw [hc6]; rw [x2 rfl]; rfl)
    have hk : kind ≠ 8 := by simpa using hc1
    conv => whnf
    intro c4 hc4
    obtain rfl : c4 = false := by rw [hc4]; exact decide_eq_false hk
    conv => whnf
    intro c5 hc5
    cases c5
    rotate_left
    · have hk7 : kind = 7 := by simpa using hc5
      conv => whnf
      refine ⟨[0, 1, 2, 3, 4, 5, 6, 7, 8], [], by kernel_rfl, by kernel_rfl, by kernel_rfl, ?_⟩
      conv => whnf
      intro c6 hc6
      conv => whnf
      refine ⟨?_, .refl _⟩
      exact wayx_in (xs := kids) (by simp [wayP, hk7, hp']) rfl (by omega) (by omega) (by rw [hc6]; rw [x3 rfl]; rfl)
    have hk7 : kind ≠ 7 := by simpa using hc5
    conv => whnf
    intro c5 hc5
    cases c5
    rotate_left
    · have hk9 : kind = 9 := by simpa using hc5
      conv => whnf
      refine ⟨[0, 1, 2, 3, 4, 5, 6, 7, 8], [], by kernel_rfl, by kernel_rfl, by kernel_rfl, ?_⟩
      conv => whnf
      intro c6 hc6
      conv => whnf
      refine ⟨?_, .refl _⟩
      exact wayx_in (xs := kids) (by simp [wayP, hk9, hp']) rfl (by omega) (by omega) (by rw [hc6]; rw [x3 rfl]; rfl)
    have hk9 : kind ≠ 9 := by simpa using hc5
    conv => whnf
    refine ⟨wayx_out (by simp [wayP, hk, hk7, hk9]), .refl _⟩
  · conv => whnf
    intro c hc
    cases c
    rotate_left
    · have hp : k < 0 := by simpa using hc
      conv => whnf
      refine ⟨wayx_out (by simp [wayP, hp]), .refl _⟩
    have hp : 0 ≤ k := by simpa using hc
    have hp' : ¬ k < 0 := by omega
    conv => whnf
    intro c1 hc1
    cases c1
    rotate_left
    · have hk : kind = 8 := by simpa using hc1
      conv => whnf
      refine ⟨by decide, ?_⟩
      conv => whnf
      intro c3 hc3
      cases c3
      · have hm : ¬ k % 2 = 0 := by rw [← odd hp]; simpa using hc3
        conv => whnf
        intro c4 hc4
        obtain rfl : c4 = true := by rw [hc4]; exact decide_eq_true hk
        conv => whnf
        refine ⟨[0, 1, 2, 3, 4, 5, 6, 7, 8, 9, 10], [], by kernel_rfl, by kernel_rfl, by kernel_rfl, ?_⟩
        conv => whnf
        refine ⟨by decide, ?_⟩
        rw [half hp h2]
        conv => whnf
        refine ⟨by decide, ?_⟩
        rw [half hp h2]
        conv => whnf
        intro c6 hc6
        conv => whnf
        refine ⟨?_, .refl _⟩
        exact wayx_in (xs := kids) (by simp [wayP, hk, hm, hp']) rfl (by omega) (by omega) (by rw [hc6]; rw [vs_len])
      · have hm : k % 2 = 0 := by rw [← odd hp]; simpa using hc3
        conv => whnf
        refine ⟨[0, 1, 2, 3, 4, 5, 6, 7, 8, 9, 10], [], by kernel_rfl, by kernel_rfl, by kernel_rfl, ?_⟩
        conv => whnf
        refine ⟨by decide, ?_⟩
        rw [half hp h2]
        conv => whnf
        refine ⟨by decide, ?_⟩
        rw [half hp h2]
        conv => whnf
        intro c6 hc6
        conv => whnf
        refine ⟨?_, .refl _⟩
        exact wayx_in (xs := keys) (by simp [wayP, hk, hm, hp']) rfl (by omega) (by omega) (by rw [hc6]; rw [x2 rfl]; rfl)
    have hk : kind ≠ 8 := by simpa using hc1
    conv => whnf
    intro c4 hc4
    obtain rfl : c4 = false := by rw [hc4]; exact decide_eq_false hk
    conv => whnf
    intro c5 hc5
    cases c5
    rotate_left
    · have hk7 : kind = 7 := by simpa using hc5
      conv => whnf
      refine ⟨[0, 1, 2, 3, 4, 5, 6, 7, 8], [], by kernel_rfl, by kernel_rfl, by kernel_rfl, ?_⟩
      conv => whnf
      intro c6 hc6
      conv => whnf
      refine ⟨?_, .refl _⟩
      exact wayx_in (xs := kids) (by simp [wayP, hk7, hp']) rfl (by omega) (by omega) (by rw [hc6]; rw [vs_len])
    have hk7 : kind ≠ 7 := by simpa using hc5
    conv => whnf
    intro c5 hc5
    cases c5
    rotate_left
    · have hk9 : kind = 9 := by simpa using hc5
      conv => whnf
      refine ⟨[0, 1, 2, 3, 4, 5, 6, 7, 8], [], by kernel_rfl, by kernel_rfl, by kernel_rfl, ?_⟩
      conv => whnf
      intro c6 hc6
      conv => whnf
      refine ⟨?_, .refl _⟩
      exact wayx_in (xs := kids) (by simp [wayP, hk9, hp']) rfl (by omega) (by omega) (by rw [hc6]; rw [vs_len])
    have hk9 : kind ≠ 9 := by simpa using hc5
    conv => whnf
    refine ⟨wayx_out (by simp [wayP, hk, hk7, hk9]), .refl _⟩
  · conv => whnf
    intro c hc
    cases c
    rotate_left
    · have hp : k < 0 := by simpa using hc
      conv => whnf
      refine ⟨wayx_out (by simp [wayP, hp]), .refl _⟩
    have hp : 0 ≤ k := by simpa using hc
    have hp' : ¬ k < 0 := by omega
    conv => whnf
    intro c1 hc1
    cases c1
    rotate_left
    · have hk : kind = 8 := by simpa using hc1
      conv => whnf
      refine ⟨by decide, ?_⟩
      conv => whnf
      intro c3 hc3
      cases c3
      · have hm : ¬ k % 2 = 0 := by rw [← odd hp]; simpa using hc3
        conv => whnf
        intro c4 hc4
        obtain rfl : c4 = true := by rw [hc4]; exact decide_eq_true hk
        conv => whnf
        refine ⟨[0, 1, 2, 3, 4, 5, 6, 7, 8, 9, 10], [], by kernel_rfl, by kernel_rfl, by kernel_rfl, ?_⟩
        conv => whnf
        refine ⟨by decide, ?_⟩
        rw [half hp h2]
        conv => whnf
        refine ⟨by decide, ?_⟩
        rw [half hp h2]
        conv => whnf
        intro c6 hc6
        conv => whnf
        refine ⟨?_, .refl _⟩
        exact wayx_in (xs := kids) (by simp [wayP, hk, hm, hp']) rfl (by omega) (by omega) (by rw [hc6]; rw [x3 rfl]; rfl)
      · have hm : k % 2 = 0 := by rw [← odd hp]; simpa using hc3
        conv => whnf
        refine ⟨[0, 1, 2, 3, 4, 5, 6, 7, 8, 9, 10], [], by kernel_rfl, by kernel_rfl, by kernel_rfl, ?_⟩
        conv => whnf
        refine ⟨by decide, ?_⟩
        rw [half hp h2]
        conv => whnf
        refine ⟨by decide, ?_⟩
        rw [half hp h2]
        conv => whnf
        intro c6 hc6
        conv => whnf
        refine ⟨?_, .refl _⟩
        exact wayx_in (xs := keys) (by simp [wayP, hk, hm, hp']) rfl (by omega) (by omega) (by rw [hc6]; rw [vs_len])
    have hk : kind ≠ 8 := by simpa using hc1
    conv => whnf
    intro c4 hc4
    obtain rfl : c4 = false := by rw [hc4]; exact decide_eq_false hk
    conv => whnf
    intro c5 hc5
    cases c5
    rotate_left
    · have hk7 : kind = 7 := by simpa using hc5
      conv => whnf
      refine ⟨[0, 1, 2, 3, 4, 5, 6, 7, 8], [], by kernel_rfl, by kernel_rfl, by kernel_rfl, ?_⟩
      conv => whnf
      intro c6 hc6
      conv => whnf
      refine ⟨?_, .refl _⟩
      exact wayx_in (xs := kids) (by simp [wayP, hk7, hp']) rfl (by omega) (by omega) (by rw [hc6]; rw [x3 rfl]; rfl)
    have hk7 : kind ≠ 7 := by simpa using hc5
    conv => whnf
    intro c5 hc5
    cases c5
    rotate_left
    · have hk9 : kind = 9 := by simpa using hc5
      conv => whnf
      refine ⟨[0, 1, 2, 3, 4, 5, 6, 7, 8], [], by kernel_rfl, by kernel_rfl, by kernel_rfl, ?_⟩
      conv => whnf
      intro c6 hc6
      conv => whnf
      refine ⟨?_, .refl _⟩
      exact wayx_in (xs := kids) (by simp [wayP, hk9, hp']) rfl (by omega) (by omega) (by rw [hc6]; rw [x3 rfl]; rfl)
    have hk9 : kind ≠ 9 := by simpa using hc5
    conv => whnf
    refine ⟨wayx_out (by simp [wayP, hk, hk7, hk9]), .refl _⟩
  · conv => whnf
    intro c hc
    cases c
    rotate_left
    · have hp : k < 0 := by simpa using hc
      conv => whnf
      refine ⟨wayx_out (by simp [wayP, hp]), .refl _⟩
    have hp : 0 ≤ k := by simpa using hc
    have hp' : ¬ k < 0 := by omega
    conv => whnf
    intro c1 hc1
    cases c1
    rotate_left
    · have hk : kind = 8 := by simpa using hc1
      conv => whnf
      refine ⟨by decide, ?_⟩
      conv => whnf
      intro c3 hc3
      cases c3
      · have hm : ¬ k % 2 = 0 := by rw [← odd hp]; simpa using hc3
        conv => whnf
        intro c4 hc4
        obtain rfl : c4 = true := by rw [hc4]; exact decide_eq_true hk
        conv => whnf
        refine ⟨[0, 1, 2, 3, 4, 5, 6, 7, 8, 9, 10], [], by kernel_rfl, by kernel_rfl, by kernel_rfl, ?_⟩
        conv => whnf
        refine ⟨by decide, ?_⟩
        rw [half hp h2]
        conv => whnf
        refine ⟨by decide, ?_⟩
        rw [half hp h2]
        conv => whnf
        intro c6 hc6
        conv => whnf
        refine ⟨?_, .refl _⟩
        exact wayx_in (xs := kids) (by simp [wayP, hk, hm, hp']) rfl (by omega) (by omega) (by rw [hc6]; rw [vs_len])
      · have hm : k % 2 = 0 := by rw [← odd hp]; simpa using hc3
        conv => whnf
        refine ⟨[0, 1, 2, 3, 4, 5, 6, 7, 8, 9, 10], [], by kernel_rfl, by kernel_rfl, by kernel_rfl, ?_⟩
        conv => whnf
        refine ⟨by decide, ?_⟩
        rw [half hp h2]
        conv => whnf
        refine ⟨by decide, ?_⟩
        rw [half hp h2]
        conv => whnf
        intro c6 hc6
        conv => whnf
        refine ⟨?_, .refl _⟩
        exact wayx_in (xs := keys) (by simp [wayP, hk, hm, hp']) rfl (by omega) (by omega) (by rw [hc6]; rw [vs_len])
    have hk : kind ≠ 8 := by simpa using hc1
    conv => whnf
    intro c4 hc4
    obtain rfl : c4 = false := by rw [hc4]; exact decide_eq_false hk
    conv => whnf
    intro c5 hc5
    cases c5
    rotate_left
    · have hk7 : kind = 7 := by simpa using hc5
      conv => whnf
      refine ⟨[0, 1, 2, 3, 4, 5, 6, 7, 8], [], by kernel_rfl, by kernel_rfl, by kernel_rfl, ?_⟩
      conv => whnf
      intro c6 hc6
      conv => whnf
      refine ⟨?_, .refl _⟩
      exact wayx_in (xs := kids) (by simp [wayP, hk7, hp']) rfl (by omega) (by omega) (by rw [hc6]; rw [vs_len])
    have hk7 : kind ≠ 7 := by simpa using hc5
    conv => whnf
    intro c5 hc5
    cases c5
    rotate_left
    · have hk9 : kind = 9 := by simpa using hc5
      conv => whnf
      refine ⟨[0, 1, 2, 3, 4, 5, 6, 7, 8], [], by kernel_rfl, by kernel_rfl, by kernel_rfl, ?_⟩
      conv => whnf
      intro c6 hc6
      conv => whnf
      refine ⟨?_, .refl _⟩
      exact wayx_in (xs := kids) (by simp [wayP, hk9, hp']) rfl (by omega) (by omega) (by rw [hc6]; rw [vs_len])
    have hk9 : kind ≠ 9 := by simpa using hc5
    conv => whnf
    refine ⟨wayx_out (by simp [wayP, hk, hk7, hk9]), .refl _⟩
end Go.Proofs.YtmkmakokgfigoaaDoor
namespace Go.Proofs.YtmkmakokgfigoaaDoor
open Go.Proofs.YtmkmakokgfigoaaDoor.VM Go.RowKit
set_option maxRecDepth 100000
set_option linter.unusedVariables false
set_option linter.unusedSimpArgs false
set_option maxHeartbeats 4000000
/-! The document's Put. -/
def LayR (x : Nd) (ps : List Int) (y : Nd) (r : AV) : Prop :=
  (putP (er x) ps (er y) = none ∧ r = .tuple [zN.v, .int .i64 19]) ∨ ∃ z, putP (er x) ps (er y) = some (er z) ∧ z.Ok ∧ z.v.shed = z.v ∧ r = .tuple [z.v, .int .i64 0]
theorem mapS_id {k : Nat} : ∀ (cs : List AV) (S : St), (∀ v ∈ cs, ∀ S, frzA k v S = some (v, S)) → mapS (frzA k) cs S = some (cs, S)
  | [], S, h => rfl
  | v :: cs, S, h => by
    simp only [mapS, h v (by simp), Option.bind_some, mapS_id cs S (fun w hw => h w (by simp [hw])), Option.map_some]
theorem frz_sl (k : Nat) (f : Sl) (l : List AV) (S : St) : frzA (k + 1) (slV f l) S = some (slV f l, S) := by cases f <;> rfl
theorem frz_node (k : Nat) (x : Nd) : ∀ v ∈ x.cs, ∀ S, frzA (k + 1) v S = some (v, S) := by
  obtain ⟨kind, n, neg, dg, ex, tx, fb, bs, fk, keys, fd, kids⟩ := x
  intro v hv S
  simp only [Nd.cs, List.mem_cons, List.not_mem_nil, or_false] at hv
  rcases hv with rfl | rfl | rfl | rfl | rfl | rfl | rfl | rfl | rfl
  all_goals first | rfl | exact frz_sl _ _ _ _
theorem frz_csL (k : Nat) (ys : List Nd) (S : St) : mapS (frzA (k + 1)) (csL ys) S = some (csL ys, S) := mapS_id _ _ fun v hv => by
  obtain ⟨y, _, hy⟩ := List.mem_flatMap.1 hv
  exact frz_node k y v hy
/-- A list of nodes in an array of its own. -/
theorem frz_arr (k : Nat) (a : Nat) (ys : List Nd) (S : St) (h : S.mem a = some (.cells (csL ys))) : frzA (k + 2) (.hnd a 0 ys.length 9) S = some (.lst (Nd.vs ys) .lost, S.set a none) := by
  have hl : (csL ys).length = ys.length * 9 := by
    have : ∀ l : List Nd, (csL l).length = l.length * 9 := fun l => by
      induction l with
      | nil => rfl
      | cons y l ih =>
        have : csL (y :: l) = y.cs ++ csL l := by simp [csL]
        rw [this, List.length_append, ih, cs_len, List.length_cons]; omega
    exact this ys
  unfold frzA
  simp only [h]
  rw [if_pos (by omega), List.drop_zero, List.take_of_length_le (by omega), frz_csL]
  simp only [Option.bind_some]
  rw [if_pos (by rfl)]
  show some (AV.lst (chunk true 9 ys.length (csL ys)) Tip.lost, _) = _
  rw [chunk_cs]
theorem csL_len (l : List Nd) : (csL l).length = l.length * 9 := by
  induction l with
  | nil => rfl
  | cons y l ih =>
    have : csL (y :: l) = y.cs ++ csL l := by simp [csL]
    rw [this, List.length_append, ih, cs_len, List.length_cons]; omega
theorem csL_at : ∀ {ys : List Nd} {i : Nat} (h : i < ys.length), ((csL ys).drop (i * 9)).take 9 = ys[i].cs
  | y :: ys, 0, _ => by
    have e : csL (y :: ys) = y.cs ++ csL ys := by simp [csL]
    rw [e]
    simp only [Nat.zero_mul, List.drop_zero, List.getElem_cons_zero]
    rw [List.take_append_of_le_length (by rw [cs_len]; omega), List.take_of_length_le (by rw [cs_len]; omega)]
  | y :: ys, i + 1, h => by
    have e : csL (y :: ys) = y.cs ++ csL ys := by simp [csL]
    have hl := cs_len y
    rw [e, show (i + 1) * 9 = y.cs.length + i * 9 by omega, List.drop_append, List.drop_of_length_le (by omega)]
    simp only [List.nil_append, List.getElem_cons_succ]
    rw [show y.cs.length + i * 9 - y.cs.length = i * 9 by omega]
    exact csL_at (by simpa using h)
theorem csL_set : ∀ {ys : List Nd} {i : Nat} (h : i < ys.length) (z : Nd), setsA (csL ys) (i * 9) z.cs = csL (ys.set i z)
  | y :: ys, 0, _, z => by
    have e : csL (y :: ys) = y.cs ++ csL ys := by simp [csL]
    have e2 : csL (z :: ys) = z.cs ++ csL ys := by simp [csL]
    rw [e, List.set_cons_zero, e2, Nat.zero_mul]
    exact setsA_mid z.cs [] y.cs (csL ys) (by rw [cs_len, cs_len])
  | y :: ys, i + 1, h, z => by
    have hlt : i < ys.length := by simpa using h
    have e : csL (y :: ys) = y.cs ++ csL ys := by simp [csL]
    have e2 : csL (y :: ys.set i z) = y.cs ++ csL (ys.set i z) := by simp [csL]
    have ih := csL_set hlt z
    rw [e, List.set_cons_succ, e2, ← ih]
    -- the part ahead is let alone
    have sh : ∀ (d c cs : List AV) (o : Nat), setsA (c ++ cs) (c.length + o) d = c ++ setsA cs o d := by
      intro d
      induction d with
      | nil => intro c cs o; rfl
      | cons v d ih =>
        intro c cs o
        show setsA ((c ++ cs).set (c.length + o) v) (c.length + o + 1) d = c ++ setsA (cs.set o v) (o + 1) d
        rw [List.set_append_right _ _ (by omega), show c.length + o - c.length = o by omega, Nat.add_assoc, ih]
    have := sh z.cs y.cs (csL ys) (i * 9)
    rw [cs_len] at this
    rw [show (i + 1) * 9 = 9 + i * 9 by omega]
    exact this
theorem vs_shed (xs : List Nd) : (Nd.vs xs).map AV.shed = Nd.vs (xs.map Nd.lo) := by
  rw [vs_map, vs_map, List.map_map, List.map_map]
  refine List.map_congr_left fun x _ => ?_
  show x.v.shed = x.lo.v
  rw [v_cs x, shed_lo]
theorem flat_vs : ∀ xs : List Nd, flat (Nd.vs xs) = csL xs
  | [] => rfl
  | x :: xs => by
    have h1 : flat (Nd.vs (x :: xs)) = x.v.cells ++ flat (Nd.vs xs) := rfl
    have h2 : csL (x :: xs) = x.cs ++ csL xs := by simp [csL]
    rw [h1, h2, flat_vs xs, v_cs]; rfl
/-- A copy in an array of its own. -/
theorem copy_none (f : Sl) (S : St) : builtinA Tryd.prog TC 40 .append #[24, 24] [.nils, slV f (Nd.vs [])] S = some (.ret .nils, S) := by
  have hE := el24
  have helem : elemA Tryd.prog 24 = some 26 := by simp [elemA, hE.und]
  have hy : elemsA S true 9 (slV f (Nd.vs [])) = some [] := by cases f <;> rfl
  simp only [builtinA, appendA, helem, hE.size, hE.agg, hE.bytes, hE.zero, hE.und, Option.bind_some, appendB, hy]
  rw [if_pos ⟨by decide, hE.zlen, rfl⟩]
  rfl
theorem copy_some (f : Sl) (xs : List Nd) (hf : f = .nil → xs = []) (hne : xs ≠ []) (hl : xs.length ≤ 2 ^ 38) (S : St) :
    builtinA Tryd.prog TC 40 .append #[24, 24] [.nils, slV f (Nd.vs xs)] S = some (.ret (.hnd S.next 0 xs.length 9), S.new (.cells (csL (xs.map Nd.lo)))) := by
  have hE := el24
  have helem : elemA Tryd.prog 24 = some 26 := by simp [elemA, hE.und]
  have hy : elemsA S true 9 (slV f (Nd.vs xs)) = some (Nd.vs xs) := by
    cases f with
    | nil => exact absurd (hf rfl) hne
    | lst t => rfl
  have hh : TC.hnd 40 = true := by rfl
  have hlen : ¬ ((Nd.vs (xs.map Nd.lo)).length = 0) := by rw [vs_len, List.length_map]; intro h; exact hne (List.length_eq_zero_iff.1 h)
  simp only [builtinA, appendA, helem, hE.size, hE.agg, hE.bytes, hE.zero, hE.und, Option.bind_some, appendB, hy, vs_shed]
  rw [if_pos ⟨by decide, hE.zlen, wellA_vs _⟩, if_neg hlen, if_pos (by simp [sizeOk, vs_len]; omega)]
  simp only [freshA, hh, if_true, Option.bind_some, retA, flat_vs, vs_len, List.length_map]
theorem und31 : Tryd.prog.underlying 31 = some (.slice 3) := by kernel_rfl
theorem sz3 : szA Tryd.prog 3 = some 1 := by kernel_rfl
theorem head_pI (ps : List Int) : headOk 1 (ps.map pI) = true := by cases ps <;> rfl
theorem partF_true {r : Option AV} {v : AV} {K : AV → Prop} (h : r = some v) (k : forceV v K) : partF true r K := by subst h; exact k
theorem kid_er (x : Nd) (q : Bool) (i : Nat) : kidP (er x) q i = ((if q = true then x.keys else x.kids)[i]?).map er := by
  obtain ⟨kind, n, neg, dg, ex, tx, fb, bs, fk, keys, fd, kids⟩ := x
  cases q
  · simp only [er, kidP, ers_map, Nd.kids]; simp
  · simp only [er, kidP, ers_map, Nd.keys]; simp
theorem lay_lo (x : Nd) (ps : List Int) (y : Nd) (r : AV) : LayR x.lo ps y r = LayR x ps y r := by unfold LayR; rw [lo_er]
theorem map_lo : er ∘ Nd.lo = er := by funext x; exact lo_er x
theorem oks_lo {xs : List Nd} (h : Nd.Oks xs) : Nd.Oks (xs.map Nd.lo) := oks_iff.2 fun x hx => by
  obtain ⟨y, hy, rfl⟩ := List.mem_map.1 hx
  exact lo_ok (oks_iff.1 h y hy)
theorem oks_set {xs : List Nd} (h : Nd.Oks xs) {z : Nd} (hz : z.Ok) {i : Nat} : Nd.Oks (xs.set i z) := oks_iff.2 fun x hx => by
  rcases List.mem_or_eq_of_mem_set hx with hx | rfl
  · exact oks_iff.1 h x hx
  · exact hz
theorem copy_any (f : Sl) (xs : List Nd) (hf : f = .nil → xs = []) (hl : xs.length ≤ 2 ^ 38) (S : St) :
    ∃ r S1, builtinA Tryd.prog TC 40 .append #[24, 24] [.nils, slV f (Nd.vs xs)] S = some (.ret r, S1) ∧ Keep S S1 ∧ (r = .nils ∨ ∃ a n, r = .hnd a 0 n 9) := by
  by_cases h : xs = []
  · subst h; exact ⟨_, _, copy_none f S, .refl _, .inl rfl⟩
  · exact ⟨_, _, copy_some f xs hf h hl S, (Keep.refl S).new _, .inr ⟨_, _, rfl⟩⟩
theorem way_nd {x : Nd} {k : Int} {q : Bool} {j : Nat} (h : wayQ (er x) k = some (q, j)) : ∃ c, (if q = true then x.keys else x.kids)[j]? = some c := by
  obtain ⟨y, hy⟩ := way_kid h
  rw [kid_er] at hy
  obtain ⟨c, hc, _⟩ := Option.map_eq_some_iff.1 hy
  exact ⟨c, hc⟩
theorem t40 : ∀ (ps : List Int) (x y : Nd), x.Ok → y.Ok → cnt x ≤ 2 ^ 30 → PsOk ps → ∀ (fp : Sl), (fp = .nil → ps = []) → ps.length ≤ 2 ^ 62 → ∀ (S : St), CallQ Tryd.prog TC 40 [x.v, slV fp (ps.map pI), y.v] S fun r S1 => LayR x ps y r ∧ Keep S S1 := by
  intro ps
  induction ps with
  | nil =>
    intro x y hx hy hcx hp fp hf hl S
    obtain ⟨Y, hY⟩ : ∃ Y, Y = y := ⟨_, rfl⟩
    have hR : ∀ r, r = .tuple [Y.lo.v, .int .i64 0] → LayR x [] y r := fun r hr => .inr ⟨Y.lo, by rw [hY, lo_er]; rfl, by rw [hY]; exact lo_ok hy, by rw [v_cs]; show (AV.agg Y.lo.cs).shed = _; rw [shed_lo, v_cs]; obtain ⟨kind, n, neg, dg, ex, tx, fb, bs, fk, keys, fd, kids⟩ := Y; cases fb <;> cases fk <;> cases fd <;> rfl, hr⟩
    obtain ⟨kind, n, neg, dg, ex, tx, fb, bs, fk, keys, fd, kids⟩ := x
    obtain ⟨kind', n', neg', dg', ex', tx', fb', bs', fk', keys', fd', kids'⟩ := y
    refine CallQ.of rfl (by kernel_rfl : Tryd.prog.funcs[40]? = some Tryd.f40) rfl (by decide) ?_
    rcases fp with _ | tp
    all_goals
      conv => whnf
      have hdn : ∀ b, (S.new b).next = S.next + 1 := fun _ => rfl
      rw [hdn]
      generalize hS1 : (S.new _).new _ = S1
      have k1 : Keep S S1 := by rw [← hS1]; exact ((Keep.refl S).new _).new _
      have a2 : S1.cells (S.next + 1) = some zN.cs := by rw [← hS1]; exact cells_new _ _
      have n1 : S1.next = S.next + 2 := by rw [← hS1]; rfl
      clear hS1
      refine brEq (fun _ => ?_) (fun h => absurd rfl h)
      conv => whnf
      refine ⟨_, _, a2, store_agg rfl rfl (nd_leaf ..), ?_⟩
      conv => whnf
      refine ⟨AV.agg Y.cs, ?_, ?_⟩
      · show (St.cells _ (S.next + 1)).bind _ = _
        rw [cells_set, hY]; rfl
      rw [hY]
      conv => whnf
      have hfr : frzA (S1.next + 4) (.tuple [.agg (Nd.cs (.mk kind' n' neg' dg' ex' tx' fb' bs' fk' keys' fd' kids')), .int .i64 0]) (S1.set (S.next + 1) (some (.cells (Nd.cs (.mk kind' n' neg' dg' ex' tx' fb' bs' fk' keys' fd' kids'))))) = some (.tuple [.agg (Nd.cs (.mk kind' n' neg' dg' ex' tx' fb' bs' fk' keys' fd' kids')), .int .i64 0], S1.set (S.next + 1) (some (.cells (Nd.cs (.mk kind' n' neg' dg' ex' tx' fb' bs' fk' keys' fd' kids'))))) := by
        rw [show S1.next + 4 = (S1.next + 1) + 3 by omega, frz_tup, mapS_id _ _ (frz_node _ _)]; rfl
      refine ⟨_, _, hfr, hR _ ?_, k1.set (S.next + 1) _ (by omega)⟩
      · show AV.tuple [AV.shed (.agg _), _] = _
        rw [shed_lo, hY]; rfl
  | cons k ps ih =>
    intro x y hx hy hcnt hp fp hf hl S
    rcases fp with _ | tp
    · exact absurd (hf rfl) (by simp)
    have hk := hp k (by simp)
    have hw := t47x x hx k hk.1 hk.2
    obtain ⟨X, hX⟩ : ∃ X, X = x := ⟨_, rfl⟩
    obtain ⟨y0, hy0'⟩ : ∃ y0, y0 = y := ⟨_, rfl⟩
    rw [← hy0'] at hy ⊢
    have hy0 := hy
    have hnone : wayQ (er X) k = none → LayR X (k :: ps) y0 (.tuple [zN.v, .int .i64 19]) := fun h => .inl ⟨by simp only [putP, h, Option.bind_none], rfl⟩
    have hbad : ∀ (q : Bool) (c : Nd) (j : Nat), wayQ (er X) k = some (q, j) → (if q = true then X.keys else X.kids)[j]? = some c → putP (er c) ps (er y0) = none → LayR X (k :: ps) y0 (.tuple [zN.v, .int .i64 19]) := fun q c j h1 h2 h3 =>
      .inl ⟨by simp only [putP, h1, Option.bind_some, kid_er, h2, Option.map_some, h3, Option.map_none], rfl⟩
    have hgood : ∀ (q : Bool) (c : Nd) (z res : Nd) (j : Nat), wayQ (er X) k = some (q, j) → (if q = true then X.keys else X.kids)[j]? = some c → putP (er c) ps (er y0) = some (er z) → setP (er X) q j (er z) = er res → res.Ok → res.v.shed = res.v → ∀ r, r = .tuple [res.v, .int .i64 0] → LayR X (k :: ps) y0 r := fun q c z res j h1 h2 h3 h4 h5 h6 r hr =>
      .inr ⟨res, by simp only [putP, h1, Option.bind_some, kid_er, h2, Option.map_some, h3]; rw [h4], h5, h6, hr⟩
    obtain ⟨kind, n, neg, dg, ex, tx, fb, bs, fk, keys, fd, kids⟩ := x
    obtain ⟨kind', n', neg', dg', ex', tx', fb', bs', fk', keys', fd', kids'⟩ := y
    obtain ⟨x1, x2, x3, x4, x5, x6, x7, x8⟩ := hx
    simp only [cnt] at hcnt
    have hkl := len_cnts keys
    have hdl := len_cnts kids
    rw [← hX] at hw
    have hXkeys : X.keys = keys := by rw [hX]; rfl
    have hyv : y0.v = (Nd.mk kind' n' neg' dg' ex' tx' fb' bs' fk' keys' fd' kids').v := by rw [hy0']
    have hXkids : X.kids = kids := by rw [hX]; rfl
    rw [hy0']
    refine CallQ.of rfl (by kernel_rfl : Tryd.prog.funcs[40]? = some Tryd.f40) rfl (by decide) ?_
    conv => whnf
    have hdn : ∀ b, (S.new b).next = S.next + 1 := fun _ => rfl
    rw [hdn]
    generalize hS1 : (S.new _).new _ = S1
    have k1 : Keep S S1 := by rw [← hS1]; exact ((Keep.refl S).new _).new _
    have a1 := (congrArg (fun s => s.cells S.next) hS1).symm.trans (cells_new_ne (cells_new _ _) (by show S.next ≠ S.next + 1; omega))
    have a2 : S1.cells (S.next + 1) = some zN.cs := by rw [← hS1]; exact cells_new _ _
    have n1 : S1.next = S.next + 2 := by rw [← hS1]; rfl
    clear hS1
    refine brEq (fun h => by simp at h; omega) (fun _ => ?_)
    conv => whnf
    refine ⟨[0, 1, 2, 3, 4, 5, 6, 7, 8, 9, 10, 11], [], by kernel_rfl, by kernel_rfl, by kernel_rfl, ?_⟩
    conv => whnf
    refine ⟨_, a1, ?_⟩
    conv => whnf
    refine ⟨by decide, _, rfl, rfl, ?_⟩
    conv => whnf
    rw [hX] at hw
    refine CallQ.mono (hw S1) ?_
    rintro r S2 ⟨⟨j, key, ok, rfl, w1, w2⟩, k2⟩
    rw [← hX] at w1 w2
    have n2 := k2.next
    have b1 := (cells_keep k2 (j := S.next) (by omega)).trans a1
    have b2 := (cells_keep k2 (j := S.next + 1) (by omega)).trans a2
    have k02 := k1.trans k2
    cases ok
    · conv => whnf
      refine ⟨_, _, b2, store_agg rfl rfl rfl, ?_⟩
      conv => whnf
      refine ⟨AV.agg zN.cs, by show (St.cells _ (S.next + 1)).bind _ = _; rw [cells_set]; rfl, ?_⟩
      conv => whnf
      refine ⟨_, _, frz_err _ _ _ (by omega), ?_, k02.set _ _ (by omega)⟩
      rw [hX] at hnone w1
      rw [hy0'] at hnone
      exact hnone (w1 rfl)
    obtain ⟨hj0, hj1, hway⟩ := w2 rfl
    obtain ⟨c, hkid⟩ := way_nd hway
    have hXe : ∀ ps' r, LayR X ps' y0 r → LayR (.mk kind n neg dg ex tx fb bs fk keys fd kids) ps' (.mk kind' n' neg' dg' ex' tx' fb' bs' fk' keys' fd' kids') r := fun ps' r h => by rw [hX, hy0'] at h; exact h
    cases key
    · have hk2 : kids[j.toNat]? = some c := by rw [← hXkids]; exact hkid
      have hjlt : j.toNat < kids.length := (List.getElem?_eq_some_iff.1 hk2).1
      have hcx' : kids[j.toNat] = c := (List.getElem?_eq_some_iff.1 hk2).2
      have hcok : c.Ok := by rw [← hcx']; exact oks_iff.1 x8 _ (List.getElem_mem hjlt)
      have hccnt : cnt c ≤ 2 ^ 30 := by have := cnt_mem (List.getElem_mem hjlt); rw [hcx'] at this; omega
      have hne : kids ≠ [] := fun e => by rw [e] at hjlt; simp at hjlt
      conv => whnf
      refine ⟨_, b1, ?_⟩
      conv => whnf
      refine ⟨_, _, copy_some fd kids x3 hne (by omega) S2, ?_⟩
      conv => whnf
      obtain ⟨a, ha⟩ : ∃ a, a = S2.next := ⟨_, rfl⟩
      rw [← ha]
      generalize hS5 : S2.new _ = S5
      have k25 : Keep S2 S5 := by rw [← hS5]; exact (Keep.refl S2).new _
      have n5 : S5.next = S2.next + 1 := by rw [← hS5]; rfl
      have hma : S5.mem a = some (.cells (csL (kids.map Nd.lo))) := by rw [← hS5, ha]; exact mem_new _ _
      have e1 := (cells_keep k25 (j := S.next) (by omega)).trans b1
      have e2 := (cells_keep k25 (j := S.next + 1) (by omega)).trans b2
      have k05 := k02.trans k25
      clear hS5
      refine ⟨[0, 1, 2, 3, 4, 5, 6, 7, 8, 9, 11, 12, 10, 13], [], by kernel_rfl, by kernel_rfl, by kernel_rfl, ?_⟩
      conv => whnf
      refine ⟨by omega, by omega, ?_⟩
      conv => whnf
      have hjl : j.toNat < (kids.map Nd.lo).length := by rw [List.length_map]; omega
      have hld : (if 0 + j.toNat * 9 + 9 ≤ (csL (kids.map Nd.lo)).length then some (AV.agg (((csL (kids.map Nd.lo)).drop (0 + j.toNat * 9)).take 9)) else none) = some (.agg c.lo.cs) := by
        rw [if_pos (by rw [csL_len]; omega), Nat.zero_add, csL_at hjl]
        simp only [List.getElem_map, hcx']
      have hok := lo_ok hcok
      have hih := ih c.lo y0 hok hy0 (by rw [lo_cnt]; exact hccnt) (fun k' hk' => hp k' (by simp [hk']))
      simp only [lay_lo] at hih
      obtain ⟨c', hc'⟩ : ∃ c', c' = c.lo := ⟨_, rfl⟩
      rw [← hc'] at hld hih hok
      obtain ⟨kind2, n2, neg2, dg2, ex2, tx2, fb2, bs2, fk2, keys2, fd2, kids2⟩ := c'
      refine ⟨_, cells_of_mem hma, partF_true hld ?_⟩
      conv => whnf
      obtain ⟨tp', hsl⟩ := slice_lo (P := Tryd.prog) und31 sz3 ((k :: ps).map pI) tp (head_pI _) 1 (by simp) .i64
      refine ⟨_, hsl, ?_⟩
      conv => whnf
      have hih3 := hih (.lst tp') (fun h => Sl.noConfusion h) (by simp at hl; omega) S5
      rw [hyv] at hih3
      refine CallQ.mono hih3 ?_
      rintro r S6 ⟨hr, k6⟩
      have n6 := k6.next
      have f1 := (cells_keep k6 (j := S.next) (by omega)).trans e1
      have f2 := (cells_keep k6 (j := S.next + 1) (by omega)).trans e2
      have fa := (k6.mem a (by omega)).trans hma
      have k06 : Keep S S6 := k05.trans k6
      rcases hr with ⟨hno, rfl⟩ | ⟨z, hso, hzok, hzs, rfl⟩
      · conv => whnf
        refine ⟨_, _, cells_new _ _, store_agg rfl rfl rfl, ?_⟩
        conv => whnf
        refine brNe (fun _ => ?_) (fun h => by cases h)
        conv => whnf
        refine ⟨_, _, cells_set_ne (cells_new_ne f2 (by omega)) (by omega), store_agg rfl rfl rfl, ?_⟩
        conv => whnf
        refine ⟨AV.agg zN.cs, by show (St.cells _ (S.next + 1)).bind _ = _; rw [cells_set]; rfl, ?_⟩
        conv => whnf
        exact ⟨_, _, frz_err _ _ _ (by omega), hXe _ _ (hbad _ _ _ hway hkid hno), ((k06.new _).set _ _ (by omega)).set _ _ (by omega)⟩
      obtain ⟨z0, hz0⟩ : ∃ z0, z0 = z := ⟨_, rfl⟩
      rw [← hz0] at hso hzok hzs
      obtain ⟨kind3, n3', neg3, dg3, ex3, tx3, fb3, bs3, fk3, keys3, fd3, kids3⟩ := z
      conv => whnf
      refine ⟨_, _, cells_new _ _, store_agg rfl rfl (nd_leaf ..), ?_⟩
      conv => whnf
      refine brNe (fun h => absurd rfl h) (fun _ => ?_)
      conv => whnf
      generalize hS7 : (S6.new _).set S6.next _ = S7
      have k7 : Keep S6 S7 := by rw [← hS7]; exact ((Keep.refl S6).new _).set _ _ (Nat.le_refl _)
      have n7 : S7.next = S6.next + 1 := by rw [← hS7]; rfl
      have g0 : S7.cells S6.next = some z0.cs := by rw [← hS7, hz0]; exact cells_set _ _ _
      rw [hz0] at g0
      clear hS7
      have g1 := (cells_keep k7 (j := S.next) (by omega)).trans f1
      have g2 := (cells_keep k7 (j := S.next + 1) (by omega)).trans f2
      have ga := (k7.mem a (by omega)).trans fa
      refine ⟨_, g0, ?_⟩
      conv => whnf
      refine ⟨by omega, by omega, ?_⟩
      conv => whnf
      refine ⟨_, _, cells_of_mem ga, if_pos ⟨rfl, nd_leaf .., by rw [csL_len]; show 0 + j.toNat * 9 + 9 ≤ _; omega⟩, ?_⟩
      conv => whnf
      generalize hS8 : S7.set a _ = S8
      have h8 : S8.mem a = some (.cells (csL ((kids.map Nd.lo).set j.toNat z0))) := by
        rw [← hS8, mem_set, ← csL_set hjl, hz0, Nat.zero_add]; rfl
      have n8 : S8.next = S7.next := by rw [← hS8]; rfl
      have m8 : ∀ i, i ≠ a → S8.mem i = S7.mem i := fun i hi => by rw [← hS8]; exact set_ne hi
      have k08 : Keep S S8 := by rw [← hS8]; exact (k06.trans k7).set _ _ (by omega)
      clear hS8
      have h81 : S8.cells S.next = some [.int .i64 kind, .int .u64 n, .bool neg, .str dg, .int .i64 ex, .str tx, slV fb (bs.map u8), slV fk (Nd.vs keys), slV fd (Nd.vs kids)] := by unfold St.cells at g1 ⊢; rw [m8 _ (by omega)]; exact g1
      have h82 : S8.cells (S.next + 1) = some zN.cs := by unfold St.cells at g2 ⊢; rw [m8 _ (by omega)]; exact g2
      refine ⟨_, _, h81, if_pos ⟨rfl, rfl, Nat.le_of_ble_eq_true rfl⟩, ?_⟩
      conv => whnf
      refine ⟨_, cells_set _ _ _, ?_⟩
      conv => whnf
      refine ⟨_, _, cells_set_ne h82 (by omega), store_agg rfl rfl (by cases fb <;> cases fk <;> cases fd <;> rfl), ?_⟩
      conv => whnf
      refine ⟨AV.agg [AV.int .i64 kind, .int .u64 n, .bool neg, .str dg, .int .i64 ex, .str tx, slV fb (bs.map u8), slV fk (Nd.vs keys), .hnd a 0 kids.length 9], by show (St.cells _ (S.next + 1)).bind _ = _; rw [cells_set]; rfl, ?_⟩
      conv => whnf
      have hlen : ((kids.map Nd.lo).set j.toNat z0).length = kids.length := by simp
      have hfin : ∀ (T : St), T.mem a = some (.cells (csL ((kids.map Nd.lo).set j.toNat z0))) → ∀ m, frzA (m + 4) (.tuple [.agg [AV.int .i64 kind, .int .u64 n, .bool neg, .str dg, .int .i64 ex, .str tx, slV fb (bs.map u8), slV fk (Nd.vs keys), .hnd a 0 kids.length 9], .int .i64 0]) T = some (.tuple [.agg [AV.int .i64 kind, .int .u64 n, .bool neg, .str dg, .int .i64 ex, .str tx, slV fb (bs.map u8), slV fk (Nd.vs keys), .lst (Nd.vs ((kids.map Nd.lo).set j.toNat z0)) .lost], .int .i64 0], T.set a none) := by
        intro T hT m
        have ha := frz_arr m a _ T hT
        rw [hlen] at ha
        rw [show m + 4 = (m + 1) + 3 by omega, frz_tup]
        have i1 : ∀ k c n S, frzA (k + 1) (.int c n) S = some (.int c n, S) := fun _ _ _ _ => rfl
        have i2 : ∀ k b S, frzA (k + 1) (.bool b) S = some (.bool b, S) := fun _ _ _ => rfl
        have i3 : ∀ k b S, frzA (k + 1) (.str b) S = some (.str b, S) := fun _ _ _ => rfl
        simp only [mapS, i1, i2, i3, frz_sl, ha, Option.bind_some, Option.map_some]
      refine ⟨_, _, hfin _ (by rw [set_ne (by omega), set_ne (by omega)]; exact h8) _, hXe _ _ (hgood _ _ z0 (.mk kind n neg dg ex tx fb.lo bs fk.lo keys (.lst .lost) ((kids.map Nd.lo).set j.toNat z0)) _ hway hkid hso ?_ ?_ ?_ _ ?_), ?_⟩
      · rw [hX]
        simp only [er, setP, ers_map, List.map_set, List.map_map, map_lo]
      · refine ⟨?_, ?_, ?_, x4, ?_, ?_, ?_, ?_⟩
        all_goals first
          | (intro h; cases fb <;> first | exact x1 rfl | cases h)
          | (intro h; cases fk <;> first | exact x2 rfl | cases h)
          | (intro h; cases fd <;> first | exact x3 rfl | cases h)
          | (simp only [List.length_set, List.length_map]; assumption)
          | assumption
          | exact oks_set (oks_lo (by assumption)) hzok
          | (intro h; cases h)
      · cases fb <;> cases fk <;> cases fd <;> rfl
      · cases fb <;> cases fk <;> cases fd <;> rfl
      · exact ⟨by show S.next ≤ S8.next; omega, fun i hi => by rw [set_ne (by omega), set_ne (by omega), set_ne (by omega)]; exact k08.mem i hi⟩
    · have hk2 : keys[j.toNat]? = some c := by rw [← hXkeys]; exact hkid
      have hjlt : j.toNat < keys.length := (List.getElem?_eq_some_iff.1 hk2).1
      have hcx' : keys[j.toNat] = c := (List.getElem?_eq_some_iff.1 hk2).2
      have hcok : c.Ok := by rw [← hcx']; exact oks_iff.1 x7 _ (List.getElem_mem hjlt)
      have hccnt : cnt c ≤ 2 ^ 30 := by have := cnt_mem (List.getElem_mem hjlt); rw [hcx'] at this; omega
      have hne : keys ≠ [] := fun e => by rw [e] at hjlt; simp at hjlt
      conv => whnf
      refine ⟨_, b1, ?_⟩
      conv => whnf
      obtain ⟨r0, S3, hr0, k3, hrr⟩ := copy_any fd kids x3 (by omega) S2
      refine ⟨_, _, hr0, ?_⟩
      have n3 := k3.next
      have c1 := (cells_keep k3 (j := S.next) (by omega)).trans b1
      have c2 := (cells_keep k3 (j := S.next + 1) (by omega)).trans b2
      clear hr0
      rcases hrr with rfl | ⟨a0, m0, rfl⟩
      all_goals
        conv => whnf
        refine ⟨_, c1, ?_⟩
        conv => whnf
        refine ⟨_, _, copy_some fk keys x2 hne (by omega) S3, ?_⟩
        conv => whnf
        obtain ⟨a, ha⟩ : ∃ a, a = S3.next := ⟨_, rfl⟩
        rw [← ha]
        generalize hS5 : S3.new _ = S5
        have k25 : Keep S3 S5 := by rw [← hS5]; exact (Keep.refl S3).new _
        have n5 : S5.next = S3.next + 1 := by rw [← hS5]; rfl
        have hma : S5.mem a = some (.cells (csL (keys.map Nd.lo))) := by rw [← hS5, ha]; exact mem_new _ _
        have e1 := (cells_keep k25 (j := S.next) (by omega)).trans c1
        have e2 := (cells_keep k25 (j := S.next + 1) (by omega)).trans c2
        have k05 := (k02.trans k3).trans k25
        clear hS5
        refine ⟨[0, 1, 2, 3, 4, 5, 6, 7, 8, 9, 11, 12, 10, 13], [], by kernel_rfl, by kernel_rfl, by kernel_rfl, ?_⟩
        conv => whnf
        refine ⟨by omega, by omega, ?_⟩
        conv => whnf
        have hjl : j.toNat < (keys.map Nd.lo).length := by rw [List.length_map]; omega
        have hld : (if 0 + j.toNat * 9 + 9 ≤ (csL (keys.map Nd.lo)).length then some (AV.agg (((csL (keys.map Nd.lo)).drop (0 + j.toNat * 9)).take 9)) else none) = some (.agg c.lo.cs) := by
          rw [if_pos (by rw [csL_len]; omega), Nat.zero_add, csL_at hjl]
          simp only [List.getElem_map, hcx']
        have hok := lo_ok hcok
        have hih := ih c.lo y0 hok hy0 (by rw [lo_cnt]; exact hccnt) (fun k' hk' => hp k' (by simp [hk']))
        simp only [lay_lo] at hih
        obtain ⟨c', hc'⟩ : ∃ c', c' = c.lo := ⟨_, rfl⟩
        rw [← hc'] at hld hih hok
        obtain ⟨kind2, n2, neg2, dg2, ex2, tx2, fb2, bs2, fk2, keys2, fd2, kids2⟩ := c'
        refine ⟨_, cells_of_mem hma, partF_true hld ?_⟩
        conv => whnf
        obtain ⟨tp', hsl⟩ := slice_lo (P := Tryd.prog) und31 sz3 ((k :: ps).map pI) tp (head_pI _) 1 (by simp) .i64
        refine ⟨_, hsl, ?_⟩
        conv => whnf
        have hih3 := hih (.lst tp') (fun h => Sl.noConfusion h) (by simp at hl; omega) S5
        rw [hyv] at hih3
        refine CallQ.mono hih3 ?_
        rintro r S6 ⟨hr, k6⟩
        have n6 := k6.next
        have f1 := (cells_keep k6 (j := S.next) (by omega)).trans e1
        have f2 := (cells_keep k6 (j := S.next + 1) (by omega)).trans e2
        have fa := (k6.mem a (by omega)).trans hma
        have k06 : Keep S S6 := k05.trans k6
        rcases hr with ⟨hno, rfl⟩ | ⟨z, hso, hzok, hzs, rfl⟩
        · conv => whnf
          refine ⟨_, _, cells_new _ _, store_agg rfl rfl rfl, ?_⟩
          conv => whnf
          refine brNe (fun _ => ?_) (fun h => by cases h)
          conv => whnf
          refine ⟨_, _, cells_set_ne (cells_new_ne f2 (by omega)) (by omega), store_agg rfl rfl rfl, ?_⟩
          conv => whnf
          refine ⟨AV.agg zN.cs, by show (St.cells _ (S.next + 1)).bind _ = _; rw [cells_set]; rfl, ?_⟩
          conv => whnf
          exact ⟨_, _, frz_err _ _ _ (by omega), hXe _ _ (hbad _ _ _ hway hkid hno), ((k06.new _).set _ _ (by omega)).set _ _ (by omega)⟩
        obtain ⟨z0, hz0⟩ : ∃ z0, z0 = z := ⟨_, rfl⟩
        rw [← hz0] at hso hzok hzs
        obtain ⟨kind3, n3', neg3, dg3, ex3, tx3, fb3, bs3, fk3, keys3, fd3, kids3⟩ := z
        conv => whnf
        refine ⟨_, _, cells_new _ _, store_agg rfl rfl (nd_leaf ..), ?_⟩
        conv => whnf
        refine brNe (fun h => absurd rfl h) (fun _ => ?_)
        conv => whnf
        generalize hS7 : (S6.new _).set S6.next _ = S7
        have k7 : Keep S6 S7 := by rw [← hS7]; exact ((Keep.refl S6).new _).set _ _ (Nat.le_refl _)
        have n7 : S7.next = S6.next + 1 := by rw [← hS7]; rfl
        have g0 : S7.cells S6.next = some z0.cs := by rw [← hS7, hz0]; exact cells_set _ _ _
        rw [hz0] at g0
        clear hS7
        have g1 := (cells_keep k7 (j := S.next) (by omega)).trans f1
        have g2 := (cells_keep k7 (j := S.next + 1) (by omega)).trans f2
        have ga := (k7.mem a (by omega)).trans fa
        refine ⟨_, g0, ?_⟩
        conv => whnf
        refine ⟨by omega, by omega, ?_⟩
        conv => whnf
        refine ⟨_, _, cells_of_mem ga, if_pos ⟨rfl, nd_leaf .., by rw [csL_len]; show 0 + j.toNat * 9 + 9 ≤ _; omega⟩, ?_⟩
        conv => whnf
        generalize hS8 : S7.set a _ = S8
        have h8 : S8.mem a = some (.cells (csL ((keys.map Nd.lo).set j.toNat z0))) := by
          rw [← hS8, mem_set, ← csL_set hjl, hz0, Nat.zero_add]; rfl
        have n8 : S8.next = S7.next := by rw [← hS8]; rfl
        have m8 : ∀ i, i ≠ a → S8.mem i = S7.mem i := fun i hi => by rw [← hS8]; exact set_ne hi
        have k08 : Keep S S8 := by rw [← hS8]; exact (k06.trans k7).set _ _ (by omega)
        clear hS8
        have h81 : S8.cells S.next = some [.int .i64 kind, .int .u64 n, .bool neg, .str dg, .int .i64 ex, .str tx, slV fb (bs.map u8), slV fk (Nd.vs keys), slV fd (Nd.vs kids)] := by unfold St.cells at g1 ⊢; rw [m8 _ (by omega)]; exact g1
        have h82 : S8.cells (S.next + 1) = some zN.cs := by unfold St.cells at g2 ⊢; rw [m8 _ (by omega)]; exact g2
        refine ⟨_, _, h81, if_pos ⟨rfl, rfl, Nat.le_of_ble_eq_true rfl⟩, ?_⟩
        conv => whnf
        refine ⟨_, cells_set _ _ _, ?_⟩
        conv => whnf
        refine ⟨_, _, cells_set_ne h82 (by omega), store_agg rfl rfl (by cases fb <;> cases fk <;> cases fd <;> rfl), ?_⟩
        conv => whnf
        refine ⟨AV.agg [AV.int .i64 kind, .int .u64 n, .bool neg, .str dg, .int .i64 ex, .str tx, slV fb (bs.map u8), .hnd a 0 keys.length 9, slV fd (Nd.vs kids)], by show (St.cells _ (S.next + 1)).bind _ = _; rw [cells_set]; rfl, ?_⟩
        conv => whnf
        have hlen : ((keys.map Nd.lo).set j.toNat z0).length = keys.length := by simp
        have hfin : ∀ (T : St), T.mem a = some (.cells (csL ((keys.map Nd.lo).set j.toNat z0))) → ∀ m, frzA (m + 4) (.tuple [.agg [AV.int .i64 kind, .int .u64 n, .bool neg, .str dg, .int .i64 ex, .str tx, slV fb (bs.map u8), .hnd a 0 keys.length 9, slV fd (Nd.vs kids)], .int .i64 0]) T = some (.tuple [.agg [AV.int .i64 kind, .int .u64 n, .bool neg, .str dg, .int .i64 ex, .str tx, slV fb (bs.map u8), .lst (Nd.vs ((keys.map Nd.lo).set j.toNat z0)) .lost, slV fd (Nd.vs kids)], .int .i64 0], T.set a none) := by
          intro T hT m
          have ha := frz_arr m a _ T hT
          rw [hlen] at ha
          rw [show m + 4 = (m + 1) + 3 by omega, frz_tup]
          have i1 : ∀ k c n S, frzA (k + 1) (.int c n) S = some (.int c n, S) := fun _ _ _ _ => rfl
          have i2 : ∀ k b S, frzA (k + 1) (.bool b) S = some (.bool b, S) := fun _ _ _ => rfl
          have i3 : ∀ k b S, frzA (k + 1) (.str b) S = some (.str b, S) := fun _ _ _ => rfl
          simp only [mapS, i1, i2, i3, frz_sl, ha, Option.bind_some, Option.map_some]
        refine ⟨_, _, hfin _ (by rw [set_ne (by omega), set_ne (by omega)]; exact h8) _, hXe _ _ (hgood _ _ z0 (.mk kind n neg dg ex tx fb.lo bs (.lst .lost) ((keys.map Nd.lo).set j.toNat z0) fd.lo kids) _ hway hkid hso ?_ ?_ ?_ _ ?_), ?_⟩
        · rw [hX]
          simp only [er, setP, ers_map, List.map_set, List.map_map, map_lo]
        · refine ⟨?_, ?_, ?_, x4, ?_, ?_, ?_, ?_⟩
          all_goals first
            | (intro h; cases fb <;> first | exact x1 rfl | cases h)
            | (intro h; cases fk <;> first | exact x2 rfl | cases h)
            | (intro h; cases fd <;> first | exact x3 rfl | cases h)
            | (simp only [List.length_set, List.length_map]; assumption)
            | assumption
            | exact oks_set (oks_lo (by assumption)) hzok
            | (intro h; cases h)
        · cases fb <;> cases fk <;> cases fd <;> rfl
        · cases fb <;> cases fk <;> cases fd <;> rfl
        · exact ⟨by show S.next ≤ S8.next; omega, fun i hi => by rw [set_ne (by omega), set_ne (by omega), set_ne (by omega)]; exact k08.mem i hi⟩
end Go.Proofs.YtmkmakokgfigoaaDoor
namespace Go.Proofs.YtmkmakokgfigoaaDoor
open Go.Proofs.YtmkmakokgfigoaaDoor.VM Go.RowKit
set_option maxRecDepth 100000
set_option linter.unusedVariables false
set_option linter.unusedSimpArgs false
set_option maxHeartbeats 4000000
/-! What was put stands there. -/
theorem t24 (x : Nd) (hx : x.Ok) (ps : List Int) (fp : Sl) (hf : fp = .nil → ps = []) (hp : PsOk ps) (hl : ps.length ≤ 2 ^ 62) (y : Nd) (hy : y.Ok) (S : St) : CallQ Tryd.prog TC 24 [x.v, slV fp (ps.map pI), y.v] S fun r S1 => PutR x ps y r ∧ Keep S S1 := by
  have hfx := t11 x hx
  have hfy := t11 y hy
  have hfc : few x = true → cnt x ≤ 2 ^ 30 := fun h => by
    unfold few at h
    have : cnt x ≤ 1024 := by simpa using h
    omega
  have hlay : few x = true → ∀ S, CallQ Tryd.prog TC 40 [x.v, slV fp (ps.map pI), y.v] S fun r S1 => LayR x ps y r ∧ Keep S S1 := fun h => t40 ps x y hx hy (hfc h) hp fp hf hl
  clear hfc
  have hR1 : (few x = false ∨ few y = false) → PutR x ps y (.tuple [zN.v, .int .i64 8]) := fun h => .inl ⟨h, rfl⟩
  have hR2 : few x = true → few y = true → ∀ r, LayR x ps y r → ∃ (z : Nd) (e : Int), r = .tuple [z.v, .int .i64 e] ∧ z.v.shed = z.v ∧ PutR x ps y r := by
    rintro h1 h2 r (⟨h3, rfl⟩ | ⟨z, h3, h4, h5, rfl⟩)
    · exact ⟨zN, 19, rfl, rfl, .inr (.inl ⟨h1, h2, h3, rfl⟩)⟩
    · exact ⟨z, 0, rfl, h5, .inr (.inr ⟨h1, h2, _, z, h3, rfl, h4, h5, rfl⟩)⟩
  obtain ⟨X, hX⟩ : ∃ X, X = x := ⟨_, rfl⟩
  obtain ⟨Y, hY⟩ : ∃ Y, Y = y := ⟨_, rfl⟩
  rw [← hX, ← hY] at hR1 hR2
  refine CallQ.mono (Q := fun r S1 => PutR X ps Y r ∧ Keep S S1) ?_ (by rw [hX, hY]; exact fun _ _ h => h)
  have hXY : ∀ r, LayR x ps y r → LayR X ps Y r := fun r h => by rw [hX, hY]; exact h
  have eX : few X = few x := by rw [hX]
  have eY : few Y = few y := by rw [hY]
  rw [eX, eY] at hR1 hR2
  clear eX eY
  generalize few x = fx at *
  generalize few y = fy at *
  obtain ⟨kind, n, neg, dg, ex, tx, fb, bs, fk, keys, fd, kids⟩ := x
  obtain ⟨kind', n', neg', dg', ex', tx', fb', bs', fk', keys', fd', kids'⟩ := y
  obtain ⟨PS, hPS⟩ : ∃ PS, PS = slV fp (ps.map pI) := ⟨_, rfl⟩
  rw [← hPS] at hlay ⊢
  have hPSv : PS = .nils ∨ ∃ l t, PS = .lst l t := by
    rw [hPS]; cases fp with
    | nil => exact .inl rfl
    | lst t => exact .inr ⟨_, t, rfl⟩
  clear hPS
  rcases hPSv with rfl | ⟨l, t, rfl⟩
  all_goals
    refine CallQ.of rfl (by kernel_rfl : Tryd.prog.funcs[24]? = some Tryd.f24) rfl (by decide) ?_
    conv => whnf
    generalize hS1 : S.new _ = S1
    have k1 : Keep S S1 := by rw [← hS1]; exact (Keep.refl S).new _
    have a1 : S1.cells S.next = some zN.cs := by rw [← hS1]; exact cells_new _ _
    have n1 : S1.next = S.next + 1 := by rw [← hS1]; rfl
    clear hS1
    refine CallQ.mono (hfx S1) ?_
    rintro r S2 ⟨rfl, k2⟩
    have n2 := k2.next
    have a2 := (cells_keep k2 (j := S.next) (by omega)).trans a1
    cases fx
    · conv => whnf
      refine ⟨_, _, a2, store_agg rfl rfl rfl, ?_⟩
      conv => whnf
      refine ⟨AV.agg zN.cs, by show (St.cells _ S.next).bind _ = _; rw [cells_set]; rfl, ?_⟩
      conv => whnf
      exact ⟨hR1 (.inl rfl), (k1.trans k2).set _ _ (by omega)⟩
    conv => whnf
    refine CallQ.mono (hfy S2) ?_
    rintro r S3 ⟨rfl, k3⟩
    have n3 := k3.next
    have a3 := (cells_keep k3 (j := S.next) (by omega)).trans a2
    cases fy
    · conv => whnf
      refine ⟨_, _, a3, store_agg rfl rfl rfl, ?_⟩
      conv => whnf
      refine ⟨AV.agg zN.cs, by show (St.cells _ S.next).bind _ = _; rw [cells_set]; rfl, ?_⟩
      conv => whnf
      exact ⟨hR1 (.inr rfl), ((k1.trans k2).trans k3).set _ _ (by omega)⟩
    conv => whnf
    refine CallQ.mono (hlay rfl S3) ?_
    rintro r S4 ⟨hr, k4⟩
    have n4 := k4.next
    have a4 := (cells_keep k4 (j := S.next) (by omega)).trans a3
    obtain ⟨z, e, rfl, hzs, hput⟩ := hR2 rfl rfl r (hXY r hr)
    obtain ⟨Z, hZ⟩ : ∃ Z, Z = z := ⟨_, rfl⟩
    rw [← hZ] at hput hzs
    obtain ⟨kind2, n2', neg2, dg2, ex2, tx2, fb2, bs2, fk2, keys2, fd2, kids2⟩ := z
    conv => whnf
    refine ⟨_, _, a4, store_agg rfl rfl (nd_leaf ..), ?_⟩
    conv => whnf
    refine ⟨AV.agg Z.cs, by show (St.cells _ S.next).bind _ = _; rw [cells_set, hZ]; rfl, ?_⟩
    conv => whnf
    refine ⟨?_, (((k1.trans k2).trans k3).trans k4).set _ _ (by omega)⟩
    have hs : AV.tuple [AV.shed (AV.agg Z.cs), .int .i64 e] = .tuple [Z.v, .int .i64 e] := by rw [← v_cs, hzs]
    have hs2 : (AV.tuple [AV.agg Z.cs, .int .i64 e]).shed2 = .tuple [Z.v, .int .i64 e] := hs
    rw [hs2]
    exact hput
end Go.Proofs.YtmkmakokgfigoaaDoor
