import Derived.Test.YtfphpjinimfhfaaVMOps9
/-! Written arrays that are written no more: nothing happens in the model. -/
namespace Go.Proofs.Ytfphpjinimfhfaa.VM
set_option linter.unusedSimpArgs false
set_option linter.unusedVariables false
set_option linter.unusedSectionVars false
open Go.RowKit
variable [Glob]
section
variable {P : Program} {C : Cfg} {w0 w : World} {G : Gh} {F : Nat → Option Blk} {S S' : St}

/-- Less is named, and nothing is new. -/
structure Shrink (S S' : St) : Prop where
  next : S'.next = S.next
  mem : ∀ n blk, S'.mem n = some blk → S.mem n = some blk
theorem Shrink.refl (S : St) : Shrink S S := ⟨rfl, fun _ _ h => h⟩
theorem Shrink.trans {S S1 S2 : St} (h : Shrink S S1) (k : Shrink S1 S2) : Shrink S S2 := ⟨k.next.trans h.next, fun n b hb => h.mem n b (k.mem n b hb)⟩
theorem Shrink.set (S : St) (n : Nat) : Shrink S (S.set n none) := ⟨rfl, fun m b hb => by
  simp only [St.set, upd] at hb
  split at hb
  · cases hb
  · exact hb⟩
theorem Shrink.grow {S S' : St} (h : Shrink S S') (hw : Wf S) : Grow S S' := by
  have key : ∀ n, S.mem n = none → S'.mem n = none := fun n hn => by
    cases hx : S'.mem n with
    | none => rfl
    | some b => rw [h.mem n b hx] at hn; cases hn
  exact ⟨by rw [h.next]; exact Nat.le_refl _, fun n _ hn => key n hn, fun n hn => key n (hw n (by rw [← h.next]; exact hn))⟩
def FD (S : St) (F : Nat → Option Blk) : Prop := ∀ n blk, F n = some blk → S.mem n = none
theorem FD.shrink (h : FD S F) (k : Shrink S S') : FD S' F := fun n b hb => by
  cases hx : S'.mem n with
  | none => rfl
  | some b' => have := k.mem n b' hx; rw [h n b hb] at this; cases this
theorem ov_shrink (h : FD S F) (k : Shrink S S') : ∀ n blk, ov S'.mem F n = some blk → ov S.mem F n = some blk := by
  intro n blk hn
  unfold ov at hn ⊢
  cases hx : S'.mem n with
  | some b => rw [hx] at hn; rw [k.mem n b hx]; exact hn
  | none =>
    rw [hx] at hn
    simp only at hn
    rw [h n blk hn]; exact hn

theorem geq_trans {G G1 G2 : Gh} (h : ∀ lo hi, GE G G1 lo hi) (k : ∀ lo hi, GE G1 G2 lo hi) (lo hi : Nat) : GE G G2 lo hi :=
  ⟨fun n p hp => (k 0 0).io n p ((h 0 0).io n p hp), fun b o v hv => (k 0 0).M b o v ((h 0 0).M b o v hv), fun b m hm => (k 0 0).sz b m ((h 0 0).sz b m hm),
   fun n _ => by rw [(k 0 0).new n (.inr (Nat.zero_le _)), (h 0 0).new n (.inr (Nat.zero_le _))]⟩
def FrzOK (g : AV → St → Option (AV × St)) : Prop := ∀ (w0 w : World) (G : Gh) (F : Nat → Option Blk) (S : St) (v : AV) (v' : AV) (S' : St) (c : Value), g v S = some (v', S') → SR w0 G (ov S.mem F) w → FD S F → VR G v c →
  ∃ G', (∀ lo hi, GE G G' lo hi) ∧ SR w0 G' (ov S'.mem F) w ∧ Shrink S S' ∧ VR G' v' c

theorem mapS_sound {g : AV → St → Option (AV × St)} (hg : FrzOK g) : ∀ (xs : List AV) {S S' : St} {xs' : List AV} {G : Gh} (val : Nat → Value), mapS g xs S = some (xs', S') → SR w0 G (ov S.mem F) w → FD S F →
    (∀ i (h : i < xs.length), VR G xs[i] (val i)) → ∃ G', (∀ lo hi, GE G G' lo hi) ∧ SR w0 G' (ov S'.mem F) w ∧ Shrink S S' ∧ xs'.length = xs.length ∧ ∀ i (h : i < xs'.length), VR G' xs'[i] (val i)
  | [], S, S', xs', G, val, h, hs, hF, hv => by
    cases h
    exact ⟨G, fun _ _ => GE.refl _ _ _, hs, .refl _, rfl, fun i hi => by simp at hi⟩
  | x :: xs, S, S', xs', G, val, h, hs, hF, hv => by
    unfold mapS at h
    obtain ⟨⟨x', S1⟩, h1, h⟩ := Option.bind_eq_some_iff.1 h
    obtain ⟨⟨ys, S2⟩, h2, h⟩ := Option.map_eq_some_iff.1 h
    cases h
    obtain ⟨G1, g1, s1, k1, v1⟩ := hg w0 w G F S x x' S1 (val 0) h1 hs hF (hv 0 (by simp))
    obtain ⟨G2, g2, s2, k2, l2, v2⟩ := mapS_sound hg xs (fun i => val (i + 1)) h2 s1 (hF.shrink k1) (fun i hi => (hv (i + 1) (by simpa using hi)).mono (g1 0 0))
    refine ⟨G2, geq_trans g1 g2, s2, k1.trans k2, by simp [l2], fun i hi => ?_⟩
    · cases i with
      | zero => exact v1.mono (g2 0 0)
      | succ i => exact v2 i (by simpa using hi)

theorem frzA_sound : ∀ k, FrzOK (frzA k)
  | 0 => fun _ _ _ _ _ _ _ _ _ h => by cases h
  | k + 1 => by
    intro w0 w G F S v v' S' c h hs hF hv
    have ih := frzA_sound k
    unfold frzA at h
    split at h
    · obtain ⟨⟨ys, S1⟩, h1, h⟩ := Option.map_eq_some_iff.1 h
      cases h
      cases hv with
      | agg xs cs hx hall =>
        obtain ⟨G1, g1, s1, k1, l1, v1⟩ := mapS_sound ih _ (fun i => cs.getD i Go.undef) h1 hs hF hall
        exact ⟨G1, g1, s1, k1, .agg _ _ (l1.trans hx) v1⟩
    · obtain ⟨⟨ys, S1⟩, h1, h⟩ := Option.map_eq_some_iff.1 h
      cases h
      cases hv with
      | tuple xs cs hx hall =>
        obtain ⟨G1, g1, s1, k1, l1, v1⟩ := mapS_sound ih _ (fun i => cs.getD i Go.undef) h1 hs hF hall
        exact ⟨G1, g1, s1, k1, .tuple _ _ (l1.trans hx) v1⟩
    · rename_i n off len s
      split at h
      · rename_i cs hn
        split at h
        · rename_i hle
          obtain ⟨⟨ys, S1⟩, h1, h⟩ := Option.bind_eq_some_iff.1 h
          simp only at h
          split at h
          · rename_i hck
            obtain ⟨rfl, rfl⟩ : v' = .lst (chunk (s != 1) s len ys) .lost ∧ S' = S1 := by cases h; exact ⟨rfl, rfl⟩
            cases hv with
            | hnd _ _ _ _ b o cap m hio hc hz hm =>
              obtain ⟨b', o', e1, hb0, ccs, ty, e2, e3, e4, e5⟩ := hs.res n (.cells cs) (ov_some hn)
              rw [hio] at e1; cases e1
              have k0 := Shrink.set S n
              have s0 := hs.less (ov_shrink hF k0)
              have hseg : ∀ i (hi : i < ((cs.drop off).take (len * s)).length), VR G ((cs.drop off).take (len * s))[i] (ccs.getD (o + off + i) Go.undef) := fun i hi => by
                have hi2 : off + i < cs.length := by simp at hi; omega
                have := e4 (off + i) hi2
                rw [← Nat.add_assoc] at this
                simpa using this
              obtain ⟨G1, g1, s1, k1, l1, v1⟩ := mapS_sound ih _ (fun i => ccs.getD (o + off + i) Go.undef) h1 s0 (hF.shrink k0) hseg
              have hap : ∀ m' x b2 o2, ov S'.mem F m' = some x → G1.io m' = some (b2, o2) → b2 ≠ b := by
                intro m' x b2 o2 hx hio2
                have hx0 := ov_shrink (hF.shrink k0) k1 m' x hx
                have hne : m' ≠ n := by
                  rintro rfl
                  unfold ov at hx0
                  simp only [St.set, upd, if_true] at hx0
                  have := hF _ _ hx0
                  rw [hn] at this; cases this
                have hx1 := ov_shrink hF k0 m' x hx0
                have hio3 : G.io m' = some (b2, o2) := by rw [← hio2]; exact ((g1 0 0).new m' (.inr (Nat.zero_le _))).symm
                exact hs.apart m' n x (.cells cs) b2 o2 b o hx1 (ov_some hn) hne hio3 hio
              obtain ⟨G2, g2, s2, hM⟩ := s1.learn e2 hap
              have hylen : ys.length = len * s := by rw [l1]; simp; omega
              obtain ⟨f1, f2, f3⟩ := chunk_ok hck len ys (fun _ h => h) (by omega)
              have f1' : flat (chunk (s != 1) s len ys) = ys := by rw [f1, List.take_of_length_le (by omega)]
              refine ⟨G2, geq_trans g1 g2, s2, k0.trans k1, ?_⟩
              · have := VR.lst (G := G2) (chunk (s != 1) s len ys) .lost b (o + off) cap s (fun i => ccs.getD (o + off + i) Go.undef) (by rw [f2]; exact hc) f3
                  (fun i hi => by rw [f1', hylen] at hi; exact hM _ (by omega))
                  (fun i hi => by
                    have hi' : i < ys.length := by rw [f1'] at hi; exact hi
                    have hv := (v1 i hi').mono (g2 0 0)
                    simpa [f1'] using hv) trivial
                rwa [f2] at this
          · cases h
        · cases h
      · cases h
    · cases h
      exact ⟨G, fun _ _ => GE.refl _ _ _, hs, .refl _, hv⟩

theorem post_sound {f : FuncId} {v u : AV} {c : Value} (h : postA C f v S = some (u, S')) (hs : SR w0 G (ov S.mem F) w) (hF : FD S F) (hv : VR G v c) :
    ∃ G', (∀ lo hi, GE G G' lo hi) ∧ SR w0 G' (ov S'.mem F) w ∧ Shrink S S' ∧ VR G' u c := by
  unfold postA at h
  split at h
  · obtain ⟨⟨u', S1⟩, h1, h⟩ := Option.map_eq_some_iff.1 h
    cases h
    obtain ⟨G1, g1, s1, k1, v1⟩ := frzA_sound _ w0 w G F S v u' S1 c h1 hs hF hv
    exact ⟨G1, g1, s1, k1, v1.shed2⟩
  · cases h
    refine ⟨G, fun _ _ => GE.refl _ _ _, hs, .refl _, ?_⟩
    split
    · exact hv
    · exact hv.shed2
theorem mapS_next {g : AV → St → Option (AV × St)} (hg : ∀ v S v' S', g v S = some (v', S') → S'.next = S.next) : ∀ (xs : List AV) {S S' : St} {xs' : List AV}, mapS g xs S = some (xs', S') → S'.next = S.next
  | [], S, S', xs', h => by cases h; rfl
  | x :: xs, S, S', xs', h => by
    unfold mapS at h
    obtain ⟨⟨x', S1⟩, h1, h⟩ := Option.bind_eq_some_iff.1 h
    obtain ⟨⟨ys, S2⟩, h2, h⟩ := Option.map_eq_some_iff.1 h
    cases h
    exact (mapS_next hg xs h2).trans (hg _ _ _ _ h1)
theorem frzA_next : ∀ (k : Nat) (v : AV) (S : St) (v' : AV) (S' : St), frzA k v S = some (v', S') → S'.next = S.next
  | 0, _, _, _, _, h => by cases h
  | k + 1, v, S, v', S', h => by
    unfold frzA at h
    split at h
    · obtain ⟨⟨ys, S1⟩, h1, h⟩ := Option.map_eq_some_iff.1 h
      cases h
      exact mapS_next (frzA_next k) _ h1
    · obtain ⟨⟨ys, S1⟩, h1, h⟩ := Option.map_eq_some_iff.1 h
      cases h
      exact mapS_next (frzA_next k) _ h1
    · split at h
      · split at h
        · obtain ⟨⟨ys, S1⟩, h1, h⟩ := Option.bind_eq_some_iff.1 h
          simp only at h
          split at h
          · cases h
            exact (mapS_next (frzA_next k) _ h1).trans rfl
          · cases h
        · cases h
      · cases h
    · cases h; rfl
theorem post_next {f : FuncId} {v u : AV} (h : postA C f v S = some (u, S')) : S'.next = S.next := by
  unfold postA at h
  split at h
  · obtain ⟨⟨u', S1⟩, h1, h⟩ := Option.map_eq_some_iff.1 h
    cases h
    exact frzA_next _ _ _ _ _ h1
  · cases h; rfl
end
end Go.Proofs.Ytfphpjinimfhfaa.VM
