import Derived.Test.YtiknkngdfdmkbaaDoorVML20
/-! The laws LossBack, LossOne, LossHeads over the machine. -/
namespace Go.Proofs.YtiknkngdfdmkbaaDoor
open Go.Proofs.YtiknkngdfdmkbaaDoor.VM
set_option maxRecDepth 100000
set_option linter.unusedVariables false

theorem raw_ok {l : Ls} (h : l.Ok) (hm : l.may = true) : l.raw.Ok := by
  obtain ⟨h1, h2, h3, h4⟩ := may_facts hm
  exact ⟨by show 1 ≤ l.kind.toNat; omega, by show l.kind.toNat ≤ 6; omega, h.num, h3, h4⟩
theorem may_of {l : Ls} (hk : 0 ≤ l.kind) (h : l.raw.Ok) : l.may = true := by
  have h1 : 1 ≤ l.kind.toNat := h.k1
  have h2 : l.kind.toNat ≤ 6 := h.k2
  have h3 : l.ps.length ≤ 64 := h.len
  have h4 : ∀ p ∈ l.ps, 0 ≤ p ∧ p ≤ 4095 := h.ps
  simp only [Ls.may, mayL, decide_eq_true_eq]
  exact ⟨by omega, by omega, h3, h4⟩
theorem build_raw (ls : List Ls) : build ls = buildR (ls.map Ls.raw) := by
  unfold build buildR
  rw [List.length_map, List.flatMap_map]
  rfl
theorem bErr_zero {ls : List Ls} (h : bErr ls = 0) : ls.length ≤ 2048 ∧ ∀ l ∈ ls, l.may = true := by
  unfold bErr at h
  split at h
  · cases h
  · split at h
    · cases h
    · rename_i h1 h2
      refine ⟨by omega, fun l hl => ?_⟩
      cases hm : l.may
      · exact absurd ⟨l, hl, hm⟩ h2
      · rfl
theorem bErr_of {ls : List Ls} (h1 : ls.length ≤ 2048) (h2 : ∀ l ∈ ls, l.may = true) : bErr ls = 0 := by
  unfold bErr
  rw [if_neg (by omega), if_neg]
  rintro ⟨l, hl, h⟩
  rw [h2 l hl] at h; cases h
theorem build_len {ls : List Ls} (hls : ∀ l ∈ ls, l.Ok) (h1 : ls.length ≤ 2048) (h2 : ∀ l ∈ ls, l.may = true) : (build ls).length ≤ 2 ^ 21 ∧ 0 < (build ls).length := by
  have a := lossBs_len ls hls h2
  have b := curShort_len (n := ls.length) (by omega)
  have c : 0 < (curShort ls.length).length := by simp [curShort]
  have : ls.length * 670 ≤ 2048 * 670 := Nat.mul_le_mul_right _ h1
  unfold build
  rw [List.length_append]
  omega
/-- A fault has a reason. -/
def Good : PSt → Prop
  | .ok _ => True
  | .error (w, _) => w ≠ 0
theorem within_good {lo hi e : Nat} {st : PSt} (he : e ≠ 0) (h : Good st) : Good (within lo hi e st).2 := by
  unfold within
  split
  · exact h
  · split
    · rename_i f hf
      obtain ⟨w, k⟩ := f
      exact (rdS_err _ _ _ _ _ hf).1
    · split
      · exact he
      · trivial
theorem rdN_good {st : PSt} (h : Good st) : Good (rdN st).2 := by
  unfold rdN
  split
  · exact h
  · split
    · rename_i f hf
      obtain ⟨w, k⟩ := f
      exact (rdS_err _ _ _ _ _ hf).1
    · trivial
theorem rdPath_good : ∀ (k : Nat) {st : PSt}, Good st → Good (rdPath k st).2
  | 0, st, h => h
  | k + 1, st, h => by rw [rdPath]; exact rdPath_good k (within_good (by decide) h)
theorem rdLoss_good {st : PSt} (h : Good st) : Good (rdLoss st).2 := rdPath_good _ (within_good (by decide) (rdN_good (within_good (by decide) h)))
theorem rdAll_good : ∀ (n : Nat) {st : PSt} {acc : List Raw} {w k : Nat}, Good st → rdAll n st acc = .error (w, k) → w ≠ 0
  | 0, .ok r, acc, w, k, h, e => by simp [rdAll] at e
  | 0, .error f, acc, w, k, h, e => by simp only [rdAll, Except.error.injEq] at e; subst e; exact h
  | n + 1, st, acc, w, k, h, e => by
    have hg := rdLoss_good h
    rw [rdAll] at e
    split at e
    · rename_i f hf
      rw [hf] at hg
      cases e; exact hg
    · exact rdAll_good n (st := .ok _) trivial e
theorem parse_good {bs : List UInt8} {w k : Nat} (h : parse bs = .error (w, k)) : w ≠ 0 := by
  unfold parse at h
  split at h
  · rename_i f hf
    cases h
    exact rdAll_good _ (within_good (st := .ok bs) (by decide) trivial) hf
  · cases h
  · cases h; decide

theorem t5 (ls : List Ls) (hls : ∀ l ∈ ls, l.Ok) (s : AV) (hs : Elems s (ls.map Ls.v)) (S : St) :
    CallQ Tryd.prog LC 5 [s] S fun r S1 => r = .bool true := by
  refine CallQ.of rfl (by kernel_rfl : Tryd.prog.funcs[5]? = some Tryd.f5) rfl (by decide) ?_
  conv => whnf
  refine CallQ.mono (t8 ls hls s hs S) ?_
  rintro r S1 ⟨h1, v, rfl, h2⟩
  conv => whnf
  intro c hc
  by_cases he : bErr ls = 0
  · have : c = false := by rw [hc, he]; rfl
    subst this
    conv => whnf
    obtain ⟨e1, e2⟩ := bErr_zero he
    have hbb : bBytes ls = buildR (ls.map Ls.raw) := by rw [bBytes, if_pos he, build_raw]
    have hlen := build_len hls e1 e2
    have hp : parse (bBytes ls) = .ok (ls.map Ls.raw) := by
      rw [hbb]
      refine parse_build _ (fun x hx => ?_) (by simpa using e1)
      obtain ⟨l, hl, rfl⟩ := List.mem_map.1 hx
      exact raw_ok (hls l hl) (e2 l hl)
    refine CallQ.mono (t14 (bBytes ls) v h2 (by rw [hbb, ← build_raw]; omega) S1) ?_
    rintro r S2 ⟨hr, h3⟩
    unfold PRes at hr
    rw [hp] at hr
    obtain ⟨l, ls', rfl, g1, g2, g3⟩ := hr
    conv => whnf
    refine ⟨_, _, cells_new _ _, store_agg rfl rfl rfl, ?_⟩
    conv => whnf
    refine ⟨_, cells_set _ _ _, ?_⟩
    conv => whnf
    rw [eq39', decide_eq_true (⟨rfl, rfl⟩ : (0 : Int) = 0 ∧ (0 : Int) = 0)]
    intro b hb
    subst hb
    conv => whnf
    have hll : ls.length = ls'.length := by simpa using (congrArg List.length g2).symm
    refine CallQ.mono (t15 ls ls' hls (fun x hx => (g3 x hx).1) s l hs g1 hll (by omega) (fun x hx => by have := (may_facts (e2 x hx)).2.2.1; omega) (fun i i1 i2 => ?_) _) ?_
    · have q : ls[i].raw = ls'[i].raw := by
        have := congrArg (fun l => l[i]?) g2
        simp only [List.getElem?_map, List.getElem?_eq_getElem i1, List.getElem?_eq_getElem i2, Option.map_some, Option.some.injEq] at this
        exact this.symm
      have q1 := (g3 ls'[i] (by simp)).2
      have q2 := (may_facts (e2 ls[i] (by simp))).1
      have q3 : ls[i].kind.toNat = ls'[i].kind.toNat := congrArg Raw.kind q
      exact ⟨by omega, congrArg Raw.n q, congrArg Raw.ps q⟩
    rintro r S3 ⟨rfl, rfl⟩
    conv => whnf
    refine CallQ.mono (t11 _) ?_
    rintro r S4 ⟨_, rfl⟩
    conv => whnf
    rfl
  · have : c = true := by
      rw [hc]
      simp [he]
    subst this
    have hb : bBytes ls = [] := by rw [bBytes, if_neg he]
    rw [hb] at h2
    rcases h2 with ⟨rfl, _⟩ | ⟨t, rfl⟩
    all_goals
      conv => whnf
      intro c hc
      simp at hc
      subst hc
      conv => whnf
      refine CallQ.mono (t11 _) ?_
      rintro r S4 ⟨_, rfl⟩
      conv => whnf
      rfl
end Go.Proofs.YtiknkngdfdmkbaaDoor
