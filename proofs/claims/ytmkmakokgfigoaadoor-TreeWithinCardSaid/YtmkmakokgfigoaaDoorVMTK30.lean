import Derived.Test.YtmkmakokgfigoaaDoorVMTK29
namespace Go.Proofs.YtmkmakokgfigoaaDoor
open Go.Proofs.YtmkmakokgfigoaaDoor.VM Go.RowKit
set_option maxRecDepth 100000
set_option linter.unusedVariables false
set_option linter.unusedSimpArgs false
set_option maxHeartbeats 4000000
theorem t38 (x : Nd) (hx : x.Ok) (hb : Sb (er x)) (S : St) : CallQ Tryd.prog TC 38 [x.v] S fun r S1 => Keep S S1 ∧ r = .int .i64 (aloneP (er x)) := by
  have hF := t48 x hx hb S
  have hP := t50 x
  have hE := t49 (plN x).lo (plN_ok hx)
  obtain ⟨kind, n, neg, dg, ex, tx, fb, bs, fk, keys, fd, kids⟩ := x
  obtain ⟨x1, x2, x3, x4, x5, x6, _, _⟩ := hx
  have hA : aloneP (er (.mk kind n neg dg ex tx fb bs fk keys fd kids)) = if firstE kind neg dg ex tx bs.length ≠ 0 then firstE kind neg dg ex tx bs.length
      else if badE kind n keys.length kids.length = true ∨ kind < 0 ∨ 10 < kind ∨ emptyN (plN (.mk kind n neg dg ex tx fb bs fk keys fd kids)).lo = false then 12 else 0 := by
    rw [bare_eq]
    simp only [er, aloneP, aloneF, len_ers]
  rw [hA]
  clear hA
  have hF := CallQ.mono hF (fun r S1 h => (⟨h.1, h.2 _ _ _ _ _ _ _ _ _ _ _ _ rfl⟩ : Keep S S1 ∧ r = .int .i64 (firstE kind neg dg ex tx bs.length)))
  generalize firstE kind neg dg ex tx bs.length = fe at *
  generalize emptyN (plN (.mk kind n neg dg ex tx fb bs fk keys fd kids)).lo = em at *
  generalize (plN (.mk kind n neg dg ex tx fb bs fk keys fd kids)).lo = pl at *
  by_cases hfe : fe ≠ 0
  · rw [if_pos hfe]
    refine CallQ.of rfl (by kernel_rfl : Tryd.prog.funcs[38]? = some Tryd.f38) rfl (by decide) ?_
    conv => whnf
    refine CallQ.mono hF ?_
    rintro r S1 ⟨k1, rfl⟩
    conv => whnf
    refine brNe (fun h => ?_) (fun h => absurd h hfe)
    conv => whnf
    exact ⟨k1, rfl⟩
  rw [if_neg hfe]
  obtain rfl : fe = 0 := by simpa using hfe
  clear hfe
  -- what is left behind the switch
  have hbd : badE kind n keys.length kids.length = decide (kind = 1 ∧ 1 < n ∨ kind = 8 ∧ keys.length ≠ kids.length ∨ kind = 9 ∧ kids.length ≠ 1 ∨ kind = 10 ∧ (255 < n ∨ 20 ≤ n ∧ n < 32 ∧ n ≠ 23)) := rfl
  generalize badE kind n keys.length kids.length = bd at *
  have e0 : ∀ (b : Bool), bd = b → AV.int .i64 (if bd = true ∨ kind < 0 ∨ 10 < kind ∨ em = false then 12 else 0) = .int .i64 (if b = true ∨ kind < 0 ∨ 10 < kind ∨ em = false then 12 else 0) := fun b h => by rw [h]
  have yes : bd = true → AV.int .i64 12 = .int .i64 (if bd = true ∨ kind < 0 ∨ 10 < kind ∨ em = false then 12 else 0) := fun h => by rw [if_pos (.inl h)]
  have out : kind < 0 ∨ 10 < kind → AV.int .i64 12 = .int .i64 (if bd = true ∨ kind < 0 ∨ 10 < kind ∨ em = false then 12 else 0) := fun h => by rw [if_pos (by rcases h with h | h; exact .inr (.inl h); exact .inr (.inr (.inl h)))]
  have emp : em = false → AV.int .i64 12 = .int .i64 (if bd = true ∨ kind < 0 ∨ 10 < kind ∨ em = false then 12 else 0) := fun h => by rw [if_pos (.inr (.inr (.inr h)))]
  have non : bd = false → 0 ≤ kind → kind ≤ 10 → em = true → AV.int .i64 0 = .int .i64 (if bd = true ∨ kind < 0 ∨ 10 < kind ∨ em = false then 12 else 0) := fun h1 h2 h3 h4 => by rw [if_neg (by rw [h1, h4]; simp; omega)]
  have hyes : (kind = 1 ∧ 1 < n ∨ kind = 8 ∧ keys.length ≠ kids.length ∨ kind = 9 ∧ kids.length ≠ 1 ∨ kind = 10 ∧ (255 < n ∨ 20 ≤ n ∧ n < 32 ∧ n ≠ 23)) → bd = true := fun h => by rw [hbd, decide_eq_true h]
  have hno : ¬ (kind = 1 ∧ 1 < n ∨ kind = 8 ∧ keys.length ≠ kids.length ∨ kind = 9 ∧ kids.length ≠ 1 ∨ kind = 10 ∧ (255 < n ∨ 20 ≤ n ∧ n < 32 ∧ n ≠ 23)) → bd = false := fun h => by rw [hbd, decide_eq_false h]
  clear hbd e0
  generalize (if bd = true ∨ kind < 0 ∨ 10 < kind ∨ em = false then (12 : Int) else 0) = res at *
  -- a kind that may be, and what it has
  rcases kinds kind with rfl | rfl | rfl | rfl | rfl | rfl | rfl | rfl | rfl | rfl | rfl | hk
  rotate_left 11
  · refine CallQ.of rfl (by kernel_rfl : Tryd.prog.funcs[38]? = some Tryd.f38) rfl (by decide) ?_
    conv => whnf
    refine CallQ.mono hF ?_
    rintro r S1 ⟨k1, rfl⟩
    conv => whnf
    refine brNe (fun h => absurd rfl h) (fun _ => ?_)
    conv => whnf
    iterate 4 (refine brEq (fun h => ?_) (fun h => ?_) <;> first | (exfalso; omega) | (clear h; conv => whnf))
    refine br (fun h => ?_) (fun h => ?_)
    · conv => whnf
      exact ⟨k1, out hk⟩
    · conv => whnf
      refine br (fun h2 => ?_) (fun h2 => by exfalso; omega)
      conv => whnf
      exact ⟨k1, out hk⟩
  · have hbn : bd = false := hno (by omega)
    refine CallQ.of rfl (by kernel_rfl : Tryd.prog.funcs[38]? = some Tryd.f38) rfl (by decide) ?_
    conv => whnf
    refine CallQ.mono hF ?_
    rintro r S1 ⟨k1, rfl⟩
    conv => whnf
    refine brNe (fun h => absurd rfl h) (fun _ => ?_)
    conv => whnf
    repeat (refine brEq (fun h => ?_) (fun h => ?_) <;> first | (exfalso; omega) | (clear h; conv => whnf))
    refine br (fun h => by exfalso; omega) (fun _ => ?_)
    conv => whnf
    refine br (fun h => by exfalso; omega) (fun _ => ?_)
    conv => whnf
    refine CallQ.mono (hP S1) ?_
    rintro r S2 ⟨rfl, k2⟩
    conv => whnf
    refine CallQ.mono (hE S2) ?_
    rintro r S3 ⟨rfl, rfl⟩
    cases em
    · conv => whnf
      exact ⟨k1.trans k2, emp rfl⟩
    · conv => whnf
      exact ⟨k1.trans k2, non hbn (by omega) (by omega) rfl⟩
  · refine CallQ.of rfl (by kernel_rfl : Tryd.prog.funcs[38]? = some Tryd.f38) rfl (by decide) ?_
    conv => whnf
    refine CallQ.mono hF ?_
    rintro r S1 ⟨k1, rfl⟩
    conv => whnf
    refine brNe (fun h => absurd rfl h) (fun _ => ?_)
    conv => whnf
    refine brEq (fun _ => ?_) (fun h => absurd rfl h)
    conv => whnf
    refine br (fun h => ?_) (fun h => ?_)
    · conv => whnf
      exact ⟨k1, yes (hyes (by first | omega | (simp; omega)))⟩
    have hbn : bd = false := hno (by omega)
    conv => whnf
    refine br (fun h => by exfalso; omega) (fun _ => ?_)
    conv => whnf
    refine br (fun h => by exfalso; omega) (fun _ => ?_)
    conv => whnf
    refine CallQ.mono (hP S1) ?_
    rintro r S2 ⟨rfl, k2⟩
    conv => whnf
    refine CallQ.mono (hE S2) ?_
    rintro r S3 ⟨rfl, rfl⟩
    cases em
    · conv => whnf
      exact ⟨k1.trans k2, emp rfl⟩
    · conv => whnf
      exact ⟨k1.trans k2, non hbn (by omega) (by omega) rfl⟩
  · have hbn : bd = false := hno (by omega)
    refine CallQ.of rfl (by kernel_rfl : Tryd.prog.funcs[38]? = some Tryd.f38) rfl (by decide) ?_
    conv => whnf
    refine CallQ.mono hF ?_
    rintro r S1 ⟨k1, rfl⟩
    conv => whnf
    refine brNe (fun h => absurd rfl h) (fun _ => ?_)
    conv => whnf
    repeat (refine brEq (fun h => ?_) (fun h => ?_) <;> first | (exfalso; omega) | (clear h; conv => whnf))
    refine br (fun h => by exfalso; omega) (fun _ => ?_)
    conv => whnf
    refine br (fun h => by exfalso; omega) (fun _ => ?_)
    conv => whnf
    refine CallQ.mono (hP S1) ?_
    rintro r S2 ⟨rfl, k2⟩
    conv => whnf
    refine CallQ.mono (hE S2) ?_
    rintro r S3 ⟨rfl, rfl⟩
    cases em
    · conv => whnf
      exact ⟨k1.trans k2, emp rfl⟩
    · conv => whnf
      exact ⟨k1.trans k2, non hbn (by omega) (by omega) rfl⟩
  · have hbn : bd = false := hno (by omega)
    refine CallQ.of rfl (by kernel_rfl : Tryd.prog.funcs[38]? = some Tryd.f38) rfl (by decide) ?_
    conv => whnf
    refine CallQ.mono hF ?_
    rintro r S1 ⟨k1, rfl⟩
    conv => whnf
    refine brNe (fun h => absurd rfl h) (fun _ => ?_)
    conv => whnf
    repeat (refine brEq (fun h => ?_) (fun h => ?_) <;> first | (exfalso; omega) | (clear h; conv => whnf))
    refine br (fun h => by exfalso; omega) (fun _ => ?_)
    conv => whnf
    refine br (fun h => by exfalso; omega) (fun _ => ?_)
    conv => whnf
    refine CallQ.mono (hP S1) ?_
    rintro r S2 ⟨rfl, k2⟩
    conv => whnf
    refine CallQ.mono (hE S2) ?_
    rintro r S3 ⟨rfl, rfl⟩
    cases em
    · conv => whnf
      exact ⟨k1.trans k2, emp rfl⟩
    · conv => whnf
      exact ⟨k1.trans k2, non hbn (by omega) (by omega) rfl⟩
  · have hbn : bd = false := hno (by omega)
    refine CallQ.of rfl (by kernel_rfl : Tryd.prog.funcs[38]? = some Tryd.f38) rfl (by decide) ?_
    conv => whnf
    refine CallQ.mono hF ?_
    rintro r S1 ⟨k1, rfl⟩
    conv => whnf
    refine brNe (fun h => absurd rfl h) (fun _ => ?_)
    conv => whnf
    repeat (refine brEq (fun h => ?_) (fun h => ?_) <;> first | (exfalso; omega) | (clear h; conv => whnf))
    refine br (fun h => by exfalso; omega) (fun _ => ?_)
    conv => whnf
    refine br (fun h => by exfalso; omega) (fun _ => ?_)
    conv => whnf
    refine CallQ.mono (hP S1) ?_
    rintro r S2 ⟨rfl, k2⟩
    conv => whnf
    refine CallQ.mono (hE S2) ?_
    rintro r S3 ⟨rfl, rfl⟩
    cases em
    · conv => whnf
      exact ⟨k1.trans k2, emp rfl⟩
    · conv => whnf
      exact ⟨k1.trans k2, non hbn (by omega) (by omega) rfl⟩
  · have hbn : bd = false := hno (by omega)
    refine CallQ.of rfl (by kernel_rfl : Tryd.prog.funcs[38]? = some Tryd.f38) rfl (by decide) ?_
    conv => whnf
    refine CallQ.mono hF ?_
    rintro r S1 ⟨k1, rfl⟩
    conv => whnf
    refine brNe (fun h => absurd rfl h) (fun _ => ?_)
    conv => whnf
    repeat (refine brEq (fun h => ?_) (fun h => ?_) <;> first | (exfalso; omega) | (clear h; conv => whnf))
    refine br (fun h => by exfalso; omega) (fun _ => ?_)
    conv => whnf
    refine br (fun h => by exfalso; omega) (fun _ => ?_)
    conv => whnf
    refine CallQ.mono (hP S1) ?_
    rintro r S2 ⟨rfl, k2⟩
    conv => whnf
    refine CallQ.mono (hE S2) ?_
    rintro r S3 ⟨rfl, rfl⟩
    cases em
    · conv => whnf
      exact ⟨k1.trans k2, emp rfl⟩
    · conv => whnf
      exact ⟨k1.trans k2, non hbn (by omega) (by omega) rfl⟩
  · have hbn : bd = false := hno (by omega)
    refine CallQ.of rfl (by kernel_rfl : Tryd.prog.funcs[38]? = some Tryd.f38) rfl (by decide) ?_
    conv => whnf
    refine CallQ.mono hF ?_
    rintro r S1 ⟨k1, rfl⟩
    conv => whnf
    refine brNe (fun h => absurd rfl h) (fun _ => ?_)
    conv => whnf
    repeat (refine brEq (fun h => ?_) (fun h => ?_) <;> first | (exfalso; omega) | (clear h; conv => whnf))
    refine br (fun h => by exfalso; omega) (fun _ => ?_)
    conv => whnf
    refine br (fun h => by exfalso; omega) (fun _ => ?_)
    conv => whnf
    refine CallQ.mono (hP S1) ?_
    rintro r S2 ⟨rfl, k2⟩
    conv => whnf
    refine CallQ.mono (hE S2) ?_
    rintro r S3 ⟨rfl, rfl⟩
    cases em
    · conv => whnf
      exact ⟨k1.trans k2, emp rfl⟩
    · conv => whnf
      exact ⟨k1.trans k2, non hbn (by omega) (by omega) rfl⟩
  · have hbn : bd = false := hno (by omega)
    refine CallQ.of rfl (by kernel_rfl : Tryd.prog.funcs[38]? = some Tryd.f38) rfl (by decide) ?_
    conv => whnf
    refine CallQ.mono hF ?_
    rintro r S1 ⟨k1, rfl⟩
    conv => whnf
    refine brNe (fun h => absurd rfl h) (fun _ => ?_)
    conv => whnf
    repeat (refine brEq (fun h => ?_) (fun h => ?_) <;> first | (exfalso; omega) | (clear h; conv => whnf))
    refine br (fun h => by exfalso; omega) (fun _ => ?_)
    conv => whnf
    refine br (fun h => by exfalso; omega) (fun _ => ?_)
    conv => whnf
    refine CallQ.mono (hP S1) ?_
    rintro r S2 ⟨rfl, k2⟩
    conv => whnf
    refine CallQ.mono (hE S2) ?_
    rintro r S3 ⟨rfl, rfl⟩
    cases em
    · conv => whnf
      exact ⟨k1.trans k2, emp rfl⟩
    · conv => whnf
      exact ⟨k1.trans k2, non hbn (by omega) (by omega) rfl⟩
  · have hcmp : ∀ (a b : Nat) (K : Bool → Prop), a = keys.length → b = kids.length → (bd = true → K true) → (bd = false → K false) → ∀ c, c = ((a : Int) != (b : Int)) → K c := fun a b K ha hb h1 h2 => brNe (fun h => h1 (hyes (by omega))) (fun h => h2 (hno (by omega)))
    rcases fk with _ | tk <;> rcases fd with _ | td
    all_goals
      refine CallQ.of rfl (by kernel_rfl : Tryd.prog.funcs[38]? = some Tryd.f38) rfl (by decide) ?_
      conv => whnf
      refine CallQ.mono hF ?_
      rintro r S1 ⟨k1, rfl⟩
      conv => whnf
      refine brNe (fun h => absurd rfl h) (fun _ => ?_)
      conv => whnf
      refine brEq (fun h => by exfalso; omega) (fun _ => ?_)
      conv => whnf
      refine brEq (fun _ => ?_) (fun h => absurd rfl h)
      conv => whnf
      first
        | refine hcmp (Nd.vs keys).length (Nd.vs kids).length _ (vs_len _) (vs_len _) (fun hby => ?_) (fun hbn => ?_)
        | refine hcmp 0 (Nd.vs kids).length _ (by rw [x2 rfl]; rfl) (vs_len _) (fun hby => ?_) (fun hbn => ?_)
        | refine hcmp (Nd.vs keys).length 0 _ (vs_len _) (by rw [x3 rfl]; rfl) (fun hby => ?_) (fun hbn => ?_)
        | refine hcmp 0 0 _ (by rw [x2 rfl]; rfl) (by rw [x3 rfl]; rfl) (fun hby => ?_) (fun hbn => ?_)
      · conv => whnf
        exact ⟨k1, yes hby⟩
      conv => whnf
      refine br (fun h => by exfalso; omega) (fun _ => ?_)
      conv => whnf
      refine br (fun h => by exfalso; omega) (fun _ => ?_)
      conv => whnf
      refine CallQ.mono (hP S1) ?_
      rintro r S2 ⟨rfl, k2⟩
      conv => whnf
      refine CallQ.mono (hE S2) ?_
      rintro r S3 ⟨rfl, rfl⟩
      cases em
      · conv => whnf
        exact ⟨k1.trans k2, emp rfl⟩
      · conv => whnf
        exact ⟨k1.trans k2, non hbn (by omega) (by omega) rfl⟩
  · have hcmp : ∀ (b : Nat) (K : Bool → Prop), b = kids.length → (bd = true → K true) → (bd = false → K false) → ∀ c, c = ((b : Int) != 1) → K c := fun b K hb h1 h2 => brNe (fun h => h1 (hyes (by omega))) (fun h => h2 (hno (by omega)))
    rcases fd with _ | td
    all_goals
      refine CallQ.of rfl (by kernel_rfl : Tryd.prog.funcs[38]? = some Tryd.f38) rfl (by decide) ?_
      conv => whnf
      refine CallQ.mono hF ?_
      rintro r S1 ⟨k1, rfl⟩
      conv => whnf
      refine brNe (fun h => absurd rfl h) (fun _ => ?_)
      conv => whnf
      refine brEq (fun h => by exfalso; omega) (fun _ => ?_)
      conv => whnf
      refine brEq (fun h => by exfalso; omega) (fun _ => ?_)
      conv => whnf
      refine brEq (fun _ => ?_) (fun h => absurd rfl h)
      conv => whnf
      first
        | refine hcmp (Nd.vs kids).length _ (vs_len _) (fun hby => ?_) (fun hbn => ?_)
        | refine hcmp 0 _ (by rw [x3 rfl]; rfl) (fun hby => ?_) (fun hbn => ?_)
      · conv => whnf
        exact ⟨k1, yes hby⟩
      conv => whnf
      refine br (fun h => by exfalso; omega) (fun _ => ?_)
      conv => whnf
      refine br (fun h => by exfalso; omega) (fun _ => ?_)
      conv => whnf
      refine CallQ.mono (hP S1) ?_
      rintro r S2 ⟨rfl, k2⟩
      conv => whnf
      refine CallQ.mono (hE S2) ?_
      rintro r S3 ⟨rfl, rfl⟩
      cases em
      · conv => whnf
        exact ⟨k1.trans k2, emp rfl⟩
      · conv => whnf
        exact ⟨k1.trans k2, non hbn (by omega) (by omega) rfl⟩
  · refine CallQ.of rfl (by kernel_rfl : Tryd.prog.funcs[38]? = some Tryd.f38) rfl (by decide) ?_
    conv => whnf
    refine CallQ.mono hF ?_
    rintro r S1 ⟨k1, rfl⟩
    conv => whnf
    refine brNe (fun h => absurd rfl h) (fun _ => ?_)
    conv => whnf
    refine brEq (fun h => by exfalso; omega) (fun _ => ?_)
    conv => whnf
    refine brEq (fun h => by exfalso; omega) (fun _ => ?_)
    conv => whnf
    refine brEq (fun h => by exfalso; omega) (fun _ => ?_)
    conv => whnf
    refine brEq (fun _ => ?_) (fun h => absurd rfl h)
    conv => whnf
    refine br (fun h => ?_) (fun h => ?_)
    · conv => whnf
      exact ⟨k1, yes (hyes (by first | omega | (simp; omega)))⟩
    conv => whnf
    refine br (fun h2 => ?_) (fun h2 => ?_)
    rotate_left
    · have hbn : bd = false := hno (by omega)
      conv => whnf
      refine br (fun h => by exfalso; omega) (fun _ => ?_)
      conv => whnf
      refine br (fun h => by exfalso; omega) (fun _ => ?_)
      conv => whnf
      refine CallQ.mono (hP S1) ?_
      rintro r S2 ⟨rfl, k2⟩
      conv => whnf
      refine CallQ.mono (hE S2) ?_
      rintro r S3 ⟨rfl, rfl⟩
      cases em
      · conv => whnf
        exact ⟨k1.trans k2, emp rfl⟩
      · conv => whnf
        exact ⟨k1.trans k2, non hbn (by omega) (by omega) rfl⟩
    conv => whnf
    refine br (fun h3 => ?_) (fun h3 => ?_)
    rotate_left
    · have hbn : bd = false := hno (by omega)
      conv => whnf
      refine br (fun h => by exfalso; omega) (fun _ => ?_)
      conv => whnf
      refine br (fun h => by exfalso; omega) (fun _ => ?_)
      conv => whnf
      refine CallQ.mono (hP S1) ?_
      rintro r S2 ⟨rfl, k2⟩
      conv => whnf
      refine CallQ.mono (hE S2) ?_
      rintro r S3 ⟨rfl, rfl⟩
      cases em
      · conv => whnf
        exact ⟨k1.trans k2, emp rfl⟩
      · conv => whnf
        exact ⟨k1.trans k2, non hbn (by omega) (by omega) rfl⟩
    conv => whnf
    refine brNe (fun h4 => ?_) (fun h4 => ?_)
    · conv => whnf
      exact ⟨k1, yes (hyes (by first | omega | (simp; omega)))⟩
    have hbn : bd = false := hno (by omega)
    conv => whnf
    refine br (fun h => by exfalso; omega) (fun _ => ?_)
    conv => whnf
    refine br (fun h => by exfalso; omega) (fun _ => ?_)
    conv => whnf
    refine CallQ.mono (hP S1) ?_
    rintro r S2 ⟨rfl, k2⟩
    conv => whnf
    refine CallQ.mono (hE S2) ?_
    rintro r S3 ⟨rfl, rfl⟩
    cases em
    · conv => whnf
      exact ⟨k1.trans k2, emp rfl⟩
    · conv => whnf
      exact ⟨k1.trans k2, non hbn (by omega) (by omega) rfl⟩
end Go.Proofs.YtmkmakokgfigoaaDoor
