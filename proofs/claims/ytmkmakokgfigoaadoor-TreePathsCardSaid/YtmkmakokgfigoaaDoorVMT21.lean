import Derived.Test.YtmkmakokgfigoaaDoorVMT20
namespace Go.Proofs.YtmkmakokgfigoaaDoor
open Go.Proofs.YtmkmakokgfigoaaDoor.VM
set_option maxRecDepth 100000
set_option linter.unusedVariables false
set_option maxHeartbeats 1000000

def AtR (x : Nd) (ps : List Int) (r : AV) : Prop :=
  (few x = false ∧ r = .tuple [zN.v, .int .i64 8]) ∨ (few x = true ∧ findN x ps = none ∧ r = .tuple [zN.v, .int .i64 19]) ∨
    (few x = true ∧ ∃ y z, findN x ps = some y ∧ Cp y z ∧ r = .tuple [z.v, .int .i64 0])
theorem find_cnt : ∀ {ps : List Int} {x y : Nd}, findN x ps = some y → cnt y ≤ cnt x
  | [], x, y, h => by cases h; exact Nat.le_refl _
  | k :: ps, x, y, h => by
    simp only [findN] at h
    cases hs : stepN x k with
    | none => rw [hs] at h; cases h
    | some z => rw [hs] at h; have := step_cnt hs; have := find_cnt h; omega
theorem find_ok : ∀ {ps : List Int} {x y : Nd}, x.Ok → findN x ps = some y → y.Ok
  | [], x, y, hx, h => by cases h; exact hx
  | k :: ps, x, y, hx, h => by
    simp only [findN] at h
    cases hs : stepN x k with
    | none => rw [hs] at h; cases h
    | some z => rw [hs] at h; exact find_ok (step_ok hx hs) h

theorem t19 (x : Nd) (hx : x.Ok) (ps : List Int) (fp : Sl) (hf : fp = .nil → ps = []) (hp : PsOk ps) (hl : ps.length ≤ 2 ^ 62) (S : St) : CallQ Tryd.prog TC 19 [x.v, slV fp (ps.map pI)] S fun r S1 => AtR x ps r ∧ Keep S S1 := by
  have hfew := t10 x hx
  have hfind := t33 x hx ps fp hf hp hl
  have hcn : few x = true → cnt x ≤ 1024 := by unfold few; simp
  have hfc := @find_cnt ps x
  have hfo := @find_ok ps x
  have hAt : ∀ r, ((few x = false ∧ r = .tuple [zN.v, .int .i64 8]) ∨ (few x = true ∧ findN x ps = none ∧ r = .tuple [zN.v, .int .i64 19]) ∨
    (few x = true ∧ ∃ y z, findN x ps = some y ∧ Cp y z ∧ r = .tuple [z.v, .int .i64 0])) → AtR x ps r := fun r h => h
  generalize findN x ps = fo at *
  generalize few x = fx at *
  obtain ⟨kind, n, neg, dg, ex, tx, fb, bs, fk, keys, fd, kids⟩ := x
  refine CallQ.of rfl (by kernel_rfl : Tryd.prog.funcs[19]? = some Tryd.f19) rfl (by decide) ?_
  rcases fp with _ | tp
  all_goals
    conv => whnf
    generalize hS1 : S.new _ = S1
    have k1 : Keep S S1 := by rw [← hS1]; exact (Keep.refl S).new _
    have a1 : S1.cells S.next = some zN.cs := by rw [← hS1]; exact cells_new _ _
    have n1 : S1.next = S.next + 1 := by rw [← hS1]; rfl
    clear hS1
    refine CallQ.mono (hfew S1) ?_
    rintro r S2 ⟨rfl, k2⟩
    have n2 := k2.next
    have a2 := (cells_keep k2 (j := S.next) (by omega)).trans a1
    cases fx
    · conv => whnf
      refine ⟨_, _, a2, store_agg rfl rfl rfl, ?_⟩
      conv => whnf
      refine ⟨AV.agg zN.cs, ?_, ?_⟩
      · show (St.cells _ S.next).bind _ = _
        rw [cells_set]; rfl
      conv => whnf
      exact ⟨hAt _ (.inl ⟨rfl, rfl⟩), (k1.trans k2).set _ _ (Nat.le_refl _)⟩
    conv => whnf
    refine CallQ.mono (hfind S2) ?_
    rintro r S3 ⟨rfl, rfl⟩
    cases fo with
    | none =>
      conv => whnf
      intro c hc
      obtain rfl : c = true := hc
      conv => whnf
      refine ⟨_, _, a2, store_agg rfl rfl rfl, ?_⟩
      conv => whnf
      refine ⟨AV.agg zN.cs, ?_, ?_⟩
      · show (St.cells _ S.next).bind _ = _
        rw [cells_set]; rfl
      conv => whnf
      exact ⟨hAt _ (.inr (.inl ⟨rfl, rfl, rfl⟩)), (k1.trans k2).set _ _ (Nat.le_refl _)⟩
    | some y =>
      have hown := t34 1024 (by omega) y (hfo hx rfl) (Nat.le_trans (hfc rfl) (hcn rfl)) S3
      obtain ⟨y', hy'⟩ : ∃ y', y' = y := ⟨_, rfl⟩
      rw [← hy'] at hAt
      obtain ⟨kind', n', neg', dg', ex', tx', fb', bs', fk', keys', fd', kids'⟩ := y
      conv => whnf
      intro c hc
      obtain rfl : c = false := hc
      conv => whnf
      refine CallQ.mono hown ?_
      rintro r S4 ⟨⟨z, rfl, cp⟩, k4⟩
      have n4 := k4.next
      have a4 := (cells_keep k4 (j := S.next) (by omega)).trans a2
      rw [← hy'] at cp
      obtain ⟨kind2, n2', neg2, dg2, ex2, tx2, fb2, bs2, fk2, keys2, fd2, kids2⟩ := z
      conv => whnf
      refine ⟨_, _, a4, store_agg rfl rfl (nd_leaf ..), ?_⟩
      conv => whnf
      refine ⟨AV.agg (Nd.cs (.mk kind2 n2' neg2 dg2 ex2 tx2 fb2 bs2 fk2 keys2 fd2 kids2)), ?_, ?_⟩
      · show (St.cells _ S.next).bind _ = _
        rw [cells_set]; rfl
      conv => whnf
      refine ⟨hAt _ (.inr (.inr ⟨rfl, y', _, rfl, cp, ?_⟩)), ((k1.trans k2).trans k4).set _ _ (Nat.le_refl _)⟩
      show AV.tuple [AV.shed (.agg _), _] = _
      have := cp.2.2
      rw [v_cs] at this ⊢
      rw [this]
      rfl
def RAtV (x : Nd) (ps : List Int) : AV := if few x = true then FoundV (findN x ps) else .tuple [zN.v, .int .i64 8]
theorem found_shed (o : Option Nd) : ∃ a e, FoundV o = .tuple [.agg a, .int .i64 e] ∧ a.length = 9 ∧ a.all AV.leafOk = true ∧ (AV.agg a).shed = .agg a := by
  cases o with
  | none => exact ⟨zN.cs, 19, rfl, rfl, rfl, rfl⟩
  | some y =>
    refine ⟨y.lo.cs, 0, by rw [FoundV, v_cs], cs_len _, cs_leaf _, ?_⟩
    obtain ⟨kind, n, neg, dg, ex, tx, fb, bs, fk, keys, fd, kids⟩ := y
    cases fb <;> cases fk <;> cases fd <;> rfl
theorem t20 (x : Nd) (hx : x.Ok) (ps : List Int) (fp : Sl) (hf : fp = .nil → ps = []) (hp : PsOk ps) (hl : ps.length ≤ 2 ^ 62) (S : St) : CallQ Tryd.prog TC 20 [x.v, slV fp (ps.map pI)] S fun r S1 => r = RAtV x ps ∧ Keep S S1 := by
  have hfew := t11 x hx
  have hfind := t35 x hx ps fp hf hp hl
  have hR : RAtV x ps = if few x = true then FoundV (findN x ps) else .tuple [zN.v, .int .i64 8] := rfl
  have hfs := found_shed (findN x ps)
  generalize RAtV x ps = rv at *
  generalize findN x ps = fo at *
  generalize few x = fx at *
  obtain ⟨kind, n, neg, dg, ex, tx, fb, bs, fk, keys, fd, kids⟩ := x
  refine CallQ.of rfl (by kernel_rfl : Tryd.prog.funcs[20]? = some Tryd.f20) rfl (by decide) ?_
  rcases fp with _ | tp
  all_goals
    conv => whnf
    generalize hS1 : S.new _ = S1
    have k1 : Keep S S1 := by rw [← hS1]; exact (Keep.refl S).new _
    have a1 : S1.cells S.next = some zN.cs := by rw [← hS1]; exact cells_new _ _
    have n1 : S1.next = S.next + 1 := by rw [← hS1]; rfl
    clear hS1
    refine CallQ.mono (hfew S1) ?_
    rintro r S2 ⟨rfl, k2⟩
    have n2 := k2.next
    have a2 := (cells_keep k2 (j := S.next) (by omega)).trans a1
    cases fx
    · conv => whnf
      refine ⟨_, _, a2, store_agg rfl rfl rfl, ?_⟩
      conv => whnf
      refine ⟨AV.agg zN.cs, ?_, ?_⟩
      · show (St.cells _ S.next).bind _ = _
        rw [cells_set]; rfl
      conv => whnf
      exact ⟨by rw [hR]; rfl, (k1.trans k2).set _ _ (Nat.le_refl _)⟩
    conv => whnf
    refine CallQ.mono (hfind S2) ?_
    rintro r S3 ⟨rfl, k3⟩
    have n3 := k3.next
    have a3 := (cells_keep k3 (j := S.next) (by omega)).trans a2
    obtain ⟨a, e, h1, h2, h3, h4⟩ := hfs
    rw [if_pos rfl, h1] at hR
    rw [h1]
    obtain ⟨b0, b1, b2, b3, b4, b5, b6, b7, b8, rfl⟩ : ∃ b0 b1 b2 b3 b4 b5 b6 b7 b8, a = [b0, b1, b2, b3, b4, b5, b6, b7, b8] := by
      match a, h2 with
      | [x0, x1, x2, x3, x4, x5, x6, x7, x8], _ => exact ⟨x0, x1, x2, x3, x4, x5, x6, x7, x8, rfl⟩
    conv => whnf
    refine ⟨_, _, a3, store_agg rfl rfl h3, ?_⟩
    conv => whnf
    refine ⟨AV.agg [b0, b1, b2, b3, b4, b5, b6, b7, b8], ?_, ?_⟩
    · show (St.cells _ S.next).bind _ = _
      rw [cells_set]; rfl
    conv => whnf
    refine ⟨?_, ((k1.trans k2).trans k3).set _ _ (Nat.le_refl _)⟩
    rw [hR]
    show AV.tuple [AV.shed (.agg _), _] = _
    rw [h4]; rfl
end Go.Proofs.YtmkmakokgfigoaaDoor
