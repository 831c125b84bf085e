import Derived.Test.YtmkmakokgfigoaaDoorVMH2
namespace Go.Proofs.YtmkmakokgfigoaaDoor
open Go.Proofs.YtmkmakokgfigoaaDoor.VM
set_option maxRecDepth 100000
set_option linter.unusedVariables false
set_option maxHeartbeats 1000000

def AtR (x : Nd) (ps : List Int) (r : AV) : Prop :=
  (few x = false ∧ r = .tuple [zN.v, .int .i64 8]) ∨ (few x = true ∧ findN x ps = none ∧ r = .tuple [zN.v, .int .i64 19]) ∨
    (few x = true ∧ ∃ y z, findN x ps = some y ∧ Cp y z ∧ r = .tuple [z.v, .int .i64 0])
theorem find_cnt : ∀ {ps : List Int} {x y : Nd}, findN x ps = some y → cnt y ≤ cnt x
  | [], x, y, h => by cases h; exact Nat.le_refl _
  | k :: ps, x, y, h => by
    simp only [findN] at h
    cases hs : stepN x k with
    | none => rw [hs] at h; cases h
    | some z => rw [hs] at h; have := step_cnt hs; have := find_cnt h; omega
theorem find_ok : ∀ {ps : List Int} {x y : Nd}, x.Ok → findN x ps = some y → y.Ok
  | [], x, y, hx, h => by cases h; exact hx
  | k :: ps, x, y, hx, h => by
    simp only [findN] at h
    cases hs : stepN x k with
    | none => rw [hs] at h; cases h
    | some z => rw [hs] at h; exact find_ok (step_ok hx hs) h

theorem frz_err (k : Nat) (e : Int) (S : St) (h : 3 ≤ k) : frzA k (.tuple [.agg zN.cs, .int .i64 e]) S = some (.tuple [.agg zN.cs, .int .i64 e], S) := by
  obtain ⟨m, rfl⟩ : ∃ m, k = m + 3 := ⟨k - 3, by omega⟩
  rfl
theorem frz_tup (k : Nat) (cs : List AV) (e : Int) (S : St) : frzA (k + 3) (.tuple [.agg cs, .int .i64 e]) S = (mapS (frzA (k + 1)) cs S).map fun r => (.tuple [.agg r.1, .int .i64 e], r.2) := by
  have h1 : frzA (k + 3) (.tuple [.agg cs, .int .i64 e]) S = (mapS (frzA (k + 2)) [.agg cs, .int .i64 e] S).map fun r => (.tuple r.1, r.2) := rfl
  have h2 : ∀ S, frzA (k + 2) (.agg cs) S = (mapS (frzA (k + 1)) cs S).map fun r => (.agg r.1, r.2) := fun _ => rfl
  have h3 : ∀ S, frzA (k + 2) (.int .i64 e) S = some (.int .i64 e, S) := fun _ => rfl
  rw [h1]
  simp only [mapS, h2, h3]
  cases mapS (frzA (k + 1)) cs S <;> rfl
theorem t19 (x : Nd) (hx : x.Ok) (ps : List Int) (fp : Sl) (hf : fp = .nil → ps = []) (hp : PsOk ps) (hl : ps.length ≤ 2 ^ 62) (S : St) : CallQ Tryd.prog TC 19 [x.v, slV fp (ps.map pI)] S fun r S1 => AtR x ps r ∧ Keep S S1 := by
  have hfew := t10 x hx
  have hfind := t33 x hx ps fp hf hp hl
  have hcn : few x = true → cnt x ≤ 1024 := by unfold few; simp
  have hfc := @find_cnt ps x
  have hfo := @find_ok ps x
  have hAt : ∀ r, ((few x = false ∧ r = .tuple [zN.v, .int .i64 8]) ∨ (few x = true ∧ findN x ps = none ∧ r = .tuple [zN.v, .int .i64 19]) ∨
    (few x = true ∧ ∃ y z, findN x ps = some y ∧ Cp y z ∧ r = .tuple [z.v, .int .i64 0])) → AtR x ps r := fun r h => h
  generalize findN x ps = fo at *
  generalize few x = fx at *
  obtain ⟨kind, n, neg, dg, ex, tx, fb, bs, fk, keys, fd, kids⟩ := x
  refine CallQ.of rfl (by kernel_rfl : Tryd.prog.funcs[19]? = some Tryd.f19) rfl (by decide) ?_
  rcases fp with _ | tp
  all_goals
    conv => whnf
    generalize hS1 : S.new _ = S1
    have k1 : Keep S S1 := by rw [← hS1]; exact (Keep.refl S).new _
    have a1 : S1.cells S.next = some zN.cs := by rw [← hS1]; exact cells_new _ _
    have n1 : S1.next = S.next + 1 := by rw [← hS1]; rfl
    clear hS1
    refine CallQ.mono (hfew S1) ?_
    rintro r S2 ⟨rfl, k2⟩
    have n2 := k2.next
    have a2 := (cells_keep k2 (j := S.next) (by omega)).trans a1
    cases fx
    · conv => whnf
      refine ⟨_, _, a2, store_agg rfl rfl rfl, ?_⟩
      conv => whnf
      refine ⟨AV.agg zN.cs, ?_, ?_⟩
      · show (St.cells _ S.next).bind _ = _
        rw [cells_set]; rfl
      conv => whnf
      refine ⟨_, _, frz_err _ _ _ (by omega), hAt _ (.inl ⟨rfl, rfl⟩), (k1.trans k2).set _ _ (Nat.le_refl _)⟩
    conv => whnf
    refine CallQ.mono (hfind S2) ?_
    rintro r S3 ⟨rfl, rfl⟩
    cases fo with
    | none =>
      conv => whnf
      intro c hc
      obtain rfl : c = true := hc
      conv => whnf
      refine ⟨_, _, a2, store_agg rfl rfl rfl, ?_⟩
      conv => whnf
      refine ⟨AV.agg zN.cs, ?_, ?_⟩
      · show (St.cells _ S.next).bind _ = _
        rw [cells_set]; rfl
      conv => whnf
      refine ⟨_, _, frz_err _ _ _ (by omega), hAt _ (.inr (.inl ⟨rfl, rfl, rfl⟩)), (k1.trans k2).set _ _ (Nat.le_refl _)⟩
    | some y =>
      have hown := t34 1024 (by omega) y (hfo hx rfl) (Nat.le_trans (hfc rfl) (hcn rfl)) S3
      obtain ⟨y', hy'⟩ : ∃ y', y' = y := ⟨_, rfl⟩
      rw [← hy'] at hAt
      obtain ⟨kind', n', neg', dg', ex', tx', fb', bs', fk', keys', fd', kids'⟩ := y
      conv => whnf
      intro c hc
      obtain rfl : c = false := hc
      conv => whnf
      refine CallQ.mono hown ?_
      rintro r S4 ⟨cs, F, rfl, hn, hnd, hF, k4, hm⟩
      have n4 := k4.next
      have a4 := (cells_keep k4 (j := S.next) (by omega)).trans a2
      obtain ⟨hl9, hlf, _⟩ := hn_cells hn
      have hlt := HN.lt _ hn
      have hdp : pdep (er y') ≤ cnt y' := by rw [er_pdep]; exact dep_cnt y'
      have hc1 := cnt_pos y'
      rw [← hy'] at hn hm
      obtain ⟨z, S6, hz1, hz2, hz3, hz4, hz5⟩ := hn_frz (er y') (S4.next + 1) (S4.set S.next (some (.cells cs))) cs F (HN.frame (S := S4) (S1 := S4.set S.next (some (.cells cs))) (Nat.le_refl S4.next) _ hn fun j hj => set_ne (by have := hF j hj; omega)) hnd (by omega)
      obtain ⟨c0, c1, c2, c3, c4, c5, c6, c7, c8, rfl⟩ : ∃ c0 c1 c2 c3 c4 c5 c6 c7 c8, cs = [c0, c1, c2, c3, c4, c5, c6, c7, c8] := by
        match cs, hl9 with
        | [x0, x1, x2, x3, x4, x5, x6, x7, x8], _ => exact ⟨x0, x1, x2, x3, x4, x5, x6, x7, x8, rfl⟩
      conv => whnf
      refine ⟨_, _, a4, store_agg rfl rfl hlf, ?_⟩
      conv => whnf
      refine ⟨AV.agg [c0, c1, c2, c3, c4, c5, c6, c7, c8], ?_, ?_⟩
      · show (St.cells _ S.next).bind _ = _
        rw [cells_set]; rfl
      conv => whnf
      have hfr : frzA (S4.next + 4) (.tuple [.agg [c0, c1, c2, c3, c4, c5, c6, c7, c8], .int .i64 0]) (S4.set S.next (some (.cells [c0, c1, c2, c3, c4, c5, c6, c7, c8]))) = some (.tuple [.agg z.cs, .int .i64 0], S6) := by
        rw [frz_tup, hz1]; rfl
      refine ⟨_, _, hfr, hAt _ (.inr (.inr ⟨rfl, y', z, rfl, ⟨hz2, hz3.1, ?_⟩, ?_⟩)), ?_⟩
      · rw [v_cs]
        show AV.agg _ = _
        rw [hz3.2]
      · show AV.tuple [AV.shed (.agg _), _] = _
        rw [v_cs]
        show AV.tuple [AV.agg (z.cs.map AV.shedLeaf), _] = _
        rw [hz3.2]; rfl
      · refine ⟨by rw [hz4]; show S.next ≤ S4.next; omega, fun j hj => ?_⟩
        rw [hz5 j (fun h => by have := hF j h; omega), set_ne (by omega), k4.mem j (by omega), k2.mem j (by omega), k1.mem j hj]
def RAtV (x : Nd) (ps : List Int) : AV := if few x = true then FoundV (findN x ps) else .tuple [zN.v, .int .i64 8]
theorem found_shed (o : Option Nd) : ∃ a e, FoundV o = .tuple [.agg a, .int .i64 e] ∧ a.length = 9 ∧ a.all AV.leafOk = true ∧ (AV.agg a).shed = .agg a := by
  cases o with
  | none => exact ⟨zN.cs, 19, rfl, rfl, rfl, rfl⟩
  | some y =>
    refine ⟨y.lo.cs, 0, by rw [FoundV, v_cs], cs_len _, cs_leaf _, ?_⟩
    obtain ⟨kind, n, neg, dg, ex, tx, fb, bs, fk, keys, fd, kids⟩ := y
    cases fb <;> cases fk <;> cases fd <;> rfl
theorem t20 (x : Nd) (hx : x.Ok) (ps : List Int) (fp : Sl) (hf : fp = .nil → ps = []) (hp : PsOk ps) (hl : ps.length ≤ 2 ^ 62) (S : St) : CallQ Tryd.prog TC 20 [x.v, slV fp (ps.map pI)] S fun r S1 => r = RAtV x ps ∧ Keep S S1 := by
  have hfew := t11 x hx
  have hfind := t35 x hx ps fp hf hp hl
  have hR : RAtV x ps = if few x = true then FoundV (findN x ps) else .tuple [zN.v, .int .i64 8] := rfl
  have hfs := found_shed (findN x ps)
  generalize RAtV x ps = rv at *
  generalize findN x ps = fo at *
  generalize few x = fx at *
  obtain ⟨kind, n, neg, dg, ex, tx, fb, bs, fk, keys, fd, kids⟩ := x
  refine CallQ.of rfl (by kernel_rfl : Tryd.prog.funcs[20]? = some Tryd.f20) rfl (by decide) ?_
  rcases fp with _ | tp
  all_goals
    conv => whnf
    generalize hS1 : S.new _ = S1
    have k1 : Keep S S1 := by rw [← hS1]; exact (Keep.refl S).new _
    have a1 : S1.cells S.next = some zN.cs := by rw [← hS1]; exact cells_new _ _
    have n1 : S1.next = S.next + 1 := by rw [← hS1]; rfl
    clear hS1
    refine CallQ.mono (hfew S1) ?_
    rintro r S2 ⟨rfl, k2⟩
    have n2 := k2.next
    have a2 := (cells_keep k2 (j := S.next) (by omega)).trans a1
    cases fx
    · conv => whnf
      refine ⟨_, _, a2, store_agg rfl rfl rfl, ?_⟩
      conv => whnf
      refine ⟨AV.agg zN.cs, ?_, ?_⟩
      · show (St.cells _ S.next).bind _ = _
        rw [cells_set]; rfl
      conv => whnf
      exact ⟨by rw [hR]; rfl, (k1.trans k2).set _ _ (Nat.le_refl _)⟩
    conv => whnf
    refine CallQ.mono (hfind S2) ?_
    rintro r S3 ⟨rfl, k3⟩
    have n3 := k3.next
    have a3 := (cells_keep k3 (j := S.next) (by omega)).trans a2
    obtain ⟨a, e, h1, h2, h3, h4⟩ := hfs
    rw [if_pos rfl, h1] at hR
    rw [h1]
    obtain ⟨b0, b1, b2, b3, b4, b5, b6, b7, b8, rfl⟩ : ∃ b0 b1 b2 b3 b4 b5 b6 b7 b8, a = [b0, b1, b2, b3, b4, b5, b6, b7, b8] := by
      match a, h2 with
      | [x0, x1, x2, x3, x4, x5, x6, x7, x8], _ => exact ⟨x0, x1, x2, x3, x4, x5, x6, x7, x8, rfl⟩
    conv => whnf
    refine ⟨_, _, a3, store_agg rfl rfl h3, ?_⟩
    conv => whnf
    refine ⟨AV.agg [b0, b1, b2, b3, b4, b5, b6, b7, b8], ?_, ?_⟩
    · show (St.cells _ S.next).bind _ = _
      rw [cells_set]; rfl
    conv => whnf
    refine ⟨?_, ((k1.trans k2).trans k3).set _ _ (Nat.le_refl _)⟩
    rw [hR]
    show AV.tuple [AV.shed (.agg _), _] = _
    rw [h4]; rfl
end Go.Proofs.YtmkmakokgfigoaaDoor
namespace Go.Proofs.YtmkmakokgfigoaaDoor
open Go.Proofs.YtmkmakokgfigoaaDoor.VM
set_option maxRecDepth 100000
set_option linter.unusedVariables false
set_option maxHeartbeats 1000000

theorem few_er {a b : Nd} (h : er a = er b) : few a = few b := by unfold few; rw [cnt_er h]
noncomputable def bothS (a b : Nd) : Bool := (!few a && !few b) || SameB a b
theorem both_er {a b : Nd} (h : er a = er b) : bothS a b = true := by
  unfold bothS SameB sameB
  rw [few_er h, h]
  cases few b <;> simp
theorem t21 (x y : Nd) (hx : x.Ok) (hy : y.Ok) (S : St) : CallQ Tryd.prog TC 21 [x.v, y.v] S fun r S1 => r = .bool (bothS x y) ∧ Keep S S1 := by
  have t1 := t11 x hx
  have t2 := t11 y hy
  have t3 := t13 x y hx hy
  have ht : bothS x y = ((!few x && !few y) || SameB x y) := rfl
  generalize bothS x y = sb at *
  generalize SameB x y = sm at *
  generalize few x = fx at *
  generalize few y = fy at *
  obtain ⟨kind, n, neg, dg, ex, tx, fb, bs, fk, keys, fd, kids⟩ := x
  obtain ⟨kind', n', neg', dg', ex', tx', fb', bs', fk', keys', fd', kids'⟩ := y
  refine CallQ.of rfl (by kernel_rfl : Tryd.prog.funcs[21]? = some Tryd.f21) rfl (by decide) ?_
  conv => whnf
  refine CallQ.mono (t1 S) ?_
  rintro r S1 ⟨rfl, k1⟩
  cases fx
  · conv => whnf
    refine CallQ.mono (t2 S1) ?_
    rintro r S2 ⟨rfl, k2⟩
    cases fy
    · conv => whnf
      exact ⟨by rw [ht]; rfl, k1.trans k2⟩
    conv => whnf
    refine CallQ.mono (t3 S2) ?_
    rintro r S3 ⟨rfl, k3⟩
    conv => whnf
    exact ⟨by rw [ht]; cases sm <;> rfl, (k1.trans k2).trans k3⟩
  conv => whnf
  refine CallQ.mono (t3 S1) ?_
  rintro r S3 ⟨rfl, k3⟩
  conv => whnf
  exact ⟨by rw [ht]; cases sm <;> rfl, k1.trans k3⟩

/-- Two answers of At that are told apart by nothing. -/
theorem at_both {x : Nd} {ps : List Int} (hx : x.Ok) {r : AV} (h : AtR x ps r) : ∃ (a b : Nd) (e : Int), r = .tuple [a.v, .int .i64 e] ∧ RAtV x ps = .tuple [b.v, .int .i64 e] ∧ a.Ok ∧ b.Ok ∧ er a = er b := by
  rcases h with ⟨h1, rfl⟩ | ⟨h1, h2, rfl⟩ | ⟨h1, y, z, h2, h3, rfl⟩
  · exact ⟨zN, zN, 8, rfl, by unfold RAtV; rw [h1]; rfl, zN_ok, zN_ok, rfl⟩
  · exact ⟨zN, zN, 19, rfl, by unfold RAtV; rw [h1, h2]; rfl, zN_ok, zN_ok, rfl⟩
  · exact ⟨z, y.lo, 0, rfl, by unfold RAtV; rw [h1, h2]; rfl, h3.2.1, lo_ok (find_ok hx h2), by rw [lo_er]; exact h3.1⟩

theorem t4 (x : Nd) (hx : x.Ok) (ps : List Int) (fp : Sl) (hf : fp = .nil → ps = []) (hp : PsOk ps) (hl : ps.length ≤ 2 ^ 62) (S : St) : CallQ Tryd.prog TC 4 [x.v, slV fp (ps.map pI)] S fun r S1 => r = .bool true := by
  have hA := t19 x hx ps fp hf hp hl
  have hB := t20 x hx ps fp hf hp hl
  have hab := @at_both x ps hx
  have fin : ∀ S, CallQ Tryd.prog TC 18 [] S fun r S1 => S1 = S ∧ r = .bool true := t18
  obtain ⟨kind, n, neg, dg, ex, tx, fb, bs, fk, keys, fd, kids⟩ := x
  refine CallQ.of rfl (by kernel_rfl : Tryd.prog.funcs[4]? = some Tryd.f4) rfl (by decide) ?_
  rcases fp with _ | tp
  all_goals
    conv => whnf
    refine CallQ.mono (hA S) ?_
    rintro r S1 ⟨hr, k1⟩
    obtain ⟨a, b, e, rfl, h2, ha, hb, hab⟩ := hab hr
    have hc := t21 a b ha hb
    rw [both_er hab] at hc
    obtain ⟨kind', n', neg', dg', ex', tx', fb', bs', fk', keys', fd', kids'⟩ := a
    conv => whnf
    refine ⟨_, _, cells_new _ _, store_agg rfl rfl (nd_leaf ..), ?_⟩
    conv => whnf
    generalize hS2 : (S1.new _).set S1.next _ = S2
    have a2 : S2.cells S1.next = some (Nd.cs (.mk kind' n' neg' dg' ex' tx' fb' bs' fk' keys' fd' kids')) := by rw [← hS2]; exact cells_set _ _ _
    have n2 : S2.next = S1.next + 1 := by rw [← hS2]; rfl
    clear hS2
    refine CallQ.mono (hB S2) ?_
    rintro r S3 ⟨rfl, k3⟩
    have n3 := k3.next
    have a3 := (cells_keep k3 (j := S1.next) (by omega)).trans a2
    rw [h2]
    obtain ⟨kind2, n2', neg2, dg2, ex2, tx2, fb2, bs2, fk2, keys2, fd2, kids2⟩ := b
    conv => whnf
    refine ⟨_, _, cells_new _ _, store_agg rfl rfl (nd_leaf ..), ?_⟩
    conv => whnf
    generalize hS4 : (S3.new _).set S3.next _ = S4
    have b4 : S4.cells S3.next = some (Nd.cs (.mk kind2 n2' neg2 dg2 ex2 tx2 fb2 bs2 fk2 keys2 fd2 kids2)) := by rw [← hS4]; exact cells_set _ _ _
    have a4 : S4.cells S1.next = some (Nd.cs (.mk kind' n' neg' dg' ex' tx' fb' bs' fk' keys' fd' kids')) := by rw [← hS4]; exact cells_set_ne (cells_new_ne a3 (by omega)) (by omega)
    clear hS4
    refine ⟨_, a4, ?_⟩
    conv => whnf
    refine ⟨_, b4, ?_⟩
    conv => whnf
    refine CallQ.mono (hc S4) ?_
    rintro r S5 ⟨rfl, k5⟩
    conv => whnf
    intro c hc
    obtain rfl : c = true := by rw [hc]; exact decide_eq_true rfl
    conv => whnf
    refine CallQ.mono (fin S5) ?_
    rintro r S6 ⟨rfl, rfl⟩
    conv => whnf
    rfl
end Go.Proofs.YtmkmakokgfigoaaDoor
