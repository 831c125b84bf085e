import Derived.Test.YtmkmakokgfigoaaDoorVMT21
namespace Go.Proofs.YtmkmakokgfigoaaDoor
open Go.Proofs.YtmkmakokgfigoaaDoor.VM
set_option maxRecDepth 100000
set_option linter.unusedVariables false
set_option maxHeartbeats 1000000

theorem few_er {a b : Nd} (h : er a = er b) : few a = few b := by unfold few; rw [cnt_er h]
noncomputable def bothS (a b : Nd) : Bool := (!few a && !few b) || SameB a b
theorem both_er {a b : Nd} (h : er a = er b) : bothS a b = true := by
  unfold bothS SameB sameB
  rw [few_er h, h]
  cases few b <;> simp
theorem t21 (x y : Nd) (hx : x.Ok) (hy : y.Ok) (S : St) : CallQ Tryd.prog TC 21 [x.v, y.v] S fun r S1 => r = .bool (bothS x y) ∧ Keep S S1 := by
  have t1 := t11 x hx
  have t2 := t11 y hy
  have t3 := t13 x y hx hy
  have ht : bothS x y = ((!few x && !few y) || SameB x y) := rfl
  generalize bothS x y = sb at *
  generalize SameB x y = sm at *
  generalize few x = fx at *
  generalize few y = fy at *
  obtain ⟨kind, n, neg, dg, ex, tx, fb, bs, fk, keys, fd, kids⟩ := x
  obtain ⟨kind', n', neg', dg', ex', tx', fb', bs', fk', keys', fd', kids'⟩ := y
  refine CallQ.of rfl (by kernel_rfl : Tryd.prog.funcs[21]? = some Tryd.f21) rfl (by decide) ?_
  conv => whnf
  refine CallQ.mono (t1 S) ?_
  rintro r S1 ⟨rfl, k1⟩
  cases fx
  · conv => whnf
    refine CallQ.mono (t2 S1) ?_
    rintro r S2 ⟨rfl, k2⟩
    cases fy
    · conv => whnf
      exact ⟨by rw [ht]; rfl, k1.trans k2⟩
    conv => whnf
    refine CallQ.mono (t3 S2) ?_
    rintro r S3 ⟨rfl, k3⟩
    conv => whnf
    exact ⟨by rw [ht]; cases sm <;> rfl, (k1.trans k2).trans k3⟩
  conv => whnf
  refine CallQ.mono (t3 S1) ?_
  rintro r S3 ⟨rfl, k3⟩
  conv => whnf
  exact ⟨by rw [ht]; cases sm <;> rfl, k1.trans k3⟩

/-- Two answers of At that are told apart by nothing. -/
theorem at_both {x : Nd} {ps : List Int} (hx : x.Ok) {r : AV} (h : AtR x ps r) : ∃ (a b : Nd) (e : Int), r = .tuple [a.v, .int .i64 e] ∧ RAtV x ps = .tuple [b.v, .int .i64 e] ∧ a.Ok ∧ b.Ok ∧ er a = er b := by
  rcases h with ⟨h1, rfl⟩ | ⟨h1, h2, rfl⟩ | ⟨h1, y, z, h2, h3, rfl⟩
  · exact ⟨zN, zN, 8, rfl, by unfold RAtV; rw [h1]; rfl, zN_ok, zN_ok, rfl⟩
  · exact ⟨zN, zN, 19, rfl, by unfold RAtV; rw [h1, h2]; rfl, zN_ok, zN_ok, rfl⟩
  · exact ⟨z, y.lo, 0, rfl, by unfold RAtV; rw [h1, h2]; rfl, h3.2.1, lo_ok (find_ok hx h2), by rw [lo_er]; exact h3.1⟩

theorem t4 (x : Nd) (hx : x.Ok) (ps : List Int) (fp : Sl) (hf : fp = .nil → ps = []) (hp : PsOk ps) (hl : ps.length ≤ 2 ^ 62) (S : St) : CallQ Tryd.prog TC 4 [x.v, slV fp (ps.map pI)] S fun r S1 => r = .bool true := by
  have hA := t19 x hx ps fp hf hp hl
  have hB := t20 x hx ps fp hf hp hl
  have hab := @at_both x ps hx
  have fin : ∀ S, CallQ Tryd.prog TC 18 [] S fun r S1 => S1 = S ∧ r = .bool true := t18
  obtain ⟨kind, n, neg, dg, ex, tx, fb, bs, fk, keys, fd, kids⟩ := x
  refine CallQ.of rfl (by kernel_rfl : Tryd.prog.funcs[4]? = some Tryd.f4) rfl (by decide) ?_
  rcases fp with _ | tp
  all_goals
    conv => whnf
    refine CallQ.mono (hA S) ?_
    rintro r S1 ⟨hr, k1⟩
    obtain ⟨a, b, e, rfl, h2, ha, hb, hab⟩ := hab hr
    have hc := t21 a b ha hb
    rw [both_er hab] at hc
    obtain ⟨kind', n', neg', dg', ex', tx', fb', bs', fk', keys', fd', kids'⟩ := a
    conv => whnf
    refine ⟨_, _, cells_new _ _, store_agg rfl rfl (nd_leaf ..), ?_⟩
    conv => whnf
    generalize hS2 : (S1.new _).set S1.next _ = S2
    have a2 : S2.cells S1.next = some (Nd.cs (.mk kind' n' neg' dg' ex' tx' fb' bs' fk' keys' fd' kids')) := by rw [← hS2]; exact cells_set _ _ _
    have n2 : S2.next = S1.next + 1 := by rw [← hS2]; rfl
    clear hS2
    refine CallQ.mono (hB S2) ?_
    rintro r S3 ⟨rfl, k3⟩
    have n3 := k3.next
    have a3 := (cells_keep k3 (j := S1.next) (by omega)).trans a2
    rw [h2]
    obtain ⟨kind2, n2', neg2, dg2, ex2, tx2, fb2, bs2, fk2, keys2, fd2, kids2⟩ := b
    conv => whnf
    refine ⟨_, _, cells_new _ _, store_agg rfl rfl (nd_leaf ..), ?_⟩
    conv => whnf
    generalize hS4 : (S3.new _).set S3.next _ = S4
    have b4 : S4.cells S3.next = some (Nd.cs (.mk kind2 n2' neg2 dg2 ex2 tx2 fb2 bs2 fk2 keys2 fd2 kids2)) := by rw [← hS4]; exact cells_set _ _ _
    have a4 : S4.cells S1.next = some (Nd.cs (.mk kind' n' neg' dg' ex' tx' fb' bs' fk' keys' fd' kids')) := by rw [← hS4]; exact cells_set_ne (cells_new_ne a3 (by omega)) (by omega)
    clear hS4
    refine ⟨_, a4, ?_⟩
    conv => whnf
    refine ⟨_, b4, ?_⟩
    conv => whnf
    refine CallQ.mono (hc S4) ?_
    rintro r S5 ⟨rfl, k5⟩
    conv => whnf
    intro c hc
    obtain rfl : c = true := by rw [hc]; exact decide_eq_true rfl
    conv => whnf
    refine CallQ.mono (fin S5) ?_
    rintro r S6 ⟨rfl, rfl⟩
    conv => whnf
    rfl
end Go.Proofs.YtmkmakokgfigoaaDoor
