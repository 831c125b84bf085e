import Derived.Test.YtmkmakokgfigoaaDoorVMO20
import Derived.Test.YtmkmakokgfigoaaDoorVMO14
import Derived.Test.YtmkmakokgfigoaaDoorVMP10
namespace Go.Proofs.YtmkmakokgfigoaaDoor
open Go.Proofs.YtmkmakokgfigoaaDoor.VM
set_option maxRecDepth 100000
set_option linter.unusedVariables false
set_option maxHeartbeats 1000000

theorem few_er {a b : Nd} (h : er a = er b) : few a = few b := by unfold few; rw [cnt_er h]
noncomputable def bothS (a b : Nd) : Bool := (!few a && !few b) || SameB a b
theorem both_er {a b : Nd} (h : er a = er b) : bothS a b = true := by
  unfold bothS SameB sameB
  rw [few_er h, h]
  cases few b <;> simp
end Go.Proofs.YtmkmakokgfigoaaDoor
namespace Go.Proofs.YtmkmakokgfigoaaDoor
open Go.Proofs.YtmkmakokgfigoaaDoor.VM Go.RowKit
set_option maxRecDepth 100000
set_option linter.unusedVariables false
set_option linter.unusedSimpArgs false
set_option maxHeartbeats 4000000
/-! What Put answers, written; and told to be the same as what was told. -/
theorem t11h (x : Pl) (S : St) (cs : List AV) (F : List Nat) (h : HN S x cs F) : CallQ Tryd.prog TC 11 [.agg cs] S fun r S1 => r = .bool (decide (pcnt x ≤ 1024)) ∧ Keep S S1 := by
  have t := t28h (pcnt x) x 1024 (Nat.le_refl _) (by omega) S cs F h
  have hf : decide (pcnt x ≤ 1024) = decide ((0 : Int) ≤ lf 1024 (pcnt x)) := by
    unfold lf
    rw [decide_eq_decide]
    split <;> omega
  obtain ⟨c0, c1, c2, c3, c4, c5, c6, c7, c8, rfl⟩ := nine (hn_cells h).1
  refine CallQ.of rfl (by kernel_rfl : Tryd.prog.funcs[11]? = some Tryd.f11) rfl (by decide) ?_
  conv => whnf
  refine CallQ.mono t ?_
  rintro r S1 ⟨rfl, k⟩
  conv => whnf
  intro b hb
  conv => whnf
  refine ⟨?_, k⟩
  show AV.bool b = _
  rw [hb, hf]
theorem t21z (x y : Nd) (hx : x.Ok) (hy : y.Ok) (args : List AV) (S S0 : St) (hm : mapS (frzA (S.next + 4)) args S = some ([x.v, y.v], S0)) : CallQ Tryd.prog TC 21 args S fun r S1 => r = .bool (bothS x y) := by
  have t1 := t11 x hx
  have t2 := t11 y hy
  have t3 := t13 x y hx hy
  have ht : bothS x y = ((!few x && !few y) || SameB x y) := rfl
  generalize bothS x y = sb at *
  generalize SameB x y = sm at *
  generalize few x = fx at *
  generalize few y = fy at *
  obtain ⟨kind, n, neg, dg, ex, tx, fb, bs, fk, keys, fd, kids⟩ := x
  obtain ⟨kind', n', neg', dg', ex', tx', fb', bs', fk', keys', fd', kids'⟩ := y
  refine CallQ.ofZ rfl rfl rfl hm (by kernel_rfl : Tryd.prog.funcs[21]? = some Tryd.f21) rfl (by decide) ?_
  conv => whnf
  refine CallQ.mono (t1 S0) ?_
  rintro r S1 ⟨rfl, k1⟩
  cases fx
  · conv => whnf
    refine CallQ.mono (t2 S1) ?_
    rintro r S2 ⟨rfl, k2⟩
    cases fy
    · conv => whnf
      rw [ht]; rfl
    conv => whnf
    refine CallQ.mono (t3 S2) ?_
    rintro r S3 ⟨rfl, k3⟩
    conv => whnf
    rw [ht]; cases sm <;> rfl
  conv => whnf
  refine CallQ.mono (t3 S1) ?_
  rintro r S3 ⟨rfl, k3⟩
  conv => whnf
  rw [ht]; cases sm <;> rfl
/-- .. of a written tree and one that is not. -/
theorem t21h (u : Pl) (cs : List AV) (F : List Nat) (w : Nd) (hw : w.Ok) (S : St) (h : HN S u cs F) (hnd : F.Nodup) (hd : pdep u ≤ S.next + 2) (he : er w = u) : CallQ Tryd.prog TC 21 [.agg cs, w.v] S fun r S1 => r = .bool true := by
  obtain ⟨y, S', h1, h2, h3, _, _⟩ := hn_frz u (S.next + 2) S cs F h hnd hd
  have hm : mapS (frzA (S.next + 4)) [.agg cs, w.v] S = some ([y.v, w.v], S') := by
    have f2 : frzA (S.next + 4) w.v S' = some (w.v, S') := by
      rw [v_cs, show S.next + 4 = (S.next + 3) + 1 by omega, frz_agg, mapS_id _ _ (frz_node _ _)]; rfl
    have f1 : frzA (S.next + 4) (.agg cs) S = some (y.v, S') := by
      rw [show S.next + 4 = (S.next + 3) + 1 by omega, frz_agg, show S.next + 3 = (S.next + 2) + 1 by omega, h1, v_cs]; rfl
    simp only [mapS, f1, f2, Option.bind_some, Option.map_some]
  refine CallQ.mono (t21z y w h3.1 hw _ S S' hm) ?_
  rintro r S1 rfl
  rw [both_er (h2.trans he.symm)]
def putV (x : Nd) (ps : List Int) (y : Nd) : Pl × Int := match putP (er x) ps (er y) with | none => (er zN, 19) | some u => (u, 0)
theorem putR_v {x y : Nd} {ps : List Int} {r : AV} (hx : few x = true) (hy : few y = true) (h : PutR x ps y r) : ∃ z : Nd, r = .tuple [z.v, .int .i64 (putV x ps y).2] ∧ er z = (putV x ps y).1 ∧ z.Ok := by
  unfold putV
  rcases h with ⟨f1 | f1, rfl⟩ | ⟨_, _, f3, rfl⟩ | ⟨_, _, u, z, f3, f4, f5, f6, rfl⟩
  · rw [hx] at f1; cases f1
  · rw [hy] at f1; cases f1
  · rw [f3]; exact ⟨zN, rfl, rfl, zN_ok⟩
  · rw [f3]; exact ⟨z, rfl, f4, f5⟩
theorem zN_hn (S : St) : HN S (er zN) zN.cs [] := by
  simp only [zN, er, HN, Nd.cs]
  exact ⟨.nils, .nils, .nils, [], [], [], rfl, .inl ⟨rfl, rfl, rfl⟩, by simp, rfl, .inl ⟨rfl, rfl, rfl⟩, .inl ⟨rfl, rfl, rfl⟩⟩
theorem putH_v {x y : Nd} {ps : List Int} {S : St} {r : AV} {S1 : St} (hx : few x = true) (hy : few y = true) (h : PutH x ps y S r S1) :
    ∃ cs F, r = .tuple [.agg cs, .int .i64 (putV x ps y).2] ∧ HN S1 (putV x ps y).1 cs F ∧ F.Nodup ∧ (∀ j ∈ F, S.next ≤ j) ∧ pdep (putV x ps y).1 ≤ S1.next + 2 := by
  unfold putV
  rcases h with ⟨f1 | f1, rfl⟩ | ⟨_, _, f3, rfl⟩ | ⟨_, _, u, cs, F, f3, f4, f5, f6, f7, rfl⟩
  · rw [hx] at f1; cases f1
  · rw [hy] at f1; cases f1
  · rw [f3]; exact ⟨zN.cs, [], rfl, zN_hn S1, List.nodup_nil, fun _ h => (List.not_mem_nil h).elim, by show pdep (er zN) ≤ _; simp [zN, er, pdep, ers, pdeps]⟩
  · rw [f3]; exact ⟨cs, F, rfl, f4, f5, f6, by show pdep u ≤ _; omega⟩
end Go.Proofs.YtmkmakokgfigoaaDoor
namespace Go.Proofs.YtmkmakokgfigoaaDoor
open Go.Proofs.YtmkmakokgfigoaaDoor.VM Go.RowKit
set_option maxRecDepth 100000
set_option linter.unusedVariables false
set_option linter.unusedSimpArgs false
set_option maxHeartbeats 4000000
/-! The law TreeOwn. -/
theorem t9 (x : Nd) (hx : x.Ok) (ps : List Int) (fp : Sl) (hf : fp = .nil → ps = []) (hp : PsOk ps) (hl : ps.length ≤ 2 ^ 62) (y : Nd) (hy : y.Ok) (S : St) : CallQ Tryd.prog TC 9 [x.v, slV fp (ps.map pI), y.v] S fun r S1 => r = .bool true := by
  have hA : few x = true → few y = true → ∀ S, CallQ Tryd.prog TC 23 [x.v, slV fp (ps.map pI), y.v] S fun r S1 => (∃ cs F, r = .tuple [.agg cs, .int .i64 (putV x ps y).2] ∧ HN S1 (putV x ps y).1 cs F ∧ F.Nodup ∧ (∀ j ∈ F, S.next ≤ j) ∧ pdep (putV x ps y).1 ≤ S1.next + 2) ∧ Keep S S1 :=
    fun h1 h2 S => CallQ.mono (t23 x hx ps fp hf hp hl y hy S) fun r S1 h => ⟨putH_v h1 h2 h.1, h.2⟩
  have hB : few x = true → few y = true → ∀ S, CallQ Tryd.prog TC 24 [x.v, slV fp (ps.map pI), y.v] S fun r S1 => (∃ z : Nd, r = .tuple [z.v, .int .i64 (putV x ps y).2] ∧ er z = (putV x ps y).1 ∧ z.Ok) ∧ Keep S S1 :=
    fun h1 h2 S => CallQ.mono (t24 x hx ps fp hf hp hl y hy S) fun r S1 h => ⟨putR_v h1 h2 h.1, h.2⟩
  have hfx := t11 x hx
  have hfy := t11 y hy
  have fin : ∀ S, CallQ Tryd.prog TC 18 [] S fun r S1 => S1 = S ∧ r = .bool true := t18
  generalize (putV x ps y).1 = u at *
  generalize (putV x ps y).2 = e at *
  generalize few x = fx at *
  generalize few y = fy at *
  obtain ⟨kind, n, neg, dg, ex, tx, fb, bs, fk, keys, fd, kids⟩ := x
  obtain ⟨kind', n', neg', dg', ex', tx', fb', bs', fk', keys', fd', kids'⟩ := y
  obtain ⟨PS, hPS⟩ : ∃ PS, PS = slV fp (ps.map pI) := ⟨_, rfl⟩
  rw [← hPS] at hA hB ⊢
  have hPSv : PS = .nils ∨ ∃ l t, PS = .lst l t := by
    rw [hPS]; cases fp with
    | nil => exact .inl rfl
    | lst t => exact .inr ⟨_, t, rfl⟩
  clear hPS
  rcases hPSv with rfl | ⟨l, t, rfl⟩
  all_goals
    refine CallQ.of rfl (by kernel_rfl : Tryd.prog.funcs[9]? = some Tryd.f9) rfl (by decide) ?_
    conv => whnf
    refine CallQ.mono (hfx S) ?_
    rintro r S1 ⟨rfl, k1⟩
    cases fx
    · conv => whnf
      refine CallQ.mono (fin S1) ?_
      rintro r S2 ⟨rfl, rfl⟩
      conv => whnf
      rfl
    conv => whnf
    refine CallQ.mono (hfy S1) ?_
    rintro r S2 ⟨rfl, k2⟩
    cases fy
    · conv => whnf
      refine CallQ.mono (fin S2) ?_
      rintro r S2 ⟨rfl, rfl⟩
      conv => whnf
      rfl
    conv => whnf
    refine CallQ.mono (hB rfl rfl S2) ?_
    rintro r S3 ⟨⟨z, rfl, hzu, hzo⟩, k3⟩
    have hown := t25 (cnt z) z hzo (Nat.le_refl _)
    have hfz := t11 z hzo
    have hfu : few z = decide (pcnt u ≤ 1024) := by
      have : pcnt u = cnt z := by rw [← hzu]; exact er_pcnt z
      rw [this]; rfl
    obtain ⟨Z, hZ⟩ : ∃ Z, Z = z := ⟨_, rfl⟩
    rw [hfu] at hfz
    obtain ⟨kind2, n2', neg2, dg2, ex2, tx2, fb2, bs2, fk2, keys2, fd2, kids2⟩ := z
    conv => whnf
    refine ⟨_, _, cells_new _ _, store_agg rfl rfl (nd_leaf ..), ?_⟩
    conv => whnf
    generalize hS4 : (S3.new _).set S3.next _ = S4
    have a4 : S4.cells S3.next = some (Nd.cs (.mk kind2 n2' neg2 dg2 ex2 tx2 fb2 bs2 fk2 keys2 fd2 kids2)) := by rw [← hS4]; exact cells_set _ _ _
    have n4 : S4.next = S3.next + 1 := by rw [← hS4]; rfl
    clear hS4
    refine ⟨_, a4, ?_⟩
    conv => whnf
    refine CallQ.mono (hown S4) ?_
    rintro r S5 ⟨⟨w, rfl, hwz⟩, k5⟩
    have n5 := k5.next
    have a5 := (cells_keep k5 (j := S3.next) (by omega)).trans a4
    have hwu : er w = u := hwz.1.trans hzu
    have hwo := hwz.2.1
    have hboth := fun cs F S h1 h2 h3 => t21h u cs F w hwo S h1 h2 h3 hwu
    clear hwz hwu hwo
    obtain ⟨kind3, n3', neg3, dg3, ex3, tx3, fb3, bs3, fk3, keys3, fd3, kids3⟩ := w
    conv => whnf
    refine ⟨_, _, cells_new _ _, store_agg rfl rfl (nd_leaf ..), ?_⟩
    conv => whnf
    generalize hS6 : (S5.new _).set S5.next _ = S6
    have b6 : S6.cells S5.next = some (Nd.cs (.mk kind3 n3' neg3 dg3 ex3 tx3 fb3 bs3 fk3 keys3 fd3 kids3)) := by rw [← hS6]; exact cells_set _ _ _
    have a6 := (congrArg (fun s => s.cells S3.next) hS6).symm.trans (cells_set_ne (cells_new_ne a5 (by omega)) (by omega))
    have n6 : S6.next = S5.next + 1 := by rw [← hS6]; rfl
    clear hS6
    refine ⟨_, a6, ?_⟩
    conv => whnf
    refine CallQ.mono (hfz S6) ?_
    rintro r S7 ⟨rfl, k7⟩
    have n7 := k7.next
    have b7 := (cells_keep k7 (j := S5.next) (by omega)).trans b6
    generalize hfd : decide (pcnt u ≤ 1024) = fu
    have hfm : ∀ cs F S, HN S u cs F → CallQ Tryd.prog TC 11 [.agg cs] S fun r S1 => r = .bool fu ∧ Keep S S1 := fun cs F S h => by rw [← hfd]; exact t11h u S cs F h
    cases fu
    · conv => whnf
      refine CallQ.mono (fin S7) ?_
      rintro r S2 ⟨rfl, rfl⟩
      conv => whnf
      rfl
    conv => whnf
    refine CallQ.mono (hA rfl rfl S7) ?_
    rintro r S8 ⟨⟨cs, F, rfl, hn, hnd, hF, hdp⟩, k8⟩
    have n8 := k8.next
    have b8 := (cells_keep k8 (j := S5.next) (by omega)).trans b7
    obtain ⟨hl9, hlf, _⟩ := hn_cells hn
    have hspoil := fun S h => t26 (pcnt u) u (Nat.le_refl _) S cs F h hnd
    have hfm1 := hfm cs F
    have hnf := fun S1 h1 h2 => HN.frame (S := S8) (S1 := S1) h1 u hn h2
    have ltF := HN.lt _ hn
    clear hn
    obtain ⟨q0, q1, q2, q3, q4, q5, q6, q7, q8, rfl⟩ := nine hl9
    conv => whnf
    refine ⟨_, _, cells_new _ _, store_agg rfl rfl hlf, ?_⟩
    conv => whnf
    generalize hS9 : (S8.new _).set S8.next _ = S9
    have n9 : S9.next = S8.next + 1 := by rw [← hS9]; rfl
    have c9 : S9.cells S8.next = some [q0, q1, q2, q3, q4, q5, q6, q7, q8] := by rw [← hS9]; exact cells_set _ _ _
    have m9 : ∀ j, j < S8.next → S9.mem j = S8.mem j := fun j hj => by rw [← hS9, set_ne (by omega)]; exact mem_new_ne rfl (by omega)
    have b9 := (show S9.cells S5.next = S8.cells S5.next by unfold St.cells; rw [m9 _ (by omega)]).trans b8
    have hn9 := hnf S9 (by omega) fun j hj => m9 j (ltF j hj)
    clear hS9
    intro c hc
    cases c
    case' false =>
      conv => whnf
      have bT := b9
      obtain ⟨T, hT⟩ : ∃ T, T = S9 := ⟨_, rfl⟩
      have nT : S9.next ≤ T.next := by rw [hT]; exact Nat.le_refl _
      rw [← hT] at bT ⊢
    case' true =>
      conv => whnf
      refine ⟨_, c9, ?_⟩
      conv => whnf
      refine CallQ.mono (hfm1 S9 hn9) ?_
      rintro r S10 ⟨rfl, k10⟩
      have n10 := k10.next
      have c10 := (cells_keep k10 (j := S8.next) (by omega)).trans c9
      have b10 := (cells_keep k10 (j := S5.next) (by omega)).trans b9
      have hn10 := HN.frame (S := S9) (S1 := S10) k10.next u hn9 fun j hj => k10.mem j (by have := ltF j hj; omega)
      conv => whnf
      refine ⟨_, c10, ?_⟩
      conv => whnf
      refine CallQ.mono (hspoil S10 hn10) ?_
      rintro r T ⟨rfl, hsp⟩
      have nT : S9.next ≤ T.next := Nat.le_trans n10 hsp.1
      have bT := (show T.cells S5.next = S10.cells S5.next by unfold St.cells; rw [hsp.2 S5.next (by omega) (fun h => by have := hF _ h; omega)]).trans b10
    all_goals
      clear hfm1 hspoil hn9 b9 c9 hnf
      conv => whnf
      refine CallQ.mono (hA rfl rfl T) ?_
      rintro r S12 ⟨⟨ds, G, rfl, hm, hmd, hG, hdq⟩, k12⟩
      have n12 := k12.next
      have b12 := (cells_keep k12 (j := S5.next) (by omega)).trans bT
      obtain ⟨hm9, hmf, _⟩ := hn_cells hm
      have ltG := HN.lt _ hm
      have hmfr := fun S1 h1 h2 => HN.frame (S := S12) (S1 := S1) h1 u hm h2
      have hbo := hboth ds G
      clear hm
      obtain ⟨p0, p1, p2, p3, p4, p5, p6, p7, p8, rfl⟩ := nine hm9
      conv => whnf
      refine ⟨_, _, cells_new _ _, store_agg rfl rfl hmf, ?_⟩
      conv => whnf
      generalize hS13 : (S12.new _).set S12.next _ = S13
      have n13 : S13.next = S12.next + 1 := by rw [← hS13]; rfl
      have c13 : S13.cells S12.next = some [p0, p1, p2, p3, p4, p5, p6, p7, p8] := by rw [← hS13]; exact cells_set _ _ _
      have m13 : ∀ j, j < S12.next → S13.mem j = S12.mem j := fun j hj => by rw [← hS13, set_ne (by omega)]; exact mem_new_ne rfl (by omega)
      have b13 := (show S13.cells S5.next = S12.cells S5.next by unfold St.cells; rw [m13 _ (by omega)]).trans b12
      have hm13 := hmfr S13 (by omega) fun j hj => m13 j (ltG j hj)
      clear hS13
      intro c hc2
      obtain rfl : c = true := by rw [hc2]; simp
      conv => whnf
      refine ⟨_, c13, ?_⟩
      conv => whnf
      refine ⟨_, b13, ?_⟩
      conv => whnf
      refine CallQ.mono (hbo S13 hm13 hmd (by omega)) ?_
      rintro r S14 rfl
      conv => whnf
      refine CallQ.mono (fin S14) ?_
      rintro r S15 ⟨rfl, rfl⟩
      conv => whnf
      rfl
end Go.Proofs.YtmkmakokgfigoaaDoor
