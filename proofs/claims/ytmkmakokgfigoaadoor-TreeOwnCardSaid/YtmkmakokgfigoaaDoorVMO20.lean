import Derived.Test.YtmkmakokgfigoaaDoorVMO18
namespace Go.Proofs.YtmkmakokgfigoaaDoor
open Go.Proofs.YtmkmakokgfigoaaDoor.VM
set_option maxRecDepth 100000
set_option linter.unusedVariables false
set_option maxHeartbeats 1000000

def zN : Nd := .mk 0 0 false [] 0 [] .nil [] .nil [] .nil []
theorem zN_ok : zN.Ok := ⟨fun _ => rfl, fun _ => rfl, fun _ => rfl, by simp, by simp, by simp, trivial, trivial⟩
def Sl.lo : Sl → Sl
  | .nil => .nil
  | .lst _ => .lst .lost
/-- Nothing may be appended in place. -/
def Nd.lo : Nd → Nd
  | .mk kind n neg dg ex tx fb bs fk keys fd kids => .mk kind n neg dg ex tx fb.lo bs fk.lo keys fd.lo kids
theorem lo_er (x : Nd) : er x.lo = er x := by cases x; rfl
theorem lo_cnt (x : Nd) : cnt x.lo = cnt x := by cases x; simp [Nd.lo, cnt]
theorem lo_dep (x : Nd) : dep x.lo = dep x := by cases x; simp [Nd.lo, dep]
theorem lo_ok {x : Nd} (h : x.Ok) : x.lo.Ok := by
  obtain ⟨kind, n, neg, dg, ex, tx, fb, bs, fk, keys, fd, kids⟩ := x
  obtain ⟨x1, x2, x3, x4, x5, x6, x7, x8⟩ := h
  refine ⟨fun h => x1 ?_, fun h => x2 ?_, fun h => x3 ?_, x4, x5, x6, x7, x8⟩
  · cases fb; rfl; cases h
  · cases fk; rfl; cases h
  · cases fd; rfl; cases h
def FoundV (o : Option Nd) : AV := match o with
  | some y => .tuple [y.lo.v, .int .i64 0]
  | none => .tuple [zN.v, .int .i64 19]
theorem cs_leaf (x : Nd) : x.cs.all AV.leafOk = true := by cases x; exact nd_leaf ..
theorem cs_len (x : Nd) : x.cs.length = 9 := by cases x; rfl
theorem v_cs (x : Nd) : x.v = .agg x.cs := by cases x; rfl

theorem shed_lo (x : Nd) : (AV.agg x.cs).shed = x.lo.v := by
  obtain ⟨kind, n, neg, dg, ex, tx, fb, bs, fk, keys, fd, kids⟩ := x
  cases fb <;> cases fk <;> cases fd <;> rfl
theorem found_lo (x : Nd) : (AV.tuple [.agg x.cs, .int .i64 0]).shed2 = FoundV (some x) := by
  show AV.tuple [(AV.agg x.cs).shed, _] = _
  rw [shed_lo]; rfl
theorem t35 (x : Nd) (hx : x.Ok) (ps : List Int) (fp : Sl) (hf : fp = .nil → ps = []) (hp : PsOk ps) (hl : ps.length ≤ 2 ^ 62) (S : St) : CallQ Tryd.prog TC 35 [x.v, slV fp (ps.map pI)] S fun r S1 => r = FoundV (findN x ps) ∧ Keep S S1 := by
  have hxo := hx
  obtain ⟨X, hX⟩ : ∃ X, X = x := ⟨_, rfl⟩
  refine CallQ.mono (Q := fun r S1 => r = FoundV (findN X ps) ∧ Keep S S1) ?_ (by rw [hX]; exact fun _ _ h => h)
  have hX' := hX
  obtain ⟨kind, n, neg, dg, ex, tx, fb, bs, fk, keys, fd, kids⟩ := x
  refine CallQ.of rfl (by kernel_rfl : Tryd.prog.funcs[35]? = some Tryd.f35) rfl (by decide) ?_
  rcases fp with _ | tp
  · obtain rfl := hf rfl
    conv => whnf
    generalize hS1 : (S.new _).new _ = S1
    have k1 : Keep S S1 := by rw [← hS1]; exact ((Keep.refl S).new _).new _
    have a1 : S1.cells S.next = some X.cs := by rw [← hS1, hX]; exact cells_new_ne (cells_new _ _) (by show S.next ≠ S.next + 1; omega)
    have a2 : S1.cells (S.next + 1) = some zN.cs := by rw [← hS1]; exact cells_new _ _
    refine CodeQ.loop (fun (i : Nat) => pat 43 [(1, .nils), (2, .ptr S.next 0), (4, .ptr (S.next + 1) 0), (6, .int .i64 0)]) (fun m i S2 => S2 = S1) ?_ 0 0 _ _ rfl ⟨rfl, rfl, rfl, rfl, trivial⟩
    rintro m i S2 d rfl
    conv => whnf
    intro c hc
    obtain rfl : c = false := by rw [hc]; rfl
    conv => whnf
    rw [hX] at a1
    refine ⟨_, a1, ?_⟩
    conv => whnf
    refine ⟨_, _, a2, store_agg rfl rfl (nd_leaf ..), ?_⟩
    conv => whnf
    refine ⟨AV.agg (Nd.cs (.mk kind n neg dg ex tx fb bs fk keys fd kids)), ?_, ?_⟩
    · show (St.cells _ (S.next + 1)).bind _ = _
      rw [cells_set]; rfl
    conv => whnf
    refine ⟨?_, k1.set _ _ (by omega)⟩
    rw [hX]
    exact found_lo _
  · conv => whnf
    generalize hS1 : (S.new _).new _ = S1
    have k1 : Keep S S1 := by rw [← hS1]; exact ((Keep.refl S).new _).new _
    have a1 : S1.cells S.next = some X.cs := by rw [← hS1, hX]; exact cells_new_ne (cells_new _ _) (by show S.next ≠ S.next + 1; omega)
    have a2 : S1.cells (S.next + 1) = some zN.cs := by rw [← hS1]; exact cells_new _ _
    have n1 : S1.next = S.next + 2 := by rw [← hS1]; rfl
    rw [← hX] at hxo
    refine CodeQ.loop (fun (q : Nat × Nd) => pat 43 [(1, .lst (ps.map pI) tp), (2, .ptr S.next 0), (4, .ptr (S.next + 1) 0), (6, .int .i64 q.1)]) (fun m q S2 => Keep S S2 ∧ S.next + 2 ≤ S2.next ∧ S2.cells S.next = some q.2.cs ∧ S2.cells (S.next + 1) = some zN.cs ∧ q.1 + m = ps.length ∧ findN X ps = findN q.2 (ps.drop q.1) ∧ q.2.Ok) ?_ ps.length (0, X) _ _ ⟨k1, by omega, a1, a2, by simp, rfl, hxo⟩ ⟨rfl, rfl, rfl, rfl, trivial⟩
    clear hX hxo a1 a2 hx hX'
    rintro m ⟨i, y⟩ S2 d ⟨k2, n2, b1, b2, hi, hfi, hy⟩
    dsimp only at *
    conv => whnf
    intro c hc
    cases c
    · have : ps.length ≤ i := by simpa using hc
      rw [List.drop_eq_nil_iff.2 this] at hfi
      obtain ⟨kind, n, neg, dg, ex, tx, fb, bs, fk, keys, fd, kids⟩ := y
      conv => whnf
      refine ⟨_, b1, ?_⟩
      conv => whnf
      refine ⟨_, _, b2, store_agg rfl rfl (nd_leaf ..), ?_⟩
      conv => whnf
      refine ⟨AV.agg (Nd.cs (.mk kind n neg dg ex tx fb bs fk keys fd kids)), ?_, ?_⟩
      · show (St.cells _ (S.next + 1)).bind _ = _
        rw [cells_set]; rfl
      conv => whnf
      refine ⟨?_, k2.set _ _ (by omega)⟩
      rw [hfi]
      exact found_lo _
    · have hlt : i < ps.length := by simpa using hc
      have hk := hp ps[i] (List.getElem_mem hlt)
      have g1 : (ps.map pI)[i]? = some (.int .i64 ps[i]) := by simp [hlt, pI]
      rw [drop_cons hlt] at hfi
      simp only [findN] at hfi
      have hcall := t47 y hy ps[i] hk.1 hk.2
      have hso : ∀ z, stepN y ps[i] = some z → z.Ok := fun z h => step_ok hy h
      generalize hst : stepN y ps[i] = st at *
      have hway : ∀ r, WayOk y ps[i] r → ∃ (j : Int) (key ok : Bool), r = .tuple [.int .i64 j, .bool key, .bool ok] ∧ (ok = false → st = none) ∧ (ok = true → 0 ≤ j ∧ j < 2 ^ 63 ∧ ∃ z, st = some z ∧ (if key = true then y.keys else y.kids)[j.toNat]? = some z) := by
        rintro r ⟨j, key, ok, h1, h2, h3⟩
        rw [hst] at h2 h3
        exact ⟨j, key, ok, h1, h2, h3⟩
      obtain ⟨kind, n, neg, dg, ex, tx, fb, bs, fk, keys, fd, kids⟩ := y
      obtain ⟨y1, y2, y3, y4, y5, y6, y7, y8⟩ := hy
      conv => whnf
      refine ⟨[0, 1, 2, 3, 4, 5, 6, 7, 8, 9, 10, 11, 12], [], by kernel_rfl, by kernel_rfl, by kernel_rfl, ?_⟩
      conv => whnf
      refine ⟨_, b1, ?_⟩
      conv => whnf
      refine ⟨by omega, _, g1, rfl, ?_⟩
      conv => whnf
      refine CallQ.mono (hcall S2) ?_
      rintro r S3 ⟨hr, k3⟩
      obtain ⟨j, key, ok, rfl, h2, h3⟩ := hway r hr
      have c1 := (cells_keep k3 (j := S.next) (by omega)).trans b1
      have c2 := (cells_keep k3 (j := S.next + 1) (by omega)).trans b2
      have n3 := k3.next
      cases ok
      · conv => whnf
        refine ⟨_, _, c2, store_agg rfl rfl rfl, ?_⟩
        conv => whnf
        refine ⟨AV.agg zN.cs, ?_, ?_⟩
        · show (St.cells _ (S.next + 1)).bind _ = _
          rw [cells_set]; rfl
        conv => whnf
        refine ⟨?_, (k2.trans k3).set _ _ (by omega)⟩
        rw [hfi, h2 rfl]
        rfl
      · obtain ⟨q1, q2, z, rfl, q3⟩ := h3 rfl
        have hz := hso z rfl
        simp only [Option.bind_some] at hfi
        cases key
        · have q4 : kids[j.toNat]? = some z := q3
          rcases fd with _ | td
          · exact absurd q4 (by rw [y3 rfl]; simp)
          have g2 : (Nd.vs kids)[j.toNat]? = some z.v := by rw [vs_map, List.getElem?_map, q4]; rfl
          conv => whnf
          refine ⟨_, c1, ?_⟩
          obtain ⟨kind', n', neg', dg', ex', tx', fb', bs', fk', keys', fd', kids'⟩ := z
          conv => whnf
          refine ⟨q1, _, g2, rfl, ?_⟩
          conv => whnf
          refine ⟨_, _, c1, store_agg rfl rfl (nd_leaf ..), ?_⟩
          conv => whnf
          refine ⟨m - 1, (i + 1, .mk kind' n' neg' dg' ex' tx' fb' bs' fk' keys' fd' kids'), by omega, ⟨(k2.trans k3).set _ _ (Nat.le_refl _), by show _ ≤ S3.next; omega, cells_set _ _ _, cells_set_ne c2 (by omega), by dsimp only; omega, hfi, hz⟩, ⟨rfl, rfl, rfl, ?_, trivial⟩⟩
          rw [wrap_i64 (by omega) (by omega)]; rfl
        · have q4 : keys[j.toNat]? = some z := q3
          rcases fk with _ | td
          · exact absurd q4 (by rw [y2 rfl]; simp)
          have g2 : (Nd.vs keys)[j.toNat]? = some z.v := by rw [vs_map, List.getElem?_map, q4]; rfl
          conv => whnf
          refine ⟨_, c1, ?_⟩
          obtain ⟨kind', n', neg', dg', ex', tx', fb', bs', fk', keys', fd', kids'⟩ := z
          conv => whnf
          refine ⟨q1, _, g2, rfl, ?_⟩
          conv => whnf
          refine ⟨_, _, c1, store_agg rfl rfl (nd_leaf ..), ?_⟩
          conv => whnf
          refine ⟨m - 1, (i + 1, .mk kind' n' neg' dg' ex' tx' fb' bs' fk' keys' fd' kids'), by omega, ⟨(k2.trans k3).set _ _ (Nat.le_refl _), by show _ ≤ S3.next; omega, cells_set _ _ _, cells_set_ne c2 (by omega), by dsimp only; omega, hfi, hz⟩, ⟨rfl, rfl, rfl, ?_, trivial⟩⟩
          rw [wrap_i64 (by omega) (by omega)]; rfl
end Go.Proofs.YtmkmakokgfigoaaDoor
namespace Go.Proofs.YtmkmakokgfigoaaDoor
open Go.Proofs.YtmkmakokgfigoaaDoor.VM
set_option maxRecDepth 100000
set_option linter.unusedVariables false
set_option maxHeartbeats 1000000

mutual
def pcnt : Pl → Nat
  | .mk _ _ _ _ _ _ _ keys kids => 1 + pcnts keys + pcnts kids
def pcnts : List Pl → Nat
  | [] => 0
  | x :: xs => pcnt x + pcnts xs
end
mutual
theorem er_pcnt : ∀ x : Nd, pcnt (er x) = cnt x
  | .mk _ _ _ _ _ _ _ _ _ keys _ kids => by simp only [er, pcnt, cnt, ers_pcnts keys, ers_pcnts kids]
theorem ers_pcnts : ∀ xs : List Nd, pcnts (ers xs) = cnts xs
  | [] => rfl
  | x :: xs => by simp only [ers, pcnts, cnts, er_pcnt x, ers_pcnts xs]
end
theorem cnt_er {x y : Nd} (h : er x = er y) : cnt x = cnt y := by rw [← er_pcnt, ← er_pcnt, h]
theorem cnts_ers {x y : List Nd} (h : ers x = ers y) : cnts x = cnts y := by rw [← ers_pcnts, ← ers_pcnts, h]
theorem len_cnts : ∀ xs : List Nd, xs.length ≤ cnts xs
  | [] => Nat.le_refl _
  | x :: xs => by have := len_cnts xs; have := cnt_pos x; simp only [cnts, List.length_cons]; omega

theorem el23 : Elem Tryd.prog 23 5 1 1 false (.int .u8 0) := ⟨by kernel_rfl, by kernel_rfl, by kernel_rfl, by kernel_rfl, by kernel_rfl, rfl, by decide⟩
theorem el24 : Elem Tryd.prog 24 26 9 136 true zN.v := ⟨by kernel_rfl, by kernel_rfl, by kernel_rfl, by kernel_rfl, by kernel_rfl, rfl, by decide⟩

theorem wellA_vs : ∀ xs : List Nd, wellA 9 (Nd.vs xs) = true
  | [] => rfl
  | x :: xs => by
    rw [Nd.vs]
    show (decide (x.v.cells.length = 9) && x.v.cells.all AV.leafOk && wellA 9 (Nd.vs xs)) = true
    rw [wellA_vs xs, v_cs]
    simp [AV.cells, cs_len, cs_leaf]
/-- A copy of a node. -/
def Cp (x y : Nd) : Prop := er y = er x ∧ y.Ok ∧ y.v.shed = y.v
theorem vs_app (xs ys : List Nd) : Nd.vs (xs ++ ys) = Nd.vs xs ++ Nd.vs ys := by rw [vs_map, vs_map, vs_map, List.map_append]
theorem ers_app (xs ys : List Nd) : ers (xs ++ ys) = ers xs ++ ers ys := by rw [ers_map, ers_map, ers_map, List.map_append]
theorem oks_app {xs : List Nd} {y : Nd} (h : Nd.Oks xs) (hy : y.Ok) : Nd.Oks (xs ++ [y]) := oks_iff.2 fun x hx => by
  rcases List.mem_append.1 hx with hx | hx
  · exact oks_iff.1 h x hx
  · rw [List.mem_singleton.1 hx]; exact hy

end Go.Proofs.YtmkmakokgfigoaaDoor
