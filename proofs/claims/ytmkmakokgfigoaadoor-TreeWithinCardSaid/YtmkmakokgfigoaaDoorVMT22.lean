import Derived.Test.YtmkmakokgfigoaaDoorVMT18
namespace Go.Proofs.YtmkmakokgfigoaaDoor
open Go.Proofs.YtmkmakokgfigoaaDoor.VM
set_option maxRecDepth 100000
set_option linter.unusedVariables false
set_option maxHeartbeats 1000000

def zN : Nd := .mk 0 0 false [] 0 [] .nil [] .nil [] .nil []
theorem zN_ok : zN.Ok := ⟨fun _ => rfl, fun _ => rfl, fun _ => rfl, by simp, by simp, by simp, trivial, trivial⟩
def Sl.lo : Sl → Sl
  | .nil => .nil
  | .lst _ => .lst .lost
/-- Nothing may be appended in place. -/
def Nd.lo : Nd → Nd
  | .mk kind n neg dg ex tx fb bs fk keys fd kids => .mk kind n neg dg ex tx fb.lo bs fk.lo keys fd.lo kids
theorem lo_er (x : Nd) : er x.lo = er x := by cases x; rfl
theorem lo_cnt (x : Nd) : cnt x.lo = cnt x := by cases x; simp [Nd.lo, cnt]
theorem lo_dep (x : Nd) : dep x.lo = dep x := by cases x; simp [Nd.lo, dep]
theorem lo_ok {x : Nd} (h : x.Ok) : x.lo.Ok := by
  obtain ⟨kind, n, neg, dg, ex, tx, fb, bs, fk, keys, fd, kids⟩ := x
  obtain ⟨x1, x2, x3, x4, x5, x6, x7, x8⟩ := h
  refine ⟨fun h => x1 ?_, fun h => x2 ?_, fun h => x3 ?_, x4, x5, x6, x7, x8⟩
  · cases fb; rfl; cases h
  · cases fk; rfl; cases h
  · cases fd; rfl; cases h
def FoundV (o : Option Nd) : AV := match o with
  | some y => .tuple [y.lo.v, .int .i64 0]
  | none => .tuple [zN.v, .int .i64 19]
theorem cs_leaf (x : Nd) : x.cs.all AV.leafOk = true := by cases x; exact nd_leaf ..
theorem cs_len (x : Nd) : x.cs.length = 9 := by cases x; rfl
theorem v_cs (x : Nd) : x.v = .agg x.cs := by cases x; rfl

theorem shed_lo (x : Nd) : (AV.agg x.cs).shed = x.lo.v := by
  obtain ⟨kind, n, neg, dg, ex, tx, fb, bs, fk, keys, fd, kids⟩ := x
  cases fb <;> cases fk <;> cases fd <;> rfl
theorem found_lo (x : Nd) : (AV.tuple [.agg x.cs, .int .i64 0]).shed2 = FoundV (some x) := by
  show AV.tuple [(AV.agg x.cs).shed, _] = _
  rw [shed_lo]; rfl
theorem t35 (x : Nd) (hx : x.Ok) (ps : List Int) (fp : Sl) (hf : fp = .nil → ps = []) (hp : PsOk ps) (hl : ps.length ≤ 2 ^ 62) (S : St) : CallQ Tryd.prog TC 35 [x.v, slV fp (ps.map pI)] S fun r S1 => r = FoundV (findN x ps) ∧ Keep S S1 := by
  have hxo := hx
  obtain ⟨X, hX⟩ : ∃ X, X = x := ⟨_, rfl⟩
  refine CallQ.mono (Q := fun r S1 => r = FoundV (findN X ps) ∧ Keep S S1) ?_ (by rw [hX]; exact fun _ _ h => h)
  have hX' := hX
  obtain ⟨kind, n, neg, dg, ex, tx, fb, bs, fk, keys, fd, kids⟩ := x
  refine CallQ.of rfl (by kernel_rfl : Tryd.prog.funcs[35]? = some Tryd.f35) rfl (by decide) ?_
  rcases fp with _ | tp
  · obtain rfl := hf rfl
    conv => whnf
    generalize hS1 : (S.new _).new _ = S1
    have k1 : Keep S S1 := by rw [← hS1]; exact ((Keep.refl S).new _).new _
    have a1 : S1.cells S.next = some X.cs := by rw [← hS1, hX]; exact cells_new_ne (cells_new _ _) (by show S.next ≠ S.next + 1; omega)
    have a2 : S1.cells (S.next + 1) = some zN.cs := by rw [← hS1]; exact cells_new _ _
    refine CodeQ.loop (fun (i : Nat) => pat 43 [(1, .nils), (2, .ptr S.next 0), (4, .ptr (S.next + 1) 0), (6, .int .i64 0)]) (fun m i S2 => S2 = S1) ?_ 0 0 _ _ rfl ⟨rfl, rfl, rfl, rfl, trivial⟩
    rintro m i S2 d rfl
    conv => whnf
    intro c hc
    obtain rfl : c = false := by rw [hc]; rfl
    conv => whnf
    rw [hX] at a1
    refine ⟨_, a1, ?_⟩
    conv => whnf
    refine ⟨_, _, a2, store_agg rfl rfl (nd_leaf ..), ?_⟩
    conv => whnf
    refine ⟨AV.agg (Nd.cs (.mk kind n neg dg ex tx fb bs fk keys fd kids)), ?_, ?_⟩
    · show (St.cells _ (S.next + 1)).bind _ = _
      rw [cells_set]; rfl
    conv => whnf
    refine ⟨?_, k1.set _ _ (by omega)⟩
    rw [hX]
    exact found_lo _
  · conv => whnf
    generalize hS1 : (S.new _).new _ = S1
    have k1 : Keep S S1 := by rw [← hS1]; exact ((Keep.refl S).new _).new _
    have a1 : S1.cells S.next = some X.cs := by rw [← hS1, hX]; exact cells_new_ne (cells_new _ _) (by show S.next ≠ S.next + 1; omega)
    have a2 : S1.cells (S.next + 1) = some zN.cs := by rw [← hS1]; exact cells_new _ _
    have n1 : S1.next = S.next + 2 := by rw [← hS1]; rfl
    rw [← hX] at hxo
    refine CodeQ.loop (fun (q : Nat × Nd) => pat 43 [(1, .lst (ps.map pI) tp), (2, .ptr S.next 0), (4, .ptr (S.next + 1) 0), (6, .int .i64 q.1)]) (fun m q S2 => Keep S S2 ∧ S.next + 2 ≤ S2.next ∧ S2.cells S.next = some q.2.cs ∧ S2.cells (S.next + 1) = some zN.cs ∧ q.1 + m = ps.length ∧ findN X ps = findN q.2 (ps.drop q.1) ∧ q.2.Ok) ?_ ps.length (0, X) _ _ ⟨k1, by omega, a1, a2, by simp, rfl, hxo⟩ ⟨rfl, rfl, rfl, rfl, trivial⟩
    clear hX hxo a1 a2 hx hX'
    rintro m ⟨i, y⟩ S2 d ⟨k2, n2, b1, b2, hi, hfi, hy⟩
    dsimp only at *
    conv => whnf
    intro c hc
    cases c
    · have : ps.length ≤ i := by simpa using hc
      rw [List.drop_eq_nil_iff.2 this] at hfi
      obtain ⟨kind, n, neg, dg, ex, tx, fb, bs, fk, keys, fd, kids⟩ := y
      conv => whnf
      refine ⟨_, b1, ?_⟩
      conv => whnf
      refine ⟨_, _, b2, store_agg rfl rfl (nd_leaf ..), ?_⟩
      conv => whnf
      refine ⟨AV.agg (Nd.cs (.mk kind n neg dg ex tx fb bs fk keys fd kids)), ?_, ?_⟩
      · show (St.cells _ (S.next + 1)).bind _ = _
        rw [cells_set]; rfl
      conv => whnf
      refine ⟨?_, k2.set _ _ (by omega)⟩
      rw [hfi]
      exact found_lo _
    · have hlt : i < ps.length := by simpa using hc
      have hk := hp ps[i] (List.getElem_mem hlt)
      have g1 : (ps.map pI)[i]? = some (.int .i64 ps[i]) := by simp [hlt, pI]
      rw [drop_cons hlt] at hfi
      simp only [findN] at hfi
      have hcall := t47 y hy ps[i] hk.1 hk.2
      have hso : ∀ z, stepN y ps[i] = some z → z.Ok := fun z h => step_ok hy h
      generalize hst : stepN y ps[i] = st at *
      have hway : ∀ r, WayOk y ps[i] r → ∃ (j : Int) (key ok : Bool), r = .tuple [.int .i64 j, .bool key, .bool ok] ∧ (ok = false → st = none) ∧ (ok = true → 0 ≤ j ∧ j < 2 ^ 63 ∧ ∃ z, st = some z ∧ (if key = true then y.keys else y.kids)[j.toNat]? = some z) := by
        rintro r ⟨j, key, ok, h1, h2, h3⟩
        rw [hst] at h2 h3
        exact ⟨j, key, ok, h1, h2, h3⟩
      obtain ⟨kind, n, neg, dg, ex, tx, fb, bs, fk, keys, fd, kids⟩ := y
      obtain ⟨y1, y2, y3, y4, y5, y6, y7, y8⟩ := hy
      conv => whnf
      refine ⟨[0, 1, 2, 3, 4, 5, 6, 7, 8, 9, 10, 11, 12], [], by kernel_rfl, by kernel_rfl, by kernel_rfl, ?_⟩
      conv => whnf
      refine ⟨_, b1, ?_⟩
      conv => whnf
      refine ⟨by omega, _, g1, rfl, ?_⟩
      conv => whnf
      refine CallQ.mono (hcall S2) ?_
      rintro r S3 ⟨hr, k3⟩
      obtain ⟨j, key, ok, rfl, h2, h3⟩ := hway r hr
      have c1 := (cells_keep k3 (j := S.next) (by omega)).trans b1
      have c2 := (cells_keep k3 (j := S.next + 1) (by omega)).trans b2
      have n3 := k3.next
      cases ok
      · conv => whnf
        refine ⟨_, _, c2, store_agg rfl rfl rfl, ?_⟩
        conv => whnf
        refine ⟨AV.agg zN.cs, ?_, ?_⟩
        · show (St.cells _ (S.next + 1)).bind _ = _
          rw [cells_set]; rfl
        conv => whnf
        refine ⟨?_, (k2.trans k3).set _ _ (by omega)⟩
        rw [hfi, h2 rfl]
        rfl
      · obtain ⟨q1, q2, z, rfl, q3⟩ := h3 rfl
        have hz := hso z rfl
        simp only [Option.bind_some] at hfi
        cases key
        · have q4 : kids[j.toNat]? = some z := q3
          rcases fd with _ | td
          · exact absurd q4 (by rw [y3 rfl]; simp)
          have g2 : (Nd.vs kids)[j.toNat]? = some z.v := by rw [vs_map, List.getElem?_map, q4]; rfl
          conv => whnf
          refine ⟨_, c1, ?_⟩
          obtain ⟨kind', n', neg', dg', ex', tx', fb', bs', fk', keys', fd', kids'⟩ := z
          conv => whnf
          refine ⟨q1, _, g2, rfl, ?_⟩
          conv => whnf
          refine ⟨_, _, c1, store_agg rfl rfl (nd_leaf ..), ?_⟩
          conv => whnf
          refine ⟨m - 1, (i + 1, .mk kind' n' neg' dg' ex' tx' fb' bs' fk' keys' fd' kids'), by omega, ⟨(k2.trans k3).set _ _ (Nat.le_refl _), by show _ ≤ S3.next; omega, cells_set _ _ _, cells_set_ne c2 (by omega), by dsimp only; omega, hfi, hz⟩, ⟨rfl, rfl, rfl, ?_, trivial⟩⟩
          rw [wrap_i64 (by omega) (by omega)]; rfl
        · have q4 : keys[j.toNat]? = some z := q3
          rcases fk with _ | td
          · exact absurd q4 (by rw [y2 rfl]; simp)
          have g2 : (Nd.vs keys)[j.toNat]? = some z.v := by rw [vs_map, List.getElem?_map, q4]; rfl
          conv => whnf
          refine ⟨_, c1, ?_⟩
          obtain ⟨kind', n', neg', dg', ex', tx', fb', bs', fk', keys', fd', kids'⟩ := z
          conv => whnf
          refine ⟨q1, _, g2, rfl, ?_⟩
          conv => whnf
          refine ⟨_, _, c1, store_agg rfl rfl (nd_leaf ..), ?_⟩
          conv => whnf
          refine ⟨m - 1, (i + 1, .mk kind' n' neg' dg' ex' tx' fb' bs' fk' keys' fd' kids'), by omega, ⟨(k2.trans k3).set _ _ (Nat.le_refl _), by show _ ≤ S3.next; omega, cells_set _ _ _, cells_set_ne c2 (by omega), by dsimp only; omega, hfi, hz⟩, ⟨rfl, rfl, rfl, ?_, trivial⟩⟩
          rw [wrap_i64 (by omega) (by omega)]; rfl
end Go.Proofs.YtmkmakokgfigoaaDoor
namespace Go.Proofs.YtmkmakokgfigoaaDoor
open Go.Proofs.YtmkmakokgfigoaaDoor.VM
set_option maxRecDepth 100000
set_option linter.unusedVariables false
set_option maxHeartbeats 1000000

mutual
def pcnt : Pl → Nat
  | .mk _ _ _ _ _ _ _ keys kids => 1 + pcnts keys + pcnts kids
def pcnts : List Pl → Nat
  | [] => 0
  | x :: xs => pcnt x + pcnts xs
end
mutual
theorem er_pcnt : ∀ x : Nd, pcnt (er x) = cnt x
  | .mk _ _ _ _ _ _ _ _ _ keys _ kids => by simp only [er, pcnt, cnt, ers_pcnts keys, ers_pcnts kids]
theorem ers_pcnts : ∀ xs : List Nd, pcnts (ers xs) = cnts xs
  | [] => rfl
  | x :: xs => by simp only [ers, pcnts, cnts, er_pcnt x, ers_pcnts xs]
end
theorem cnt_er {x y : Nd} (h : er x = er y) : cnt x = cnt y := by rw [← er_pcnt, ← er_pcnt, h]
theorem cnts_ers {x y : List Nd} (h : ers x = ers y) : cnts x = cnts y := by rw [← ers_pcnts, ← ers_pcnts, h]
theorem len_cnts : ∀ xs : List Nd, xs.length ≤ cnts xs
  | [] => Nat.le_refl _
  | x :: xs => by have := len_cnts xs; have := cnt_pos x; simp only [cnts, List.length_cons]; omega

theorem el23 : Elem Tryd.prog 23 5 1 1 false (.int .u8 0) := ⟨by kernel_rfl, by kernel_rfl, by kernel_rfl, by kernel_rfl, by kernel_rfl, rfl, by decide⟩
theorem el24 : Elem Tryd.prog 24 26 9 136 true zN.v := ⟨by kernel_rfl, by kernel_rfl, by kernel_rfl, by kernel_rfl, by kernel_rfl, rfl, by decide⟩

theorem t45 (bs : List UInt8) (fb : Sl) (hf : fb = .nil → bs = []) (hl : bs.length ≤ 2 ^ 47) (S : St) : CallQ Tryd.prog TC 45 [slV fb (bs.map u8)] S fun r S1 => r = slV fb.lo (bs.map u8) ∧ Keep S S1 := by
  refine CallQ.of rfl (by kernel_rfl : Tryd.prog.funcs[45]? = some Tryd.f45) rfl (by decide) ?_
  rcases fb with _ | tb
  · conv => whnf
    intro c hc
    obtain rfl : c = true := by rw [hc]
    conv => whnf
    exact ⟨rfl, .refl _⟩
  · conv => whnf
    intro c hc
    obtain rfl : c = false := by rw [hc]
    conv => whnf
    by_cases hb : bs = []
    · subst hb
      refine ⟨_, _, rfl, ?_⟩
      conv => whnf
      exact ⟨rfl, .refl _⟩
    · have hne : ¬ (bs.map u8).length = 0 := by simpa using hb
      refine ⟨.lst (bs.map u8) (.tag S.next), S.new (.tip 5), ?_, ?_⟩
      · have h : builtinA Tryd.prog TC 45 .append #[23, 23] [.lst [] .full, .lst (bs.map u8) tb] S = (appendB TC 45 S 5 1 false 1 (.int .u8 0) (.lst [] .full) (.lst (bs.map u8) tb)).bind retA := by kernel_rfl
        refine h.trans ?_
        unfold appendB
        simp only [elemsA, Option.bind_some, shed_u8]
        rw [if_pos ⟨by decide, rfl, wellA_u8 bs⟩, if_neg hne, if_pos ⟨by simp [sizeOk]; omega, rfl⟩]
        rfl
      conv => whnf
      exact ⟨rfl, (Keep.refl _).new _⟩

theorem wellA_vs : ∀ xs : List Nd, wellA 9 (Nd.vs xs) = true
  | [] => rfl
  | x :: xs => by
    rw [Nd.vs]
    show (decide (x.v.cells.length = 9) && x.v.cells.all AV.leafOk && wellA 9 (Nd.vs xs)) = true
    rw [wellA_vs xs, v_cs]
    simp [AV.cells, cs_len, cs_leaf]
/-- A copy of a node. -/
def Cp (x y : Nd) : Prop := er y = er x ∧ y.Ok ∧ y.v.shed = y.v
theorem vs_app (xs ys : List Nd) : Nd.vs (xs ++ ys) = Nd.vs xs ++ Nd.vs ys := by rw [vs_map, vs_map, vs_map, List.map_append]
theorem ers_app (xs ys : List Nd) : ers (xs ++ ys) = ers xs ++ ers ys := by rw [ers_map, ers_map, ers_map, List.map_append]
theorem oks_app {xs : List Nd} {y : Nd} (h : Nd.Oks xs) (hy : y.Ok) : Nd.Oks (xs ++ [y]) := oks_iff.2 fun x hx => by
  rcases List.mem_append.1 hx with hx | hx
  · exact oks_iff.1 h x hx
  · rw [List.mem_singleton.1 hx]; exact hy

theorem t46_of (N : Nat) (hN : N ≤ 2 ^ 30) (H : ∀ x : Nd, x.Ok → cnt x ≤ N → ∀ S, CallQ Tryd.prog TC 34 [x.v] S fun r S1 => (∃ y, r = y.v ∧ Cp x y) ∧ Keep S S1) (xs : List Nd) (f : Sl) (hf : f = .nil → xs = []) (hx : Nd.Oks xs) (hcn : cnts xs ≤ N) (S : St) :
    CallQ Tryd.prog TC 46 [slV f (Nd.vs xs)] S fun r S1 => (∃ g ys, r = slV g (Nd.vs ys) ∧ (g = .nil → ys = []) ∧ (g = .nil ∨ g = .lst .lost) ∧ Nd.Oks ys ∧ ers ys = ers xs) ∧ Keep S S1 := by
  refine CallQ.of rfl (by kernel_rfl : Tryd.prog.funcs[46]? = some Tryd.f46) rfl (by decide) ?_
  rcases f with _ | tf
  · obtain rfl := hf rfl
    conv => whnf
    refine CodeQ.loop (fun (i : Nat) => pat 19 [(3, .nils), (7, .int .i64 0), (8, .int .i64 0)]) (fun m i S1 => S1 = S) ?_ 0 0 _ _ rfl ⟨rfl, rfl, rfl, trivial⟩
    rintro m i S1 d rfl
    conv => whnf
    intro c hc
    obtain rfl : c = false := by rw [hc]; rfl
    conv => whnf
    exact ⟨⟨.nil, [], rfl, fun _ => rfl, .inl rfl, trivial, rfl⟩, .refl _⟩
  · have hlen : xs.length ≤ 2 ^ 30 := by have := len_cnts xs; omega
    conv => whnf
    refine CodeQ.loop (fun (q : Nat × AV) => pat 19 [(3, q.2), (6, .lst (Nd.vs xs) tf), (7, .int .i64 xs.length), (8, .int .i64 q.1)]) (fun m q S1 => q.1 + m = xs.length ∧ Keep S S1 ∧ ∃ ys, Own 26 S S1 q.2 (Nd.vs ys) ∧ Nd.Oks ys ∧ ers ys = ers (xs.take q.1)) ?_ xs.length (0, .nils) _ _ ⟨by simp, .refl _, [], Own.nil _ _ _, trivial, by simp⟩ ⟨rfl, rfl, by simp [vs_len], rfl, trivial⟩
    rintro m ⟨i, o⟩ S1 d ⟨hi, k1, ys, ho, hys, hes⟩
    dsimp only at *
    conv => whnf
    intro c hc
    cases c
    · have : xs.length ≤ i := by simpa using hc
      rw [List.take_of_length_le this] at hes
      have ho' := ho
      rcases ho' with ⟨rfl, h0⟩ | ⟨n, _, _, rfl, _⟩
      · conv => whnf
        refine ⟨⟨.nil, [], rfl, fun _ => rfl, .inl rfl, trivial, ?_⟩, k1⟩
        rw [← hes]
        cases ys with
        | nil => rfl
        | cons y ys => rw [Nd.vs] at h0; cases h0
      · conv => whnf
        exact ⟨⟨.lst .lost, ys, rfl, fun h => Sl.noConfusion h, .inr rfl, hys, hes⟩, k1⟩
    · have hlt : i < xs.length := by simpa using hc
      have hys2 : ys.length = i := by
        have := ers_len hes
        rw [this, List.length_take]; omega
      have g1 := vs_at hlt
      have hcall := H xs[i] (oks_iff.1 hx _ (List.getElem_mem hlt)) (Nat.le_trans (cnt_mem (List.getElem_mem hlt)) hcn)
      have e1 := ers_take hlt
      generalize xs[i] = x at *
      obtain ⟨kind', n', neg', dg', ex', tx', fb', bs', fk', keys', fd', kids'⟩ := x
      conv => whnf
      refine ⟨by omega, _, g1, rfl, ?_⟩
      conv => whnf
      refine ⟨_, _, cells_new _ _, store_agg rfl rfl (nd_leaf ..), ?_⟩
      conv => whnf
      generalize hS2 : (S1.new _).set S1.next _ = S2
      have kk2 : Keep S1 S2 := by rw [← hS2]; exact ((Keep.refl S1).new _).set _ _ (Nat.le_refl _)
      have x2 : S2.cells S1.next = some (Nd.cs (.mk kind' n' neg' dg' ex' tx' fb' bs' fk' keys' fd' kids')) := by rw [← hS2]; exact cells_set _ _ _
      refine ⟨_, x2, ?_⟩
      conv => whnf
      refine CallQ.mono (hcall S2) ?_
      rintro r S3 ⟨⟨y, rfl, c1, c2, c3⟩, k3⟩
      have ho3 := (ho.keep kk2).keep k3
      have g2 : elemsA S3 true 9 (.lst [y.v] .full) = some (Nd.vs [y]) := rfl
      obtain ⟨r, S4, h1, h2, h3⟩ := Own.append (C := TC) (f := 46) el24 rfl ho3 ((k1.trans kk2).trans k3) g2 (by show [y.v.shed] = _; rw [c3]; rfl) (wellA_vs _) (wellA_vs _) (by rw [vs_len, vs_len]; simp; omega)
      obtain ⟨kind2, n2, neg2, dg2, ex2, tx2, fb2, bs2, fk2, keys2, fd2, kids2⟩ := y
      have c3' : [(Nd.mk kind2 n2 neg2 dg2 ex2 tx2 fb2 bs2 fk2 keys2 fd2 kids2).v.shed] = Nd.vs [(Nd.mk kind2 n2 neg2 dg2 ex2 tx2 fb2 bs2 fk2 keys2 fd2 kids2)] := by rw [c3]; rfl
      conv => whnf
      refine ⟨r, S4, Eq.trans (congrArg (fun l => builtinA Tryd.prog TC 46 .append #[24, 24] [o, .lst l .full] S3) c3') h1, ?_⟩
      have h2' := h2
      have e4 : ers (ys ++ [.mk kind2 n2 neg2 dg2 ex2 tx2 fb2 bs2 fk2 keys2 fd2 kids2]) = ers (xs.take (i + 1)) := by
        rw [ers_app, e1, hes]
        show _ ++ [er _] = _
        rw [c1]
      rw [← vs_app] at h2
      rcases h2' with ⟨rfl, h0⟩ | ⟨n, _, _, rfl, _⟩
      · rw [← vs_app] at h0
        have := congrArg List.length h0
        rw [vs_len] at this
        simp at this
      · conv => whnf
        refine ⟨m - 1, (i + 1, _), by omega, ⟨by dsimp only; omega, h3, _, h2, oks_app hys c2, e4⟩, ⟨rfl, rfl, rfl, ?_, trivial⟩⟩
        rw [wrap_i64 (by omega) (by omega)]; rfl

theorem t34_step (N : Nat) (hN : N ≤ 2 ^ 30) (H : ∀ x : Nd, x.Ok → cnt x ≤ N → ∀ S, CallQ Tryd.prog TC 34 [x.v] S fun r S1 => (∃ y, r = y.v ∧ Cp x y) ∧ Keep S S1) (x : Nd) (hx : x.Ok) (hc : cnt x ≤ N + 1) (S : St) :
    CallQ Tryd.prog TC 34 [x.v] S fun r S1 => (∃ y, r = y.v ∧ Cp x y) ∧ Keep S S1 := by
  obtain ⟨kind, n, neg, dg, ex, tx, fb, bs, fk, keys, fd, kids⟩ := x
  obtain ⟨x1, x2, x3, x4, x5, x6, x7, x8⟩ := hx
  simp only [cnt] at hc
  have hk := t46_of N hN H keys fk x2 x7 (by omega)
  have hd := t46_of N hN H kids fd x3 x8 (by omega)
  have hb := t45 bs fb x1 x4
  refine CallQ.of rfl (by kernel_rfl : Tryd.prog.funcs[34]? = some Tryd.f34) rfl (by decide) ?_
  conv => whnf
  have hdn : ∀ b, (S.new b).next = S.next + 1 := fun _ => rfl
  rw [hdn]
  generalize hS1 : (S.new _).new _ = S1
  have k1 : Keep S S1 := by rw [← hS1]; exact ((Keep.refl S).new _).new _
  have a1 : S1.cells S.next = some [.int .i64 kind, .int .u64 n, .bool neg, .str dg, .int .i64 ex, .str tx, slV fb (bs.map u8), slV fk (Nd.vs keys), slV fd (Nd.vs kids)] := by rw [← hS1]; exact cells_new_ne (cells_new _ _) (by show S.next ≠ S.next + 1; omega)
  have a2 : S1.cells (S.next + 1) = some zN.cs := by rw [← hS1]; exact cells_new _ _
  have n1 : S1.next = S.next + 2 := by rw [← hS1]; rfl
  refine ⟨_, a1, ?_⟩
  conv => whnf
  refine CallQ.mono (hb S1) ?_
  rintro r S2 ⟨rfl, k2⟩
  have b1 := (cells_keep k2 (j := S.next) (by omega)).trans a1
  have b2 := (cells_keep k2 (j := S.next + 1) (by omega)).trans a2
  have n2 := k2.next
  obtain ⟨g6, hg6⟩ : ∃ g6, g6 = fb.lo := ⟨_, rfl⟩
  have hn6 : g6 = .nil → bs = [] := fun h => x1 (by cases fb; rfl; rw [hg6] at h; cases h)
  rcases fb with _ | tb
  all_goals
    conv => whnf
    refine ⟨_, _, b1, if_pos ⟨rfl, rfl, Nat.le_of_ble_eq_true rfl⟩, ?_⟩
    conv => whnf
    generalize hS3 : S2.set S.next _ = S3
    have k3 : Keep S S3 := by rw [← hS3]; exact (k1.trans k2).set _ _ (Nat.le_refl _)
    have n3 : S.next + 2 ≤ S3.next := by rw [← hS3]; show _ ≤ S2.next; omega
    have c1 : S3.cells S.next = some [.int .i64 kind, .int .u64 n, .bool neg, .str dg, .int .i64 ex, .str tx, slV g6 (bs.map u8), slV fk (Nd.vs keys), slV fd (Nd.vs kids)] := by rw [← hS3, hg6]; exact cells_set _ _ _
    have c2 : S3.cells (S.next + 1) = some zN.cs := by rw [← hS3]; exact cells_set_ne b2 (by omega)
    clear hS3 hS1 b1 b2 a1 a2
    refine ⟨[0, 1, 3, 4, 2, 5, 6, 7, 8, 9], [(2, [4])], by kernel_rfl, by kernel_rfl, by kernel_rfl, ?_⟩
    conv => whnf
    refine ⟨_, c1, ?_⟩
    conv => whnf
    refine ⟨_, c1, ?_⟩
    conv => whnf
    refine CallQ.mono (hk S3) ?_
    rintro r S4 ⟨⟨g7, ys, rfl, p1, p2, p3, p4⟩, k4⟩
    have n4 := k4.next
    have d1 := (cells_keep k4 (j := S.next) (by omega)).trans c1
    have d2 := (cells_keep k4 (j := S.next + 1) (by omega)).trans c2
    obtain ⟨h7, hh7⟩ : ∃ h7, h7 = g7 := ⟨_, rfl⟩
    have p1' : h7 = .nil → ys = [] := by rw [hh7]; exact p1
    rcases p2 with rfl | rfl
    all_goals
      conv => whnf
      refine ⟨stab_load rfl rfl rfl rfl rfl (by show (St.cells _ S.next).bind _ = _; rw [d1]; rfl), ?_⟩
      conv => whnf
      refine CallQ.mono (hd S4) ?_
      rintro r S5 ⟨⟨g8, zs, rfl, q1, q2, q3, q4⟩, k5⟩
      have n5 := k5.next
      have e1 := (cells_keep k5 (j := S.next) (by omega)).trans d1
      have e2 := (cells_keep k5 (j := S.next + 1) (by omega)).trans d2
      obtain ⟨h8, hh8⟩ : ∃ h8, h8 = g8 := ⟨_, rfl⟩
      have q1' : h8 = .nil → zs = [] := by rw [hh8]; exact q1
      rcases q2 with rfl | rfl
      all_goals
        subst hg6
        conv => whnf
        refine ⟨_, _, e1, if_pos ⟨rfl, rfl, Nat.le_of_ble_eq_true rfl⟩, ?_⟩
        conv => whnf
        refine ⟨_, _, cells_set _ _ _, if_pos ⟨rfl, rfl, Nat.le_of_ble_eq_true rfl⟩, ?_⟩
        conv => whnf
        refine ⟨_, cells_set _ _ _, ?_⟩
        conv => whnf
        refine ⟨_, _, cells_set_ne (cells_set_ne e2 (by omega)) (by omega), store_agg rfl rfl rfl, ?_⟩
        conv => whnf
        refine ⟨_, (by show (St.cells _ (S.next + 1)).bind _ = _; rw [cells_set]; rfl), ?_⟩
        conv => whnf
        refine ⟨⟨.mk kind n neg dg ex tx _ bs h7 ys h8 zs, by subst hh7 hh8; rfl, by simp only [er]; rw [p4, q4], ⟨hn6, p1', q1', x4, ?_, ?_, p3, q3⟩, by subst hh7 hh8; rfl⟩, (((k3.trans k4).trans k5).set _ _ (Nat.le_refl _)).set _ _ (Nat.le_refl _) |>.set _ _ (by omega)⟩
        · rw [ers_len p4]; exact x5
        · rw [ers_len q4]; exact x6
theorem t34 : ∀ (N : Nat), N ≤ 2 ^ 30 → ∀ x : Nd, x.Ok → cnt x ≤ N → ∀ S, CallQ Tryd.prog TC 34 [x.v] S fun r S1 => (∃ y, r = y.v ∧ Cp x y) ∧ Keep S S1
  | 0, _, x, _, h, _ => by have := cnt_pos x; omega
  | N + 1, hN, x, hx, hc, S => t34_step N (by omega) (t34 N (by omega)) x hx hc S
end Go.Proofs.YtmkmakokgfigoaaDoor
namespace Go.Proofs.YtmkmakokgfigoaaDoor
open Go.Proofs.YtmkmakokgfigoaaDoor.VM
set_option maxRecDepth 100000
set_option linter.unusedVariables false
set_option maxHeartbeats 1000000

def AtR (x : Nd) (ps : List Int) (r : AV) : Prop :=
  (few x = false ∧ r = .tuple [zN.v, .int .i64 8]) ∨ (few x = true ∧ findN x ps = none ∧ r = .tuple [zN.v, .int .i64 19]) ∨
    (few x = true ∧ ∃ y z, findN x ps = some y ∧ Cp y z ∧ r = .tuple [z.v, .int .i64 0])
theorem find_cnt : ∀ {ps : List Int} {x y : Nd}, findN x ps = some y → cnt y ≤ cnt x
  | [], x, y, h => by cases h; exact Nat.le_refl _
  | k :: ps, x, y, h => by
    simp only [findN] at h
    cases hs : stepN x k with
    | none => rw [hs] at h; cases h
    | some z => rw [hs] at h; have := step_cnt hs; have := find_cnt h; omega
theorem find_ok : ∀ {ps : List Int} {x y : Nd}, x.Ok → findN x ps = some y → y.Ok
  | [], x, y, hx, h => by cases h; exact hx
  | k :: ps, x, y, hx, h => by
    simp only [findN] at h
    cases hs : stepN x k with
    | none => rw [hs] at h; cases h
    | some z => rw [hs] at h; exact find_ok (step_ok hx hs) h

theorem t19 (x : Nd) (hx : x.Ok) (ps : List Int) (fp : Sl) (hf : fp = .nil → ps = []) (hp : PsOk ps) (hl : ps.length ≤ 2 ^ 62) (S : St) : CallQ Tryd.prog TC 19 [x.v, slV fp (ps.map pI)] S fun r S1 => AtR x ps r ∧ Keep S S1 := by
  have hfew := t10 x hx
  have hfind := t33 x hx ps fp hf hp hl
  have hcn : few x = true → cnt x ≤ 1024 := by unfold few; simp
  have hfc := @find_cnt ps x
  have hfo := @find_ok ps x
  have hAt : ∀ r, ((few x = false ∧ r = .tuple [zN.v, .int .i64 8]) ∨ (few x = true ∧ findN x ps = none ∧ r = .tuple [zN.v, .int .i64 19]) ∨
    (few x = true ∧ ∃ y z, findN x ps = some y ∧ Cp y z ∧ r = .tuple [z.v, .int .i64 0])) → AtR x ps r := fun r h => h
  generalize findN x ps = fo at *
  generalize few x = fx at *
  obtain ⟨kind, n, neg, dg, ex, tx, fb, bs, fk, keys, fd, kids⟩ := x
  refine CallQ.of rfl (by kernel_rfl : Tryd.prog.funcs[19]? = some Tryd.f19) rfl (by decide) ?_
  rcases fp with _ | tp
  all_goals
    conv => whnf
    generalize hS1 : S.new _ = S1
    have k1 : Keep S S1 := by rw [← hS1]; exact (Keep.refl S).new _
    have a1 : S1.cells S.next = some zN.cs := by rw [← hS1]; exact cells_new _ _
    have n1 : S1.next = S.next + 1 := by rw [← hS1]; rfl
    clear hS1
    refine CallQ.mono (hfew S1) ?_
    rintro r S2 ⟨rfl, k2⟩
    have n2 := k2.next
    have a2 := (cells_keep k2 (j := S.next) (by omega)).trans a1
    cases fx
    · conv => whnf
      refine ⟨_, _, a2, store_agg rfl rfl rfl, ?_⟩
      conv => whnf
      refine ⟨AV.agg zN.cs, ?_, ?_⟩
      · show (St.cells _ S.next).bind _ = _
        rw [cells_set]; rfl
      conv => whnf
      exact ⟨hAt _ (.inl ⟨rfl, rfl⟩), (k1.trans k2).set _ _ (Nat.le_refl _)⟩
    conv => whnf
    refine CallQ.mono (hfind S2) ?_
    rintro r S3 ⟨rfl, rfl⟩
    cases fo with
    | none =>
      conv => whnf
      intro c hc
      obtain rfl : c = true := hc
      conv => whnf
      refine ⟨_, _, a2, store_agg rfl rfl rfl, ?_⟩
      conv => whnf
      refine ⟨AV.agg zN.cs, ?_, ?_⟩
      · show (St.cells _ S.next).bind _ = _
        rw [cells_set]; rfl
      conv => whnf
      exact ⟨hAt _ (.inr (.inl ⟨rfl, rfl, rfl⟩)), (k1.trans k2).set _ _ (Nat.le_refl _)⟩
    | some y =>
      have hown := t34 1024 (by omega) y (hfo hx rfl) (Nat.le_trans (hfc rfl) (hcn rfl)) S3
      obtain ⟨y', hy'⟩ : ∃ y', y' = y := ⟨_, rfl⟩
      rw [← hy'] at hAt
      obtain ⟨kind', n', neg', dg', ex', tx', fb', bs', fk', keys', fd', kids'⟩ := y
      conv => whnf
      intro c hc
      obtain rfl : c = false := hc
      conv => whnf
      refine CallQ.mono hown ?_
      rintro r S4 ⟨⟨z, rfl, cp⟩, k4⟩
      have n4 := k4.next
      have a4 := (cells_keep k4 (j := S.next) (by omega)).trans a2
      rw [← hy'] at cp
      obtain ⟨kind2, n2', neg2, dg2, ex2, tx2, fb2, bs2, fk2, keys2, fd2, kids2⟩ := z
      conv => whnf
      refine ⟨_, _, a4, store_agg rfl rfl (nd_leaf ..), ?_⟩
      conv => whnf
      refine ⟨AV.agg (Nd.cs (.mk kind2 n2' neg2 dg2 ex2 tx2 fb2 bs2 fk2 keys2 fd2 kids2)), ?_, ?_⟩
      · show (St.cells _ S.next).bind _ = _
        rw [cells_set]; rfl
      conv => whnf
      refine ⟨hAt _ (.inr (.inr ⟨rfl, y', _, rfl, cp, ?_⟩)), ((k1.trans k2).trans k4).set _ _ (Nat.le_refl _)⟩
      show AV.tuple [AV.shed (.agg _), _] = _
      have := cp.2.2
      rw [v_cs] at this ⊢
      rw [this]
      rfl
def RAtV (x : Nd) (ps : List Int) : AV := if few x = true then FoundV (findN x ps) else .tuple [zN.v, .int .i64 8]
theorem found_shed (o : Option Nd) : ∃ a e, FoundV o = .tuple [.agg a, .int .i64 e] ∧ a.length = 9 ∧ a.all AV.leafOk = true ∧ (AV.agg a).shed = .agg a := by
  cases o with
  | none => exact ⟨zN.cs, 19, rfl, rfl, rfl, rfl⟩
  | some y =>
    refine ⟨y.lo.cs, 0, by rw [FoundV, v_cs], cs_len _, cs_leaf _, ?_⟩
    obtain ⟨kind, n, neg, dg, ex, tx, fb, bs, fk, keys, fd, kids⟩ := y
    cases fb <;> cases fk <;> cases fd <;> rfl
theorem t20 (x : Nd) (hx : x.Ok) (ps : List Int) (fp : Sl) (hf : fp = .nil → ps = []) (hp : PsOk ps) (hl : ps.length ≤ 2 ^ 62) (S : St) : CallQ Tryd.prog TC 20 [x.v, slV fp (ps.map pI)] S fun r S1 => r = RAtV x ps ∧ Keep S S1 := by
  have hfew := t11 x hx
  have hfind := t35 x hx ps fp hf hp hl
  have hR : RAtV x ps = if few x = true then FoundV (findN x ps) else .tuple [zN.v, .int .i64 8] := rfl
  have hfs := found_shed (findN x ps)
  generalize RAtV x ps = rv at *
  generalize findN x ps = fo at *
  generalize few x = fx at *
  obtain ⟨kind, n, neg, dg, ex, tx, fb, bs, fk, keys, fd, kids⟩ := x
  refine CallQ.of rfl (by kernel_rfl : Tryd.prog.funcs[20]? = some Tryd.f20) rfl (by decide) ?_
  rcases fp with _ | tp
  all_goals
    conv => whnf
    generalize hS1 : S.new _ = S1
    have k1 : Keep S S1 := by rw [← hS1]; exact (Keep.refl S).new _
    have a1 : S1.cells S.next = some zN.cs := by rw [← hS1]; exact cells_new _ _
    have n1 : S1.next = S.next + 1 := by rw [← hS1]; rfl
    clear hS1
    refine CallQ.mono (hfew S1) ?_
    rintro r S2 ⟨rfl, k2⟩
    have n2 := k2.next
    have a2 := (cells_keep k2 (j := S.next) (by omega)).trans a1
    cases fx
    · conv => whnf
      refine ⟨_, _, a2, store_agg rfl rfl rfl, ?_⟩
      conv => whnf
      refine ⟨AV.agg zN.cs, ?_, ?_⟩
      · show (St.cells _ S.next).bind _ = _
        rw [cells_set]; rfl
      conv => whnf
      exact ⟨by rw [hR]; rfl, (k1.trans k2).set _ _ (Nat.le_refl _)⟩
    conv => whnf
    refine CallQ.mono (hfind S2) ?_
    rintro r S3 ⟨rfl, k3⟩
    have n3 := k3.next
    have a3 := (cells_keep k3 (j := S.next) (by omega)).trans a2
    obtain ⟨a, e, h1, h2, h3, h4⟩ := hfs
    rw [if_pos rfl, h1] at hR
    rw [h1]
    obtain ⟨b0, b1, b2, b3, b4, b5, b6, b7, b8, rfl⟩ : ∃ b0 b1 b2 b3 b4 b5 b6 b7 b8, a = [b0, b1, b2, b3, b4, b5, b6, b7, b8] := by
      match a, h2 with
      | [x0, x1, x2, x3, x4, x5, x6, x7, x8], _ => exact ⟨x0, x1, x2, x3, x4, x5, x6, x7, x8, rfl⟩
    conv => whnf
    refine ⟨_, _, a3, store_agg rfl rfl h3, ?_⟩
    conv => whnf
    refine ⟨AV.agg [b0, b1, b2, b3, b4, b5, b6, b7, b8], ?_, ?_⟩
    · show (St.cells _ S.next).bind _ = _
      rw [cells_set]; rfl
    conv => whnf
    refine ⟨?_, ((k1.trans k2).trans k3).set _ _ (Nat.le_refl _)⟩
    rw [hR]
    show AV.tuple [AV.shed (.agg _), _] = _
    rw [h4]; rfl
end Go.Proofs.YtmkmakokgfigoaaDoor
namespace Go.Proofs.YtmkmakokgfigoaaDoor
open Go.Proofs.YtmkmakokgfigoaaDoor.VM
set_option maxRecDepth 100000
set_option linter.unusedVariables false
set_option maxHeartbeats 1000000

theorem few_er {a b : Nd} (h : er a = er b) : few a = few b := by unfold few; rw [cnt_er h]
noncomputable def bothS (a b : Nd) : Bool := (!few a && !few b) || SameB a b
theorem both_er {a b : Nd} (h : er a = er b) : bothS a b = true := by
  unfold bothS SameB sameB
  rw [few_er h, h]
  cases few b <;> simp
theorem t21 (x y : Nd) (hx : x.Ok) (hy : y.Ok) (S : St) : CallQ Tryd.prog TC 21 [x.v, y.v] S fun r S1 => r = .bool (bothS x y) ∧ Keep S S1 := by
  have t1 := t11 x hx
  have t2 := t11 y hy
  have t3 := t13 x y hx hy
  have ht : bothS x y = ((!few x && !few y) || SameB x y) := rfl
  generalize bothS x y = sb at *
  generalize SameB x y = sm at *
  generalize few x = fx at *
  generalize few y = fy at *
  obtain ⟨kind, n, neg, dg, ex, tx, fb, bs, fk, keys, fd, kids⟩ := x
  obtain ⟨kind', n', neg', dg', ex', tx', fb', bs', fk', keys', fd', kids'⟩ := y
  refine CallQ.of rfl (by kernel_rfl : Tryd.prog.funcs[21]? = some Tryd.f21) rfl (by decide) ?_
  conv => whnf
  refine CallQ.mono (t1 S) ?_
  rintro r S1 ⟨rfl, k1⟩
  cases fx
  · conv => whnf
    refine CallQ.mono (t2 S1) ?_
    rintro r S2 ⟨rfl, k2⟩
    cases fy
    · conv => whnf
      exact ⟨by rw [ht]; rfl, k1.trans k2⟩
    conv => whnf
    refine CallQ.mono (t3 S2) ?_
    rintro r S3 ⟨rfl, k3⟩
    conv => whnf
    exact ⟨by rw [ht]; cases sm <;> rfl, (k1.trans k2).trans k3⟩
  conv => whnf
  refine CallQ.mono (t3 S1) ?_
  rintro r S3 ⟨rfl, k3⟩
  conv => whnf
  exact ⟨by rw [ht]; cases sm <;> rfl, k1.trans k3⟩

/-- Two answers of At that are told apart by nothing. -/
theorem at_both {x : Nd} {ps : List Int} (hx : x.Ok) {r : AV} (h : AtR x ps r) : ∃ (a b : Nd) (e : Int), r = .tuple [a.v, .int .i64 e] ∧ RAtV x ps = .tuple [b.v, .int .i64 e] ∧ a.Ok ∧ b.Ok ∧ er a = er b := by
  rcases h with ⟨h1, rfl⟩ | ⟨h1, h2, rfl⟩ | ⟨h1, y, z, h2, h3, rfl⟩
  · exact ⟨zN, zN, 8, rfl, by unfold RAtV; rw [h1]; rfl, zN_ok, zN_ok, rfl⟩
  · exact ⟨zN, zN, 19, rfl, by unfold RAtV; rw [h1, h2]; rfl, zN_ok, zN_ok, rfl⟩
  · exact ⟨z, y.lo, 0, rfl, by unfold RAtV; rw [h1, h2]; rfl, h3.2.1, lo_ok (find_ok hx h2), by rw [lo_er]; exact h3.1⟩

theorem t4 (x : Nd) (hx : x.Ok) (ps : List Int) (fp : Sl) (hf : fp = .nil → ps = []) (hp : PsOk ps) (hl : ps.length ≤ 2 ^ 62) (S : St) : CallQ Tryd.prog TC 4 [x.v, slV fp (ps.map pI)] S fun r S1 => r = .bool true := by
  have hA := t19 x hx ps fp hf hp hl
  have hB := t20 x hx ps fp hf hp hl
  have hab := @at_both x ps hx
  have fin : ∀ S, CallQ Tryd.prog TC 18 [] S fun r S1 => S1 = S ∧ r = .bool true := t18
  obtain ⟨kind, n, neg, dg, ex, tx, fb, bs, fk, keys, fd, kids⟩ := x
  refine CallQ.of rfl (by kernel_rfl : Tryd.prog.funcs[4]? = some Tryd.f4) rfl (by decide) ?_
  rcases fp with _ | tp
  all_goals
    conv => whnf
    refine CallQ.mono (hA S) ?_
    rintro r S1 ⟨hr, k1⟩
    obtain ⟨a, b, e, rfl, h2, ha, hb, hab⟩ := hab hr
    have hc := t21 a b ha hb
    rw [both_er hab] at hc
    obtain ⟨kind', n', neg', dg', ex', tx', fb', bs', fk', keys', fd', kids'⟩ := a
    conv => whnf
    refine ⟨_, _, cells_new _ _, store_agg rfl rfl (nd_leaf ..), ?_⟩
    conv => whnf
    generalize hS2 : (S1.new _).set S1.next _ = S2
    have a2 : S2.cells S1.next = some (Nd.cs (.mk kind' n' neg' dg' ex' tx' fb' bs' fk' keys' fd' kids')) := by rw [← hS2]; exact cells_set _ _ _
    have n2 : S2.next = S1.next + 1 := by rw [← hS2]; rfl
    clear hS2
    refine CallQ.mono (hB S2) ?_
    rintro r S3 ⟨rfl, k3⟩
    have n3 := k3.next
    have a3 := (cells_keep k3 (j := S1.next) (by omega)).trans a2
    rw [h2]
    obtain ⟨kind2, n2', neg2, dg2, ex2, tx2, fb2, bs2, fk2, keys2, fd2, kids2⟩ := b
    conv => whnf
    refine ⟨_, _, cells_new _ _, store_agg rfl rfl (nd_leaf ..), ?_⟩
    conv => whnf
    generalize hS4 : (S3.new _).set S3.next _ = S4
    have b4 : S4.cells S3.next = some (Nd.cs (.mk kind2 n2' neg2 dg2 ex2 tx2 fb2 bs2 fk2 keys2 fd2 kids2)) := by rw [← hS4]; exact cells_set _ _ _
    have a4 : S4.cells S1.next = some (Nd.cs (.mk kind' n' neg' dg' ex' tx' fb' bs' fk' keys' fd' kids')) := by rw [← hS4]; exact cells_set_ne (cells_new_ne a3 (by omega)) (by omega)
    clear hS4
    refine ⟨_, a4, ?_⟩
    conv => whnf
    refine ⟨_, b4, ?_⟩
    conv => whnf
    refine CallQ.mono (hc S4) ?_
    rintro r S5 ⟨rfl, k5⟩
    conv => whnf
    intro c hc
    obtain rfl : c = true := by rw [hc]; exact decide_eq_true rfl
    conv => whnf
    refine CallQ.mono (fin S5) ?_
    rintro r S6 ⟨rfl, rfl⟩
    conv => whnf
    rfl
end Go.Proofs.YtmkmakokgfigoaaDoor
