import Derived.Test.YtmkmakokgfigoaaDoorVMT18
namespace Go.Proofs.YtmkmakokgfigoaaDoor
open Go.Proofs.YtmkmakokgfigoaaDoor.VM
set_option maxRecDepth 100000
set_option linter.unusedVariables false
set_option maxHeartbeats 1000000

def zN : Nd := .mk 0 0 false [] 0 [] .nil [] .nil [] .nil []
theorem zN_ok : zN.Ok := ⟨fun _ => rfl, fun _ => rfl, fun _ => rfl, by simp, by simp, by simp, trivial, trivial⟩
def Sl.lo : Sl → Sl
  | .nil => .nil
  | .lst _ => .lst .lost
/-- Nothing may be appended in place. -/
def Nd.lo : Nd → Nd
  | .mk kind n neg dg ex tx fb bs fk keys fd kids => .mk kind n neg dg ex tx fb.lo bs fk.lo keys fd.lo kids
theorem lo_er (x : Nd) : er x.lo = er x := by cases x; rfl
theorem lo_cnt (x : Nd) : cnt x.lo = cnt x := by cases x; simp [Nd.lo, cnt]
theorem lo_dep (x : Nd) : dep x.lo = dep x := by cases x; simp [Nd.lo, dep]
theorem lo_ok {x : Nd} (h : x.Ok) : x.lo.Ok := by
  obtain ⟨kind, n, neg, dg, ex, tx, fb, bs, fk, keys, fd, kids⟩ := x
  obtain ⟨x1, x2, x3, x4, x5, x6, x7, x8⟩ := h
  refine ⟨fun h => x1 ?_, fun h => x2 ?_, fun h => x3 ?_, x4, x5, x6, x7, x8⟩
  · cases fb; rfl; cases h
  · cases fk; rfl; cases h
  · cases fd; rfl; cases h
def FoundV (o : Option Nd) : AV := match o with
  | some y => .tuple [y.lo.v, .int .i64 0]
  | none => .tuple [zN.v, .int .i64 19]
theorem cs_leaf (x : Nd) : x.cs.all AV.leafOk = true := by cases x; exact nd_leaf ..
theorem cs_len (x : Nd) : x.cs.length = 9 := by cases x; rfl
theorem v_cs (x : Nd) : x.v = .agg x.cs := by cases x; rfl

theorem shed_lo (x : Nd) : (AV.agg x.cs).shed = x.lo.v := by
  obtain ⟨kind, n, neg, dg, ex, tx, fb, bs, fk, keys, fd, kids⟩ := x
  cases fb <;> cases fk <;> cases fd <;> rfl
theorem found_lo (x : Nd) : (AV.tuple [.agg x.cs, .int .i64 0]).shed2 = FoundV (some x) := by
  show AV.tuple [(AV.agg x.cs).shed, _] = _
  rw [shed_lo]; rfl
theorem t35 (x : Nd) (hx : x.Ok) (ps : List Int) (fp : Sl) (hf : fp = .nil → ps = []) (hp : PsOk ps) (hl : ps.length ≤ 2 ^ 62) (S : St) : CallQ Tryd.prog TC 35 [x.v, slV fp (ps.map pI)] S fun r S1 => r = FoundV (findN x ps) ∧ Keep S S1 := by
  have hxo := hx
  obtain ⟨X, hX⟩ : ∃ X, X = x := ⟨_, rfl⟩
  refine CallQ.mono (Q := fun r S1 => r = FoundV (findN X ps) ∧ Keep S S1) ?_ (by rw [hX]; exact fun _ _ h => h)
  have hX' := hX
  obtain ⟨kind, n, neg, dg, ex, tx, fb, bs, fk, keys, fd, kids⟩ := x
  refine CallQ.of rfl (by kernel_rfl : Tryd.prog.funcs[35]? = some Tryd.f35) rfl (by decide) ?_
  rcases fp with _ | tp
  · obtain rfl := hf rfl
    conv => whnf
    generalize hS1 : (S.new _).new _ = S1
    have k1 : Keep S S1 := by rw [← hS1]; exact ((Keep.refl S).new _).new _
    have a1 : S1.cells S.next = some X.cs := by rw [← hS1, hX]; exact cells_new_ne (cells_new _ _) (by show S.next ≠ S.next + 1; omega)
    have a2 : S1.cells (S.next + 1) = some zN.cs := by rw [← hS1]; exact cells_new _ _
    refine CodeQ.loop (fun (i : Nat) => pat 43 [(1, .nils), (2, .ptr S.next 0), (4, .ptr (S.next + 1) 0), (6, .int .i64 0)]) (fun m i S2 => S2 = S1) ?_ 0 0 _ _ rfl ⟨rfl, rfl, rfl, rfl, trivial⟩
    rintro m i S2 d rfl
    conv => whnf
    intro c hc
    obtain rfl : c = false := by rw [hc]; rfl
    conv => whnf
    rw [hX] at a1
    refine ⟨_, a1, ?_⟩
    conv => whnf
    refine ⟨_, _, a2, store_agg rfl rfl (nd_leaf ..), ?_⟩
    conv => whnf
    refine ⟨AV.agg (Nd.cs (.mk kind n neg dg ex tx fb bs fk keys fd kids)), ?_, ?_⟩
    · show (St.cells _ (S.next + 1)).bind _ = _
      rw [cells_set]; rfl
    conv => whnf
    refine ⟨?_, k1.set _ _ (by omega)⟩
    rw [hX]
    exact found_lo _
  · conv => whnf
    generalize hS1 : (S.new _).new _ = S1
    have k1 : Keep S S1 := by rw [← hS1]; exact ((Keep.refl S).new _).new _
    have a1 : S1.cells S.next = some X.cs := by rw [← hS1, hX]; exact cells_new_ne (cells_new _ _) (by show S.next ≠ S.next + 1; omega)
    have a2 : S1.cells (S.next + 1) = some zN.cs := by rw [← hS1]; exact cells_new _ _
    have n1 : S1.next = S.next + 2 := by rw [← hS1]; rfl
    rw [← hX] at hxo
    refine CodeQ.loop (fun (q : Nat × Nd) => pat 43 [(1, .lst (ps.map pI) tp), (2, .ptr S.next 0), (4, .ptr (S.next + 1) 0), (6, .int .i64 q.1)]) (fun m q S2 => Keep S S2 ∧ S.next + 2 ≤ S2.next ∧ S2.cells S.next = some q.2.cs ∧ S2.cells (S.next + 1) = some zN.cs ∧ q.1 + m = ps.length ∧ findN X ps = findN q.2 (ps.drop q.1) ∧ q.2.Ok) ?_ ps.length (0, X) _ _ ⟨k1, by omega, a1, a2, by simp, rfl, hxo⟩ ⟨rfl, rfl, rfl, rfl, trivial⟩
    clear hX hxo a1 a2 hx hX'
    rintro m ⟨i, y⟩ S2 d ⟨k2, n2, b1, b2, hi, hfi, hy⟩
    dsimp only at *
    conv => whnf
    intro c hc
    cases c
    · have : ps.length ≤ i := by simpa using hc
      rw [List.drop_eq_nil_iff.2 this] at hfi
      obtain ⟨kind, n, neg, dg, ex, tx, fb, bs, fk, keys, fd, kids⟩ := y
      conv => whnf
      refine ⟨_, b1, ?_⟩
      conv => whnf
      refine ⟨_, _, b2, store_agg rfl rfl (nd_leaf ..), ?_⟩
      conv => whnf
      refine ⟨AV.agg (Nd.cs (.mk kind n neg dg ex tx fb bs fk keys fd kids)), ?_, ?_⟩
      · show (St.cells _ (S.next + 1)).bind _ = _
        rw [cells_set]; rfl
      conv => whnf
      refine ⟨?_, k2.set _ _ (by omega)⟩
      rw [hfi]
      exact found_lo _
    · have hlt : i < ps.length := by simpa using hc
      have hk := hp ps[i] (List.getElem_mem hlt)
      have g1 : (ps.map pI)[i]? = some (.int .i64 ps[i]) := by simp [hlt, pI]
      rw [drop_cons hlt] at hfi
      simp only [findN] at hfi
      have hcall := t47 y hy ps[i] hk.1 hk.2
      have hso : ∀ z, stepN y ps[i] = some z → z.Ok := fun z h => step_ok hy h
      generalize hst : stepN y ps[i] = st at *
      have hway : ∀ r, WayOk y ps[i] r → ∃ (j : Int) (key ok : Bool), r = .tuple [.int .i64 j, .bool key, .bool ok] ∧ (ok = false → st = none) ∧ (ok = true → 0 ≤ j ∧ j < 2 ^ 63 ∧ ∃ z, st = some z ∧ (if key = true then y.keys else y.kids)[j.toNat]? = some z) := by
        rintro r ⟨j, key, ok, h1, h2, h3⟩
        rw [hst] at h2 h3
        exact ⟨j, key, ok, h1, h2, h3⟩
      obtain ⟨kind, n, neg, dg, ex, tx, fb, bs, fk, keys, fd, kids⟩ := y
      obtain ⟨y1, y2, y3, y4, y5, y6, y7, y8⟩ := hy
      conv => whnf
      refine ⟨[0, 1, 2, 3, 4, 5, 6, 7, 8, 9, 10, 11, 12], [], by kernel_rfl, by kernel_rfl, by kernel_rfl, ?_⟩
      conv => whnf
      refine ⟨_, b1, ?_⟩
      conv => whnf
      refine ⟨by omega, _, g1, rfl, ?_⟩
      conv => whnf
      refine CallQ.mono (hcall S2) ?_
      rintro r S3 ⟨hr, k3⟩
      obtain ⟨j, key, ok, rfl, h2, h3⟩ := hway r hr
      have c1 := (cells_keep k3 (j := S.next) (by omega)).trans b1
      have c2 := (cells_keep k3 (j := S.next + 1) (by omega)).trans b2
      have n3 := k3.next
      cases ok
      · conv => whnf
        refine ⟨_, _, c2, store_agg rfl rfl rfl, ?_⟩
        conv => whnf
        refine ⟨AV.agg zN.cs, ?_, ?_⟩
        · show (St.cells _ (S.next + 1)).bind _ = _
          rw [cells_set]; rfl
        conv => whnf
        refine ⟨?_, (k2.trans k3).set _ _ (by omega)⟩
        rw [hfi, h2 rfl]
        rfl
      · obtain ⟨q1, q2, z, rfl, q3⟩ := h3 rfl
        have hz := hso z rfl
        simp only [Option.bind_some] at hfi
        cases key
        · have q4 : kids[j.toNat]? = some z := q3
          rcases fd with _ | td
          · exact absurd q4 (by rw [y3 rfl]; simp)
          have g2 : (Nd.vs kids)[j.toNat]? = some z.v := by rw [vs_map, List.getElem?_map, q4]; rfl
          conv => whnf
          refine ⟨_, c1, ?_⟩
          obtain ⟨kind', n', neg', dg', ex', tx', fb', bs', fk', keys', fd', kids'⟩ := z
          conv => whnf
          refine ⟨q1, _, g2, rfl, ?_⟩
          conv => whnf
          refine ⟨_, _, c1, store_agg rfl rfl (nd_leaf ..), ?_⟩
          conv => whnf
          refine ⟨m - 1, (i + 1, .mk kind' n' neg' dg' ex' tx' fb' bs' fk' keys' fd' kids'), by omega, ⟨(k2.trans k3).set _ _ (Nat.le_refl _), by show _ ≤ S3.next; omega, cells_set _ _ _, cells_set_ne c2 (by omega), by dsimp only; omega, hfi, hz⟩, ⟨rfl, rfl, rfl, ?_, trivial⟩⟩
          rw [wrap_i64 (by omega) (by omega)]; rfl
        · have q4 : keys[j.toNat]? = some z := q3
          rcases fk with _ | td
          · exact absurd q4 (by rw [y2 rfl]; simp)
          have g2 : (Nd.vs keys)[j.toNat]? = some z.v := by rw [vs_map, List.getElem?_map, q4]; rfl
          conv => whnf
          refine ⟨_, c1, ?_⟩
          obtain ⟨kind', n', neg', dg', ex', tx', fb', bs', fk', keys', fd', kids'⟩ := z
          conv => whnf
          refine ⟨q1, _, g2, rfl, ?_⟩
          conv => whnf
          refine ⟨_, _, c1, store_agg rfl rfl (nd_leaf ..), ?_⟩
          conv => whnf
          refine ⟨m - 1, (i + 1, .mk kind' n' neg' dg' ex' tx' fb' bs' fk' keys' fd' kids'), by omega, ⟨(k2.trans k3).set _ _ (Nat.le_refl _), by show _ ≤ S3.next; omega, cells_set _ _ _, cells_set_ne c2 (by omega), by dsimp only; omega, hfi, hz⟩, ⟨rfl, rfl, rfl, ?_, trivial⟩⟩
          rw [wrap_i64 (by omega) (by omega)]; rfl
end Go.Proofs.YtmkmakokgfigoaaDoor
namespace Go.Proofs.YtmkmakokgfigoaaDoor
open Go.Proofs.YtmkmakokgfigoaaDoor.VM
set_option maxRecDepth 100000
set_option linter.unusedVariables false
set_option maxHeartbeats 1000000

mutual
def pcnt : Pl → Nat
  | .mk _ _ _ _ _ _ _ keys kids => 1 + pcnts keys + pcnts kids
def pcnts : List Pl → Nat
  | [] => 0
  | x :: xs => pcnt x + pcnts xs
end
mutual
theorem er_pcnt : ∀ x : Nd, pcnt (er x) = cnt x
  | .mk _ _ _ _ _ _ _ _ _ keys _ kids => by simp only [er, pcnt, cnt, ers_pcnts keys, ers_pcnts kids]
theorem ers_pcnts : ∀ xs : List Nd, pcnts (ers xs) = cnts xs
  | [] => rfl
  | x :: xs => by simp only [ers, pcnts, cnts, er_pcnt x, ers_pcnts xs]
end
theorem cnt_er {x y : Nd} (h : er x = er y) : cnt x = cnt y := by rw [← er_pcnt, ← er_pcnt, h]
theorem cnts_ers {x y : List Nd} (h : ers x = ers y) : cnts x = cnts y := by rw [← ers_pcnts, ← ers_pcnts, h]
theorem len_cnts : ∀ xs : List Nd, xs.length ≤ cnts xs
  | [] => Nat.le_refl _
  | x :: xs => by have := len_cnts xs; have := cnt_pos x; simp only [cnts, List.length_cons]; omega

theorem el23 : Elem Tryd.prog 23 5 1 1 false (.int .u8 0) := ⟨by kernel_rfl, by kernel_rfl, by kernel_rfl, by kernel_rfl, by kernel_rfl, rfl, by decide⟩
theorem el24 : Elem Tryd.prog 24 26 9 136 true zN.v := ⟨by kernel_rfl, by kernel_rfl, by kernel_rfl, by kernel_rfl, by kernel_rfl, rfl, by decide⟩

theorem t45 (bs : List UInt8) (fb : Sl) (hf : fb = .nil → bs = []) (hl : bs.length ≤ 2 ^ 47) (S : St) : CallQ Tryd.prog TC 45 [slV fb (bs.map u8)] S fun r S1 => r = slV fb.lo (bs.map u8) ∧ Keep S S1 := by
  refine CallQ.of rfl (by kernel_rfl : Tryd.prog.funcs[45]? = some Tryd.f45) rfl (by decide) ?_
  rcases fb with _ | tb
  · conv => whnf
    intro c hc
    obtain rfl : c = true := by rw [hc]
    conv => whnf
    exact ⟨rfl, .refl _⟩
  · conv => whnf
    intro c hc
    obtain rfl : c = false := by rw [hc]
    conv => whnf
    by_cases hb : bs = []
    · subst hb
      refine ⟨_, _, rfl, ?_⟩
      conv => whnf
      exact ⟨rfl, .refl _⟩
    · have hne : ¬ (bs.map u8).length = 0 := by simpa using hb
      refine ⟨.lst (bs.map u8) (.tag S.next), S.new (.tip 5), ?_, ?_⟩
      · have h : builtinA Tryd.prog TC 45 .append #[23, 23] [.lst [] .full, .lst (bs.map u8) tb] S = (appendB TC 45 S 5 1 false 1 (.int .u8 0) (.lst [] .full) (.lst (bs.map u8) tb)).bind retA := by kernel_rfl
        refine h.trans ?_
        unfold appendB
        simp only [elemsA, Option.bind_some, shed_u8]
        rw [if_pos ⟨by decide, rfl, wellA_u8 bs⟩, if_neg hne, if_pos ⟨by simp [sizeOk]; omega, rfl⟩]
        rfl
      conv => whnf
      exact ⟨rfl, (Keep.refl _).new _⟩

theorem wellA_vs : ∀ xs : List Nd, wellA 9 (Nd.vs xs) = true
  | [] => rfl
  | x :: xs => by
    rw [Nd.vs]
    show (decide (x.v.cells.length = 9) && x.v.cells.all AV.leafOk && wellA 9 (Nd.vs xs)) = true
    rw [wellA_vs xs, v_cs]
    simp [AV.cells, cs_len, cs_leaf]
/-- A copy of a node. -/
def Cp (x y : Nd) : Prop := er y = er x ∧ y.Ok ∧ y.v.shed = y.v
theorem vs_app (xs ys : List Nd) : Nd.vs (xs ++ ys) = Nd.vs xs ++ Nd.vs ys := by rw [vs_map, vs_map, vs_map, List.map_append]
theorem ers_app (xs ys : List Nd) : ers (xs ++ ys) = ers xs ++ ers ys := by rw [ers_map, ers_map, ers_map, List.map_append]
theorem oks_app {xs : List Nd} {y : Nd} (h : Nd.Oks xs) (hy : y.Ok) : Nd.Oks (xs ++ [y]) := oks_iff.2 fun x hx => by
  rcases List.mem_append.1 hx with hx | hx
  · exact oks_iff.1 h x hx
  · rw [List.mem_singleton.1 hx]; exact hy

end Go.Proofs.YtmkmakokgfigoaaDoor
namespace Go.Proofs.YtmkmakokgfigoaaDoor
open Go.Proofs.YtmkmakokgfigoaaDoor.VM Go.RowKit
set_option maxRecDepth 100000
set_option linter.unusedVariables false
set_option linter.unusedSimpArgs false
set_option maxHeartbeats 1000000
mutual
def pdep : Pl → Nat
  | .mk _ _ _ _ _ _ _ keys kids => 1 + max (pdeps keys) (pdeps kids)
def pdeps : List Pl → Nat
  | [] => 0
  | x :: xs => max (pdep x) (pdeps xs)
end
mutual
theorem er_pdep : ∀ x : Nd, pdep (er x) = dep x
  | .mk _ _ _ _ _ _ _ _ _ keys _ kids => by simp only [er, pdep, dep, ers_pdeps keys, ers_pdeps kids]
theorem ers_pdeps : ∀ xs : List Nd, pdeps (ers xs) = deps xs
  | [] => rfl
  | x :: xs => by simp only [ers, pdeps, deps, er_pdep x, ers_pdeps xs]
end
theorem len_ers (xs : List Nd) : (ers xs).length = xs.length := by rw [ers_map]; simp
/-! Trees in written arrays of their own. -/
/-- A written list (or none): its cells, and the names of what is in it. -/
def HL (P : List AV → List Nat → Prop) (n : Nat) (S : St) (v : AV) (F : List Nat) : Prop :=
  (v = .nils ∧ n = 0 ∧ F = []) ∨ ∃ a cs G, F = a :: G ∧ a < S.next ∧ n ≤ 2 ^ 47 ∧ v = .hnd a 0 n 9 ∧ S.mem a = some (.cells cs) ∧ P cs G
mutual
/-- A node's nine cells. -/
def HN (S : St) : Pl → List AV → List Nat → Prop
  | .mk kind n neg dg ex tx bs keys kids, cs, F => ∃ (fb : Sl) (vk vd : AV) (Fk Fd : List Nat),
      cs = [.int .i64 kind, .int .u64 n, .bool neg, .str dg, .int .i64 ex, .str tx, slV fb.lo (bs.map u8), vk, vd] ∧ (fb = .nil → bs = []) ∧ bs.length ≤ 2 ^ 47 ∧ F = Fk ++ Fd ∧
      HL (fun cs G => HC S keys cs G) keys.length S vk Fk ∧ HL (fun cs G => HC S kids cs G) kids.length S vd Fd
def HC (S : St) : List Pl → List AV → List Nat → Prop
  | [], cs, F => cs = [] ∧ F = []
  | x :: xs, cs, F => ∃ c1 c2 F1 F2, cs = c1 ++ c2 ∧ F = F1 ++ F2 ∧ HN S x c1 F1 ∧ HC S xs c2 F2
end
theorem hl_leaf {P : List AV → List Nat → Prop} {n : Nat} {S : St} {v : AV} {F : List Nat} (h : HL P n S v F) : v.leafOk = true ∧ v.shedLeaf = v := by
  rcases h with ⟨rfl, _⟩ | ⟨a, cs, G, _, _, _, rfl, _⟩ <;> exact ⟨rfl, rfl⟩
theorem hn_cells {S : St} {x : Pl} {cs : List AV} {F : List Nat} (h : HN S x cs F) : cs.length = 9 ∧ cs.all AV.leafOk = true ∧ cs.map AV.shedLeaf = cs := by
  obtain ⟨kind, n, neg, dg, ex, tx, bs, keys, kids⟩ := x
  simp only [HN] at h
  obtain ⟨fb, vk, vd, Fk, Fd, rfl, _, _, _, hk, hd⟩ := h
  have h1 := hl_leaf hk
  have h2 := hl_leaf hd
  refine ⟨rfl, ?_, ?_⟩
  · cases fb <;> simp [AV.leafOk, slV, Sl.lo, h1.1, h2.1] <;> exact ⟨h1.1, h2.1⟩
  · cases fb <;> simp [AV.shedLeaf, slV, Sl.lo] <;> exact ⟨h1.2, h2.2⟩
theorem hc_len {S : St} : ∀ {xs : List Pl} {cs : List AV} {F : List Nat}, HC S xs cs F → cs.length = xs.length * 9
  | [], cs, F, h => by simp only [HC] at h; rw [h.1]; rfl
  | x :: xs, cs, F, h => by
    simp only [HC] at h
    obtain ⟨c1, c2, F1, F2, rfl, _, h1, h2⟩ := h
    have := hc_len h2
    have := (hn_cells h1).1
    simp only [List.length_append, List.length_cons]; omega
theorem hc_leaf {S : St} : ∀ {xs : List Pl} {cs : List AV} {F : List Nat}, HC S xs cs F → cs.all AV.leafOk = true
  | [], cs, F, h => by simp only [HC] at h; rw [h.1]; rfl
  | x :: xs, cs, F, h => by
    simp only [HC] at h
    obtain ⟨c1, c2, F1, F2, rfl, _, h1, h2⟩ := h
    rw [List.all_append, (hn_cells h1).2.1, hc_leaf h2]; rfl
theorem HL.mono {P Q : List AV → List Nat → Prop} {n : Nat} {S S1 : St} {v : AV} {F : List Nat} (h : HL P n S v F) (hn : S.next ≤ S1.next) (hm : ∀ j ∈ F, S1.mem j = S.mem j) (hpq : ∀ cs G, (∀ j ∈ G, j ∈ F) → P cs G → Q cs G) : HL Q n S1 v F := by
  rcases h with ⟨rfl, rfl, rfl⟩ | ⟨a, cs, G, rfl, h1, h1', rfl, h2, h3⟩
  · exact .inl ⟨rfl, rfl, rfl⟩
  · exact .inr ⟨a, cs, G, rfl, by omega, h1', rfl, by rw [hm a (by simp)]; exact h2, hpq cs G (fun j hj => by simp [hj]) h3⟩
mutual
theorem HN.frame {S S1 : St} (hn : S.next ≤ S1.next) : ∀ (x : Pl) {cs : List AV} {F : List Nat}, HN S x cs F → (∀ j ∈ F, S1.mem j = S.mem j) → HN S1 x cs F
  | .mk kind n neg dg ex tx bs keys kids, cs, F, h, hm => by
    simp only [HN] at h ⊢
    obtain ⟨fb, vk, vd, Fk, Fd, h1, h2, h3, rfl, hk, hd⟩ := h
    exact ⟨fb, vk, vd, Fk, Fd, h1, h2, h3, rfl, hk.mono hn (fun j hj => hm j (by simp [hj])) (fun cs G hG h => HC.frame hn keys h fun j hj => hm j (by simp [hG j hj])),
      hd.mono hn (fun j hj => hm j (by simp [hj])) (fun cs G hG h => HC.frame hn kids h fun j hj => hm j (by simp [hG j hj]))⟩
theorem HC.frame {S S1 : St} (hn : S.next ≤ S1.next) : ∀ (xs : List Pl) {cs : List AV} {F : List Nat}, HC S xs cs F → (∀ j ∈ F, S1.mem j = S.mem j) → HC S1 xs cs F
  | [], cs, F, h, hm => h
  | x :: xs, cs, F, h, hm => by
    simp only [HC] at h ⊢
    obtain ⟨c1, c2, F1, F2, h1, rfl, h2, h3⟩ := h
    exact ⟨c1, c2, F1, F2, h1, rfl, HN.frame hn x h2 fun j hj => hm j (by simp [hj]), HC.frame hn xs h3 fun j hj => hm j (by simp [hj])⟩
end
mutual
theorem HN.lt {S : St} : ∀ (x : Pl) {cs : List AV} {F : List Nat}, HN S x cs F → ∀ j ∈ F, j < S.next
  | .mk kind n neg dg ex tx bs keys kids, cs, F, h, j, hj => by
    simp only [HN] at h
    obtain ⟨fb, vk, vd, Fk, Fd, h1, h2, h3, rfl, hk, hd⟩ := h
    rcases List.mem_append.1 hj with hj | hj
    · rcases hk with ⟨_, _, rfl⟩ | ⟨a, cs, G, rfl, q1, _, _, _, q3⟩
      · cases hj
      · rcases List.mem_cons.1 hj with rfl | hj
        · exact q1
        · exact HC.lt keys q3 j hj
    · rcases hd with ⟨_, _, rfl⟩ | ⟨a, cs, G, rfl, q1, _, _, _, q3⟩
      · cases hj
      · rcases List.mem_cons.1 hj with rfl | hj
        · exact q1
        · exact HC.lt kids q3 j hj
theorem HC.lt {S : St} : ∀ (xs : List Pl) {cs : List AV} {F : List Nat}, HC S xs cs F → ∀ j ∈ F, j < S.next
  | [], cs, F, h, j, hj => by simp only [HC] at h; rw [h.2] at hj; cases hj
  | x :: xs, cs, F, h, j, hj => by
    simp only [HC] at h
    obtain ⟨c1, c2, F1, F2, h1, rfl, h2, h3⟩ := h
    rcases List.mem_append.1 hj with hj | hj
    · exact HN.lt x h2 j hj
    · exact HC.lt xs h3 j hj
end
theorem HL.lt {n : Nat} {S : St} {xs : List Pl} {v : AV} {F : List Nat} (h : HL (fun cs G => HC S xs cs G) n S v F) : ∀ j ∈ F, j < S.next := by
  rcases h with ⟨_, _, rfl⟩ | ⟨a, cs, G, rfl, q1, _, _, _, q3⟩
  · intro j hj; cases hj
  · intro j hj
    rcases List.mem_cons.1 hj with rfl | hj
    · exact q1
    · exact HC.lt xs q3 j hj
theorem hc_app {S : St} {ys : List Pl} {c2 : List AV} {F2 : List Nat} (h2 : HC S ys c2 F2) : ∀ {xs : List Pl} {c1 : List AV} {F1 : List Nat}, HC S xs c1 F1 → HC S (xs ++ ys) (c1 ++ c2) (F1 ++ F2)
  | [], c1, F1, h => by simp only [HC] at h; rw [h.1, h.2]; exact h2
  | x :: xs, c1, F1, h => by
    simp only [HC] at h
    obtain ⟨d1, d2, G1, G2, rfl, rfl, h3, h4⟩ := h
    rw [List.cons_append]
    simp only [HC]
    exact ⟨d1, d2 ++ c2, G1, G2 ++ F2, by simp, by simp, h3, hc_app h2 h4⟩
/-- One of the nodes, and what else is there. -/
theorem hc_at {S : St} : ∀ {xs : List Pl} {cs : List AV} {F : List Nat} {i : Nat} (hi : i < xs.length), HC S xs cs F → ∃ c1 c c2 F1 F0 F2, cs = c1 ++ (c ++ c2) ∧ c1.length = i * 9 ∧ F = F1 ++ (F0 ++ F2) ∧ HN S xs[i] c F0 ∧
    ∀ (S1 : St) (y : Pl) (d : List AV) (G : List Nat), S.next ≤ S1.next → (∀ j ∈ F1, S1.mem j = S.mem j) → (∀ j ∈ F2, S1.mem j = S.mem j) → HN S1 y d G → HC S1 (xs.set i y) (c1 ++ (d ++ c2)) (F1 ++ (G ++ F2))
  | x :: xs, cs, F, 0, _, h => by
    simp only [HC] at h
    obtain ⟨c1, c2, F1, F2, rfl, rfl, h1, h2⟩ := h
    refine ⟨[], c1, c2, [], F1, F2, rfl, by simp, rfl, h1, fun S1 y d G hn _ hm hy => ?_⟩
    simp only [List.set_cons_zero, List.nil_append, HC]
    exact ⟨d, c2, G, F2, rfl, rfl, hy, h2.frame hn xs hm⟩
  | x :: xs, cs, F, i + 1, hi, h => by
    simp only [HC] at h
    obtain ⟨c1, c2, F1, F2, rfl, rfl, h1, h2⟩ := h
    obtain ⟨d1, d, d2, G1, G0, G2, rfl, hl, rfl, h3, h4⟩ := hc_at (i := i) (by simpa using hi) h2
    have := (hn_cells h1).1
    refine ⟨c1 ++ d1, d, d2, F1 ++ G1, G0, G2, by simp, by simp; omega, by simp, by simpa using h3, fun S1 y e G hn hm1 hm2 hy => ?_⟩
    simp only [List.set_cons_succ, HC]
    exact ⟨c1, d1 ++ (e ++ d2), F1, G1 ++ (G ++ G2), by simp, by simp, h1.frame hn x fun j hj => hm1 j (by simp [hj]), h4 S1 y e G hn (fun j hj => hm1 j (by simp [hj])) hm2 hy⟩
/-! .. that are written no more. -/
theorem mapS_app {g : AV → St → Option (AV × St)} : ∀ (a b : List AV) (S : St), mapS g (a ++ b) S = (mapS g a S).bind fun r => (mapS g b r.2).map fun q => (r.1 ++ q.1, q.2)
  | [], b, S => by simp [mapS]
  | x :: a, b, S => by
    simp only [List.cons_append, mapS]
    cases g x S with
    | none => rfl
    | some r =>
      simp only [Option.bind_some, mapS_app a b r.2]
      cases mapS g a r.2 with
      | none => rfl
      | some q =>
        simp only [Option.bind_some, Option.map_some]
        cases mapS g b q.2 <;> rfl
/-- The node in lists. -/
def Lo (y : Nd) : Prop := y.Ok ∧ y.cs.map AV.shedLeaf = y.cs
def csL (ys : List Nd) : List AV := ys.flatMap Nd.cs
theorem chunk_cs : ∀ ys : List Nd, chunk true 9 ys.length (csL ys) = Nd.vs ys
  | [] => rfl
  | y :: ys => by
    have hl := cs_len y
    have h1 : csL (y :: ys) = y.cs ++ csL ys := by simp [csL]
    rw [h1, Nd.vs, v_cs]
    simp only [List.length_cons, chunk, if_true]
    rw [List.take_append_of_le_length (by omega), List.take_of_length_le (by omega), List.drop_append_of_le_length (by omega), List.drop_of_length_le (by omega), List.nil_append, chunk_cs ys]
theorem hl_frz {xs : List Pl} {k n : Nat} {S : St} {v : AV} {F : List Nat} (h : HL (fun cs G => HC S xs cs G) n S v F) (hn : n = xs.length) (hnd : F.Nodup)
    (H : ∀ (S : St) (cs : List AV) (F : List Nat), HC S xs cs F → F.Nodup → ∃ ys S', mapS (frzA k) cs S = some (csL ys, S') ∧ ers ys = xs ∧ (∀ y ∈ ys, Lo y) ∧ S'.next = S.next ∧ ∀ j, j ∉ F → S'.mem j = S.mem j) :
    ∃ (f : Sl) (ys : List Nd) (S' : St), frzA (k + 1) v S = some (slV f (Nd.vs ys), S') ∧ ers ys = xs ∧ (f = .nil → ys = []) ∧ f.lo = f ∧ ys.length ≤ 2 ^ 47 ∧ (∀ y ∈ ys, Lo y) ∧ S'.next = S.next ∧ ∀ j, j ∉ F → S'.mem j = S.mem j := by
  subst hn
  rcases h with ⟨rfl, h0, rfl⟩ | ⟨a, cs, G, rfl, h1, h1', rfl, h2, h3⟩
  · have : xs = [] := List.length_eq_zero_iff.1 h0
    subst this
    exact ⟨.nil, [], S, rfl, rfl, fun _ => rfl, rfl, by simp, fun _ h => (List.not_mem_nil h).elim, rfl, fun _ _ => rfl⟩
  · have hng := List.nodup_cons.1 hnd
    have hl := hc_len h3
    have h4 : HC (S.set a none) xs cs G := HC.frame (S := S) (S1 := S.set a none) (Nat.le_refl S.next) xs h3 fun j hj => by
      have : j ≠ a := by rintro rfl; exact hng.1 hj
      simp [St.set, upd, this]
    obtain ⟨ys, S', q1, q2, q3, q4, q5⟩ := H _ cs G h4 hng.2
    have hyl : ys.length = xs.length := by rw [← q2, len_ers]
    refine ⟨.lst .lost, ys, S', ?_, q2, (fun h => Sl.noConfusion h), rfl, by omega, q3, q4, fun j hj => ?_⟩
    · unfold frzA
      simp only [h2]
      rw [if_pos (by omega), List.drop_zero, List.take_of_length_le (by omega), q1]
      simp only [Option.bind_some]
      rw [if_pos (by rfl), ← hyl]
      show some (AV.lst (chunk true 9 ys.length (csL ys)) Tip.lost, S') = _
      rw [chunk_cs]; rfl
    · have hja : j ≠ a := fun e => hj (by simp [e])
      rw [q5 j (fun h => hj (by simp [h]))]
      simp [St.set, upd, hja]
mutual
theorem hn_frz : ∀ (x : Pl) (k : Nat) (S : St) (cs : List AV) (F : List Nat), HN S x cs F → F.Nodup → pdep x ≤ k → ∃ y S', mapS (frzA (k + 1)) cs S = some (y.cs, S') ∧ er y = x ∧ Lo y ∧ S'.next = S.next ∧ ∀ j, j ∉ F → S'.mem j = S.mem j
  | .mk kind n neg dg ex tx bs keys kids, k, S, cs, F, h, hnd, hk => by
    simp only [HN] at h
    obtain ⟨fb, vk, vd, Fk, Fd, rfl, h2, h3, rfl, h4, h5⟩ := h
    have hd := List.nodup_append.1 hnd
    have hdis : ∀ j ∈ Fd, j ∉ Fk := fun j hj q => hd.2.2 j q j hj rfl
    simp only [pdep] at hk
    obtain ⟨k, rfl⟩ : ∃ m, k = m + 1 := ⟨k - 1, by omega⟩
    obtain ⟨f1, ys, S1, a1, a2, a3, a4, a5, a6, a7, a8⟩ := hl_frz (k := k + 1) h4 rfl hd.1 (fun S cs F h h' => hc_frz keys k S cs F h h' (by omega))
    have h5' : HL (fun cs G => HC S1 kids cs G) kids.length S1 vd Fd := h5.mono (by omega) (fun j hj => a8 j (hdis j hj)) (fun cs G hG h => HC.frame (by omega) kids h fun j hj => a8 j (hdis j (hG j hj)))
    obtain ⟨f2, zs, S2, b1, b2, b3, b4, b5, b6, b7, b8⟩ := hl_frz (k := k + 1) h5' rfl hd.2.1 (fun S cs F h h' => hc_frz kids k S cs F h h' (by omega))
    refine ⟨.mk kind n neg dg ex tx fb.lo bs f1 ys f2 zs, S2, ?_, by simp only [er]; rw [a2, b2], ⟨⟨fun h => h2 (by cases fb; rfl; cases h), a3, b3, h3, a5, b5, oks_iff.2 fun y hy => (a6 y hy).1, oks_iff.2 fun y hy => (b6 y hy).1⟩, ?_⟩, by omega, fun j hj => ?_⟩
    · have hb : ∀ k, frzA (k + 1) (slV fb.lo (bs.map u8)) S = some (slV fb.lo (bs.map u8), S) := fun k => by cases fb <;> rfl
      have hi : ∀ k c n, frzA (k + 1) (.int c n) S = some (.int c n, S) := fun _ _ _ => rfl
      have hbo : ∀ k b, frzA (k + 1) (.bool b) S = some (.bool b, S) := fun _ _ => rfl
      have hst : ∀ k b, frzA (k + 1) (.str b) S = some (.str b, S) := fun _ _ => rfl
      simp only [mapS, hb, hi, hbo, hst, Option.bind_some, a1, b1, Option.map_some]
      rfl
    · have s1 : ∀ (f : Sl) (l : List AV), f.lo = f → AV.shedLeaf (slV f l) = slV f l := fun f l hf => by
        cases f with
        | nil => rfl
        | lst t => cases hf; rfl
      have s2 : fb.lo.lo = fb.lo := by cases fb <;> rfl
      simp only [Nd.cs, List.map_cons, List.map_nil, s1 _ _ a4, s1 _ _ b4, s1 _ _ s2]
      rfl
    · rw [List.mem_append, not_or] at hj
      rw [b8 j hj.2, a8 j hj.1]
theorem hc_frz : ∀ (xs : List Pl) (k : Nat) (S : St) (cs : List AV) (F : List Nat), HC S xs cs F → F.Nodup → pdeps xs ≤ k → ∃ ys S', mapS (frzA (k + 1)) cs S = some (csL ys, S') ∧ ers ys = xs ∧ (∀ y ∈ ys, Lo y) ∧ S'.next = S.next ∧ ∀ j, j ∉ F → S'.mem j = S.mem j
  | [], k, S, cs, F, h, hnd, hk => by
    simp only [HC] at h
    obtain ⟨rfl, rfl⟩ := h
    exact ⟨[], S, rfl, rfl, fun _ h => (List.not_mem_nil h).elim, rfl, fun _ _ => rfl⟩
  | x :: xs, k, S, cs, F, h, hnd, hk => by
    simp only [HC] at h
    obtain ⟨c1, c2, F1, F2, rfl, rfl, h1, h2⟩ := h
    have hd := List.nodup_append.1 hnd
    have hdis : ∀ j ∈ F2, j ∉ F1 := fun j hj q => hd.2.2 j q j hj rfl
    simp only [pdeps] at hk
    obtain ⟨y, S1, a1, a2, a3, a4, a5⟩ := hn_frz x k S c1 F1 h1 hd.1 (by omega)
    obtain ⟨ys, S2, b1, b2, b3, b4, b5⟩ := hc_frz xs k S1 c2 F2 (HC.frame (by omega) xs h2 fun j hj => a5 j (hdis j hj)) hd.2.1 (by omega)
    refine ⟨y :: ys, S2, ?_, by simp only [ers]; rw [a2, b2], fun z hz => ?_, by omega, fun j hj => ?_⟩
    · rw [mapS_app, a1]
      simp only [Option.bind_some, b1, Option.map_some]
      simp [csL]
    · rcases List.mem_cons.1 hz with rfl | hz
      · exact a3
      · exact b3 z hz
    · rw [List.mem_append, not_or] at hj
      rw [b5 j hj.2, a5 j hj.1]
end
end Go.Proofs.YtmkmakokgfigoaaDoor
namespace Go.Proofs.YtmkmakokgfigoaaDoor
open Go.Proofs.YtmkmakokgfigoaaDoor.VM Go.RowKit
set_option maxRecDepth 100000
set_option linter.unusedVariables false
set_option linter.unusedSimpArgs false
set_option maxHeartbeats 1000000
/-! own: a tree of its own, in written arrays. -/
theorem set_ne {S : St} {a j : Nat} {x : Option Blk} (h : j ≠ a) : (S.set a x).mem j = S.mem j := by simp [St.set, upd, h]
theorem one_agg {S : St} {q : Nat} {cs : List AV} (hq : S.cells q = some cs) (hl : cs.length = 9) : elemsA S true 9 (.hnd q 0 1 9) = some [.agg cs] := by
  simp only [elemsA, hq, Option.bind_some]
  rw [if_pos ⟨trivial, by omega, rfl⟩]
  simp only [chunk, List.drop_zero, if_true]
  rw [List.take_of_length_le (by omega)]
theorem append_nil_node {S : St} {q : Nat} {cs : List AV} (hq : S.cells q = some cs) (hl : cs.length = 9) (hf : cs.all AV.leafOk = true) (hs : cs.map AV.shedLeaf = cs) :
    builtinA Tryd.prog TC 46 .append #[24, 24] [.nils, .hnd q 0 1 9] S = some (.ret (.hnd S.next 0 1 9), S.new (.cells cs)) := by
  have hE := el24
  have helem : elemA Tryd.prog 24 = some 26 := by simp [elemA, hE.und]
  have hsh : [AV.agg cs].map AV.shed = [.agg cs] := by simp [AV.shed, hs]
  have hw : wellA 9 [AV.agg cs] = true := by simp only [wellA, List.all_cons, List.all_nil, AV.cells, hl, hf]; rfl
  have hh : TC.hnd 46 = true := by rfl
  simp only [builtinA, appendA, helem, hE.size, hE.agg, hE.bytes, hE.zero, hE.und, Option.bind_some, appendB, one_agg hq hl, hsh]
  rw [if_pos ⟨by decide, hE.zlen, hw⟩]
  simp only [List.length_singleton]
  rw [if_neg (by decide), if_pos (by rfl)]
  simp only [freshA, hh, if_true, Option.bind_some, retA, List.length_singleton]
  simp [flat, AV.cells]
theorem append_hnd_node {S : St} {a i q : Nat} {cs0 cs : List AV} (ha : S.mem a = some (.cells cs0)) (hl0 : cs0.length = i * 9) (hf0 : cs0.all AV.leafOk = true) (hi : i ≤ 2 ^ 38) (hq : S.cells q = some cs) (hl : cs.length = 9) (hf : cs.all AV.leafOk = true) (hs : cs.map AV.shedLeaf = cs) :
    builtinA Tryd.prog TC 46 .append #[24, 24] [.hnd a 0 i 9, .hnd q 0 1 9] S = some (.ret (.hnd S.next 0 (i + 1) 9), (S.set a none).new (.cells (cs0 ++ cs))) := by
  have hE := el24
  have helem : elemA Tryd.prog 24 = some 26 := by simp [elemA, hE.und]
  have hsh : [AV.agg cs].map AV.shed = [.agg cs] := by simp [AV.shed, hs]
  have hw : wellA 9 [AV.agg cs] = true := by simp only [wellA, List.all_cons, List.all_nil, AV.cells, hl, hf]; rfl
  have hc : S.cells a = some cs0 := by unfold St.cells; rw [ha]
  simp only [builtinA, appendA, helem, hE.size, hE.agg, hE.bytes, hE.zero, hE.und, Option.bind_some, appendB, one_agg hq hl, hsh]
  rw [if_pos ⟨by decide, hE.zlen, hw⟩]
  simp only [List.length_singleton]
  rw [if_neg (by decide), hc]
  simp only [Option.bind_some]
  rw [if_pos ⟨trivial, by simp [sizeOk]; omega, by omega, hf0⟩]
  simp only [Option.bind_some, retA, List.drop_zero]
  rw [List.take_of_length_le (by omega)]
  simp [flat, AV.cells]
/-- Nothing that was there turns, and so many blocks are new. -/
structure New (S S1 : St) (k : Nat) : Prop where
  keep : Keep S S1
  more : S.next + k ≤ S1.next
/-- What own answers. -/
def OwnR (x : Pl) (k : Nat) (S : St) (r : AV) (S1 : St) : Prop := ∃ cs F, r = .agg cs ∧ HN S1 x cs F ∧ F.Nodup ∧ (∀ j ∈ F, S.next ≤ j) ∧ Keep S S1 ∧ S.next + k ≤ S1.next
def OwnsR (xs : List Pl) (k : Nat) (S : St) (r : AV) (S1 : St) : Prop := ∃ F, HL (fun cs G => HC S1 xs cs G) xs.length S1 r F ∧ F.Nodup ∧ (∀ j ∈ F, S.next ≤ j) ∧ Keep S S1 ∧ S.next + k ≤ S1.next
theorem HL.le {P : List AV → List Nat → Prop} {n : Nat} {S : St} {v : AV} {F : List Nat} (h : HL P n S v F) : v = .nils ∧ n = 0 ∧ F = [] ∨ ∃ a G, F = a :: G ∧ v = .hnd a 0 n 9 := by
  rcases h with h | ⟨a, cs, G, rfl, _, _, rfl, _⟩
  · exact .inl h
  · exact .inr ⟨a, G, rfl, rfl⟩

theorem t46_of (N : Nat) (hN : N ≤ 2 ^ 30) (H : ∀ x : Nd, x.Ok → cnt x ≤ N → ∀ S, CallQ Tryd.prog TC 34 [x.v] S fun r S1 => OwnR (er x) (2 * cnt x) S r S1) (xs : List Nd) (f : Sl) (hf : f = .nil → xs = []) (hx : Nd.Oks xs) (hcn : cnts xs ≤ N) (S : St) :
    CallQ Tryd.prog TC 46 [slV f (Nd.vs xs)] S fun r S1 => OwnsR (ers xs) (2 * cnts xs) S r S1 := by
  refine CallQ.of rfl (by kernel_rfl : Tryd.prog.funcs[46]? = some Tryd.f46) rfl (by decide) ?_
  rcases f with _ | tf
  · obtain rfl := hf rfl
    conv => whnf
    refine CodeQ.loop (fun (i : Nat) => pat 19 [(3, .nils), (7, .int .i64 0), (8, .int .i64 0)]) (fun m i S1 => S1 = S) ?_ 0 0 _ _ rfl ⟨rfl, rfl, rfl, trivial⟩
    rintro m i S1 d rfl
    conv => whnf
    intro c hc
    obtain rfl : c = false := by rw [hc]; rfl
    conv => whnf
    exact ⟨[], .inl ⟨rfl, rfl, rfl⟩, List.nodup_nil, fun _ h => (List.not_mem_nil h).elim, .refl _, by simp [cnts]⟩
  · have hlen : xs.length ≤ 2 ^ 30 := by have := len_cnts xs; omega
    conv => whnf
    refine CodeQ.loop (fun (q : Nat × AV) => pat 19 [(3, q.2), (6, .lst (Nd.vs xs) tf), (7, .int .i64 xs.length), (8, .int .i64 q.1)])
      (fun m q S1 => q.1 + m = xs.length ∧ Keep S S1 ∧ S.next + 2 * cnts (xs.take q.1) ≤ S1.next ∧ ∃ F, HL (fun cs G => HC S1 (ers (xs.take q.1)) cs G) q.1 S1 q.2 F ∧ F.Nodup ∧ ∀ j ∈ F, S.next ≤ j) ?_ xs.length (0, .nils) _ _
      ⟨by simp, .refl _, by simp [cnts], [], .inl ⟨rfl, rfl, rfl⟩, List.nodup_nil, fun _ h => (List.not_mem_nil h).elim⟩ ⟨rfl, rfl, by simp [vs_len], rfl, trivial⟩
    rintro m ⟨i, o⟩ S1 d ⟨hi, k1, hmo, F, ho, hnd, hF⟩
    dsimp only at *
    have hn1 := k1.next
    conv => whnf
    intro c hc
    cases c
    · have hle : xs.length ≤ i := by simpa using hc
      rw [List.take_of_length_le hle] at ho hmo
      obtain rfl : i = xs.length := by omega
      have hfin : OwnsR (ers xs) (2 * cnts xs) S o S1 := ⟨F, by rw [len_ers]; exact ho, hnd, hF, k1, by omega⟩
      rcases ho.le with ⟨rfl, _, _⟩ | ⟨a, G, _, rfl⟩
      all_goals
        conv => whnf
        exact hfin
    · have hlt : i < xs.length := by simpa using hc
      have g1 := vs_at hlt
      have hcall := H xs[i] (oks_iff.1 hx _ (List.getElem_mem hlt)) (Nat.le_trans (cnt_mem (List.getElem_mem hlt)) hcn)
      have e1 := ers_take hlt
      have e2 := cnts_take xs i hlt
      generalize xs[i] = x at *
      obtain ⟨X, hX⟩ : ∃ X, X = er x := ⟨_, rfl⟩
      rw [← hX] at hcall e1
      clear hX
      generalize cnt x = cx at *
      obtain ⟨kind', n', neg', dg', ex', tx', fb', bs', fk', keys', fd', kids'⟩ := x
      conv => whnf
      refine ⟨by omega, _, g1, rfl, ?_⟩
      conv => whnf
      refine ⟨_, _, cells_new _ _, store_agg rfl rfl (nd_leaf ..), ?_⟩
      conv => whnf
      generalize hS2 : (S1.new _).set S1.next _ = S2
      have kk2 : Keep S1 S2 := by rw [← hS2]; exact ((Keep.refl S1).new _).set _ _ (Nat.le_refl _)
      have n2 : S2.next = S1.next + 1 := by rw [← hS2]; rfl
      have x2 : S2.cells S1.next = some (Nd.cs (.mk kind' n' neg' dg' ex' tx' fb' bs' fk' keys' fd' kids')) := by rw [← hS2]; exact cells_set _ _ _
      clear hS2
      refine ⟨_, x2, ?_⟩
      conv => whnf
      refine CallQ.mono (hcall S2) ?_
      rintro r S3 ⟨cs, Fy, rfl, hy, hndy, hFy, k3, hm3⟩
      obtain ⟨hl, hlf, hsh⟩ := hn_cells hy
      have hlt3 := HN.lt _ hy
      have hF1 := ho.lt
      have ho3 : HL (fun cs G => HC S3 (ers (xs.take i)) cs G) i S3 o F := ho.mono (by omega) (fun j hj => by rw [k3.mem j (by have := hF1 j hj; omega), kk2.mem j (hF1 j hj)]) (fun cs G hG h => HC.frame (by omega) _ h fun j hj => by rw [k3.mem j (by have := hF1 j (hG j hj); omega), kk2.mem j (hF1 j (hG j hj))])
      obtain ⟨c0, c1, c2, c3, c4, c5, c6, c7, c8, rfl⟩ : ∃ c0 c1 c2 c3 c4 c5 c6 c7 c8, cs = [c0, c1, c2, c3, c4, c5, c6, c7, c8] := by
        match cs, hl with
        | [x0, x1, x2, x3, x4, x5, x6, x7, x8], _ => exact ⟨x0, x1, x2, x3, x4, x5, x6, x7, x8, rfl⟩
      conv => whnf
      generalize hS4 : S3.new _ = S4
      have q4 : S4.cells S3.next = some [c0, c1, c2, c3, c4, c5, c6, c7, c8] := by rw [← hS4]; exact cells_new _ _
      have n4 : S4.next = S3.next + 1 := by rw [← hS4]; rfl
      have k4 : Keep S3 S4 := by rw [← hS4]; exact (Keep.refl S3).new _
      clear hS4
      have kk : Keep S S4 := ((k1.trans kk2).trans k3).trans k4
      have one : ∀ S5 : St, S3.next ≤ S5.next → (∀ j ∈ Fy, S5.mem j = S3.mem j) → HC S5 [X] [c0, c1, c2, c3, c4, c5, c6, c7, c8] Fy := fun S5 h1 h2 => by
        simp only [HC]
        exact ⟨_, [], Fy, [], by simp, by simp, HN.frame h1 _ hy h2, rfl, rfl⟩
      rcases ho3 with ⟨rfl, h0, rfl⟩ | ⟨a, cs0, G, rfl, h1, h1', rfl, h2, h3⟩
      · subst h0
        refine ⟨_, _, append_nil_node q4 hl hlf hsh, ?_⟩
        have fr : ∀ j ∈ Fy, (S4.new (.cells [c0, c1, c2, c3, c4, c5, c6, c7, c8])).mem j = S3.mem j := fun j hj => by
          have := hlt3 j hj
          rw [((Keep.refl S4).new _).mem j (by omega), k4.mem j this]
        conv => whnf
        refine ⟨m - 1, (1, _), by omega, ⟨by dsimp only; omega, kk.new _, ?_, S4.next :: Fy, .inr ⟨S4.next, _, Fy, rfl, by show S4.next < S4.next + 1; omega, by show 1 ≤ 2 ^ 47; decide, rfl, mem_new _ _, ?_⟩, ?_, ?_⟩, ⟨rfl, rfl, rfl, ?_, trivial⟩⟩
        · rw [e2]; simp only [List.take_zero, cnts] at hmo ⊢
          show _ ≤ S4.next + 1
          omega
        · rw [e1]
          simp only [List.take_zero, ers, List.nil_append]
          exact one _ (by show _ ≤ S4.next + 1; omega) fr
        · refine List.nodup_cons.2 ⟨fun h => by have := hlt3 _ h; omega, hndy⟩
        · intro j hj
          rcases List.mem_cons.1 hj with rfl | hj
          · omega
          · have := hFy j hj; omega
        · rw [wrap_i64 (by omega) (by omega)]; rfl
      · have hng := List.nodup_cons.1 hnd
        have ha3 : S4.mem a = some (.cells cs0) := by rw [k4.mem a h1]; exact h2
        have haS : S.next ≤ a := hF a (by simp)
        have ha1 : a < S1.next := hF1 a (by simp)
        have hl0 := hc_len h3
        rw [len_ers, List.length_take] at hl0
        have hl0 : cs0.length = i * 9 := by rw [hl0]; congr 1; omega
        refine ⟨_, _, append_hnd_node ha3 hl0 (hc_leaf h3) (by omega) q4 hl hlf hsh, ?_⟩
        have fr : ∀ j, j < S3.next → j ≠ a → ((S4.set a none).new (.cells (cs0 ++ [c0, c1, c2, c3, c4, c5, c6, c7, c8]))).mem j = S3.mem j := fun j hj hja => by
          have e : (S4.set a none).next = S4.next := rfl
          simp only [St.new, St.set, upd]
          rw [if_neg (by omega), if_neg hja, k4.mem j hj]
        conv => whnf
        refine ⟨m - 1, (i + 1, _), by omega, ⟨by dsimp only; omega, (kk.set _ _ haS).new _, ?_, S4.next :: (G ++ Fy), .inr ⟨S4.next, _, G ++ Fy, rfl, by show S4.next < S4.next + 1; omega, by omega, rfl, mem_new _ _, ?_⟩, ?_, ?_⟩, ⟨rfl, rfl, rfl, ?_, trivial⟩⟩
        · rw [e2]
          show _ ≤ S4.next + 1
          omega
        · rw [e1]
          refine hc_app (one _ (by show _ ≤ S4.next + 1; omega) fun j hj => fr j (hlt3 j hj) (by have := hFy j hj; omega)) (HC.frame (by show _ ≤ S4.next + 1; omega) _ h3 fun j hj => fr j ?_ ?_)
          · have := hF1 j (by simp [hj]); omega
          · rintro rfl; exact hng.1 hj
        · refine List.nodup_cons.2 ⟨fun h => ?_, List.nodup_append.2 ⟨hng.2, hndy, fun x hx y hy' e => ?_⟩⟩
          · rcases List.mem_append.1 h with h | h
            · have := hF1 S4.next (by simp [h]); omega
            · have := hlt3 _ h; omega
          · subst e
            have := hF1 x (by simp [hx])
            have := hFy x hy'
            omega
        · intro j hj
          rcases List.mem_cons.1 hj with rfl | hj
          · omega
          · rcases List.mem_append.1 hj with hj | hj
            · exact hF j (by simp [hj])
            · have := hFy j hj; omega
        · rw [wrap_i64 (by omega) (by omega)]; rfl
theorem hl_split {P : List AV → List Nat → Prop} {n : Nat} {S : St} {v : AV} {F : List Nat} (h : HL P n S v F) : v = .nils ∨ ∃ a n, v = .hnd a 0 n 9 := by
  rcases h with ⟨rfl, _⟩ | ⟨a, cs, G, _, _, _, rfl, _⟩
  · exact .inl rfl
  · exact .inr ⟨a, n, rfl⟩
theorem t34_step (N : Nat) (hN : N ≤ 2 ^ 30) (H : ∀ x : Nd, x.Ok → cnt x ≤ N → ∀ S, CallQ Tryd.prog TC 34 [x.v] S fun r S1 => OwnR (er x) (2 * cnt x) S r S1) (x : Nd) (hx : x.Ok) (hc : cnt x ≤ N + 1) (S : St) :
    CallQ Tryd.prog TC 34 [x.v] S fun r S1 => OwnR (er x) (2 * cnt x) S r S1 := by
  obtain ⟨kind, n, neg, dg, ex, tx, fb, bs, fk, keys, fd, kids⟩ := x
  obtain ⟨x1, x2, x3, x4, x5, x6, x7, x8⟩ := hx
  simp only [cnt] at hc
  have hk := t46_of N hN H keys fk x2 x7 (by omega)
  have hd := t46_of N hN H kids fd x3 x8 (by omega)
  have hb := t45 bs fb x1 x4
  refine CallQ.of rfl (by kernel_rfl : Tryd.prog.funcs[34]? = some Tryd.f34) rfl (by decide) ?_
  conv => whnf
  have hdn : ∀ b, (S.new b).next = S.next + 1 := fun _ => rfl
  rw [hdn]
  generalize hS1 : (S.new _).new _ = S1
  have k1 : Keep S S1 := by rw [← hS1]; exact ((Keep.refl S).new _).new _
  have a1 : S1.cells S.next = some [.int .i64 kind, .int .u64 n, .bool neg, .str dg, .int .i64 ex, .str tx, slV fb (bs.map u8), slV fk (Nd.vs keys), slV fd (Nd.vs kids)] := by rw [← hS1]; exact cells_new_ne (cells_new _ _) (by show S.next ≠ S.next + 1; omega)
  have a2 : S1.cells (S.next + 1) = some zN.cs := by rw [← hS1]; exact cells_new _ _
  have n1 : S1.next = S.next + 2 := by rw [← hS1]; rfl
  refine ⟨_, a1, ?_⟩
  conv => whnf
  refine CallQ.mono (hb S1) ?_
  rintro r S2 ⟨rfl, k2⟩
  have b1 := (cells_keep k2 (j := S.next) (by omega)).trans a1
  have b2 := (cells_keep k2 (j := S.next + 1) (by omega)).trans a2
  have n2 := k2.next
  obtain ⟨g6, hg6⟩ : ∃ g6, g6 = fb.lo := ⟨_, rfl⟩
  have hn6 : fb = .nil → bs = [] := x1
  rcases hfb : fb with _ | tb
  all_goals
    rw [hfb] at hg6 b1
    conv => whnf
    refine ⟨_, _, b1, if_pos ⟨rfl, rfl, Nat.le_of_ble_eq_true rfl⟩, ?_⟩
    conv => whnf
    generalize hS3 : S2.set S.next _ = S3
    have k3 : Keep S S3 := by rw [← hS3]; exact (k1.trans k2).set _ _ (Nat.le_refl _)
    have n3 : S.next + 2 ≤ S3.next := by rw [← hS3]; show _ ≤ S2.next; omega
    have c1 : S3.cells S.next = some [.int .i64 kind, .int .u64 n, .bool neg, .str dg, .int .i64 ex, .str tx, slV g6 (bs.map u8), slV fk (Nd.vs keys), slV fd (Nd.vs kids)] := by rw [← hS3, hg6]; exact cells_set _ _ _
    have c2 : S3.cells (S.next + 1) = some zN.cs := by rw [← hS3]; exact cells_set_ne b2 (by omega)
    clear hS3 hS1 b1 b2 a1 a2
    refine ⟨[0, 1, 3, 4, 2, 5, 6, 7, 8, 9], [(2, [4])], by kernel_rfl, by kernel_rfl, by kernel_rfl, ?_⟩
    conv => whnf
    refine ⟨_, c1, ?_⟩
    conv => whnf
    refine ⟨_, c1, ?_⟩
    conv => whnf
    refine CallQ.mono (hk S3) ?_
    rintro vk S4 ⟨Fk, hlk, ndk, geK, k4, m4⟩
    have n4 := k4.next
    have d1 := (cells_keep k4 (j := S.next) (by omega)).trans c1
    have d2 := (cells_keep k4 (j := S.next + 1) (by omega)).trans c2
    have ltk := hlk.lt
    have hsk := hl_split hlk
    obtain ⟨Vk, hVk⟩ : ∃ Vk, Vk = vk := ⟨_, rfl⟩
    rw [← hVk] at hlk
    rcases hsk with rfl | ⟨ak, nk, rfl⟩
    all_goals
      conv => whnf
      refine ⟨stab_load rfl rfl rfl rfl rfl (by show (St.cells _ S.next).bind _ = _; rw [d1]; rfl), ?_⟩
      conv => whnf
      refine CallQ.mono (hd S4) ?_
      rintro vd S5 ⟨Fd, hld, ndd, geD, k5, m5⟩
      have n5 := k5.next
      have e1 := (cells_keep k5 (j := S.next) (by omega)).trans d1
      have e2 := (cells_keep k5 (j := S.next + 1) (by omega)).trans d2
      have ltd := hld.lt
      have hsd := hl_split hld
      obtain ⟨Vd, hVd⟩ : ∃ Vd, Vd = vd := ⟨_, rfl⟩
      rw [← hVd] at hld
      have hfin : ∀ S6 : St, S5.next ≤ S6.next → (∀ j, S.next + 2 ≤ j → S6.mem j = S5.mem j) → Keep S S6 → OwnR (er (.mk kind n neg dg ex tx fb bs fk keys fd kids)) (2 * cnt (.mk kind n neg dg ex tx fb bs fk keys fd kids)) S (.agg [.int .i64 kind, .int .u64 n, .bool neg, .str dg, .int .i64 ex, .str tx, slV fb.lo (bs.map u8), Vk, Vd]) S6 := by
        intro S6 h6 hm6 k6
        refine ⟨_, Fk ++ Fd, rfl, ?_, ?_, ?_, k6, by simp only [cnt]; omega⟩
        · simp only [er, HN]
          refine ⟨fb, Vk, Vd, Fk, Fd, rfl, hn6, x4, rfl, ?_, ?_⟩
          · refine hlk.mono (by omega) (fun j hj => ?_) (fun cs G hG h => HC.frame (by omega) _ h fun j hj => ?_)
            · rw [hm6 j (by have := geK j hj; omega), k5.mem j (ltk j hj)]
            · rw [hm6 j (by have := geK j (hG j hj); omega), k5.mem j (ltk j (hG j hj))]
          · refine hld.mono (by omega) (fun j hj => ?_) (fun cs G hG h => HC.frame (by omega) _ h fun j hj => ?_)
            · rw [hm6 j (by have := geD j hj; omega)]
            · rw [hm6 j (by have := geD j (hG j hj); omega)]
        · exact List.nodup_append.2 ⟨ndk, ndd, fun a ha b hb e => by subst e; have := ltk a ha; have := geD a hb; omega⟩
        · intro j hj
          rcases List.mem_append.1 hj with hj | hj
          · have := geK j hj; omega
          · have := geD j hj; omega
      rcases hsd with rfl | ⟨ad, nd, rfl⟩
      all_goals
        subst hg6
        conv => whnf
        refine ⟨_, _, e1, if_pos ⟨rfl, rfl, Nat.le_of_ble_eq_true rfl⟩, ?_⟩
        conv => whnf
        refine ⟨_, _, cells_set _ _ _, if_pos ⟨rfl, rfl, Nat.le_of_ble_eq_true rfl⟩, ?_⟩
        conv => whnf
        refine ⟨_, cells_set _ _ _, ?_⟩
        conv => whnf
        refine ⟨_, _, cells_set_ne (cells_set_ne e2 (by omega)) (by omega), store_agg rfl rfl rfl, ?_⟩
        conv => whnf
        refine ⟨_, (by show (St.cells _ (S.next + 1)).bind _ = _; rw [cells_set]; rfl), ?_⟩
        conv => whnf
        rw [hVk, hVd, hfb] at hfin
        have key : ∀ b1 b2 b3, OwnR (er (.mk kind n neg dg ex tx fb bs fk keys fd kids)) (2 * cnt (.mk kind n neg dg ex tx fb bs fk keys fd kids)) S _ (((S5.set S.next b1).set S.next b2).set (S.next + 1) b3) := fun b1 b2 b3 =>
          hfin (((S5.set S.next b1).set S.next b2).set (S.next + 1) b3) (Nat.le_refl S5.next) (fun j hj => by rw [set_ne (by omega), set_ne (by omega), set_ne (by omega)]) (((((k3.trans k4).trans k5).set S.next b1 (Nat.le_refl _)).set S.next b2 (Nat.le_refl _)).set (S.next + 1) b3 (by omega))
        exact key _ _ _
theorem t34 : ∀ (N : Nat), N ≤ 2 ^ 30 → ∀ x : Nd, x.Ok → cnt x ≤ N → ∀ S, CallQ Tryd.prog TC 34 [x.v] S fun r S1 => OwnR (er x) (2 * cnt x) S r S1
  | 0, _, x, _, h, _ => by have := cnt_pos x; omega
  | N + 1, hN, x, hx, hc, S => t34_step N (by omega) (t34 N (by omega)) x hx hc S
end Go.Proofs.YtmkmakokgfigoaaDoor
