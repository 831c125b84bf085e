import Derived.Test.YtiknkngdfdmkbaaDoorVML16
namespace Go.Proofs.YtiknkngdfdmkbaaDoor
open Go.Proofs.YtiknkngdfdmkbaaDoor.VM
set_option maxRecDepth 100000
set_option linter.unusedVariables false

def Ls.raw (l : Ls) : Raw := ⟨l.kind.toNat, l.n, l.ps⟩
/-- What Parse answers. -/
def PRes (bs : List UInt8) (r : AV) : Prop := match parse bs with
  | .error f => r = .tuple [.nils, .agg [.int .i64 f.1, .int .i64 (bs.length - f.2 : Nat)]]
  | .ok xs => ∃ (l : AV) (ls : List Ls), r = .tuple [l, .agg [.int .i64 0, .int .i64 0]] ∧ Elems l (ls.map Ls.v) ∧ ls.map Ls.raw = xs ∧ ∀ x ∈ ls, x.Ok ∧ 0 ≤ x.kind

theorem well_ls {ls : List Ls} (h : ∀ l ∈ ls, l.Ok) : wellA 3 (ls.map Ls.v) = true := by
  refine List.all_eq_true.2 fun x hx => ?_
  obtain ⟨l, hl, rfl⟩ := List.mem_map.1 hx
  rcases (h l hl).path with ⟨e, _⟩ | ⟨_, e⟩ <;> simp [Ls.v, AV.cells, AV.leafOk, e]

theorem t14 (bs : List UInt8) (v0 : AV) (hv0 : Elems v0 (bs.map u8)) (hb : bs.length ≤ 2 ^ 47) (S : St) :
    CallQ Tryd.prog LC 14 [v0] S fun r S1 => PRes bs r ∧ Keep S S1 := by
  refine CallQ.of rfl (by kernel_rfl : Tryd.prog.funcs[14]? = some Tryd.f14) rfl (by decide) ?_
  conv => whnf
  obtain ⟨S1, hS1⟩ : ∃ S1, S1 = S.new (.cells [.int .i64 0, .int .i64 0]) := ⟨_, rfl⟩
  have hg : S.new (.cells [ofLeaf (.int .i64 0), ofLeaf (.int .i64 0)]) = S1 := hS1.symm
  rw [hg]
  have k1 : Keep S S1 := by rw [hS1]; exact (Keep.refl S).new _
  have n1 : S1.next = S.next + 1 := by rw [hS1]; rfl
  have f1 : S1.cells S.next = some [.int .i64 0, .int .i64 0] := by rw [hS1]; exact cells_new _ _
  refine CallQ.mono (t26 bs v0 hv0 hb S1) ?_
  rintro _ S2 ⟨c, v, rfl, c1, c2, hv, c3, k2⟩
  conv => whnf
  obtain ⟨S3, hS3⟩ : ∃ S3, S3 = S2.new (.cells [.ptr c 0, .int .i64 0, .int .i64 0]) := ⟨_, rfl⟩
  have hg : S2.new (.cells [.ptr c 0, ofLeaf (.int .i64 0), ofLeaf (.int .i64 0)]) = S3 := hS3.symm
  have n3 : S3.next = S2.next + 1 := by rw [hS3]; rfl
  have k3 : Keep S2 S3 := by rw [hS3]; exact (Keep.refl S2).new _
  have f3 : S3.cells S.next = some [.int .i64 0, .int .i64 0] := by
    rw [cells_keep k3 (by have := k2.next; omega), cells_keep k2 (by omega)]; exact f1
  have hst : RSt S3 S2.next c bs v (.ok bs) := ⟨by omega, by omega, by omega, hv, List.suffix_refl _, by rw [cells_keep k3 c2, c3, Nat.sub_self]; rfl, by rw [hS3]; exact cells_new _ _⟩
  obtain ⟨rb, hrb⟩ : ∃ rb, rb = S2.next := ⟨_, rfl⟩
  rw [← hrb] at hst ⊢
  have hfc : S.next ≠ c := by omega
  have hfr : S.next ≠ rb := by have := k2.next; omega
  have hcS : S.next ≤ c := by omega
  have hrS : S.next ≤ rb := by have := k2.next; omega
  refine CallQ.mono (t27 _ rb c bs v (.ok bs) 0 2048 8 (by decide) (by decide) hb (by rw [hg]; exact hst)) ?_
  rw [hg]
  rintro _ S4 ⟨rfl, hst4, b4⟩
  have k4 : Keep S S4 := b4.keep ((k1.trans k2).trans k3) hcS hrS
  have f4 := b4.cells f3 (by omega) hfc hfr
  conv => whnf
  have hN := within_le 0 2048 8 (.ok bs)
  obtain ⟨N, hNe⟩ : ∃ N, N = (within 0 2048 8 (.ok bs)).1 := ⟨_, rfl⟩
  obtain ⟨st0, hst0⟩ : ∃ st0, st0 = (within 0 2048 8 (.ok bs)).2 := ⟨_, rfl⟩
  rw [← hNe] at hN ⊢
  rw [← hst0] at hst4
  refine CodeQ.loop (fun (q : Nat × AV) => pat 78 [(3, .ptr S.next 0), (4, .ptr rb 0), (5, q.2), (14, .int .i64 N), (15, .int .i64 q.1)])
    (fun m q S5 => q.1 + m = N ∧ ∃ (st : PSt) (ls : List Ls), RSt S5 rb c bs v st ∧ Keep S S5 ∧ S5.cells S.next = some [.int .i64 0, .int .i64 0] ∧ Own S S5 q.2 (ls.map Ls.v) ∧ ls.length = q.1 ∧ (∀ x ∈ ls, x.Ok ∧ 0 ≤ x.kind) ∧ rdAll m st (ls.map Ls.raw) = rdAll N st0 []) ?_ N (0, .nils) _ _
    ⟨by simp, st0, [], hst4, k4, f4, .inl ⟨rfl, rfl⟩, rfl, by simp, rfl⟩ ⟨rfl, rfl, rfl, rfl, rfl, trivial⟩
  have hparse : parse bs = match rdAll N st0 [] with
    | .error f => .error f
    | .ok (xs, []) => .ok xs
    | .ok (xs, r) => .error (10, r.length) := by rw [hNe, hst0]; rfl
  rintro m ⟨i, l⟩ S5 d ⟨i1, st, ls, h5, k5, f5, o5, l5, ok5, r5⟩
  dsimp only at i1 o5 l5 ⊢
  conv => whnf
  intro b hbb
  simp at hbb
  cases b
  · simp at hbb
    obtain rfl : m = 0 := by omega
    conv => whnf
    refine CallQ.mono (t28 S5 rb c bs v st h5) ?_
    rintro _ S6 ⟨rfl, kk6⟩
    have n6 := kk6.next
    have n5 := k5.next
    have cn5 := h5.1
    conv => whnf
    refine ⟨_, _, cells_new _ _, store_agg rfl rfl rfl, ?_⟩
    conv => whnf
    generalize hS7 : (S6.new _).set S6.next _ = S7
    have kk7 : Keep S6 S7 := by rw [← hS7]; exact ((Keep.refl S6).new _).set _ _ (Nat.le_refl _)
    have y7 : S7.cells S6.next = some [.int .i64 (fl bs.length st).1, .int .i64 (fl bs.length st).2] := by rw [← hS7]; exact cells_set _ _ _
    have k7 := (k5.trans kk6).trans kk7
    have h7 := (h5.keep kk6).keep kk7
    have f7 : S7.cells S.next = some [.int .i64 0, .int .i64 0] := by rw [cells_keep (kk6.trans kk7) (by omega)]; exact f5
    have o7 := Own.keep o5 (kk6.trans kk7)
    refine ⟨_, y7, ?_⟩
    conv => whnf
    rw [eq39']
    rcases st with ⟨w, k⟩ | r
    · have hw : w ≠ 0 := h7.2.2.2.2.1
      rw [decide_eq_false (by show ¬ ((w : Int) = 0 ∧ _); omega)]
      intro b hb2
      subst hb2
      conv => whnf
      refine ⟨[0, 1, 2], [], by kernel_rfl, by kernel_rfl, by kernel_rfl, ?_⟩
      conv => whnf
      refine ⟨_, y7, ?_⟩
      conv => whnf
      refine ⟨_, _, f7, store_agg rfl rfl rfl, ?_⟩
      conv => whnf
      refine ⟨.agg [.int .i64 w, .int .i64 (bs.length - k : Nat)], ?_, ?_⟩
      · show (St.cells _ S.next).bind _ = _
        rw [cells_set]; rfl
      conv => whnf
      have hp : parse bs = .error (w, k) := by rw [hparse, ← r5]; rfl
      refine ⟨?_, k7.set _ _ (Nat.le_refl _)⟩
      unfold PRes
      rw [hp]; rfl
    · rw [decide_eq_true (by show (((0 : Nat) : Int) = 0 ∧ ((0 : Nat) : Int) = 0); omega)]
      intro b hb2
      subst hb2
      obtain ⟨g1, g2, g3, g4, g5, g6, g7⟩ := h7
      have hrl := g5.length_le
      conv => whnf
      refine ⟨_, g7, ?_⟩
      conv => whnf
      refine CallQ.mono (t30 S7 c bs v _ 0 0 hv g6 (by omega) (by omega) hb) ?_
      rintro _ S7 ⟨rfl, rfl⟩
      conv => whnf
      intro b hb2
      simp at hb2
      cases b
      · have hr0 : r = [] := by
          have : r.length = 0 := by simp at hb2; omega
          exact List.length_eq_zero_iff.1 this
        subst hr0
        conv => whnf
        refine ⟨_, _, f7, store_agg rfl rfl rfl, ?_⟩
        conv => whnf
        refine ⟨.agg [.int .i64 0, .int .i64 0], ?_, ?_⟩
        · show (St.cells _ S.next).bind _ = _
          rw [cells_set]; rfl
        conv => whnf
        have hp : parse bs = .ok (ls.map Ls.raw) := by rw [hparse, ← r5]; rfl
        refine ⟨?_, k7.set _ _ (Nat.le_refl _)⟩
        unfold PRes
        rw [hp]
        rcases o7 with ⟨rfl, h⟩ | ⟨n, _, _, rfl, _⟩
        · exact ⟨_, ls, rfl, .inl ⟨rfl, h⟩, rfl, ok5⟩
        · exact ⟨_, ls, rfl, .inr ⟨.lost, rfl⟩, rfl, ok5⟩
      · have hr0 : 0 < r.length := by simp at hb2; omega
        conv => whnf
        refine ⟨_, g7, ?_⟩
        conv => whnf
        refine CallQ.mono (t31 S7 c v _ 0 0 g6) ?_
        rintro _ S7 ⟨rfl, rfl⟩
        conv => whnf
        refine ⟨_, _, f7, store_agg rfl rfl rfl, ?_⟩
        conv => whnf
        refine ⟨.agg [.int .i64 10, .int .i64 (bs.length - r.length : Nat)], ?_, ?_⟩
        · show (St.cells _ S.next).bind _ = _
          rw [cells_set]; rfl
        conv => whnf
        have hp : parse bs = .error (10, r.length) := by
          rw [hparse, ← r5]
          cases r with
          | nil => simp at hr0
          | cons x r => rfl
        refine ⟨?_, k7.set _ _ (Nat.le_refl _)⟩
        unfold PRes
        rw [hp]; rfl
  simp at hbb
  obtain ⟨m, rfl⟩ : ∃ m', m = m' + 1 := ⟨m - 1, by omega⟩
  conv => whnf
  refine CallQ.mono (t23 S5) ?_
  rintro _ S5 ⟨rfl, rfl⟩
  conv => whnf
  refine CallQ.mono (t27 S5 rb c bs v st 1 6 5 (by decide) (by decide) hb h5) ?_
  rintro _ S6 ⟨rfl, h6, b6⟩
  have k6 := b6.keep k5 hcS hrS
  have f6 := b6.cells f5 (by have := k5.next; have := h5.1; omega) hfc hfr
  have o6 := own_rst o5 h5 b6
  obtain ⟨kd, hkd⟩ : ∃ kd, kd = (within 1 6 5 st).1 := ⟨_, rfl⟩
  obtain ⟨st1, hst1⟩ : ∃ st1, st1 = (within 1 6 5 st).2 := ⟨_, rfl⟩
  have hkd6 := within_le 1 6 5 st
  rw [← hkd] at hkd6 ⊢
  rw [← hst1] at h6
  conv => whnf
  obtain ⟨xb, hxb⟩ : ∃ xb, xb = S6.next := ⟨_, rfl⟩
  refine ⟨_, _, cells_new _ _, store_agg rfl rfl rfl, ?_⟩
  obtain ⟨S7, hS7⟩ : ∃ S7, S7 = (S6.new (.cells [.nils, .int .i64 0, .int .u64 0])).set S6.next (some (.cells [.nils, .int .i64 kd, .int .u64 0])) := ⟨_, rfl⟩
  have hg7 : (S6.new (.cells [ofLeaf (.slice none 0 0), ofLeaf (.int .i64 0), ofLeaf (.int .u64 0)])).set S6.next (some (.cells [ofLeaf (.slice none 0 0), .int .i64 kd, ofLeaf (.int .u64 0)])) = S7 := hS7.symm
  conv => whnf
  rw [hg7, ← hxb]
  have kk7 : Keep S6 S7 := by rw [hS7]; exact ((Keep.refl S6).new _).set _ _ (Nat.le_refl _)
  have n7 : S7.next = S6.next + 1 := by rw [hS7]; rfl
  have x7 : S7.cells xb = some [.nils, .int .i64 kd, .int .u64 0] := by rw [hS7, hxb]; exact cells_set _ _ _
  have h7 := h6.keep kk7
  have k7 := k6.trans kk7
  have f7 : S7.cells S.next = some [.int .i64 0, .int .i64 0] := by rw [cells_keep kk7 (by have := k6.next; have := h6.1; omega)]; exact f6
  have o7 := Own.keep o6 kk7
  have hxc : xb ≠ c := by have := h6.1; omega
  have hxr : xb ≠ rb := by have := h6.2.1; omega
  have hxf : xb ≠ S.next := by have := h6.1; omega
  have hxS : S.next ≤ xb := by have := h6.1; omega
  refine CallQ.mono (t28 S7 rb c bs v st1 h7) ?_
  rintro _ S8 ⟨rfl, kk8⟩
  have h8 := h7.keep kk8
  have k8 := k7.trans kk8
  have n8 := kk8.next
  have f8 : S8.cells S.next = some [.int .i64 0, .int .i64 0] := by rw [cells_keep kk8 (by have := k6.next; have := h6.1; omega)]; exact f7
  have x8 : S8.cells xb = some [.nils, .int .i64 kd, .int .u64 0] := by rw [cells_keep kk8 (by omega)]; exact x7
  have o8 := Own.keep o7 kk8
  conv => whnf
  rw [eq39']
  obtain ⟨nn, hnn⟩ : ∃ nn, nn = (rdN st1).1 := ⟨_, rfl⟩
  obtain ⟨st2, hst2⟩ : ∃ st2, st2 = (rdN st1).2 := ⟨_, rfl⟩
  have hraw : rdLoss st = (⟨kd, nn, (rdPath (within 0 64 8 st2).1 (within 0 64 8 st2).2).1⟩, (rdPath (within 0 64 8 st2).1 (within 0 64 8 st2).2).2) := by
    rw [hnn, hst2, hst1, hkd]; rfl
  have hnn64 : nn < 2 ^ 64 := by
    rw [hnn]
    unfold rdN
    split
    · show 0 < _; decide
    · split
      · show 0 < _; decide
      · rename_i hq; exact rdN_lt _ _ _ _ _ hq
  clear hst1
  rcases st1 with ⟨w, k⟩ | r1
  have hw : w ≠ 0 := h8.2.2.2.2.1
  rw [decide_eq_false (by show ¬ ((w : Int) = 0 ∧ _); omega)]
  intro b hb2
  subst hb2
  conv => whnf
  obtain ⟨S9, rfl⟩ : ∃ S9, S9 = S8 := ⟨_, rfl⟩
  have h9 : RSt S9 rb c bs v st2 := by rw [hst2]; exact h8
  have x9 : S9.cells xb = some [.nils, .int .i64 kd, .int .u64 nn] := by rw [hnn]; exact x8
  have k9 := k8
  have f9 := f8
  have o9 := o8
  have n9 : xb < S9.next := by omega
  rotate_left
  rw [decide_eq_true (by show (((0 : Nat) : Int) = 0 ∧ ((0 : Nat) : Int) = 0); omega)]
  intro b hb2
  subst hb2
  conv => whnf
  refine ⟨_, h8.2.2.2.2.2.2, ?_⟩
  conv => whnf
  refine CallQ.mono (t29r S8 rb c bs v r1 hb h8) ?_
  rintro _ S9' ⟨rfl, h9', b9⟩
  have x9' := b9.cells x8 (by omega) hxc hxr
  conv => whnf
  refine ⟨_, _, x9', if_pos ⟨rfl, rfl, Nat.le_of_ble_eq_true rfl⟩, ?_⟩
  conv => whnf
  generalize hS9 : S9'.set xb _ = S9
  have h9 : RSt S9 rb c bs v st2 := by rw [hst2, ← hS9]; exact h9'.set _ hxc hxr
  have x9 : S9.cells xb = some [.nils, .int .i64 kd, .int .u64 nn] := by rw [← hS9, hnn]; exact cells_set _ _ _
  have k9 : Keep S S9 := by rw [← hS9]; exact (b9.keep k8 hcS hrS).set _ _ hxS
  have f9 : S9.cells S.next = some [.int .i64 0, .int .i64 0] := by
    rw [← hS9]; exact cells_set_ne (b9.cells f8 (by omega) hfc hfr) (Ne.symm hxf)
  have o9 : Own S S9 l (ls.map Ls.v) := by rw [← hS9]; exact Own.set (own_rst o8 h8 b9) x9' _
  have n9 : xb < S9.next := by rw [← hS9]; show xb < S9'.next; have := b9.next; omega
  rotate_left
  all_goals
    refine CallQ.mono (t27 S9 rb c bs v st2 0 64 8 (by decide) (by decide) hb h9) ?_
    rintro _ S10 ⟨rfl, h10, b10⟩
    have hK := within_le 0 64 8 st2
    have k10 := b10.keep k9 hcS hrS
    have f10 := b10.cells f9 (by have := k9.next; omega) hfc hfr
    have x10 := b10.cells x9 n9 hxc hxr
    have o10 := own_rst o9 h9 b10
    have n10 : xb < S10.next := by have := b10.next; omega
    obtain ⟨K, hKe⟩ : ∃ K, K = (within 0 64 8 st2).1 := ⟨_, rfl⟩
    obtain ⟨st3, hst3⟩ : ∃ st3, st3 = (within 0 64 8 st2).2 := ⟨_, rfl⟩
    rw [← hKe] at hK hraw ⊢
    rw [← hst3] at hraw h10
    conv => whnf
    refine CodeQ.loop (fun (j : Nat) => pat 78 [(3, .ptr S.next 0), (4, .ptr rb 0), (5, l), (6, .ptr xb 0), (14, .int .i64 N), (15, .int .i64 i), (34, .int .i64 K), (35, .int .i64 j)])
      (fun m' j S11 => j + m' = K ∧ S10.next ≤ S11.next ∧ (∀ n, n < S10.next → n ≠ c → n ≠ rb → n ≠ xb → S11.mem n = S10.mem n) ∧ ∃ (st : PSt) (ps : List Int) (pv : AV), RSt S11 rb c bs v st ∧ S11.cells xb = some [pv, .int .i64 kd, .int .u64 nn] ∧ Own S10 S11 pv (ps.map I64) ∧ ps.length = j ∧
        ps ++ (rdPath m' st).1 = (rdPath K st3).1 ∧ (rdPath m' st).2 = (rdPath K st3).2) ?_ K 0 _ _
      ⟨by simp, Nat.le_refl _, fun _ _ _ _ _ => rfl, st3, [], .nils, h10, x10, .inl ⟨rfl, rfl⟩, rfl, rfl, rfl⟩ ⟨rfl, rfl, rfl, rfl, rfl, rfl, rfl, rfl, trivial⟩
    rintro m' j S11 d' ⟨j1, j2, j3, st4, ps, pv, h11, x11, p11, pl, pe1, pe2⟩
    conv => whnf
    intro b hbb2
    simp at hbb2
    cases b
    rotate_left
    simp at hbb2
    obtain ⟨m', rfl⟩ : ∃ m'', m' = m'' + 1 := ⟨m' - 1, by omega⟩
    conv => whnf
    refine ⟨[0, 1, 2, 3, 4, 5, 6, 7], [(3, [1])], by kernel_rfl, by kernel_rfl, by kernel_rfl, ?_⟩
    conv => whnf
    refine ⟨_, x11, ?_⟩
    conv => whnf
    refine CallQ.mono (t27 S11 rb c bs v st4 0 4095 5 (by decide) (by decide) hb h11) ?_
    rintro _ S12 ⟨rfl, h12, b12⟩
    have x12 := b12.cells x11 (by omega) hxc hxr
    have p12 := own_rst p11 h11 b12
    obtain ⟨pp, hpp⟩ : ∃ pp, pp = (within 0 4095 5 st4).1 := ⟨_, rfl⟩
    rw [rdPath, ← hpp] at pe1
    rw [rdPath] at pe2
    rw [← hpp]
    conv => whnf
    refine ⟨stab_load rfl rfl rfl rfl rfl (by show (S12.cells xb).bind _ = _; rw [x12]; rfl), ?_⟩
    conv => whnf
    obtain ⟨pv2, S13, a1, a2, a3, a4, a5⟩ := own_append2 (f := 14) (C := LC) el32 rfl p12 (by have := b12.next; omega) (y := .lst [.int .i64 pp] .full) (ys := [(pp : Int)].map I64) rfl rfl (well_I64 ps) (well_I64 _) (by simp) (by simp; omega)
    refine ⟨pv2, S13, a1, ?_⟩
    conv => whnf
    have x13 := a5 xb _ (by have := b12.next; omega) x12
    have hpl : pv2.cells = [pv2] ∧ pv2.leafOk = true := by
      rcases a2 with ⟨rfl, _⟩ | ⟨_, _, _, rfl, _⟩ <;> exact ⟨rfl, rfl⟩
    refine ⟨_, _, x13, by rw [hpl.1]; exact if_pos ⟨rfl, by simp [hpl.2], Nat.le_of_ble_eq_true rfl⟩, ?_⟩
    conv => whnf
    have e9 : IntKind.i64.wrap ((j : Int) + 1) = ((j + 1 : Nat) : Int) := by rw [wrap_i64 (by omega) (by omega)]; omega
    have hc10 : c < S10.next := h10.1
    have hr10 : rb < S10.next := h10.2.1
    refine ⟨m', j + 1, by omega, ⟨by omega, by show S10.next ≤ S13.next; have := b12.next; omega, fun n q1 q2 q3 q4 => ?_, (within 0 4095 5 st4).2, ps ++ [(pp : Int)], pv2, ?_, ?_, ?_, by simp [pl], ?_, pe2⟩, ⟨rfl, rfl, rfl, rfl, rfl, rfl, rfl, by rw [e9], trivial⟩⟩
    · show upd S13.mem xb _ n = _
      simp only [upd, if_neg q4]
      rw [a4 n q1, b12.mem n (by omega) q2 q3, j3 n q1 q2 q3 q4]
    · exact (h12.mems a3 (a4 c hc10) (a4 rb hr10)).set _ hxc hxr
    · exact cells_set _ _ _
    · rw [List.map_append]; exact Own.set a2 x13 _
    · simpa using pe1
  all_goals
    simp at hbb2
    obtain rfl : m' = 0 := by omega
    conv => whnf
    rw [rdPath] at pe1 pe2
    rw [List.append_nil] at pe1
    have pe2 : st4 = (rdPath K st3).2 := pe2
    rw [← pe1, ← pe2] at hraw
    have hSc : S.next < S10.next := by have := k9.next; have := b10.next; omega
    have k11 : Keep S S11 := ⟨by omega, fun n hn => by rw [j3 n (by omega) (by omega) (by omega) (by omega), k10.mem n hn]⟩
    have f11 : S11.cells S.next = some [.int .i64 0, .int .i64 0] := by rw [mem_keeps (j3 _ hSc hfc hfr (Ne.symm hxf))]; exact f10
    have o11 : Own S S11 l (ls.map Ls.v) := by
      rcases o10 with h | ⟨n, q1, q2, q3, q4⟩
      · exact .inl h
      · obtain ⟨⟨y1, hy1⟩, ⟨y2, hy2⟩⟩ := h10.cc
        refine .inr ⟨n, q1, by omega, q3, ?_⟩
        rw [j3 n q2, q4]
        · rintro rfl; unfold St.cells at hy1; rw [q4] at hy1; cases hy1
        · rintro rfl; unfold St.cells at hy2; rw [q4] at hy2; cases hy2
        · rintro rfl; unfold St.cells at x10; rw [q4] at x10; cases x10
    refine CallQ.mono (t28 S11 rb c bs v st4 h11) ?_
    rintro _ S12 ⟨rfl, kk12⟩
    have h12 := h11.keep kk12
    have n12 := kk12.next
    conv => whnf
    refine ⟨_, _, cells_new _ _, store_agg rfl rfl rfl, ?_⟩
    conv => whnf
    generalize hS13 : (S12.new _).set S12.next _ = S13
    have kk13 : Keep S12 S13 := by rw [← hS13]; exact ((Keep.refl S12).new _).set _ _ (Nat.le_refl _)
    have y13 : S13.cells S12.next = some [.int .i64 (fl bs.length st4).1, .int .i64 (fl bs.length st4).2] := by rw [← hS13]; exact cells_set _ _ _
    have k13 : Keep S S13 := (k11.trans kk12).trans kk13
    have kk113 := kk12.trans kk13
    have f13 : S13.cells S.next = some [.int .i64 0, .int .i64 0] := by rw [cells_keep kk113 (by omega)]; exact f11
    have x13 : S13.cells xb = some [pv, .int .i64 kd, .int .u64 nn] := by rw [cells_keep kk113 (by omega)]; exact x11
    have o13 := Own.keep o11 kk113
    have p13 := Own.keep p11 kk113
    have h13 := h11.keep kk113
    refine ⟨_, y13, ?_⟩
    conv => whnf
    rw [eq39']
    rcases st4 with ⟨w, k⟩ | r4
    · have hw : w ≠ 0 := h13.2.2.2.2.1
      rw [decide_eq_false (by show ¬ ((w : Int) = 0 ∧ _); omega)]
      intro b hb2
      subst hb2
      conv => whnf
      refine ⟨[0, 1, 2], [], by kernel_rfl, by kernel_rfl, by kernel_rfl, ?_⟩
      conv => whnf
      refine ⟨_, y13, ?_⟩
      conv => whnf
      refine ⟨_, _, f13, store_agg rfl rfl rfl, ?_⟩
      conv => whnf
      refine ⟨.agg [.int .i64 w, .int .i64 (bs.length - k : Nat)], ?_, ?_⟩
      · show (St.cells _ S.next).bind _ = _
        rw [cells_set]; rfl
      conv => whnf
      have hp : parse bs = .error (w, k) := by
        rw [hparse, ← r5]
        simp only [rdAll, hraw]
      refine ⟨?_, k13.set _ _ (Nat.le_refl _)⟩
      unfold PRes
      rw [hp]; rfl
    · rw [decide_eq_true (by show (((0 : Nat) : Int) = 0 ∧ ((0 : Nat) : Int) = 0); omega)]
      intro b hb2
      subst hb2
      conv => whnf
      refine ⟨_, x13, ?_⟩
      rcases p13 with ⟨rfl, hps⟩ | ⟨nt, _, _, rfl, _⟩
      · conv => whnf
        have hnew : (⟨.nils, ps, kd, nn⟩ : Ls).Ok := ⟨.inl ⟨rfl, hps⟩, hnn64⟩
        obtain ⟨l2, S14, a1, a2, a3, a4, a5⟩ := Own.append' (f := 14) (C := LC) el22 rfl o13 k13 (y := .lst [Ls.v ⟨.nils, ps, kd, nn⟩] .full) (ys := [(⟨.nils, ps, kd, nn⟩ : Ls)].map Ls.v) rfl rfl (well_ls fun x hx => (ok5 x hx).1) (well_ls fun x hx => by rw [List.mem_singleton.1 hx]; exact hnew) (by simp; omega)
        refine ⟨l2, S14, a1, ?_⟩
        conv => whnf
        have e9 : IntKind.i64.wrap ((i : Int) + 1) = ((i + 1 : Nat) : Int) := by rw [wrap_i64 (by omega) (by omega)]; omega
        refine ⟨m, (i + 1, l2), by omega, ⟨by show i + 1 + m = N; omega, .ok r4, ls ++ [⟨.nils, ps, kd, nn⟩], h13.cellsK a4 a5, a3, a5 _ _ (by have := h13.1; omega) f13, by rw [List.map_append]; exact a2, by simp [l5], ?_, ?_⟩, ⟨rfl, rfl, rfl, rfl, by rw [e9], trivial⟩⟩
        · intro x hx
          rcases List.mem_append.1 hx with hx | hx
          · exact ok5 x hx
          · rw [List.mem_singleton.1 hx]; exact ⟨hnew, by show 0 ≤ (kd : Int); omega⟩
        · rw [← r5]
          simp only [rdAll, hraw, List.map_append, List.map_cons, List.map_nil, Ls.raw, Int.toNat_natCast]
      · conv => whnf
        have hnew : (⟨.lst (ps.map I64) .lost, ps, kd, nn⟩ : Ls).Ok := ⟨.inr ⟨_, rfl⟩, hnn64⟩
        obtain ⟨l2, S14, a1, a2, a3, a4, a5⟩ := Own.append' (f := 14) (C := LC) el22 rfl o13 k13 (y := .lst [Ls.v ⟨.lst (ps.map I64) .lost, ps, kd, nn⟩] .full) (ys := [(⟨.lst (ps.map I64) .lost, ps, kd, nn⟩ : Ls)].map Ls.v) rfl rfl (well_ls fun x hx => (ok5 x hx).1) (well_ls fun x hx => by rw [List.mem_singleton.1 hx]; exact hnew) (by simp; omega)
        refine ⟨l2, S14, a1, ?_⟩
        conv => whnf
        have e9 : IntKind.i64.wrap ((i : Int) + 1) = ((i + 1 : Nat) : Int) := by rw [wrap_i64 (by omega) (by omega)]; omega
        refine ⟨m, (i + 1, l2), by omega, ⟨by show i + 1 + m = N; omega, .ok r4, ls ++ [⟨.lst (ps.map I64) .lost, ps, kd, nn⟩], h13.cellsK a4 a5, a3, a5 _ _ (by have := h13.1; omega) f13, by rw [List.map_append]; exact a2, by simp [l5], ?_, ?_⟩, ⟨rfl, rfl, rfl, rfl, by rw [e9], trivial⟩⟩
        · intro x hx
          rcases List.mem_append.1 hx with hx | hx
          · exact ok5 x hx
          · rw [List.mem_singleton.1 hx]; exact ⟨hnew, by show 0 ≤ (kd : Int); omega⟩
        · rw [← r5]
          simp only [rdAll, hraw, List.map_append, List.map_cons, List.map_nil, Ls.raw, Int.toNat_natCast]
end Go.Proofs.YtiknkngdfdmkbaaDoor
