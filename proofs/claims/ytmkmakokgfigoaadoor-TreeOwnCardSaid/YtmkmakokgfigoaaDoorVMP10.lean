import Derived.Test.YtmkmakokgfigoaaDoorVMP9
namespace Go.Proofs.YtmkmakokgfigoaaDoor
open Go.Proofs.YtmkmakokgfigoaaDoor.VM Go.RowKit
set_option maxRecDepth 100000
set_option linter.unusedVariables false
set_option linter.unusedSimpArgs false
set_option maxHeartbeats 4000000
/-! The law's own copy. -/
theorem frz_bytes (k : Nat) (b : Nat) (bs : List UInt8) (S : St) (h : S.mem b = some (.cells (bs.map u8))) : frzA (k + 2) (.hnd b 0 bs.length 1) S = some (.lst (bs.map u8) .lost, S.set b none) := by
  have hid : ∀ (l : List UInt8) (S : St), mapS (frzA (k + 1)) (l.map u8) S = some (l.map u8, S) := by
    intro l
    induction l with
    | nil => intro S; rfl
    | cons c l ih =>
      intro S
      simp only [List.map_cons, mapS]
      have : frzA (k + 1) (u8 c) S = some (u8 c, S) := rfl
      rw [this]
      simp only [Option.bind_some, ih S, Option.map_some]
  unfold frzA
  simp only [h]
  rw [if_pos (by simp), List.drop_zero, List.take_of_length_le (by simp), hid]
  simp only [Option.bind_some]
  rw [if_pos (by unfold chunkOk; rw [plain_u8]; rfl)]
  have := chunk_one (bs.map u8)
  rw [List.length_map] at this
  show some (AV.lst (chunk false 1 bs.length (bs.map u8)) Tip.lost, _) = _
  rw [this]
theorem frz_agg (k : Nat) (cs : List AV) (S : St) : frzA (k + 1) (.agg cs) S = (mapS (frzA k) cs S).map fun r => (.agg r.1, r.2) := rfl
theorem copy_nodes0 (f : Sl) (xs : List Nd) (he : xs = []) (S : St) : builtinA Tryd.prog TC 25 .append #[24, 24] [.nils, slV f (Nd.vs xs)] S = some (.ret .nils, S) := by
  subst he
  have hE := el24
  have helem : elemA Tryd.prog 24 = some 26 := by simp [elemA, hE.und]
  have hy : elemsA S true 9 (slV f (Nd.vs [])) = some [] := by cases f <;> rfl
  simp only [builtinA, appendA, helem, hE.size, hE.agg, hE.bytes, hE.zero, hE.und, Option.bind_some, appendB, hy]
  rw [if_pos ⟨by decide, hE.zlen, rfl⟩]
  rfl
theorem copy_nodes1 (f : Sl) (xs : List Nd) (hf : f = .nil → xs = []) (hne : xs ≠ []) (hl : xs.length ≤ 2 ^ 38) (S : St) :
    builtinA Tryd.prog TC 25 .append #[24, 24] [.nils, slV f (Nd.vs xs)] S = some (.ret (.hnd S.next 0 xs.length 9), S.new (.cells (csL (xs.map Nd.lo)))) := by
  have hE := el24
  have helem : elemA Tryd.prog 24 = some 26 := by simp [elemA, hE.und]
  have hy : elemsA S true 9 (slV f (Nd.vs xs)) = some (Nd.vs xs) := by
    cases f with
    | nil => exact absurd (hf rfl) hne
    | lst t => rfl
  have hh : TC.hnd 25 = true := by rfl
  have hlen : ¬ ((Nd.vs (xs.map Nd.lo)).length = 0) := by rw [vs_len, List.length_map]; intro h; exact hne (List.length_eq_zero_iff.1 h)
  simp only [builtinA, appendA, helem, hE.size, hE.agg, hE.bytes, hE.zero, hE.und, Option.bind_some, appendB, hy, vs_shed]
  rw [if_pos ⟨by decide, hE.zlen, wellA_vs _⟩, if_neg hlen, if_pos (by simp [sizeOk, vs_len]; omega)]
  simp only [freshA, hh, if_true, Option.bind_some, retA, flat_vs, vs_len, List.length_map]
theorem copy_bytes0 (f : Sl) (bs : List UInt8) (he : bs = []) (S : St) : builtinA Tryd.prog TC 25 .append #[23, 23] [.nils, slV f (bs.map u8)] S = some (.ret .nils, S) := by
  subst he
  have hE := el23
  have helem : elemA Tryd.prog 23 = some 5 := by simp [elemA, hE.und]
  have hy : elemsA S false 1 (slV f (([] : List UInt8).map u8)) = some [] := by cases f <;> rfl
  simp only [builtinA, appendA, helem, hE.size, hE.agg, hE.bytes, hE.zero, hE.und, Option.bind_some, appendB, hy]
  rw [if_pos ⟨by decide, hE.zlen, rfl⟩]
  rfl
theorem copy_bytes1 (f : Sl) (bs : List UInt8) (hf : f = .nil → bs = []) (hne : bs ≠ []) (hl : bs.length ≤ 2 ^ 47) (S : St) :
    builtinA Tryd.prog TC 25 .append #[23, 23] [.nils, slV f (bs.map u8)] S = some (.ret (.hnd S.next 0 bs.length 1), S.new (.cells (bs.map u8))) := by
  have hE := el23
  have helem : elemA Tryd.prog 23 = some 5 := by simp [elemA, hE.und]
  have hy : elemsA S false 1 (slV f (bs.map u8)) = some (bs.map u8) := by
    cases f with
    | nil => exact absurd (hf rfl) hne
    | lst t => rfl
  have hh : TC.hnd 25 = true := by rfl
  have hlen : ¬ ((bs.map u8).length = 0) := by rw [List.length_map]; intro h; exact hne (List.length_eq_zero_iff.1 h)
  simp only [builtinA, appendA, helem, hE.size, hE.agg, hE.bytes, hE.zero, hE.und, Option.bind_some, appendB, hy, shed_u8]
  rw [if_pos ⟨by decide, hE.zlen, wellA_u8 bs⟩, if_neg hlen, if_pos (by simp [sizeOk]; omega)]
  simp only [freshA, hh, if_true, Option.bind_some, retA, flat_u8, List.length_map]
theorem csL_ld {ys : List Nd} {i : Nat} (h : i < ys.length) : (if 0 + i * 9 + 9 ≤ (csL ys).length then some (AV.agg (((csL ys).drop (0 + i * 9)).take 9)) else none) = some (.agg ys[i].cs) := by
  rw [if_pos (by rw [csL_len]; omega), Nat.zero_add, csL_at h]
theorem ers_set {ys zs : List Nd} (h : ers ys = ers zs) {i : Nat} (hi : i < ys.length) {z : Nd} (hz : er z = er ys[i]) : ers (ys.set i z) = ers zs := by
  rw [ers_map, List.map_set, hz]
  have : (ys.map er).set i (er ys[i]) = ys.map er := by
    have h2 : i < (ys.map er).length := by simpa using hi
    have := @List.set_getElem_self _ (ys.map er) i h2
    simpa using this
  rw [this, ← ers_map, h]
theorem er_at {ys zs : List Nd} (h : ers ys = ers zs) {i : Nat} (h1 : i < ys.length) (h2 : i < zs.length) : er ys[i] = er zs[i] := by
  rw [ers_map, ers_map] at h
  have := congrArg (fun l => l[i]?) h
  simpa [h1, h2] using this
theorem t25 : ∀ (N : Nat) (y : Nd), y.Ok → cnt y ≤ N → ∀ (S : St), CallQ Tryd.prog TC 25 [y.v] S fun r S1 => (∃ z, r = z.v ∧ Cp y z) ∧ Keep S S1
  | 0, y, _, h, _ => by have := cnt_pos y; omega
  | N + 1, y, hy, hN, S => by
    have ih := t25 N
    have hfew := t11 y hy
    obtain ⟨Y, hY⟩ : ∃ Y, Y = y := ⟨_, rfl⟩
    have hfd : few y = decide (cnt y ≤ 1024) := rfl
    have hlo : ∃ z, (Y.lo).v = z.v ∧ Cp Y z := ⟨Y.lo, rfl, lo_er Y, by rw [hY]; exact lo_ok hy, by rw [v_cs]; show (AV.agg Y.lo.cs).shed = _; rw [shed_lo, v_cs]; obtain ⟨kind, n, neg, dg, ex, tx, fb, bs, fk, keys, fd, kids⟩ := Y; cases fb <;> cases fk <;> cases fd <;> rfl⟩
    refine CallQ.mono (Q := fun r S1 => (∃ z, r = z.v ∧ Cp Y z) ∧ Keep S S1) ?_ (by rw [hY]; exact fun _ _ h => h)
    generalize few y = fy at *
    obtain ⟨kind, n, neg, dg, ex, tx, fb, bs, fk, keys, fd, kids⟩ := y
    obtain ⟨x1, x2, x3, x4, x5, x6, x7, x8⟩ := hy
    refine CallQ.of rfl (by kernel_rfl : Tryd.prog.funcs[25]? = some Tryd.f25) rfl (by decide) ?_
    conv => whnf
    have hdn : ∀ b, (S.new b).next = S.next + 1 := fun _ => rfl
    rw [hdn]
    generalize hS1 : (S.new _).new _ = S1
    have k1 : Keep S S1 := by rw [← hS1]; exact ((Keep.refl S).new _).new _
    have a1 := (congrArg (fun s => s.cells S.next) hS1).symm.trans (cells_new_ne (cells_new _ _) (by show S.next ≠ S.next + 1; omega))
    have a2 : S1.cells (S.next + 1) = some zN.cs := by rw [← hS1]; exact cells_new _ _
    have n1 : S1.next = S.next + 2 := by rw [← hS1]; rfl
    clear hS1
    refine ⟨_, a1, ?_⟩
    conv => whnf
    refine CallQ.mono (hfew S1) ?_
    rintro r S2 ⟨rfl, k2⟩
    have n2 := k2.next
    have b1 := (cells_keep k2 (j := S.next) (by omega)).trans a1
    have b2 := (cells_keep k2 (j := S.next + 1) (by omega)).trans a2
    have k02 := k1.trans k2
    cases fy
    · conv => whnf
      refine ⟨_, b1, ?_⟩
      conv => whnf
      refine ⟨_, _, b2, store_agg rfl rfl (nd_leaf ..), ?_⟩
      conv => whnf
      refine ⟨AV.agg Y.cs, by show (St.cells _ (S.next + 1)).bind _ = _; rw [cells_set, hY]; rfl, ?_⟩
      conv => whnf
      have hfr : ∀ (m : Nat) (T : St), frzA (m + 4) (.agg Y.cs) T = some (.agg Y.cs, T) := fun m T => by
        rw [show m + 4 = (m + 3) + 1 by omega, frz_agg, mapS_id _ _ (frz_node _ _)]; rfl
      refine ⟨_, _, hfr _ _, ?_, k02.set _ _ (by omega)⟩
      show ∃ z, AV.shed (.agg Y.cs) = _ ∧ _
      rw [shed_lo]
      exact hlo
    have hc1024 : 1 + cnts keys + cnts kids ≤ 1024 := by have := of_decide_eq_true hfd.symm; simpa only [cnt] using this
    have hkl := len_cnts keys
    have hdl := len_cnts kids
    simp only [cnt] at hN
    clear hfd hlo hfew a1 a2
    by_cases hbs : bs = [] <;> by_cases hks : keys = [] <;> by_cases hds : kids = []
    · conv => whnf
      refine ⟨_, b1, ?_⟩
      conv => whnf
      refine ⟨_, _, (copy_bytes0 _ _ hbs S2), ?_⟩
      conv => whnf
      refine ⟨_, _, b1, if_pos ⟨rfl, rfl, Nat.le_of_ble_eq_true rfl⟩, ?_⟩
      conv => whnf
      generalize hsS3 : S2.set S.next _ = S3
      have nS3 : S3.next = S2.next := by rw [← hsS3]; rfl
      have kkS3 : Keep S S3 := by rw [← hsS3]; exact k02.set _ _ (Nat.le_refl _)
      have c1S3 : S3.cells S.next = some [AV.int .i64 kind, .int .u64 n, .bool neg, .str dg, .int .i64 ex, .str tx, .nils, slV fk (Nd.vs keys), slV fd (Nd.vs kids)] := by rw [← hsS3]; exact cells_set _ _ _
      have c2S3 : S3.cells (S.next + 1) = some zN.cs := by rw [← hsS3]; exact cells_set_ne b2 (by omega)
      clear hsS3
      refine ⟨_, c1S3, ?_⟩
      conv => whnf
      refine ⟨_, _, (copy_nodes0 _ _ hks S3), ?_⟩
      conv => whnf
      refine ⟨_, _, c1S3, if_pos ⟨rfl, rfl, Nat.le_of_ble_eq_true rfl⟩, ?_⟩
      conv => whnf
      generalize hsS4 : S3.set S.next _ = S4
      have nS4 : S4.next = S3.next := by rw [← hsS4]; rfl
      have kkS4 : Keep S S4 := by rw [← hsS4]; exact kkS3.set _ _ (Nat.le_refl _)
      have c1S4 : S4.cells S.next = some [AV.int .i64 kind, .int .u64 n, .bool neg, .str dg, .int .i64 ex, .str tx, .nils, .nils, slV fd (Nd.vs kids)] := by rw [← hsS4]; exact cells_set _ _ _
      have c2S4 : S4.cells (S.next + 1) = some zN.cs := by rw [← hsS4]; exact cells_set_ne c2S3 (by omega)
      clear hsS4
      refine ⟨_, c1S4, ?_⟩
      conv => whnf
      refine ⟨_, _, (copy_nodes0 _ _ hds S4), ?_⟩
      conv => whnf
      refine ⟨_, _, c1S4, if_pos ⟨rfl, rfl, Nat.le_of_ble_eq_true rfl⟩, ?_⟩
      conv => whnf
      generalize hsS5 : S4.set S.next _ = S5
      have nS5 : S5.next = S4.next := by rw [← hsS5]; rfl
      have kkS5 : Keep S S5 := by rw [← hsS5]; exact kkS4.set _ _ (Nat.le_refl _)
      have c1S5 : S5.cells S.next = some [AV.int .i64 kind, .int .u64 n, .bool neg, .str dg, .int .i64 ex, .str tx, .nils, .nils, .nils] := by rw [← hsS5]; exact cells_set _ _ _
      have c2S5 : S5.cells (S.next + 1) = some zN.cs := by rw [← hsS5]; exact cells_set_ne c2S4 (by omega)
      clear hsS5
      refine ⟨_, c1S5, ?_⟩
      conv => whnf
      refine CodeQ.loop (fun (i : Nat) => pat 56 [(1, .ptr S.next 0), (2, .ptr (S.next + 1) 0), (23, .int .i64 0), (24, .int .i64 0)]) (fun m i S1 => S1 = S5) ?_ 0 0 _ _ rfl ⟨rfl, rfl, rfl, rfl, trivial⟩
      rintro m i Tk d hT
      conv => whnf
      refine br (fun h => by exfalso; omega) (fun _ => ?_)
      conv => whnf
      rw [← hT] at c1S5 c2S5 kkS5
      have nTk : S5.next ≤ Tk.next := by rw [hT]; exact Nat.le_refl _
      refine ⟨_, c1S5, ?_⟩
      conv => whnf
      refine CodeQ.loop (fun (i : Nat) => pat 56 [(1, .ptr S.next 0), (2, .ptr (S.next + 1) 0), (40, .int .i64 0), (41, .int .i64 0)]) (fun m i S1 => S1 = Tk) ?_ 0 0 _ _ rfl ⟨rfl, rfl, rfl, rfl, trivial⟩
      rintro m i Td d hT
      conv => whnf
      refine br (fun h => by exfalso; omega) (fun _ => ?_)
      conv => whnf
      rw [← hT] at c1S5 c2S5 kkS5
      have nTd : Tk.next ≤ Td.next := by rw [hT]; exact Nat.le_refl _
      refine ⟨_, c1S5, ?_⟩
      conv => whnf
      refine ⟨_, _, c2S5, store_agg rfl rfl rfl, ?_⟩
      conv => whnf
      refine ⟨AV.agg [AV.int .i64 kind, .int .u64 n, .bool neg, .str dg, .int .i64 ex, .str tx, .nils, .nils, .nils], by show (St.cells _ (S.next + 1)).bind _ = _; rw [cells_set]; rfl, ?_⟩
      conv => whnf
      have hfr : ∀ (m : Nat) (T : St), frzA (m + 4) (.agg [AV.int .i64 kind, .int .u64 n, .bool neg, .str dg, .int .i64 ex, .str tx, .nils, .nils, .nils]) T = some (.agg [AV.int .i64 kind, .int .u64 n, .bool neg, .str dg, .int .i64 ex, .str tx, .nils, .nils, .nils], T) := by
        intro m T

        have i1 : ∀ c n S, frzA (m + 3) (.int c n) S = some (.int c n, S) := fun _ _ _ => rfl
        have i2 : ∀ b S, frzA (m + 3) (.bool b) S = some (.bool b, S) := fun _ _ => rfl
        have i3 : ∀ b S, frzA (m + 3) (.str b) S = some (.str b, S) := fun _ _ => rfl
        have i4 : ∀ S, frzA (m + 3) .nils S = some (.nils, S) := fun _ => rfl
        rw [show m + 4 = (m + 3) + 1 by omega, frz_agg]
        simp only [mapS, i1, i2, i3, i4, Option.bind_some, Option.map_some]
      refine ⟨_, _, hfr _ _, ⟨.mk kind n neg dg ex tx .nil bs .nil [] .nil [], rfl, ?_, ?_, rfl⟩, ?_⟩
      · rw [hY]
        simp only [er]
        rw [hks]
        rw [hds]
      · refine ⟨?_, ?_, ?_, x4, ?_, ?_, ?_, ?_⟩
        all_goals first
          | exact fun _ => hbs
          | (intro h; cases h; done)
          | exact fun _ => rfl
          | (rw [lyk]; exact x5)
          | (rw [lyd]; exact x6)
          | (show 0 ≤ _; exact Nat.zero_le _)
          | assumption
          | trivial
      · exact ⟨by show S.next ≤ Td.next; exact kkS5.next, fun j hj => by rw [set_ne (by omega)]; exact kkS5.mem j hj⟩
    · conv => whnf
      refine ⟨_, b1, ?_⟩
      conv => whnf
      refine ⟨_, _, (copy_bytes0 _ _ hbs S2), ?_⟩
      conv => whnf
      refine ⟨_, _, b1, if_pos ⟨rfl, rfl, Nat.le_of_ble_eq_true rfl⟩, ?_⟩
      conv => whnf
      generalize hsS3 : S2.set S.next _ = S3
      have nS3 : S3.next = S2.next := by rw [← hsS3]; rfl
      have kkS3 : Keep S S3 := by rw [← hsS3]; exact k02.set _ _ (Nat.le_refl _)
      have c1S3 : S3.cells S.next = some [AV.int .i64 kind, .int .u64 n, .bool neg, .str dg, .int .i64 ex, .str tx, .nils, slV fk (Nd.vs keys), slV fd (Nd.vs kids)] := by rw [← hsS3]; exact cells_set _ _ _
      have c2S3 : S3.cells (S.next + 1) = some zN.cs := by rw [← hsS3]; exact cells_set_ne b2 (by omega)
      clear hsS3
      refine ⟨_, c1S3, ?_⟩
      conv => whnf
      refine ⟨_, _, (copy_nodes0 _ _ hks S3), ?_⟩
      conv => whnf
      refine ⟨_, _, c1S3, if_pos ⟨rfl, rfl, Nat.le_of_ble_eq_true rfl⟩, ?_⟩
      conv => whnf
      generalize hsS4 : S3.set S.next _ = S4
      have nS4 : S4.next = S3.next := by rw [← hsS4]; rfl
      have kkS4 : Keep S S4 := by rw [← hsS4]; exact kkS3.set _ _ (Nat.le_refl _)
      have c1S4 : S4.cells S.next = some [AV.int .i64 kind, .int .u64 n, .bool neg, .str dg, .int .i64 ex, .str tx, .nils, .nils, slV fd (Nd.vs kids)] := by rw [← hsS4]; exact cells_set _ _ _
      have c2S4 : S4.cells (S.next + 1) = some zN.cs := by rw [← hsS4]; exact cells_set_ne c2S3 (by omega)
      clear hsS4
      refine ⟨_, c1S4, ?_⟩
      conv => whnf
      refine ⟨_, _, (copy_nodes1 fd kids x3 hds (by omega)) S4, ?_⟩
      conv => whnf
      obtain ⟨ad, had⟩ : ∃ q, q = S4.next := ⟨_, rfl⟩
      rw [← had]
      generalize hnad : S4.new _ = S5
      have mad : S5.mem ad = some (.cells (csL (kids.map Nd.lo))) := by rw [← hnad, had]; exact mem_new _ _
      have kS5 : Keep S4 S5 := by rw [← hnad]; exact (Keep.refl S4).new _
      have nS5 : S5.next = S4.next + 1 := by rw [← hnad]; rfl
      have c1S5 := (cells_keep kS5 (j := S.next) (by omega)).trans c1S4
      have c2S5 := (cells_keep kS5 (j := S.next + 1) (by omega)).trans c2S4
      have kkS5 := kkS4.trans kS5
      clear hnad
      refine ⟨_, _, c1S5, if_pos ⟨rfl, rfl, Nat.le_of_ble_eq_true rfl⟩, ?_⟩
      conv => whnf
      generalize hsS6 : S5.set S.next _ = S6
      have nS6 : S6.next = S5.next := by rw [← hsS6]; rfl
      have kkS6 : Keep S S6 := by rw [← hsS6]; exact kkS5.set _ _ (Nat.le_refl _)
      have c1S6 : S6.cells S.next = some [AV.int .i64 kind, .int .u64 n, .bool neg, .str dg, .int .i64 ex, .str tx, .nils, .nils, .hnd ad 0 kids.length 9] := by rw [← hsS6]; exact cells_set _ _ _
      have c2S6 : S6.cells (S.next + 1) = some zN.cs := by rw [← hsS6]; exact cells_set_ne c2S5 (by omega)
      have mad : S6.mem ad = some (.cells (csL (kids.map Nd.lo))) := by rw [← hsS6, set_ne (by omega)]; exact mad
      clear hsS6
      refine ⟨_, c1S6, ?_⟩
      conv => whnf
      refine CodeQ.loop (fun (i : Nat) => pat 56 [(1, .ptr S.next 0), (2, .ptr (S.next + 1) 0), (23, .int .i64 0), (24, .int .i64 0)]) (fun m i S1 => S1 = S6) ?_ 0 0 _ _ rfl ⟨rfl, rfl, rfl, rfl, trivial⟩
      rintro m i Tk d hT
      conv => whnf
      refine br (fun h => by exfalso; omega) (fun _ => ?_)
      conv => whnf
      rw [← hT] at c1S6 c2S6 kkS6
      rw [← hT] at mad
      have nTk : S6.next ≤ Tk.next := by rw [hT]; exact Nat.le_refl _
      refine ⟨_, c1S6, ?_⟩
      conv => whnf
      refine CodeQ.loop (fun (i : Nat) => pat 56 [(1, .ptr S.next 0), (2, .ptr (S.next + 1) 0), (40, .int .i64 (kids.length : Nat)), (41, .int .i64 i)])
        (fun m i S1 => i + m = kids.length ∧ Keep S S1 ∧ Tk.next ≤ S1.next ∧ S1.cells S.next = some [AV.int .i64 kind, .int .u64 n, .bool neg, .str dg, .int .i64 ex, .str tx, .nils, .nils, .hnd ad 0 kids.length 9] ∧ S1.cells (S.next + 1) = some zN.cs ∧ (∃ ys : List Nd, ers ys = ers kids ∧ Nd.Oks ys ∧ S1.mem ad = some (.cells (csL ys)))) ?_ kids.length 0 _ _
        ⟨by omega, kkS6, Nat.le_refl _, c1S6, c2S6, ⟨kids.map Nd.lo, by rw [ers_map, List.map_map, map_lo, ers_map], oks_lo x8, mad⟩⟩ ⟨rfl, rfl, rfl, rfl, trivial⟩
      rintro m i Td d ⟨hi, kTd, nTd, c1Td, c2Td, ⟨ysd, eyd, oyd, myd⟩⟩
      have lyd : ysd.length = kids.length := ers_len eyd
      conv => whnf
      refine br (fun h => ?on_1) (fun h => ?off_1)
      case on_1 =>
        have hlt : i < ysd.length := by omega
        have hld := csL_ld hlt
        have hcn : cnt ysd[i] ≤ N := by
          rw [cnt_er (er_at eyd hlt (by omega))]
          have := cnt_mem (List.getElem_mem (show i < kids.length by omega))
          omega
        have hcall := ih ysd[i] (oks_iff.1 oyd _ (List.getElem_mem hlt)) hcn
        have hst : ∀ z : Nd, er z = er ysd[i] → ers (ysd.set i z) = ers kids := fun z hz => ers_set eyd hlt hz
        generalize ysd[i] = w at *
        obtain ⟨W, hW⟩ : ∃ W, W = w := ⟨_, rfl⟩
        rw [← hW] at hst
        have hcall2 := hcall
        rw [← hW] at hcall
        obtain ⟨kind2, n2', neg2, dg2, ex2, tx2, fb2, bs2, fk2, keys2, fd2, kids2⟩ := w
        conv => whnf
        refine ⟨[0, 1, 3, 4, 5, 6, 7, 8, 2, 9, 10], [(8, [1])], by kernel_rfl, by kernel_rfl, by kernel_rfl, ?_⟩
        conv => whnf
        refine ⟨_, c1Td, ?_⟩
        conv => whnf
        refine ⟨_, c1Td, ?_⟩
        conv => whnf
        refine ⟨by omega, by omega, ?_⟩
        conv => whnf
        refine ⟨_, cells_of_mem myd, partF_true hld ?_⟩
        conv => whnf
        rw [hW] at hcall
        refine CallQ.mono (hcall Td) ?_
        rintro r S9 ⟨⟨z, rfl, hz⟩, k9⟩
        have n9 := k9.next
        have c19 := (cells_keep k9 (j := S.next) (by omega)).trans c1Td
        have c29 := (cells_keep k9 (j := S.next + 1) (by omega)).trans c2Td
        have my9 := (k9.mem ad (by omega)).trans myd
        have ez := hst z (by rw [hW]; exact hz.1)
        have oz := oks_set oyd hz.2.1 (i := i)
        obtain ⟨Z, hZ⟩ : ∃ Z, Z = z := ⟨_, rfl⟩
        rw [← hZ] at ez oz
        obtain ⟨kind3, n3', neg3, dg3, ex3, tx3, fb3, bs3, fk3, keys3, fd3, kids3⟩ := z
        conv => whnf
        refine ⟨stab_load rfl rfl rfl rfl rfl (by show (St.cells _ S.next).bind _ = _; rw [c19]; rfl), ?_⟩
        conv => whnf
        refine ⟨by omega, by omega, ?_⟩
        conv => whnf
        refine ⟨_, _, cells_of_mem my9, if_pos ⟨rfl, nd_leaf .., by rw [csL_len]; show 0 + i * 9 + 9 ≤ _; omega⟩, ?_⟩
        conv => whnf
        refine ⟨m - 1, i + 1, by omega, ⟨by omega, (kTd.trans k9).set _ _ (by omega), by show _ ≤ S9.next; omega, cells_set_ne c19 (by omega), cells_set_ne c29 (by omega), ⟨ysd.set i Z, ez, oz, ?_⟩⟩, ⟨rfl, rfl, rfl, ?_, trivial⟩⟩
        · rw [mem_set, ← csL_set hlt, hZ, Nat.zero_add]; rfl
        · rw [wrap_i64 (by omega) (by omega)]; try rfl
      conv => whnf
      have mad := myd
      refine ⟨_, c1Td, ?_⟩
      conv => whnf
      refine ⟨_, _, c2Td, store_agg rfl rfl rfl, ?_⟩
      conv => whnf
      refine ⟨AV.agg [AV.int .i64 kind, .int .u64 n, .bool neg, .str dg, .int .i64 ex, .str tx, .nils, .nils, .hnd ad 0 kids.length 9], by show (St.cells _ (S.next + 1)).bind _ = _; rw [cells_set]; rfl, ?_⟩
      conv => whnf
      have hfr : ∀ (m : Nat) (T : St) (had : T.mem ad = some (.cells (csL ysd))), frzA (m + 4) (.agg [AV.int .i64 kind, .int .u64 n, .bool neg, .str dg, .int .i64 ex, .str tx, .nils, .nils, .hnd ad 0 kids.length 9]) T = some (.agg [AV.int .i64 kind, .int .u64 n, .bool neg, .str dg, .int .i64 ex, .str tx, .nils, .nils, .lst (Nd.vs ysd) .lost], (T.set ad none)) := by
        intro m T had
        have f3 := frz_arr (m + 1) ad ysd ((T)) (by exact had)
        rw [lyd] at f3
        have i1 : ∀ c n S, frzA (m + 3) (.int c n) S = some (.int c n, S) := fun _ _ _ => rfl
        have i2 : ∀ b S, frzA (m + 3) (.bool b) S = some (.bool b, S) := fun _ _ => rfl
        have i3 : ∀ b S, frzA (m + 3) (.str b) S = some (.str b, S) := fun _ _ => rfl
        have i4 : ∀ S, frzA (m + 3) .nils S = some (.nils, S) := fun _ => rfl
        rw [show m + 4 = (m + 3) + 1 by omega, frz_agg]
        simp only [mapS, i1, i2, i3, i4, f3, Option.bind_some, Option.map_some]
      refine ⟨_, _, hfr _ _ (by rw [set_ne (by omega)]; exact mad), ⟨.mk kind n neg dg ex tx .nil bs .nil [] (.lst .lost) ysd, rfl, ?_, ?_, rfl⟩, ?_⟩
      · rw [hY]
        simp only [er]
        rw [hks]
        rw [eyd]
      · refine ⟨?_, ?_, ?_, x4, ?_, ?_, ?_, ?_⟩
        all_goals first
          | exact fun _ => hbs
          | (intro h; cases h; done)
          | exact fun _ => rfl
          | (rw [lyk]; exact x5)
          | (rw [lyd]; exact x6)
          | (show 0 ≤ _; exact Nat.zero_le _)
          | assumption
          | trivial
      · exact ⟨by show S.next ≤ Td.next; exact kTd.next, fun j hj => by rw [set_ne (by omega), set_ne (by omega)]; exact kTd.mem j hj⟩
    · conv => whnf
      refine ⟨_, b1, ?_⟩
      conv => whnf
      refine ⟨_, _, (copy_bytes0 _ _ hbs S2), ?_⟩
      conv => whnf
      refine ⟨_, _, b1, if_pos ⟨rfl, rfl, Nat.le_of_ble_eq_true rfl⟩, ?_⟩
      conv => whnf
      generalize hsS3 : S2.set S.next _ = S3
      have nS3 : S3.next = S2.next := by rw [← hsS3]; rfl
      have kkS3 : Keep S S3 := by rw [← hsS3]; exact k02.set _ _ (Nat.le_refl _)
      have c1S3 : S3.cells S.next = some [AV.int .i64 kind, .int .u64 n, .bool neg, .str dg, .int .i64 ex, .str tx, .nils, slV fk (Nd.vs keys), slV fd (Nd.vs kids)] := by rw [← hsS3]; exact cells_set _ _ _
      have c2S3 : S3.cells (S.next + 1) = some zN.cs := by rw [← hsS3]; exact cells_set_ne b2 (by omega)
      clear hsS3
      refine ⟨_, c1S3, ?_⟩
      conv => whnf
      refine ⟨_, _, (copy_nodes1 fk keys x2 hks (by omega)) S3, ?_⟩
      conv => whnf
      obtain ⟨ak, hak⟩ : ∃ q, q = S3.next := ⟨_, rfl⟩
      rw [← hak]
      generalize hnak : S3.new _ = S4
      have mak : S4.mem ak = some (.cells (csL (keys.map Nd.lo))) := by rw [← hnak, hak]; exact mem_new _ _
      have kS4 : Keep S3 S4 := by rw [← hnak]; exact (Keep.refl S3).new _
      have nS4 : S4.next = S3.next + 1 := by rw [← hnak]; rfl
      have c1S4 := (cells_keep kS4 (j := S.next) (by omega)).trans c1S3
      have c2S4 := (cells_keep kS4 (j := S.next + 1) (by omega)).trans c2S3
      have kkS4 := kkS3.trans kS4
      clear hnak
      refine ⟨_, _, c1S4, if_pos ⟨rfl, rfl, Nat.le_of_ble_eq_true rfl⟩, ?_⟩
      conv => whnf
      generalize hsS5 : S4.set S.next _ = S5
      have nS5 : S5.next = S4.next := by rw [← hsS5]; rfl
      have kkS5 : Keep S S5 := by rw [← hsS5]; exact kkS4.set _ _ (Nat.le_refl _)
      have c1S5 : S5.cells S.next = some [AV.int .i64 kind, .int .u64 n, .bool neg, .str dg, .int .i64 ex, .str tx, .nils, .hnd ak 0 keys.length 9, slV fd (Nd.vs kids)] := by rw [← hsS5]; exact cells_set _ _ _
      have c2S5 : S5.cells (S.next + 1) = some zN.cs := by rw [← hsS5]; exact cells_set_ne c2S4 (by omega)
      have mak : S5.mem ak = some (.cells (csL (keys.map Nd.lo))) := by rw [← hsS5, set_ne (by omega)]; exact mak
      clear hsS5
      refine ⟨_, c1S5, ?_⟩
      conv => whnf
      refine ⟨_, _, (copy_nodes0 _ _ hds S5), ?_⟩
      conv => whnf
      refine ⟨_, _, c1S5, if_pos ⟨rfl, rfl, Nat.le_of_ble_eq_true rfl⟩, ?_⟩
      conv => whnf
      generalize hsS6 : S5.set S.next _ = S6
      have nS6 : S6.next = S5.next := by rw [← hsS6]; rfl
      have kkS6 : Keep S S6 := by rw [← hsS6]; exact kkS5.set _ _ (Nat.le_refl _)
      have c1S6 : S6.cells S.next = some [AV.int .i64 kind, .int .u64 n, .bool neg, .str dg, .int .i64 ex, .str tx, .nils, .hnd ak 0 keys.length 9, .nils] := by rw [← hsS6]; exact cells_set _ _ _
      have c2S6 : S6.cells (S.next + 1) = some zN.cs := by rw [← hsS6]; exact cells_set_ne c2S5 (by omega)
      have mak : S6.mem ak = some (.cells (csL (keys.map Nd.lo))) := by rw [← hsS6, set_ne (by omega)]; exact mak
      clear hsS6
      refine ⟨_, c1S6, ?_⟩
      conv => whnf
      refine CodeQ.loop (fun (i : Nat) => pat 56 [(1, .ptr S.next 0), (2, .ptr (S.next + 1) 0), (23, .int .i64 (keys.length : Nat)), (24, .int .i64 i)])
        (fun m i S1 => i + m = keys.length ∧ Keep S S1 ∧ S6.next ≤ S1.next ∧ S1.cells S.next = some [AV.int .i64 kind, .int .u64 n, .bool neg, .str dg, .int .i64 ex, .str tx, .nils, .hnd ak 0 keys.length 9, .nils] ∧ S1.cells (S.next + 1) = some zN.cs ∧ (∃ ys : List Nd, ers ys = ers keys ∧ Nd.Oks ys ∧ S1.mem ak = some (.cells (csL ys)))) ?_ keys.length 0 _ _
        ⟨by omega, kkS6, Nat.le_refl _, c1S6, c2S6, ⟨keys.map Nd.lo, by rw [ers_map, List.map_map, map_lo, ers_map], oks_lo x7, mak⟩⟩ ⟨rfl, rfl, rfl, rfl, trivial⟩
      rintro m i Tk d ⟨hi, kTk, nTk, c1Tk, c2Tk, ⟨ysk, eyk, oyk, myk⟩⟩
      have lyk : ysk.length = keys.length := ers_len eyk
      conv => whnf
      refine br (fun h => ?on_2) (fun h => ?off_2)
      case on_2 =>
        have hlt : i < ysk.length := by omega
        have hld := csL_ld hlt
        have hcn : cnt ysk[i] ≤ N := by
          rw [cnt_er (er_at eyk hlt (by omega))]
          have := cnt_mem (List.getElem_mem (show i < keys.length by omega))
          omega
        have hcall := ih ysk[i] (oks_iff.1 oyk _ (List.getElem_mem hlt)) hcn
        have hst : ∀ z : Nd, er z = er ysk[i] → ers (ysk.set i z) = ers keys := fun z hz => ers_set eyk hlt hz
        generalize ysk[i] = w at *
        obtain ⟨W, hW⟩ : ∃ W, W = w := ⟨_, rfl⟩
        rw [← hW] at hst
        have hcall2 := hcall
        rw [← hW] at hcall
        obtain ⟨kind2, n2', neg2, dg2, ex2, tx2, fb2, bs2, fk2, keys2, fd2, kids2⟩ := w
        conv => whnf
        refine ⟨[0, 1, 3, 4, 5, 6, 7, 8, 2, 9, 10], [(8, [1])], by kernel_rfl, by kernel_rfl, by kernel_rfl, ?_⟩
        conv => whnf
        refine ⟨_, c1Tk, ?_⟩
        conv => whnf
        refine ⟨_, c1Tk, ?_⟩
        conv => whnf
        refine ⟨by omega, by omega, ?_⟩
        conv => whnf
        refine ⟨_, cells_of_mem myk, partF_true hld ?_⟩
        conv => whnf
        rw [hW] at hcall
        refine CallQ.mono (hcall Tk) ?_
        rintro r S9 ⟨⟨z, rfl, hz⟩, k9⟩
        have n9 := k9.next
        have c19 := (cells_keep k9 (j := S.next) (by omega)).trans c1Tk
        have c29 := (cells_keep k9 (j := S.next + 1) (by omega)).trans c2Tk
        have my9 := (k9.mem ak (by omega)).trans myk
        have ez := hst z (by rw [hW]; exact hz.1)
        have oz := oks_set oyk hz.2.1 (i := i)
        obtain ⟨Z, hZ⟩ : ∃ Z, Z = z := ⟨_, rfl⟩
        rw [← hZ] at ez oz
        obtain ⟨kind3, n3', neg3, dg3, ex3, tx3, fb3, bs3, fk3, keys3, fd3, kids3⟩ := z
        conv => whnf
        refine ⟨stab_load rfl rfl rfl rfl rfl (by show (St.cells _ S.next).bind _ = _; rw [c19]; rfl), ?_⟩
        conv => whnf
        refine ⟨by omega, by omega, ?_⟩
        conv => whnf
        refine ⟨_, _, cells_of_mem my9, if_pos ⟨rfl, nd_leaf .., by rw [csL_len]; show 0 + i * 9 + 9 ≤ _; omega⟩, ?_⟩
        conv => whnf
        refine ⟨m - 1, i + 1, by omega, ⟨by omega, (kTk.trans k9).set _ _ (by omega), by show _ ≤ S9.next; omega, cells_set_ne c19 (by omega), cells_set_ne c29 (by omega), ⟨ysk.set i Z, ez, oz, ?_⟩⟩, ⟨rfl, rfl, rfl, ?_, trivial⟩⟩
        · rw [mem_set, ← csL_set hlt, hZ, Nat.zero_add]; rfl
        · rw [wrap_i64 (by omega) (by omega)]; try rfl
      conv => whnf
      have mak := myk
      refine ⟨_, c1Tk, ?_⟩
      conv => whnf
      refine CodeQ.loop (fun (i : Nat) => pat 56 [(1, .ptr S.next 0), (2, .ptr (S.next + 1) 0), (40, .int .i64 0), (41, .int .i64 0)]) (fun m i S1 => S1 = Tk) ?_ 0 0 _ _ rfl ⟨rfl, rfl, rfl, rfl, trivial⟩
      rintro m i Td d hT
      conv => whnf
      refine br (fun h => by exfalso; omega) (fun _ => ?_)
      conv => whnf
      rw [← hT] at c1Tk c2Tk kTk
      rw [← hT] at mak
      have nTd : Tk.next ≤ Td.next := by rw [hT]; exact Nat.le_refl _
      refine ⟨_, c1Tk, ?_⟩
      conv => whnf
      refine ⟨_, _, c2Tk, store_agg rfl rfl rfl, ?_⟩
      conv => whnf
      refine ⟨AV.agg [AV.int .i64 kind, .int .u64 n, .bool neg, .str dg, .int .i64 ex, .str tx, .nils, .hnd ak 0 keys.length 9, .nils], by show (St.cells _ (S.next + 1)).bind _ = _; rw [cells_set]; rfl, ?_⟩
      conv => whnf
      have hfr : ∀ (m : Nat) (T : St) (hak : T.mem ak = some (.cells (csL ysk))), frzA (m + 4) (.agg [AV.int .i64 kind, .int .u64 n, .bool neg, .str dg, .int .i64 ex, .str tx, .nils, .hnd ak 0 keys.length 9, .nils]) T = some (.agg [AV.int .i64 kind, .int .u64 n, .bool neg, .str dg, .int .i64 ex, .str tx, .nils, .lst (Nd.vs ysk) .lost, .nils], (T.set ak none)) := by
        intro m T hak
        have f2 := frz_arr (m + 1) ak ysk (T) (by exact hak)
        rw [lyk] at f2
        have i1 : ∀ c n S, frzA (m + 3) (.int c n) S = some (.int c n, S) := fun _ _ _ => rfl
        have i2 : ∀ b S, frzA (m + 3) (.bool b) S = some (.bool b, S) := fun _ _ => rfl
        have i3 : ∀ b S, frzA (m + 3) (.str b) S = some (.str b, S) := fun _ _ => rfl
        have i4 : ∀ S, frzA (m + 3) .nils S = some (.nils, S) := fun _ => rfl
        rw [show m + 4 = (m + 3) + 1 by omega, frz_agg]
        simp only [mapS, i1, i2, i3, i4, f2, Option.bind_some, Option.map_some]
      refine ⟨_, _, hfr _ _ (by rw [set_ne (by omega)]; exact mak), ⟨.mk kind n neg dg ex tx .nil bs (.lst .lost) ysk .nil [], rfl, ?_, ?_, rfl⟩, ?_⟩
      · rw [hY]
        simp only [er]
        rw [eyk]
        rw [hds]
      · refine ⟨?_, ?_, ?_, x4, ?_, ?_, ?_, ?_⟩
        all_goals first
          | exact fun _ => hbs
          | (intro h; cases h; done)
          | exact fun _ => rfl
          | (rw [lyk]; exact x5)
          | (rw [lyd]; exact x6)
          | (show 0 ≤ _; exact Nat.zero_le _)
          | assumption
          | trivial
      · exact ⟨by show S.next ≤ Td.next; exact kTk.next, fun j hj => by rw [set_ne (by omega), set_ne (by omega)]; exact kTk.mem j hj⟩
    · conv => whnf
      refine ⟨_, b1, ?_⟩
      conv => whnf
      refine ⟨_, _, (copy_bytes0 _ _ hbs S2), ?_⟩
      conv => whnf
      refine ⟨_, _, b1, if_pos ⟨rfl, rfl, Nat.le_of_ble_eq_true rfl⟩, ?_⟩
      conv => whnf
      generalize hsS3 : S2.set S.next _ = S3
      have nS3 : S3.next = S2.next := by rw [← hsS3]; rfl
      have kkS3 : Keep S S3 := by rw [← hsS3]; exact k02.set _ _ (Nat.le_refl _)
      have c1S3 : S3.cells S.next = some [AV.int .i64 kind, .int .u64 n, .bool neg, .str dg, .int .i64 ex, .str tx, .nils, slV fk (Nd.vs keys), slV fd (Nd.vs kids)] := by rw [← hsS3]; exact cells_set _ _ _
      have c2S3 : S3.cells (S.next + 1) = some zN.cs := by rw [← hsS3]; exact cells_set_ne b2 (by omega)
      clear hsS3
      refine ⟨_, c1S3, ?_⟩
      conv => whnf
      refine ⟨_, _, (copy_nodes1 fk keys x2 hks (by omega)) S3, ?_⟩
      conv => whnf
      obtain ⟨ak, hak⟩ : ∃ q, q = S3.next := ⟨_, rfl⟩
      rw [← hak]
      generalize hnak : S3.new _ = S4
      have mak : S4.mem ak = some (.cells (csL (keys.map Nd.lo))) := by rw [← hnak, hak]; exact mem_new _ _
      have kS4 : Keep S3 S4 := by rw [← hnak]; exact (Keep.refl S3).new _
      have nS4 : S4.next = S3.next + 1 := by rw [← hnak]; rfl
      have c1S4 := (cells_keep kS4 (j := S.next) (by omega)).trans c1S3
      have c2S4 := (cells_keep kS4 (j := S.next + 1) (by omega)).trans c2S3
      have kkS4 := kkS3.trans kS4
      clear hnak
      refine ⟨_, _, c1S4, if_pos ⟨rfl, rfl, Nat.le_of_ble_eq_true rfl⟩, ?_⟩
      conv => whnf
      generalize hsS5 : S4.set S.next _ = S5
      have nS5 : S5.next = S4.next := by rw [← hsS5]; rfl
      have kkS5 : Keep S S5 := by rw [← hsS5]; exact kkS4.set _ _ (Nat.le_refl _)
      have c1S5 : S5.cells S.next = some [AV.int .i64 kind, .int .u64 n, .bool neg, .str dg, .int .i64 ex, .str tx, .nils, .hnd ak 0 keys.length 9, slV fd (Nd.vs kids)] := by rw [← hsS5]; exact cells_set _ _ _
      have c2S5 : S5.cells (S.next + 1) = some zN.cs := by rw [← hsS5]; exact cells_set_ne c2S4 (by omega)
      have mak : S5.mem ak = some (.cells (csL (keys.map Nd.lo))) := by rw [← hsS5, set_ne (by omega)]; exact mak
      clear hsS5
      refine ⟨_, c1S5, ?_⟩
      conv => whnf
      refine ⟨_, _, (copy_nodes1 fd kids x3 hds (by omega)) S5, ?_⟩
      conv => whnf
      obtain ⟨ad, had⟩ : ∃ q, q = S5.next := ⟨_, rfl⟩
      rw [← had]
      generalize hnad : S5.new _ = S6
      have mad : S6.mem ad = some (.cells (csL (kids.map Nd.lo))) := by rw [← hnad, had]; exact mem_new _ _
      have kS6 : Keep S5 S6 := by rw [← hnad]; exact (Keep.refl S5).new _
      have nS6 : S6.next = S5.next + 1 := by rw [← hnad]; rfl
      have c1S6 := (cells_keep kS6 (j := S.next) (by omega)).trans c1S5
      have c2S6 := (cells_keep kS6 (j := S.next + 1) (by omega)).trans c2S5
      have kkS6 := kkS5.trans kS6
      clear hnad
      have mak := (kS6.mem ak (by omega)).trans mak
      refine ⟨_, _, c1S6, if_pos ⟨rfl, rfl, Nat.le_of_ble_eq_true rfl⟩, ?_⟩
      conv => whnf
      generalize hsS7 : S6.set S.next _ = S7
      have nS7 : S7.next = S6.next := by rw [← hsS7]; rfl
      have kkS7 : Keep S S7 := by rw [← hsS7]; exact kkS6.set _ _ (Nat.le_refl _)
      have c1S7 : S7.cells S.next = some [AV.int .i64 kind, .int .u64 n, .bool neg, .str dg, .int .i64 ex, .str tx, .nils, .hnd ak 0 keys.length 9, .hnd ad 0 kids.length 9] := by rw [← hsS7]; exact cells_set _ _ _
      have c2S7 : S7.cells (S.next + 1) = some zN.cs := by rw [← hsS7]; exact cells_set_ne c2S6 (by omega)
      have mak : S7.mem ak = some (.cells (csL (keys.map Nd.lo))) := by rw [← hsS7, set_ne (by omega)]; exact mak
      have mad : S7.mem ad = some (.cells (csL (kids.map Nd.lo))) := by rw [← hsS7, set_ne (by omega)]; exact mad
      clear hsS7
      refine ⟨_, c1S7, ?_⟩
      conv => whnf
      refine CodeQ.loop (fun (i : Nat) => pat 56 [(1, .ptr S.next 0), (2, .ptr (S.next + 1) 0), (23, .int .i64 (keys.length : Nat)), (24, .int .i64 i)])
        (fun m i S1 => i + m = keys.length ∧ Keep S S1 ∧ S7.next ≤ S1.next ∧ S1.cells S.next = some [AV.int .i64 kind, .int .u64 n, .bool neg, .str dg, .int .i64 ex, .str tx, .nils, .hnd ak 0 keys.length 9, .hnd ad 0 kids.length 9] ∧ S1.cells (S.next + 1) = some zN.cs ∧ (∃ ys : List Nd, ers ys = ers keys ∧ Nd.Oks ys ∧ S1.mem ak = some (.cells (csL ys))) ∧ S1.mem ad = some (.cells (csL (kids.map Nd.lo)))) ?_ keys.length 0 _ _
        ⟨by omega, kkS7, Nat.le_refl _, c1S7, c2S7, ⟨keys.map Nd.lo, by rw [ers_map, List.map_map, map_lo, ers_map], oks_lo x7, mak⟩, mad⟩ ⟨rfl, rfl, rfl, rfl, trivial⟩
      rintro m i Tk d ⟨hi, kTk, nTk, c1Tk, c2Tk, ⟨ysk, eyk, oyk, myk⟩, mad⟩
      have lyk : ysk.length = keys.length := ers_len eyk
      conv => whnf
      refine br (fun h => ?on_3) (fun h => ?off_3)
      case on_3 =>
        have hlt : i < ysk.length := by omega
        have hld := csL_ld hlt
        have hcn : cnt ysk[i] ≤ N := by
          rw [cnt_er (er_at eyk hlt (by omega))]
          have := cnt_mem (List.getElem_mem (show i < keys.length by omega))
          omega
        have hcall := ih ysk[i] (oks_iff.1 oyk _ (List.getElem_mem hlt)) hcn
        have hst : ∀ z : Nd, er z = er ysk[i] → ers (ysk.set i z) = ers keys := fun z hz => ers_set eyk hlt hz
        generalize ysk[i] = w at *
        obtain ⟨W, hW⟩ : ∃ W, W = w := ⟨_, rfl⟩
        rw [← hW] at hst
        have hcall2 := hcall
        rw [← hW] at hcall
        obtain ⟨kind2, n2', neg2, dg2, ex2, tx2, fb2, bs2, fk2, keys2, fd2, kids2⟩ := w
        conv => whnf
        refine ⟨[0, 1, 3, 4, 5, 6, 7, 8, 2, 9, 10], [(8, [1])], by kernel_rfl, by kernel_rfl, by kernel_rfl, ?_⟩
        conv => whnf
        refine ⟨_, c1Tk, ?_⟩
        conv => whnf
        refine ⟨_, c1Tk, ?_⟩
        conv => whnf
        refine ⟨by omega, by omega, ?_⟩
        conv => whnf
        refine ⟨_, cells_of_mem myk, partF_true hld ?_⟩
        conv => whnf
        rw [hW] at hcall
        refine CallQ.mono (hcall Tk) ?_
        rintro r S9 ⟨⟨z, rfl, hz⟩, k9⟩
        have n9 := k9.next
        have c19 := (cells_keep k9 (j := S.next) (by omega)).trans c1Tk
        have c29 := (cells_keep k9 (j := S.next + 1) (by omega)).trans c2Tk
        have my9 := (k9.mem ak (by omega)).trans myk
        have ez := hst z (by rw [hW]; exact hz.1)
        have oz := oks_set oyk hz.2.1 (i := i)
        obtain ⟨Z, hZ⟩ : ∃ Z, Z = z := ⟨_, rfl⟩
        rw [← hZ] at ez oz
        obtain ⟨kind3, n3', neg3, dg3, ex3, tx3, fb3, bs3, fk3, keys3, fd3, kids3⟩ := z
        conv => whnf
        refine ⟨stab_load rfl rfl rfl rfl rfl (by show (St.cells _ S.next).bind _ = _; rw [c19]; rfl), ?_⟩
        conv => whnf
        refine ⟨by omega, by omega, ?_⟩
        conv => whnf
        refine ⟨_, _, cells_of_mem my9, if_pos ⟨rfl, nd_leaf .., by rw [csL_len]; show 0 + i * 9 + 9 ≤ _; omega⟩, ?_⟩
        conv => whnf
        refine ⟨m - 1, i + 1, by omega, ⟨by omega, (kTk.trans k9).set _ _ (by omega), by show _ ≤ S9.next; omega, cells_set_ne c19 (by omega), cells_set_ne c29 (by omega), ⟨ysk.set i Z, ez, oz, ?_⟩, by rw [set_ne (by omega)]; exact (k9.mem ad (by omega)).trans mad⟩, ⟨rfl, rfl, rfl, ?_, trivial⟩⟩
        · rw [mem_set, ← csL_set hlt, hZ, Nat.zero_add]; rfl
        · rw [wrap_i64 (by omega) (by omega)]; try rfl
      conv => whnf
      have mak := myk
      refine ⟨_, c1Tk, ?_⟩
      conv => whnf
      refine CodeQ.loop (fun (i : Nat) => pat 56 [(1, .ptr S.next 0), (2, .ptr (S.next + 1) 0), (40, .int .i64 (kids.length : Nat)), (41, .int .i64 i)])
        (fun m i S1 => i + m = kids.length ∧ Keep S S1 ∧ Tk.next ≤ S1.next ∧ S1.cells S.next = some [AV.int .i64 kind, .int .u64 n, .bool neg, .str dg, .int .i64 ex, .str tx, .nils, .hnd ak 0 keys.length 9, .hnd ad 0 kids.length 9] ∧ S1.cells (S.next + 1) = some zN.cs ∧ (∃ ys : List Nd, ers ys = ers kids ∧ Nd.Oks ys ∧ S1.mem ad = some (.cells (csL ys))) ∧ S1.mem ak = some (.cells (csL ysk))) ?_ kids.length 0 _ _
        ⟨by omega, kTk, Nat.le_refl _, c1Tk, c2Tk, ⟨kids.map Nd.lo, by rw [ers_map, List.map_map, map_lo, ers_map], oks_lo x8, mad⟩, mak⟩ ⟨rfl, rfl, rfl, rfl, trivial⟩
      rintro m i Td d ⟨hi, kTd, nTd, c1Td, c2Td, ⟨ysd, eyd, oyd, myd⟩, mak⟩
      have lyd : ysd.length = kids.length := ers_len eyd
      conv => whnf
      refine br (fun h => ?on_4) (fun h => ?off_4)
      case on_4 =>
        have hlt : i < ysd.length := by omega
        have hld := csL_ld hlt
        have hcn : cnt ysd[i] ≤ N := by
          rw [cnt_er (er_at eyd hlt (by omega))]
          have := cnt_mem (List.getElem_mem (show i < kids.length by omega))
          omega
        have hcall := ih ysd[i] (oks_iff.1 oyd _ (List.getElem_mem hlt)) hcn
        have hst : ∀ z : Nd, er z = er ysd[i] → ers (ysd.set i z) = ers kids := fun z hz => ers_set eyd hlt hz
        generalize ysd[i] = w at *
        obtain ⟨W, hW⟩ : ∃ W, W = w := ⟨_, rfl⟩
        rw [← hW] at hst
        have hcall2 := hcall
        rw [← hW] at hcall
        obtain ⟨kind2, n2', neg2, dg2, ex2, tx2, fb2, bs2, fk2, keys2, fd2, kids2⟩ := w
        conv => whnf
        refine ⟨[0, 1, 3, 4, 5, 6, 7, 8, 2, 9, 10], [(8, [1])], by kernel_rfl, by kernel_rfl, by kernel_rfl, ?_⟩
        conv => whnf
        refine ⟨_, c1Td, ?_⟩
        conv => whnf
        refine ⟨_, c1Td, ?_⟩
        conv => whnf
        refine ⟨by omega, by omega, ?_⟩
        conv => whnf
        refine ⟨_, cells_of_mem myd, partF_true hld ?_⟩
        conv => whnf
        rw [hW] at hcall
        refine CallQ.mono (hcall Td) ?_
        rintro r S9 ⟨⟨z, rfl, hz⟩, k9⟩
        have n9 := k9.next
        have c19 := (cells_keep k9 (j := S.next) (by omega)).trans c1Td
        have c29 := (cells_keep k9 (j := S.next + 1) (by omega)).trans c2Td
        have my9 := (k9.mem ad (by omega)).trans myd
        have ez := hst z (by rw [hW]; exact hz.1)
        have oz := oks_set oyd hz.2.1 (i := i)
        obtain ⟨Z, hZ⟩ : ∃ Z, Z = z := ⟨_, rfl⟩
        rw [← hZ] at ez oz
        obtain ⟨kind3, n3', neg3, dg3, ex3, tx3, fb3, bs3, fk3, keys3, fd3, kids3⟩ := z
        conv => whnf
        refine ⟨stab_load rfl rfl rfl rfl rfl (by show (St.cells _ S.next).bind _ = _; rw [c19]; rfl), ?_⟩
        conv => whnf
        refine ⟨by omega, by omega, ?_⟩
        conv => whnf
        refine ⟨_, _, cells_of_mem my9, if_pos ⟨rfl, nd_leaf .., by rw [csL_len]; show 0 + i * 9 + 9 ≤ _; omega⟩, ?_⟩
        conv => whnf
        refine ⟨m - 1, i + 1, by omega, ⟨by omega, (kTd.trans k9).set _ _ (by omega), by show _ ≤ S9.next; omega, cells_set_ne c19 (by omega), cells_set_ne c29 (by omega), ⟨ysd.set i Z, ez, oz, ?_⟩, by rw [set_ne (by omega)]; exact (k9.mem ak (by omega)).trans mak⟩, ⟨rfl, rfl, rfl, ?_, trivial⟩⟩
        · rw [mem_set, ← csL_set hlt, hZ, Nat.zero_add]; rfl
        · rw [wrap_i64 (by omega) (by omega)]; try rfl
      conv => whnf
      have mad := myd
      refine ⟨_, c1Td, ?_⟩
      conv => whnf
      refine ⟨_, _, c2Td, store_agg rfl rfl rfl, ?_⟩
      conv => whnf
      refine ⟨AV.agg [AV.int .i64 kind, .int .u64 n, .bool neg, .str dg, .int .i64 ex, .str tx, .nils, .hnd ak 0 keys.length 9, .hnd ad 0 kids.length 9], by show (St.cells _ (S.next + 1)).bind _ = _; rw [cells_set]; rfl, ?_⟩
      conv => whnf
      have hfr : ∀ (m : Nat) (T : St) (hak : T.mem ak = some (.cells (csL ysk))) (had : T.mem ad = some (.cells (csL ysd))), frzA (m + 4) (.agg [AV.int .i64 kind, .int .u64 n, .bool neg, .str dg, .int .i64 ex, .str tx, .nils, .hnd ak 0 keys.length 9, .hnd ad 0 kids.length 9]) T = some (.agg [AV.int .i64 kind, .int .u64 n, .bool neg, .str dg, .int .i64 ex, .str tx, .nils, .lst (Nd.vs ysk) .lost, .lst (Nd.vs ysd) .lost], ((T.set ak none).set ad none)) := by
        intro m T hak had
        have f2 := frz_arr (m + 1) ak ysk (T) (by exact hak)
        rw [lyk] at f2
        have f3 := frz_arr (m + 1) ad ysd ((T).set ak none) (by rw [set_ne (by omega)]; exact had)
        rw [lyd] at f3
        have i1 : ∀ c n S, frzA (m + 3) (.int c n) S = some (.int c n, S) := fun _ _ _ => rfl
        have i2 : ∀ b S, frzA (m + 3) (.bool b) S = some (.bool b, S) := fun _ _ => rfl
        have i3 : ∀ b S, frzA (m + 3) (.str b) S = some (.str b, S) := fun _ _ => rfl
        have i4 : ∀ S, frzA (m + 3) .nils S = some (.nils, S) := fun _ => rfl
        rw [show m + 4 = (m + 3) + 1 by omega, frz_agg]
        simp only [mapS, i1, i2, i3, i4, f2, f3, Option.bind_some, Option.map_some]
      refine ⟨_, _, hfr _ _ (by rw [set_ne (by omega)]; exact mak) (by rw [set_ne (by omega)]; exact mad), ⟨.mk kind n neg dg ex tx .nil bs (.lst .lost) ysk (.lst .lost) ysd, rfl, ?_, ?_, rfl⟩, ?_⟩
      · rw [hY]
        simp only [er]
        rw [eyk]
        rw [eyd]
      · refine ⟨?_, ?_, ?_, x4, ?_, ?_, ?_, ?_⟩
        all_goals first
          | exact fun _ => hbs
          | (intro h; cases h; done)
          | exact fun _ => rfl
          | (rw [lyk]; exact x5)
          | (rw [lyd]; exact x6)
          | (show 0 ≤ _; exact Nat.zero_le _)
          | assumption
          | trivial
      · exact ⟨by show S.next ≤ Td.next; exact kTd.next, fun j hj => by rw [set_ne (by omega), set_ne (by omega), set_ne (by omega)]; exact kTd.mem j hj⟩
    · conv => whnf
      refine ⟨_, b1, ?_⟩
      conv => whnf
      refine ⟨_, _, (copy_bytes1 fb bs x1 hbs x4) S2, ?_⟩
      conv => whnf
      obtain ⟨bb, hbb⟩ : ∃ q, q = S2.next := ⟨_, rfl⟩
      rw [← hbb]
      generalize hnbb : S2.new _ = S3
      have mbb : S3.mem bb = some (.cells (bs.map u8)) := by rw [← hnbb, hbb]; exact mem_new _ _
      have kS3 : Keep S2 S3 := by rw [← hnbb]; exact (Keep.refl S2).new _
      have nS3 : S3.next = S2.next + 1 := by rw [← hnbb]; rfl
      have c1S3 := (cells_keep kS3 (j := S.next) (by omega)).trans b1
      have c2S3 := (cells_keep kS3 (j := S.next + 1) (by omega)).trans b2
      have kkS3 := k02.trans kS3
      clear hnbb
      refine ⟨_, _, c1S3, if_pos ⟨rfl, rfl, Nat.le_of_ble_eq_true rfl⟩, ?_⟩
      conv => whnf
      generalize hsS4 : S3.set S.next _ = S4
      have nS4 : S4.next = S3.next := by rw [← hsS4]; rfl
      have kkS4 : Keep S S4 := by rw [← hsS4]; exact kkS3.set _ _ (Nat.le_refl _)
      have c1S4 : S4.cells S.next = some [AV.int .i64 kind, .int .u64 n, .bool neg, .str dg, .int .i64 ex, .str tx, .hnd bb 0 bs.length 1, slV fk (Nd.vs keys), slV fd (Nd.vs kids)] := by rw [← hsS4]; exact cells_set _ _ _
      have c2S4 : S4.cells (S.next + 1) = some zN.cs := by rw [← hsS4]; exact cells_set_ne c2S3 (by omega)
      have mbb : S4.mem bb = some (.cells (bs.map u8)) := by rw [← hsS4, set_ne (by omega)]; exact mbb
      clear hsS4
      refine ⟨_, c1S4, ?_⟩
      conv => whnf
      refine ⟨_, _, (copy_nodes0 _ _ hks S4), ?_⟩
      conv => whnf
      refine ⟨_, _, c1S4, if_pos ⟨rfl, rfl, Nat.le_of_ble_eq_true rfl⟩, ?_⟩
      conv => whnf
      generalize hsS5 : S4.set S.next _ = S5
      have nS5 : S5.next = S4.next := by rw [← hsS5]; rfl
      have kkS5 : Keep S S5 := by rw [← hsS5]; exact kkS4.set _ _ (Nat.le_refl _)
      have c1S5 : S5.cells S.next = some [AV.int .i64 kind, .int .u64 n, .bool neg, .str dg, .int .i64 ex, .str tx, .hnd bb 0 bs.length 1, .nils, slV fd (Nd.vs kids)] := by rw [← hsS5]; exact cells_set _ _ _
      have c2S5 : S5.cells (S.next + 1) = some zN.cs := by rw [← hsS5]; exact cells_set_ne c2S4 (by omega)
      have mbb : S5.mem bb = some (.cells (bs.map u8)) := by rw [← hsS5, set_ne (by omega)]; exact mbb
      clear hsS5
      refine ⟨_, c1S5, ?_⟩
      conv => whnf
      refine ⟨_, _, (copy_nodes0 _ _ hds S5), ?_⟩
      conv => whnf
      refine ⟨_, _, c1S5, if_pos ⟨rfl, rfl, Nat.le_of_ble_eq_true rfl⟩, ?_⟩
      conv => whnf
      generalize hsS6 : S5.set S.next _ = S6
      have nS6 : S6.next = S5.next := by rw [← hsS6]; rfl
      have kkS6 : Keep S S6 := by rw [← hsS6]; exact kkS5.set _ _ (Nat.le_refl _)
      have c1S6 : S6.cells S.next = some [AV.int .i64 kind, .int .u64 n, .bool neg, .str dg, .int .i64 ex, .str tx, .hnd bb 0 bs.length 1, .nils, .nils] := by rw [← hsS6]; exact cells_set _ _ _
      have c2S6 : S6.cells (S.next + 1) = some zN.cs := by rw [← hsS6]; exact cells_set_ne c2S5 (by omega)
      have mbb : S6.mem bb = some (.cells (bs.map u8)) := by rw [← hsS6, set_ne (by omega)]; exact mbb
      clear hsS6
      refine ⟨_, c1S6, ?_⟩
      conv => whnf
      refine CodeQ.loop (fun (i : Nat) => pat 56 [(1, .ptr S.next 0), (2, .ptr (S.next + 1) 0), (23, .int .i64 0), (24, .int .i64 0)]) (fun m i S1 => S1 = S6) ?_ 0 0 _ _ rfl ⟨rfl, rfl, rfl, rfl, trivial⟩
      rintro m i Tk d hT
      conv => whnf
      refine br (fun h => by exfalso; omega) (fun _ => ?_)
      conv => whnf
      rw [← hT] at c1S6 c2S6 kkS6
      rw [← hT] at mbb
      have nTk : S6.next ≤ Tk.next := by rw [hT]; exact Nat.le_refl _
      refine ⟨_, c1S6, ?_⟩
      conv => whnf
      refine CodeQ.loop (fun (i : Nat) => pat 56 [(1, .ptr S.next 0), (2, .ptr (S.next + 1) 0), (40, .int .i64 0), (41, .int .i64 0)]) (fun m i S1 => S1 = Tk) ?_ 0 0 _ _ rfl ⟨rfl, rfl, rfl, rfl, trivial⟩
      rintro m i Td d hT
      conv => whnf
      refine br (fun h => by exfalso; omega) (fun _ => ?_)
      conv => whnf
      rw [← hT] at c1S6 c2S6 kkS6
      rw [← hT] at mbb
      have nTd : Tk.next ≤ Td.next := by rw [hT]; exact Nat.le_refl _
      refine ⟨_, c1S6, ?_⟩
      conv => whnf
      refine ⟨_, _, c2S6, store_agg rfl rfl rfl, ?_⟩
      conv => whnf
      refine ⟨AV.agg [AV.int .i64 kind, .int .u64 n, .bool neg, .str dg, .int .i64 ex, .str tx, .hnd bb 0 bs.length 1, .nils, .nils], by show (St.cells _ (S.next + 1)).bind _ = _; rw [cells_set]; rfl, ?_⟩
      conv => whnf
      have hfr : ∀ (m : Nat) (T : St) (hbb : T.mem bb = some (.cells (bs.map u8))), frzA (m + 4) (.agg [AV.int .i64 kind, .int .u64 n, .bool neg, .str dg, .int .i64 ex, .str tx, .hnd bb 0 bs.length 1, .nils, .nils]) T = some (.agg [AV.int .i64 kind, .int .u64 n, .bool neg, .str dg, .int .i64 ex, .str tx, .lst (bs.map u8) .lost, .nils, .nils], (T.set bb none)) := by
        intro m T hbb
        have f1 := frz_bytes (m + 1) bb bs T hbb
        have i1 : ∀ c n S, frzA (m + 3) (.int c n) S = some (.int c n, S) := fun _ _ _ => rfl
        have i2 : ∀ b S, frzA (m + 3) (.bool b) S = some (.bool b, S) := fun _ _ => rfl
        have i3 : ∀ b S, frzA (m + 3) (.str b) S = some (.str b, S) := fun _ _ => rfl
        have i4 : ∀ S, frzA (m + 3) .nils S = some (.nils, S) := fun _ => rfl
        rw [show m + 4 = (m + 3) + 1 by omega, frz_agg]
        simp only [mapS, i1, i2, i3, i4, f1, Option.bind_some, Option.map_some]
      refine ⟨_, _, hfr _ _ (by rw [set_ne (by omega)]; exact mbb), ⟨.mk kind n neg dg ex tx (.lst .lost) bs .nil [] .nil [], rfl, ?_, ?_, rfl⟩, ?_⟩
      · rw [hY]
        simp only [er]
        rw [hks]
        rw [hds]
      · refine ⟨?_, ?_, ?_, x4, ?_, ?_, ?_, ?_⟩
        all_goals first
          | exact fun _ => hbs
          | (intro h; cases h; done)
          | exact fun _ => rfl
          | (rw [lyk]; exact x5)
          | (rw [lyd]; exact x6)
          | (show 0 ≤ _; exact Nat.zero_le _)
          | assumption
          | trivial
      · exact ⟨by show S.next ≤ Td.next; exact kkS6.next, fun j hj => by rw [set_ne (by omega), set_ne (by omega)]; exact kkS6.mem j hj⟩
    · conv => whnf
      refine ⟨_, b1, ?_⟩
      conv => whnf
      refine ⟨_, _, (copy_bytes1 fb bs x1 hbs x4) S2, ?_⟩
      conv => whnf
      obtain ⟨bb, hbb⟩ : ∃ q, q = S2.next := ⟨_, rfl⟩
      rw [← hbb]
      generalize hnbb : S2.new _ = S3
      have mbb : S3.mem bb = some (.cells (bs.map u8)) := by rw [← hnbb, hbb]; exact mem_new _ _
      have kS3 : Keep S2 S3 := by rw [← hnbb]; exact (Keep.refl S2).new _
      have nS3 : S3.next = S2.next + 1 := by rw [← hnbb]; rfl
      have c1S3 := (cells_keep kS3 (j := S.next) (by omega)).trans b1
      have c2S3 := (cells_keep kS3 (j := S.next + 1) (by omega)).trans b2
      have kkS3 := k02.trans kS3
      clear hnbb
      refine ⟨_, _, c1S3, if_pos ⟨rfl, rfl, Nat.le_of_ble_eq_true rfl⟩, ?_⟩
      conv => whnf
      generalize hsS4 : S3.set S.next _ = S4
      have nS4 : S4.next = S3.next := by rw [← hsS4]; rfl
      have kkS4 : Keep S S4 := by rw [← hsS4]; exact kkS3.set _ _ (Nat.le_refl _)
      have c1S4 : S4.cells S.next = some [AV.int .i64 kind, .int .u64 n, .bool neg, .str dg, .int .i64 ex, .str tx, .hnd bb 0 bs.length 1, slV fk (Nd.vs keys), slV fd (Nd.vs kids)] := by rw [← hsS4]; exact cells_set _ _ _
      have c2S4 : S4.cells (S.next + 1) = some zN.cs := by rw [← hsS4]; exact cells_set_ne c2S3 (by omega)
      have mbb : S4.mem bb = some (.cells (bs.map u8)) := by rw [← hsS4, set_ne (by omega)]; exact mbb
      clear hsS4
      refine ⟨_, c1S4, ?_⟩
      conv => whnf
      refine ⟨_, _, (copy_nodes0 _ _ hks S4), ?_⟩
      conv => whnf
      refine ⟨_, _, c1S4, if_pos ⟨rfl, rfl, Nat.le_of_ble_eq_true rfl⟩, ?_⟩
      conv => whnf
      generalize hsS5 : S4.set S.next _ = S5
      have nS5 : S5.next = S4.next := by rw [← hsS5]; rfl
      have kkS5 : Keep S S5 := by rw [← hsS5]; exact kkS4.set _ _ (Nat.le_refl _)
      have c1S5 : S5.cells S.next = some [AV.int .i64 kind, .int .u64 n, .bool neg, .str dg, .int .i64 ex, .str tx, .hnd bb 0 bs.length 1, .nils, slV fd (Nd.vs kids)] := by rw [← hsS5]; exact cells_set _ _ _
      have c2S5 : S5.cells (S.next + 1) = some zN.cs := by rw [← hsS5]; exact cells_set_ne c2S4 (by omega)
      have mbb : S5.mem bb = some (.cells (bs.map u8)) := by rw [← hsS5, set_ne (by omega)]; exact mbb
      clear hsS5
      refine ⟨_, c1S5, ?_⟩
      conv => whnf
      refine ⟨_, _, (copy_nodes1 fd kids x3 hds (by omega)) S5, ?_⟩
      conv => whnf
      obtain ⟨ad, had⟩ : ∃ q, q = S5.next := ⟨_, rfl⟩
      rw [← had]
      generalize hnad : S5.new _ = S6
      have mad : S6.mem ad = some (.cells (csL (kids.map Nd.lo))) := by rw [← hnad, had]; exact mem_new _ _
      have kS6 : Keep S5 S6 := by rw [← hnad]; exact (Keep.refl S5).new _
      have nS6 : S6.next = S5.next + 1 := by rw [← hnad]; rfl
      have c1S6 := (cells_keep kS6 (j := S.next) (by omega)).trans c1S5
      have c2S6 := (cells_keep kS6 (j := S.next + 1) (by omega)).trans c2S5
      have kkS6 := kkS5.trans kS6
      clear hnad
      have mbb := (kS6.mem bb (by omega)).trans mbb
      refine ⟨_, _, c1S6, if_pos ⟨rfl, rfl, Nat.le_of_ble_eq_true rfl⟩, ?_⟩
      conv => whnf
      generalize hsS7 : S6.set S.next _ = S7
      have nS7 : S7.next = S6.next := by rw [← hsS7]; rfl
      have kkS7 : Keep S S7 := by rw [← hsS7]; exact kkS6.set _ _ (Nat.le_refl _)
      have c1S7 : S7.cells S.next = some [AV.int .i64 kind, .int .u64 n, .bool neg, .str dg, .int .i64 ex, .str tx, .hnd bb 0 bs.length 1, .nils, .hnd ad 0 kids.length 9] := by rw [← hsS7]; exact cells_set _ _ _
      have c2S7 : S7.cells (S.next + 1) = some zN.cs := by rw [← hsS7]; exact cells_set_ne c2S6 (by omega)
      have mbb : S7.mem bb = some (.cells (bs.map u8)) := by rw [← hsS7, set_ne (by omega)]; exact mbb
      have mad : S7.mem ad = some (.cells (csL (kids.map Nd.lo))) := by rw [← hsS7, set_ne (by omega)]; exact mad
      clear hsS7
      refine ⟨_, c1S7, ?_⟩
      conv => whnf
      refine CodeQ.loop (fun (i : Nat) => pat 56 [(1, .ptr S.next 0), (2, .ptr (S.next + 1) 0), (23, .int .i64 0), (24, .int .i64 0)]) (fun m i S1 => S1 = S7) ?_ 0 0 _ _ rfl ⟨rfl, rfl, rfl, rfl, trivial⟩
      rintro m i Tk d hT
      conv => whnf
      refine br (fun h => by exfalso; omega) (fun _ => ?_)
      conv => whnf
      rw [← hT] at c1S7 c2S7 kkS7
      rw [← hT] at mbb
      rw [← hT] at mad
      have nTk : S7.next ≤ Tk.next := by rw [hT]; exact Nat.le_refl _
      refine ⟨_, c1S7, ?_⟩
      conv => whnf
      refine CodeQ.loop (fun (i : Nat) => pat 56 [(1, .ptr S.next 0), (2, .ptr (S.next + 1) 0), (40, .int .i64 (kids.length : Nat)), (41, .int .i64 i)])
        (fun m i S1 => i + m = kids.length ∧ Keep S S1 ∧ Tk.next ≤ S1.next ∧ S1.cells S.next = some [AV.int .i64 kind, .int .u64 n, .bool neg, .str dg, .int .i64 ex, .str tx, .hnd bb 0 bs.length 1, .nils, .hnd ad 0 kids.length 9] ∧ S1.cells (S.next + 1) = some zN.cs ∧ (∃ ys : List Nd, ers ys = ers kids ∧ Nd.Oks ys ∧ S1.mem ad = some (.cells (csL ys))) ∧ S1.mem bb = some (.cells (bs.map u8))) ?_ kids.length 0 _ _
        ⟨by omega, kkS7, Nat.le_refl _, c1S7, c2S7, ⟨kids.map Nd.lo, by rw [ers_map, List.map_map, map_lo, ers_map], oks_lo x8, mad⟩, mbb⟩ ⟨rfl, rfl, rfl, rfl, trivial⟩
      rintro m i Td d ⟨hi, kTd, nTd, c1Td, c2Td, ⟨ysd, eyd, oyd, myd⟩, mbb⟩
      have lyd : ysd.length = kids.length := ers_len eyd
      conv => whnf
      refine br (fun h => ?on_5) (fun h => ?off_5)
      case on_5 =>
        have hlt : i < ysd.length := by omega
        have hld := csL_ld hlt
        have hcn : cnt ysd[i] ≤ N := by
          rw [cnt_er (er_at eyd hlt (by omega))]
          have := cnt_mem (List.getElem_mem (show i < kids.length by omega))
          omega
        have hcall := ih ysd[i] (oks_iff.1 oyd _ (List.getElem_mem hlt)) hcn
        have hst : ∀ z : Nd, er z = er ysd[i] → ers (ysd.set i z) = ers kids := fun z hz => ers_set eyd hlt hz
        generalize ysd[i] = w at *
        obtain ⟨W, hW⟩ : ∃ W, W = w := ⟨_, rfl⟩
        rw [← hW] at hst
        have hcall2 := hcall
        rw [← hW] at hcall
        obtain ⟨kind2, n2', neg2, dg2, ex2, tx2, fb2, bs2, fk2, keys2, fd2, kids2⟩ := w
        conv => whnf
        refine ⟨[0, 1, 3, 4, 5, 6, 7, 8, 2, 9, 10], [(8, [1])], by kernel_rfl, by kernel_rfl, by kernel_rfl, ?_⟩
        conv => whnf
        refine ⟨_, c1Td, ?_⟩
        conv => whnf
        refine ⟨_, c1Td, ?_⟩
        conv => whnf
        refine ⟨by omega, by omega, ?_⟩
        conv => whnf
        refine ⟨_, cells_of_mem myd, partF_true hld ?_⟩
        conv => whnf
        rw [hW] at hcall
        refine CallQ.mono (hcall Td) ?_
        rintro r S9 ⟨⟨z, rfl, hz⟩, k9⟩
        have n9 := k9.next
        have c19 := (cells_keep k9 (j := S.next) (by omega)).trans c1Td
        have c29 := (cells_keep k9 (j := S.next + 1) (by omega)).trans c2Td
        have my9 := (k9.mem ad (by omega)).trans myd
        have ez := hst z (by rw [hW]; exact hz.1)
        have oz := oks_set oyd hz.2.1 (i := i)
        obtain ⟨Z, hZ⟩ : ∃ Z, Z = z := ⟨_, rfl⟩
        rw [← hZ] at ez oz
        obtain ⟨kind3, n3', neg3, dg3, ex3, tx3, fb3, bs3, fk3, keys3, fd3, kids3⟩ := z
        conv => whnf
        refine ⟨stab_load rfl rfl rfl rfl rfl (by show (St.cells _ S.next).bind _ = _; rw [c19]; rfl), ?_⟩
        conv => whnf
        refine ⟨by omega, by omega, ?_⟩
        conv => whnf
        refine ⟨_, _, cells_of_mem my9, if_pos ⟨rfl, nd_leaf .., by rw [csL_len]; show 0 + i * 9 + 9 ≤ _; omega⟩, ?_⟩
        conv => whnf
        refine ⟨m - 1, i + 1, by omega, ⟨by omega, (kTd.trans k9).set _ _ (by omega), by show _ ≤ S9.next; omega, cells_set_ne c19 (by omega), cells_set_ne c29 (by omega), ⟨ysd.set i Z, ez, oz, ?_⟩, by rw [set_ne (by omega)]; exact (k9.mem bb (by omega)).trans mbb⟩, ⟨rfl, rfl, rfl, ?_, trivial⟩⟩
        · rw [mem_set, ← csL_set hlt, hZ, Nat.zero_add]; rfl
        · rw [wrap_i64 (by omega) (by omega)]; try rfl
      conv => whnf
      have mad := myd
      refine ⟨_, c1Td, ?_⟩
      conv => whnf
      refine ⟨_, _, c2Td, store_agg rfl rfl rfl, ?_⟩
      conv => whnf
      refine ⟨AV.agg [AV.int .i64 kind, .int .u64 n, .bool neg, .str dg, .int .i64 ex, .str tx, .hnd bb 0 bs.length 1, .nils, .hnd ad 0 kids.length 9], by show (St.cells _ (S.next + 1)).bind _ = _; rw [cells_set]; rfl, ?_⟩
      conv => whnf
      have hfr : ∀ (m : Nat) (T : St) (hbb : T.mem bb = some (.cells (bs.map u8))) (had : T.mem ad = some (.cells (csL ysd))), frzA (m + 4) (.agg [AV.int .i64 kind, .int .u64 n, .bool neg, .str dg, .int .i64 ex, .str tx, .hnd bb 0 bs.length 1, .nils, .hnd ad 0 kids.length 9]) T = some (.agg [AV.int .i64 kind, .int .u64 n, .bool neg, .str dg, .int .i64 ex, .str tx, .lst (bs.map u8) .lost, .nils, .lst (Nd.vs ysd) .lost], ((T.set bb none).set ad none)) := by
        intro m T hbb had
        have f1 := frz_bytes (m + 1) bb bs T hbb
        have f3 := frz_arr (m + 1) ad ysd ((T.set bb none)) (by rw [set_ne (by omega)]; exact had)
        rw [lyd] at f3
        have i1 : ∀ c n S, frzA (m + 3) (.int c n) S = some (.int c n, S) := fun _ _ _ => rfl
        have i2 : ∀ b S, frzA (m + 3) (.bool b) S = some (.bool b, S) := fun _ _ => rfl
        have i3 : ∀ b S, frzA (m + 3) (.str b) S = some (.str b, S) := fun _ _ => rfl
        have i4 : ∀ S, frzA (m + 3) .nils S = some (.nils, S) := fun _ => rfl
        rw [show m + 4 = (m + 3) + 1 by omega, frz_agg]
        simp only [mapS, i1, i2, i3, i4, f1, f3, Option.bind_some, Option.map_some]
      refine ⟨_, _, hfr _ _ (by rw [set_ne (by omega)]; exact mbb) (by rw [set_ne (by omega)]; exact mad), ⟨.mk kind n neg dg ex tx (.lst .lost) bs .nil [] (.lst .lost) ysd, rfl, ?_, ?_, rfl⟩, ?_⟩
      · rw [hY]
        simp only [er]
        rw [hks]
        rw [eyd]
      · refine ⟨?_, ?_, ?_, x4, ?_, ?_, ?_, ?_⟩
        all_goals first
          | exact fun _ => hbs
          | (intro h; cases h; done)
          | exact fun _ => rfl
          | (rw [lyk]; exact x5)
          | (rw [lyd]; exact x6)
          | (show 0 ≤ _; exact Nat.zero_le _)
          | assumption
          | trivial
      · exact ⟨by show S.next ≤ Td.next; exact kTd.next, fun j hj => by rw [set_ne (by omega), set_ne (by omega), set_ne (by omega)]; exact kTd.mem j hj⟩
    · conv => whnf
      refine ⟨_, b1, ?_⟩
      conv => whnf
      refine ⟨_, _, (copy_bytes1 fb bs x1 hbs x4) S2, ?_⟩
      conv => whnf
      obtain ⟨bb, hbb⟩ : ∃ q, q = S2.next := ⟨_, rfl⟩
      rw [← hbb]
      generalize hnbb : S2.new _ = S3
      have mbb : S3.mem bb = some (.cells (bs.map u8)) := by rw [← hnbb, hbb]; exact mem_new _ _
      have kS3 : Keep S2 S3 := by rw [← hnbb]; exact (Keep.refl S2).new _
      have nS3 : S3.next = S2.next + 1 := by rw [← hnbb]; rfl
      have c1S3 := (cells_keep kS3 (j := S.next) (by omega)).trans b1
      have c2S3 := (cells_keep kS3 (j := S.next + 1) (by omega)).trans b2
      have kkS3 := k02.trans kS3
      clear hnbb
      refine ⟨_, _, c1S3, if_pos ⟨rfl, rfl, Nat.le_of_ble_eq_true rfl⟩, ?_⟩
      conv => whnf
      generalize hsS4 : S3.set S.next _ = S4
      have nS4 : S4.next = S3.next := by rw [← hsS4]; rfl
      have kkS4 : Keep S S4 := by rw [← hsS4]; exact kkS3.set _ _ (Nat.le_refl _)
      have c1S4 : S4.cells S.next = some [AV.int .i64 kind, .int .u64 n, .bool neg, .str dg, .int .i64 ex, .str tx, .hnd bb 0 bs.length 1, slV fk (Nd.vs keys), slV fd (Nd.vs kids)] := by rw [← hsS4]; exact cells_set _ _ _
      have c2S4 : S4.cells (S.next + 1) = some zN.cs := by rw [← hsS4]; exact cells_set_ne c2S3 (by omega)
      have mbb : S4.mem bb = some (.cells (bs.map u8)) := by rw [← hsS4, set_ne (by omega)]; exact mbb
      clear hsS4
      refine ⟨_, c1S4, ?_⟩
      conv => whnf
      refine ⟨_, _, (copy_nodes1 fk keys x2 hks (by omega)) S4, ?_⟩
      conv => whnf
      obtain ⟨ak, hak⟩ : ∃ q, q = S4.next := ⟨_, rfl⟩
      rw [← hak]
      generalize hnak : S4.new _ = S5
      have mak : S5.mem ak = some (.cells (csL (keys.map Nd.lo))) := by rw [← hnak, hak]; exact mem_new _ _
      have kS5 : Keep S4 S5 := by rw [← hnak]; exact (Keep.refl S4).new _
      have nS5 : S5.next = S4.next + 1 := by rw [← hnak]; rfl
      have c1S5 := (cells_keep kS5 (j := S.next) (by omega)).trans c1S4
      have c2S5 := (cells_keep kS5 (j := S.next + 1) (by omega)).trans c2S4
      have kkS5 := kkS4.trans kS5
      clear hnak
      have mbb := (kS5.mem bb (by omega)).trans mbb
      refine ⟨_, _, c1S5, if_pos ⟨rfl, rfl, Nat.le_of_ble_eq_true rfl⟩, ?_⟩
      conv => whnf
      generalize hsS6 : S5.set S.next _ = S6
      have nS6 : S6.next = S5.next := by rw [← hsS6]; rfl
      have kkS6 : Keep S S6 := by rw [← hsS6]; exact kkS5.set _ _ (Nat.le_refl _)
      have c1S6 : S6.cells S.next = some [AV.int .i64 kind, .int .u64 n, .bool neg, .str dg, .int .i64 ex, .str tx, .hnd bb 0 bs.length 1, .hnd ak 0 keys.length 9, slV fd (Nd.vs kids)] := by rw [← hsS6]; exact cells_set _ _ _
      have c2S6 : S6.cells (S.next + 1) = some zN.cs := by rw [← hsS6]; exact cells_set_ne c2S5 (by omega)
      have mbb : S6.mem bb = some (.cells (bs.map u8)) := by rw [← hsS6, set_ne (by omega)]; exact mbb
      have mak : S6.mem ak = some (.cells (csL (keys.map Nd.lo))) := by rw [← hsS6, set_ne (by omega)]; exact mak
      clear hsS6
      refine ⟨_, c1S6, ?_⟩
      conv => whnf
      refine ⟨_, _, (copy_nodes0 _ _ hds S6), ?_⟩
      conv => whnf
      refine ⟨_, _, c1S6, if_pos ⟨rfl, rfl, Nat.le_of_ble_eq_true rfl⟩, ?_⟩
      conv => whnf
      generalize hsS7 : S6.set S.next _ = S7
      have nS7 : S7.next = S6.next := by rw [← hsS7]; rfl
      have kkS7 : Keep S S7 := by rw [← hsS7]; exact kkS6.set _ _ (Nat.le_refl _)
      have c1S7 : S7.cells S.next = some [AV.int .i64 kind, .int .u64 n, .bool neg, .str dg, .int .i64 ex, .str tx, .hnd bb 0 bs.length 1, .hnd ak 0 keys.length 9, .nils] := by rw [← hsS7]; exact cells_set _ _ _
      have c2S7 : S7.cells (S.next + 1) = some zN.cs := by rw [← hsS7]; exact cells_set_ne c2S6 (by omega)
      have mbb : S7.mem bb = some (.cells (bs.map u8)) := by rw [← hsS7, set_ne (by omega)]; exact mbb
      have mak : S7.mem ak = some (.cells (csL (keys.map Nd.lo))) := by rw [← hsS7, set_ne (by omega)]; exact mak
      clear hsS7
      refine ⟨_, c1S7, ?_⟩
      conv => whnf
      refine CodeQ.loop (fun (i : Nat) => pat 56 [(1, .ptr S.next 0), (2, .ptr (S.next + 1) 0), (23, .int .i64 (keys.length : Nat)), (24, .int .i64 i)])
        (fun m i S1 => i + m = keys.length ∧ Keep S S1 ∧ S7.next ≤ S1.next ∧ S1.cells S.next = some [AV.int .i64 kind, .int .u64 n, .bool neg, .str dg, .int .i64 ex, .str tx, .hnd bb 0 bs.length 1, .hnd ak 0 keys.length 9, .nils] ∧ S1.cells (S.next + 1) = some zN.cs ∧ (∃ ys : List Nd, ers ys = ers keys ∧ Nd.Oks ys ∧ S1.mem ak = some (.cells (csL ys))) ∧ S1.mem bb = some (.cells (bs.map u8))) ?_ keys.length 0 _ _
        ⟨by omega, kkS7, Nat.le_refl _, c1S7, c2S7, ⟨keys.map Nd.lo, by rw [ers_map, List.map_map, map_lo, ers_map], oks_lo x7, mak⟩, mbb⟩ ⟨rfl, rfl, rfl, rfl, trivial⟩
      rintro m i Tk d ⟨hi, kTk, nTk, c1Tk, c2Tk, ⟨ysk, eyk, oyk, myk⟩, mbb⟩
      have lyk : ysk.length = keys.length := ers_len eyk
      conv => whnf
      refine br (fun h => ?on_6) (fun h => ?off_6)
      case on_6 =>
        have hlt : i < ysk.length := by omega
        have hld := csL_ld hlt
        have hcn : cnt ysk[i] ≤ N := by
          rw [cnt_er (er_at eyk hlt (by omega))]
          have := cnt_mem (List.getElem_mem (show i < keys.length by omega))
          omega
        have hcall := ih ysk[i] (oks_iff.1 oyk _ (List.getElem_mem hlt)) hcn
        have hst : ∀ z : Nd, er z = er ysk[i] → ers (ysk.set i z) = ers keys := fun z hz => ers_set eyk hlt hz
        generalize ysk[i] = w at *
        obtain ⟨W, hW⟩ : ∃ W, W = w := ⟨_, rfl⟩
        rw [← hW] at hst
        have hcall2 := hcall
        rw [← hW] at hcall
        obtain ⟨kind2, n2', neg2, dg2, ex2, tx2, fb2, bs2, fk2, keys2, fd2, kids2⟩ := w
        conv => whnf
        refine ⟨[0, 1, 3, 4, 5, 6, 7, 8, 2, 9, 10], [(8, [1])], by kernel_rfl, by kernel_rfl, by kernel_rfl, ?_⟩
        conv => whnf
        refine ⟨_, c1Tk, ?_⟩
        conv => whnf
        refine ⟨_, c1Tk, ?_⟩
        conv => whnf
        refine ⟨by omega, by omega, ?_⟩
        conv => whnf
        refine ⟨_, cells_of_mem myk, partF_true hld ?_⟩
        conv => whnf
        rw [hW] at hcall
        refine CallQ.mono (hcall Tk) ?_
        rintro r S9 ⟨⟨z, rfl, hz⟩, k9⟩
        have n9 := k9.next
        have c19 := (cells_keep k9 (j := S.next) (by omega)).trans c1Tk
        have c29 := (cells_keep k9 (j := S.next + 1) (by omega)).trans c2Tk
        have my9 := (k9.mem ak (by omega)).trans myk
        have ez := hst z (by rw [hW]; exact hz.1)
        have oz := oks_set oyk hz.2.1 (i := i)
        obtain ⟨Z, hZ⟩ : ∃ Z, Z = z := ⟨_, rfl⟩
        rw [← hZ] at ez oz
        obtain ⟨kind3, n3', neg3, dg3, ex3, tx3, fb3, bs3, fk3, keys3, fd3, kids3⟩ := z
        conv => whnf
        refine ⟨stab_load rfl rfl rfl rfl rfl (by show (St.cells _ S.next).bind _ = _; rw [c19]; rfl), ?_⟩
        conv => whnf
        refine ⟨by omega, by omega, ?_⟩
        conv => whnf
        refine ⟨_, _, cells_of_mem my9, if_pos ⟨rfl, nd_leaf .., by rw [csL_len]; show 0 + i * 9 + 9 ≤ _; omega⟩, ?_⟩
        conv => whnf
        refine ⟨m - 1, i + 1, by omega, ⟨by omega, (kTk.trans k9).set _ _ (by omega), by show _ ≤ S9.next; omega, cells_set_ne c19 (by omega), cells_set_ne c29 (by omega), ⟨ysk.set i Z, ez, oz, ?_⟩, by rw [set_ne (by omega)]; exact (k9.mem bb (by omega)).trans mbb⟩, ⟨rfl, rfl, rfl, ?_, trivial⟩⟩
        · rw [mem_set, ← csL_set hlt, hZ, Nat.zero_add]; rfl
        · rw [wrap_i64 (by omega) (by omega)]; try rfl
      conv => whnf
      have mak := myk
      refine ⟨_, c1Tk, ?_⟩
      conv => whnf
      refine CodeQ.loop (fun (i : Nat) => pat 56 [(1, .ptr S.next 0), (2, .ptr (S.next + 1) 0), (40, .int .i64 0), (41, .int .i64 0)]) (fun m i S1 => S1 = Tk) ?_ 0 0 _ _ rfl ⟨rfl, rfl, rfl, rfl, trivial⟩
      rintro m i Td d hT
      conv => whnf
      refine br (fun h => by exfalso; omega) (fun _ => ?_)
      conv => whnf
      rw [← hT] at c1Tk c2Tk kTk
      rw [← hT] at mbb
      rw [← hT] at mak
      have nTd : Tk.next ≤ Td.next := by rw [hT]; exact Nat.le_refl _
      refine ⟨_, c1Tk, ?_⟩
      conv => whnf
      refine ⟨_, _, c2Tk, store_agg rfl rfl rfl, ?_⟩
      conv => whnf
      refine ⟨AV.agg [AV.int .i64 kind, .int .u64 n, .bool neg, .str dg, .int .i64 ex, .str tx, .hnd bb 0 bs.length 1, .hnd ak 0 keys.length 9, .nils], by show (St.cells _ (S.next + 1)).bind _ = _; rw [cells_set]; rfl, ?_⟩
      conv => whnf
      have hfr : ∀ (m : Nat) (T : St) (hbb : T.mem bb = some (.cells (bs.map u8))) (hak : T.mem ak = some (.cells (csL ysk))), frzA (m + 4) (.agg [AV.int .i64 kind, .int .u64 n, .bool neg, .str dg, .int .i64 ex, .str tx, .hnd bb 0 bs.length 1, .hnd ak 0 keys.length 9, .nils]) T = some (.agg [AV.int .i64 kind, .int .u64 n, .bool neg, .str dg, .int .i64 ex, .str tx, .lst (bs.map u8) .lost, .lst (Nd.vs ysk) .lost, .nils], ((T.set bb none).set ak none)) := by
        intro m T hbb hak
        have f1 := frz_bytes (m + 1) bb bs T hbb
        have f2 := frz_arr (m + 1) ak ysk (T.set bb none) (by rw [set_ne (by omega)]; exact hak)
        rw [lyk] at f2
        have i1 : ∀ c n S, frzA (m + 3) (.int c n) S = some (.int c n, S) := fun _ _ _ => rfl
        have i2 : ∀ b S, frzA (m + 3) (.bool b) S = some (.bool b, S) := fun _ _ => rfl
        have i3 : ∀ b S, frzA (m + 3) (.str b) S = some (.str b, S) := fun _ _ => rfl
        have i4 : ∀ S, frzA (m + 3) .nils S = some (.nils, S) := fun _ => rfl
        rw [show m + 4 = (m + 3) + 1 by omega, frz_agg]
        simp only [mapS, i1, i2, i3, i4, f1, f2, Option.bind_some, Option.map_some]
      refine ⟨_, _, hfr _ _ (by rw [set_ne (by omega)]; exact mbb) (by rw [set_ne (by omega)]; exact mak), ⟨.mk kind n neg dg ex tx (.lst .lost) bs (.lst .lost) ysk .nil [], rfl, ?_, ?_, rfl⟩, ?_⟩
      · rw [hY]
        simp only [er]
        rw [eyk]
        rw [hds]
      · refine ⟨?_, ?_, ?_, x4, ?_, ?_, ?_, ?_⟩
        all_goals first
          | exact fun _ => hbs
          | (intro h; cases h; done)
          | exact fun _ => rfl
          | (rw [lyk]; exact x5)
          | (rw [lyd]; exact x6)
          | (show 0 ≤ _; exact Nat.zero_le _)
          | assumption
          | trivial
      · exact ⟨by show S.next ≤ Td.next; exact kTk.next, fun j hj => by rw [set_ne (by omega), set_ne (by omega), set_ne (by omega)]; exact kTk.mem j hj⟩
    · conv => whnf
      refine ⟨_, b1, ?_⟩
      conv => whnf
      refine ⟨_, _, (copy_bytes1 fb bs x1 hbs x4) S2, ?_⟩
      conv => whnf
      obtain ⟨bb, hbb⟩ : ∃ q, q = S2.next := ⟨_, rfl⟩
      rw [← hbb]
      generalize hnbb : S2.new _ = S3
      have mbb : S3.mem bb = some (.cells (bs.map u8)) := by rw [← hnbb, hbb]; exact mem_new _ _
      have kS3 : Keep S2 S3 := by rw [← hnbb]; exact (Keep.refl S2).new _
      have nS3 : S3.next = S2.next + 1 := by rw [← hnbb]; rfl
      have c1S3 := (cells_keep kS3 (j := S.next) (by omega)).trans b1
      have c2S3 := (cells_keep kS3 (j := S.next + 1) (by omega)).trans b2
      have kkS3 := k02.trans kS3
      clear hnbb
      refine ⟨_, _, c1S3, if_pos ⟨rfl, rfl, Nat.le_of_ble_eq_true rfl⟩, ?_⟩
      conv => whnf
      generalize hsS4 : S3.set S.next _ = S4
      have nS4 : S4.next = S3.next := by rw [← hsS4]; rfl
      have kkS4 : Keep S S4 := by rw [← hsS4]; exact kkS3.set _ _ (Nat.le_refl _)
      have c1S4 : S4.cells S.next = some [AV.int .i64 kind, .int .u64 n, .bool neg, .str dg, .int .i64 ex, .str tx, .hnd bb 0 bs.length 1, slV fk (Nd.vs keys), slV fd (Nd.vs kids)] := by rw [← hsS4]; exact cells_set _ _ _
      have c2S4 : S4.cells (S.next + 1) = some zN.cs := by rw [← hsS4]; exact cells_set_ne c2S3 (by omega)
      have mbb : S4.mem bb = some (.cells (bs.map u8)) := by rw [← hsS4, set_ne (by omega)]; exact mbb
      clear hsS4
      refine ⟨_, c1S4, ?_⟩
      conv => whnf
      refine ⟨_, _, (copy_nodes1 fk keys x2 hks (by omega)) S4, ?_⟩
      conv => whnf
      obtain ⟨ak, hak⟩ : ∃ q, q = S4.next := ⟨_, rfl⟩
      rw [← hak]
      generalize hnak : S4.new _ = S5
      have mak : S5.mem ak = some (.cells (csL (keys.map Nd.lo))) := by rw [← hnak, hak]; exact mem_new _ _
      have kS5 : Keep S4 S5 := by rw [← hnak]; exact (Keep.refl S4).new _
      have nS5 : S5.next = S4.next + 1 := by rw [← hnak]; rfl
      have c1S5 := (cells_keep kS5 (j := S.next) (by omega)).trans c1S4
      have c2S5 := (cells_keep kS5 (j := S.next + 1) (by omega)).trans c2S4
      have kkS5 := kkS4.trans kS5
      clear hnak
      have mbb := (kS5.mem bb (by omega)).trans mbb
      refine ⟨_, _, c1S5, if_pos ⟨rfl, rfl, Nat.le_of_ble_eq_true rfl⟩, ?_⟩
      conv => whnf
      generalize hsS6 : S5.set S.next _ = S6
      have nS6 : S6.next = S5.next := by rw [← hsS6]; rfl
      have kkS6 : Keep S S6 := by rw [← hsS6]; exact kkS5.set _ _ (Nat.le_refl _)
      have c1S6 : S6.cells S.next = some [AV.int .i64 kind, .int .u64 n, .bool neg, .str dg, .int .i64 ex, .str tx, .hnd bb 0 bs.length 1, .hnd ak 0 keys.length 9, slV fd (Nd.vs kids)] := by rw [← hsS6]; exact cells_set _ _ _
      have c2S6 : S6.cells (S.next + 1) = some zN.cs := by rw [← hsS6]; exact cells_set_ne c2S5 (by omega)
      have mbb : S6.mem bb = some (.cells (bs.map u8)) := by rw [← hsS6, set_ne (by omega)]; exact mbb
      have mak : S6.mem ak = some (.cells (csL (keys.map Nd.lo))) := by rw [← hsS6, set_ne (by omega)]; exact mak
      clear hsS6
      refine ⟨_, c1S6, ?_⟩
      conv => whnf
      refine ⟨_, _, (copy_nodes1 fd kids x3 hds (by omega)) S6, ?_⟩
      conv => whnf
      obtain ⟨ad, had⟩ : ∃ q, q = S6.next := ⟨_, rfl⟩
      rw [← had]
      generalize hnad : S6.new _ = S7
      have mad : S7.mem ad = some (.cells (csL (kids.map Nd.lo))) := by rw [← hnad, had]; exact mem_new _ _
      have kS7 : Keep S6 S7 := by rw [← hnad]; exact (Keep.refl S6).new _
      have nS7 : S7.next = S6.next + 1 := by rw [← hnad]; rfl
      have c1S7 := (cells_keep kS7 (j := S.next) (by omega)).trans c1S6
      have c2S7 := (cells_keep kS7 (j := S.next + 1) (by omega)).trans c2S6
      have kkS7 := kkS6.trans kS7
      clear hnad
      have mbb := (kS7.mem bb (by omega)).trans mbb
      have mak := (kS7.mem ak (by omega)).trans mak
      refine ⟨_, _, c1S7, if_pos ⟨rfl, rfl, Nat.le_of_ble_eq_true rfl⟩, ?_⟩
      conv => whnf
      generalize hsS8 : S7.set S.next _ = S8
      have nS8 : S8.next = S7.next := by rw [← hsS8]; rfl
      have kkS8 : Keep S S8 := by rw [← hsS8]; exact kkS7.set _ _ (Nat.le_refl _)
      have c1S8 : S8.cells S.next = some [AV.int .i64 kind, .int .u64 n, .bool neg, .str dg, .int .i64 ex, .str tx, .hnd bb 0 bs.length 1, .hnd ak 0 keys.length 9, .hnd ad 0 kids.length 9] := by rw [← hsS8]; exact cells_set _ _ _
      have c2S8 : S8.cells (S.next + 1) = some zN.cs := by rw [← hsS8]; exact cells_set_ne c2S7 (by omega)
      have mbb : S8.mem bb = some (.cells (bs.map u8)) := by rw [← hsS8, set_ne (by omega)]; exact mbb
      have mak : S8.mem ak = some (.cells (csL (keys.map Nd.lo))) := by rw [← hsS8, set_ne (by omega)]; exact mak
      have mad : S8.mem ad = some (.cells (csL (kids.map Nd.lo))) := by rw [← hsS8, set_ne (by omega)]; exact mad
      clear hsS8
      refine ⟨_, c1S8, ?_⟩
      conv => whnf
      refine CodeQ.loop (fun (i : Nat) => pat 56 [(1, .ptr S.next 0), (2, .ptr (S.next + 1) 0), (23, .int .i64 (keys.length : Nat)), (24, .int .i64 i)])
        (fun m i S1 => i + m = keys.length ∧ Keep S S1 ∧ S8.next ≤ S1.next ∧ S1.cells S.next = some [AV.int .i64 kind, .int .u64 n, .bool neg, .str dg, .int .i64 ex, .str tx, .hnd bb 0 bs.length 1, .hnd ak 0 keys.length 9, .hnd ad 0 kids.length 9] ∧ S1.cells (S.next + 1) = some zN.cs ∧ (∃ ys : List Nd, ers ys = ers keys ∧ Nd.Oks ys ∧ S1.mem ak = some (.cells (csL ys))) ∧ S1.mem bb = some (.cells (bs.map u8)) ∧ S1.mem ad = some (.cells (csL (kids.map Nd.lo)))) ?_ keys.length 0 _ _
        ⟨by omega, kkS8, Nat.le_refl _, c1S8, c2S8, ⟨keys.map Nd.lo, by rw [ers_map, List.map_map, map_lo, ers_map], oks_lo x7, mak⟩, mbb, mad⟩ ⟨rfl, rfl, rfl, rfl, trivial⟩
      rintro m i Tk d ⟨hi, kTk, nTk, c1Tk, c2Tk, ⟨ysk, eyk, oyk, myk⟩, mbb, mad⟩
      have lyk : ysk.length = keys.length := ers_len eyk
      conv => whnf
      refine br (fun h => ?on_7) (fun h => ?off_7)
      case on_7 =>
        have hlt : i < ysk.length := by omega
        have hld := csL_ld hlt
        have hcn : cnt ysk[i] ≤ N := by
          rw [cnt_er (er_at eyk hlt (by omega))]
          have := cnt_mem (List.getElem_mem (show i < keys.length by omega))
          omega
        have hcall := ih ysk[i] (oks_iff.1 oyk _ (List.getElem_mem hlt)) hcn
        have hst : ∀ z : Nd, er z = er ysk[i] → ers (ysk.set i z) = ers keys := fun z hz => ers_set eyk hlt hz
        generalize ysk[i] = w at *
        obtain ⟨W, hW⟩ : ∃ W, W = w := ⟨_, rfl⟩
        rw [← hW] at hst
        have hcall2 := hcall
        rw [← hW] at hcall
        obtain ⟨kind2, n2', neg2, dg2, ex2, tx2, fb2, bs2, fk2, keys2, fd2, kids2⟩ := w
        conv => whnf
        refine ⟨[0, 1, 3, 4, 5, 6, 7, 8, 2, 9, 10], [(8, [1])], by kernel_rfl, by kernel_rfl, by kernel_rfl, ?_⟩
        conv => whnf
        refine ⟨_, c1Tk, ?_⟩
        conv => whnf
        refine ⟨_, c1Tk, ?_⟩
        conv => whnf
        refine ⟨by omega, by omega, ?_⟩
        conv => whnf
        refine ⟨_, cells_of_mem myk, partF_true hld ?_⟩
        conv => whnf
        rw [hW] at hcall
        refine CallQ.mono (hcall Tk) ?_
        rintro r S9 ⟨⟨z, rfl, hz⟩, k9⟩
        have n9 := k9.next
        have c19 := (cells_keep k9 (j := S.next) (by omega)).trans c1Tk
        have c29 := (cells_keep k9 (j := S.next + 1) (by omega)).trans c2Tk
        have my9 := (k9.mem ak (by omega)).trans myk
        have ez := hst z (by rw [hW]; exact hz.1)
        have oz := oks_set oyk hz.2.1 (i := i)
        obtain ⟨Z, hZ⟩ : ∃ Z, Z = z := ⟨_, rfl⟩
        rw [← hZ] at ez oz
        obtain ⟨kind3, n3', neg3, dg3, ex3, tx3, fb3, bs3, fk3, keys3, fd3, kids3⟩ := z
        conv => whnf
        refine ⟨stab_load rfl rfl rfl rfl rfl (by show (St.cells _ S.next).bind _ = _; rw [c19]; rfl), ?_⟩
        conv => whnf
        refine ⟨by omega, by omega, ?_⟩
        conv => whnf
        refine ⟨_, _, cells_of_mem my9, if_pos ⟨rfl, nd_leaf .., by rw [csL_len]; show 0 + i * 9 + 9 ≤ _; omega⟩, ?_⟩
        conv => whnf
        refine ⟨m - 1, i + 1, by omega, ⟨by omega, (kTk.trans k9).set _ _ (by omega), by show _ ≤ S9.next; omega, cells_set_ne c19 (by omega), cells_set_ne c29 (by omega), ⟨ysk.set i Z, ez, oz, ?_⟩, by rw [set_ne (by omega)]; exact (k9.mem bb (by omega)).trans mbb, by rw [set_ne (by omega)]; exact (k9.mem ad (by omega)).trans mad⟩, ⟨rfl, rfl, rfl, ?_, trivial⟩⟩
        · rw [mem_set, ← csL_set hlt, hZ, Nat.zero_add]; rfl
        · rw [wrap_i64 (by omega) (by omega)]; try rfl
      conv => whnf
      have mak := myk
      refine ⟨_, c1Tk, ?_⟩
      conv => whnf
      refine CodeQ.loop (fun (i : Nat) => pat 56 [(1, .ptr S.next 0), (2, .ptr (S.next + 1) 0), (40, .int .i64 (kids.length : Nat)), (41, .int .i64 i)])
        (fun m i S1 => i + m = kids.length ∧ Keep S S1 ∧ Tk.next ≤ S1.next ∧ S1.cells S.next = some [AV.int .i64 kind, .int .u64 n, .bool neg, .str dg, .int .i64 ex, .str tx, .hnd bb 0 bs.length 1, .hnd ak 0 keys.length 9, .hnd ad 0 kids.length 9] ∧ S1.cells (S.next + 1) = some zN.cs ∧ (∃ ys : List Nd, ers ys = ers kids ∧ Nd.Oks ys ∧ S1.mem ad = some (.cells (csL ys))) ∧ S1.mem bb = some (.cells (bs.map u8)) ∧ S1.mem ak = some (.cells (csL ysk))) ?_ kids.length 0 _ _
        ⟨by omega, kTk, Nat.le_refl _, c1Tk, c2Tk, ⟨kids.map Nd.lo, by rw [ers_map, List.map_map, map_lo, ers_map], oks_lo x8, mad⟩, mbb, mak⟩ ⟨rfl, rfl, rfl, rfl, trivial⟩
      rintro m i Td d ⟨hi, kTd, nTd, c1Td, c2Td, ⟨ysd, eyd, oyd, myd⟩, mbb, mak⟩
      have lyd : ysd.length = kids.length := ers_len eyd
      conv => whnf
      refine br (fun h => ?on_8) (fun h => ?off_8)
      case on_8 =>
        have hlt : i < ysd.length := by omega
        have hld := csL_ld hlt
        have hcn : cnt ysd[i] ≤ N := by
          rw [cnt_er (er_at eyd hlt (by omega))]
          have := cnt_mem (List.getElem_mem (show i < kids.length by omega))
          omega
        have hcall := ih ysd[i] (oks_iff.1 oyd _ (List.getElem_mem hlt)) hcn
        have hst : ∀ z : Nd, er z = er ysd[i] → ers (ysd.set i z) = ers kids := fun z hz => ers_set eyd hlt hz
        generalize ysd[i] = w at *
        obtain ⟨W, hW⟩ : ∃ W, W = w := ⟨_, rfl⟩
        rw [← hW] at hst
        have hcall2 := hcall
        rw [← hW] at hcall
        obtain ⟨kind2, n2', neg2, dg2, ex2, tx2, fb2, bs2, fk2, keys2, fd2, kids2⟩ := w
        conv => whnf
        refine ⟨[0, 1, 3, 4, 5, 6, 7, 8, 2, 9, 10], [(8, [1])], by kernel_rfl, by kernel_rfl, by kernel_rfl, ?_⟩
        conv => whnf
        refine ⟨_, c1Td, ?_⟩
        conv => whnf
        refine ⟨_, c1Td, ?_⟩
        conv => whnf
        refine ⟨by omega, by omega, ?_⟩
        conv => whnf
        refine ⟨_, cells_of_mem myd, partF_true hld ?_⟩
        conv => whnf
        rw [hW] at hcall
        refine CallQ.mono (hcall Td) ?_
        rintro r S9 ⟨⟨z, rfl, hz⟩, k9⟩
        have n9 := k9.next
        have c19 := (cells_keep k9 (j := S.next) (by omega)).trans c1Td
        have c29 := (cells_keep k9 (j := S.next + 1) (by omega)).trans c2Td
        have my9 := (k9.mem ad (by omega)).trans myd
        have ez := hst z (by rw [hW]; exact hz.1)
        have oz := oks_set oyd hz.2.1 (i := i)
        obtain ⟨Z, hZ⟩ : ∃ Z, Z = z := ⟨_, rfl⟩
        rw [← hZ] at ez oz
        obtain ⟨kind3, n3', neg3, dg3, ex3, tx3, fb3, bs3, fk3, keys3, fd3, kids3⟩ := z
        conv => whnf
        refine ⟨stab_load rfl rfl rfl rfl rfl (by show (St.cells _ S.next).bind _ = _; rw [c19]; rfl), ?_⟩
        conv => whnf
        refine ⟨by omega, by omega, ?_⟩
        conv => whnf
        refine ⟨_, _, cells_of_mem my9, if_pos ⟨rfl, nd_leaf .., by rw [csL_len]; show 0 + i * 9 + 9 ≤ _; omega⟩, ?_⟩
        conv => whnf
        refine ⟨m - 1, i + 1, by omega, ⟨by omega, (kTd.trans k9).set _ _ (by omega), by show _ ≤ S9.next; omega, cells_set_ne c19 (by omega), cells_set_ne c29 (by omega), ⟨ysd.set i Z, ez, oz, ?_⟩, by rw [set_ne (by omega)]; exact (k9.mem bb (by omega)).trans mbb, by rw [set_ne (by omega)]; exact (k9.mem ak (by omega)).trans mak⟩, ⟨rfl, rfl, rfl, ?_, trivial⟩⟩
        · rw [mem_set, ← csL_set hlt, hZ, Nat.zero_add]; rfl
        · rw [wrap_i64 (by omega) (by omega)]; try rfl
      conv => whnf
      have mad := myd
      refine ⟨_, c1Td, ?_⟩
      conv => whnf
      refine ⟨_, _, c2Td, store_agg rfl rfl rfl, ?_⟩
      conv => whnf
      refine ⟨AV.agg [AV.int .i64 kind, .int .u64 n, .bool neg, .str dg, .int .i64 ex, .str tx, .hnd bb 0 bs.length 1, .hnd ak 0 keys.length 9, .hnd ad 0 kids.length 9], by show (St.cells _ (S.next + 1)).bind _ = _; rw [cells_set]; rfl, ?_⟩
      conv => whnf
      have hfr : ∀ (m : Nat) (T : St) (hbb : T.mem bb = some (.cells (bs.map u8))) (hak : T.mem ak = some (.cells (csL ysk))) (had : T.mem ad = some (.cells (csL ysd))), frzA (m + 4) (.agg [AV.int .i64 kind, .int .u64 n, .bool neg, .str dg, .int .i64 ex, .str tx, .hnd bb 0 bs.length 1, .hnd ak 0 keys.length 9, .hnd ad 0 kids.length 9]) T = some (.agg [AV.int .i64 kind, .int .u64 n, .bool neg, .str dg, .int .i64 ex, .str tx, .lst (bs.map u8) .lost, .lst (Nd.vs ysk) .lost, .lst (Nd.vs ysd) .lost], (((T.set bb none).set ak none).set ad none)) := by
        intro m T hbb hak had
        have f1 := frz_bytes (m + 1) bb bs T hbb
        have f2 := frz_arr (m + 1) ak ysk (T.set bb none) (by rw [set_ne (by omega)]; exact hak)
        rw [lyk] at f2
        have f3 := frz_arr (m + 1) ad ysd ((T.set bb none).set ak none) (by rw [set_ne (by omega), set_ne (by omega)]; exact had)
        rw [lyd] at f3
        have i1 : ∀ c n S, frzA (m + 3) (.int c n) S = some (.int c n, S) := fun _ _ _ => rfl
        have i2 : ∀ b S, frzA (m + 3) (.bool b) S = some (.bool b, S) := fun _ _ => rfl
        have i3 : ∀ b S, frzA (m + 3) (.str b) S = some (.str b, S) := fun _ _ => rfl
        have i4 : ∀ S, frzA (m + 3) .nils S = some (.nils, S) := fun _ => rfl
        rw [show m + 4 = (m + 3) + 1 by omega, frz_agg]
        simp only [mapS, i1, i2, i3, i4, f1, f2, f3, Option.bind_some, Option.map_some]
      refine ⟨_, _, hfr _ _ (by rw [set_ne (by omega)]; exact mbb) (by rw [set_ne (by omega)]; exact mak) (by rw [set_ne (by omega)]; exact mad), ⟨.mk kind n neg dg ex tx (.lst .lost) bs (.lst .lost) ysk (.lst .lost) ysd, rfl, ?_, ?_, rfl⟩, ?_⟩
      · rw [hY]
        simp only [er]
        rw [eyk]
        rw [eyd]
      · refine ⟨?_, ?_, ?_, x4, ?_, ?_, ?_, ?_⟩
        all_goals first
          | exact fun _ => hbs
          | (intro h; cases h; done)
          | exact fun _ => rfl
          | (rw [lyk]; exact x5)
          | (rw [lyd]; exact x6)
          | (show 0 ≤ _; exact Nat.zero_le _)
          | assumption
          | trivial
      · exact ⟨by show S.next ≤ Td.next; exact kTd.next, fun j hj => by rw [set_ne (by omega), set_ne (by omega), set_ne (by omega), set_ne (by omega)]; exact kTd.mem j hj⟩
end Go.Proofs.YtmkmakokgfigoaaDoor
