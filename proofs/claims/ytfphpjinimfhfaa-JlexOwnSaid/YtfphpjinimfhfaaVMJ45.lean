import Derived.Test.YtfphpjinimfhfaaVMJ42
namespace Go.Proofs.Ytfphpjinimfhfaa
open Go.Proofs.Ytfphpjinimfhfaa.VM Go.RowKit
set_option maxRecDepth 100000
set_option linter.unusedVariables false
set_option linter.unusedSimpArgs false
set_option maxHeartbeats 4000000
/-! The document's lexer, walked: String. -/
/-- A text and the place behind it, or the fault. -/
def textV : Except (Int × Int) (List UInt8 × Nat) → AV
  | .ok q => .tuple [.str q.1, .int .i64 q.2, faultV (0, 0)]
  | .error f => .tuple [.str [], .int .i64 0, faultV f]
theorem textR_step (bs : List UInt8) (k i : Nat) (out : List UInt8) {c : UInt8} (hc : bs[i]? = some c) : textR bs (k + 1) i out =
      if c = 34 then .ok (out, i + 1)
      else if c.toNat < 32 then .error (faultN bs.length i)
      else if c = 92 then match escR bs (i + 1) with
        | .error e => .error (faultN bs.length e)
        | .ok r => textR bs k r.2 (out ++ encU r.1.toNat)
      else if (oneS ((ib bs).drop i)).2.1 = 0 then .error (if (i : Int) + (oneS ((ib bs).drop i)).2.2 = bs.length then (3, bs.length) else (6, i + (oneS ((ib bs).drop i)).2.2))
      else textR bs k (i + (oneS ((ib bs).drop i)).2.1.toNat) (out ++ (bs.drop i).take (oneS ((ib bs).drop i)).2.1.toNat) := by
  conv => lhs; unfold textR; rw [hc]
  rfl
theorem faultN_eq (bs : List UInt8) : faultN bs.length bs.length = (3, (bs.length : Int)) := if_pos (Nat.le_refl _)
theorem escR_le {bs : List UInt8} {i : Nat} {n : Int} {j : Nat} (hi : i ≤ bs.length) (h : escR bs i = .ok (n, j)) : j ≤ bs.length := by
  rcases esc_eq bs i with ⟨m, q, e1, e2⟩ | ⟨e, e1, e2⟩
  · rw [h] at e1; cases e1
    have := esc_le (bs := bs) (x := L0 i) hi
    rw [e2] at this
    exact this
  · rw [h] at e1; cases e1
theorem kset {S S1 : St} (k : Keep S S1) {b : Nat} (hb : b < S.next) {cs : List AV} (h : S.cells b = some cs) : S1.cells b = some cs := by rw [kcells k hb]; exact h
theorem t39 (h : Bool) (bs : List UInt8) (t : Tip) (hl : bs.length ≤ 2 ^ 40) (i : Nat) (hi : bs[i]? = some 34) (S : St) : CallQ Try.prog (JC h) 39 [.lst (bs.map u8) t, .int .i64 i] S fun r S1 => Keep S S1 ∧ r = textV (textR bs (bs.length + 2) (i + 1) []) := by
  have hlt : i < bs.length := by
    rcases Nat.lt_or_ge i bs.length with q | q
    · exact q
    · rw [List.getElem?_eq_none q] at hi; cases hi
  have hmi : ((bs.map u8)[i]? : Option AV) = some (u8 34) := by rw [List.getElem?_map, hi]; rfl
  have hfault := fun k S => t41r h bs t k S
  have hesc := fun k hk S => t52 h bs t (by omega) k hk S
  refine CallQ.of rfl (by kernel_rfl : Try.prog.funcs[39]? = some Try.f39) rfl (by decide) ?_
  conv => whnf
  refine br (fun q => by omega) (fun _ => ?_)
  conv => whnf
  refine br (fun q => absurd q (by simp; omega)) (fun _ => ?_)
  conv => whnf
  refine ⟨by omega, u8 34, hmi, rfl, ?_⟩
  conv => whnf
  refine brNe (fun q => absurd rfl q) (fun _ => ?_)
  conv => whnf
  generalize hS1 : S.new _ = S1
  have k1 : Low S.next S S1 := by rw [← hS1]; exact (Low.refl _ S).new (Nat.le_refl _) _
  have n1 : S1.next = S.next + 1 := by rw [← hS1]; rfl
  have a1 : S1.cells S.next = some [.int .i64 0, .int .i64 0] := by rw [← hS1]; exact cells_new _ _
  clear hS1
  generalize hR : textR bs (bs.length + 2) (i + 1) [] = R
  rw [show ((i : Int) + 1) = ((i + 1 : Nat) : Int) from rfl, wrap_i64 (by omega) (by omega)]
  refine CodeQ.loop (fun (q : Nat × AV) => pat 121 [(0, .lst (bs.map u8) t), (1, .int .i64 q.1), (6, .ptr S.next 0), (7, q.2)])
    (fun m q S2 => Low S.next S S2 ∧ S.next + 1 ≤ S2.next ∧ S2.cells S.next = some [.int .i64 0, .int .i64 0] ∧ q.1 ≤ bs.length ∧ bs.length - q.1 < m ∧ ∃ out : List UInt8, OwnB 5 (S.next + 1) S2 q.2 (out.map u8) ∧ out.length ≤ 4 * q.1 ∧ textR bs m q.1 out = R) ?_ (bs.length + 2) (i + 1, .nils) _ _
    ⟨k1, by omega, a1, by dsimp only; omega, by dsimp only; omega, [], OwnB.nil _ _ _, by simp, hR⟩ ⟨rfl, rfl, rfl, rfl, trivial⟩
  clear hR k1 n1 a1 S1 hmi hi
  rename_i g1 g2 g3
  clear g1 g2 g3 hlt
  rintro m ⟨p, v⟩ S2 d ⟨k2, n2, a2, hil, hm, out, hv, hol, hR⟩
  dsimp only at *
  obtain ⟨m, rfl⟩ : ∃ k, m = k + 1 := ⟨m - 1, by omega⟩
  conv => whnf
  refine br (fun hge => ?_) (fun hlt => ?_)
  · have hge : bs.length ≤ p := by simp at hge; omega
    obtain rfl : p = bs.length := by omega
    have hR : R = .error (faultN bs.length bs.length) := by rw [← hR]; unfold textR; rw [List.getElem?_eq_none (Nat.le_refl _)]
    rw [hR]
    conv => whnf
    refine CallQ.mono (hfault _ S2) ?_
    rintro r S3 ⟨rfl, k3⟩
    have a3 := kset k3 (by omega) a2
    conv => whnf
    refine ⟨_, _, a3, store_agg rfl rfl rfl, ?_⟩
    conv => whnf
    refine ⟨.agg [.int .i64 (faultN bs.length bs.length).1, .int .i64 (faultN bs.length bs.length).2], by show (St.cells _ S.next).bind _ = _; rw [cells_set]; rfl, ?_⟩
    conv => whnf
    exact ⟨(((k2.trans (.of k3 (by omega))).set _ _ (Nat.le_refl _))).keep, rfl⟩
  have hlt : p < bs.length := by simp at hlt; omega
  obtain ⟨c, hc⟩ : ∃ c, bs[p]? = some c := ⟨_, List.getElem?_eq_getElem hlt⟩
  have hmc : ((bs.map u8)[p]? : Option AV) = some (u8 c) := by rw [List.getElem?_map, hc]; rfl
  rw [textR_step bs m p out hc] at hR
  have hC := c.toNat_lt
  conv => whnf
  refine ⟨by omega, u8 c, hmc, rfl, ?_⟩
  conv => whnf
  refine brEq (fun he => ?_) (fun he => ?_)
  · have he : c = 34 := UInt8.toNat_inj.1 (by have : (c.toNat : Int) = 34 := he; show c.toNat = 34; omega)
    rw [if_pos he] at hR
    rw [← hR]
    have ew : IntKind.i64.wrap ((p : Int) + 1) = ((p + 1 : Nat) : Int) := by rw [wrap_i64 (by omega) (by omega)]; omega
    rcases hv with ⟨rfl, hv⟩ | ⟨n, _, _, rfl, _⟩
    · obtain rfl : out = [] := List.map_eq_nil_iff.1 hv
      conv => whnf
      refine ⟨_, _, a2, store_agg rfl rfl rfl, ?_⟩
      conv => whnf
      refine ⟨.agg [.int .i64 0, .int .i64 0], by show (St.cells _ S.next).bind _ = _; rw [cells_set]; rfl, ?_⟩
      conv => whnf
      refine ⟨((k2.set _ _ (Nat.le_refl _))).keep, ?_⟩
      rw [ew]; rfl
    · conv => whnf
      refine ⟨_, conv_str out _ _, ?_⟩
      conv => whnf
      refine ⟨_, _, a2, store_agg rfl rfl rfl, ?_⟩
      conv => whnf
      refine ⟨.agg [.int .i64 0, .int .i64 0], by show (St.cells _ S.next).bind _ = _; rw [cells_set]; rfl, ?_⟩
      conv => whnf
      refine ⟨((k2.set _ _ (Nat.le_refl _))).keep, ?_⟩
      rw [ew]; rfl
  rw [if_neg (fun q => he (by rw [q]; rfl))] at hR
  conv => whnf
  refine br (fun h32 => ?_) (fun h32 => ?_)
  · rw [if_pos (by omega)] at hR
    rw [← hR]
    conv => whnf
    refine CallQ.mono (hfault p S2) ?_
    rintro r S3 ⟨rfl, k3⟩
    have a3 := kset k3 (by omega) a2
    conv => whnf
    refine ⟨_, _, a3, store_agg rfl rfl rfl, ?_⟩
    conv => whnf
    refine ⟨.agg [.int .i64 (faultN bs.length p).1, .int .i64 (faultN bs.length p).2], by show (St.cells _ S.next).bind _ = _; rw [cells_set]; rfl, ?_⟩
    conv => whnf
    exact ⟨(((k2.trans (.of k3 (by omega))).set _ _ (Nat.le_refl _))).keep, rfl⟩
  rw [if_neg (by omega)] at hR
  conv => whnf
  refine brEq (fun h92 => ?_) (fun h92 => ?_)
  · have h92 : c = 92 := UInt8.toNat_inj.1 (by have : (c.toNat : Int) = 92 := h92; show c.toNat = 92; omega)
    rw [if_pos h92] at hR
    have ew : IntKind.i64.wrap ((p : Int) + 1) = ((p + 1 : Nat) : Int) := by rw [wrap_i64 (by omega) (by omega)]; omega
    have hcall := hesc (p + 1) (by omega) S2
    have hlim := @escR_lim bs (p + 1)
    have hgt := @escR_gt bs (p + 1)
    have hle := @escR_le bs (p + 1)
    conv => whnf
    rw [ew]
    refine CallQ.mono hcall ?_
    rintro r S3 ⟨rfl, rfl⟩
    cases hes : escR bs (p + 1) with
    | error e =>
      rw [hes] at hR
      have hR : Except.error (faultN bs.length e) = R := hR
      rw [← hR]
      conv => whnf
      refine br (fun _ => ?_) (fun q => absurd (Int.natCast_nonneg _) q)
      conv => whnf
      refine CallQ.mono (hfault e S3) ?_
      rintro r S4 ⟨rfl, k4⟩
      have a4 := kset k4 (by omega) a2
      conv => whnf
      refine ⟨_, _, a4, store_agg rfl rfl rfl, ?_⟩
      conv => whnf
      refine ⟨.agg [.int .i64 (faultN bs.length e).1, .int .i64 (faultN bs.length e).2], by show (St.cells _ S.next).bind _ = _; rw [cells_set]; rfl, ?_⟩
      conv => whnf
      exact ⟨(((k2.trans (.of k4 (by omega))).set _ _ (Nat.le_refl _))).keep, rfl⟩
    | ok q =>
      obtain ⟨n, j⟩ := q
      rw [hes] at hR
      obtain ⟨l1, l2⟩ := hlim hes
      have l3 := hgt hes
      have l4 := hle (by omega) hes
      obtain ⟨n, rfl⟩ : ∃ q : Nat, n = q := ⟨n.toNat, by omega⟩
      have hR : textR bs m j (out ++ encU n) = R := hR
      have hel := encU_len n
      conv => whnf
      refine br (fun q => absurd q (by decide)) (fun _ => ?_)
      conv => whnf
      refine CallQ.mono (t53 h n (by omega) S3) ?_
      rintro r S4 ⟨rfl, rfl⟩
      conv => whnf
      obtain ⟨r, S5, g1, g2, g3, g4, g5⟩ := OwnB.append (C := JC h) (f := 39) elB rfl hv (by omega) (show elemsA S4 false 1 (.lst ((encU n).map u8) .lost) = some ((encU n).map u8) from rfl) (shed_u8 _) (wellA_u8 _) (wellA_u8 _) (by simp; omega)
      refine ⟨r, S5, g1, ?_⟩
      conv => whnf
      exact ⟨m, (j, r), by omega, ⟨k2.trans (g3.less (by omega)), by have := g3.1; omega, by rw [g3.cells (by omega)]; exact a2, l4, by dsimp only; omega, out ++ encU n, by rw [List.map_append]; exact g2, by simp; omega, hR⟩, ⟨rfl, rfl, rfl, rfl, trivial⟩⟩
  rw [if_neg (fun q => h92 (by rw [q]; rfl))] at hR
  have hd : bs.drop p = c :: bs.drop (p + 1) := by
    rw [List.drop_eq_getElem_cons hlt]
    rw [List.getElem?_eq_getElem hlt] at hc
    cases hc; rfl
  have hnext : ∀ t' S, CallQ Try.prog (JC h) 54 [.lst ((bs.drop p).map u8) t'] S fun r S1 => S1 = S ∧ ∃ k, r = .tuple [.int .i32 k, .int .i64 (oneS ((ib bs).drop p)).2.1] := by
    intro t' S
    rw [← ib_drop, hd]
    exact t54 h c (bs.drop (p + 1)) t' (by simp; omega) S
  have hlt' : p < (ib bs).length := by rw [ib_len]; exact hlt
  have hbyt := (ib_byt bs).drop p
  have hgood : (oneS ((ib bs).drop p)).2.2 < 0 → _ := one_good hbyt
  have hbad := @one_bad ((ib bs).drop p)
  have hne := drop_ne_nil hlt'
  have hrunes : ∀ t' S, ¬ (oneS ((ib bs).drop p)).2.2 < 0 → CallQ Try.prog (JC h) 15 [.lst ((bs.drop p).map u8) t'] S fun r S1 => Keep S S1 ∧ ∃ l, r = .tuple [l, faultV (6, (oneS ((ib bs).drop p)).2.2)] ∧ l.shed = l ∧ l.known = true := by
    intro t' S hw
    refine CallQ.mono (t15 h (bs.drop p) (by simp; omega) _ (.inr ⟨t', rfl⟩) S) ?_
    rintro r S1 ⟨k, l, rfl, hl1, hl2⟩
    refine ⟨k, l, ?_, hl1, hl2⟩
    have e : telS (ib (bs.drop p)) 0 = (6, (oneS ((ib bs).drop p)).2.2) := by
      rw [ib_drop]
      have := telS_bad (l := (ib bs).drop p) (p := 0) (List.length_pos_iff.2 hne)
      simp only [List.drop_zero] at this
      rw [this hw]
      simp
    rw [e]
  have hdl : ((ib bs).drop p).length = bs.length - p := by rw [List.length_drop, ib_len]
  rw [hdl] at hgood hbad
  generalize oneS ((ib bs).drop p) = o at *
  obtain ⟨v1, n, w⟩ := o
  dsimp only at *
  conv => whnf
  obtain ⟨t', ht'⟩ := cut_from bs t p (by omega)
  refine ⟨_, ht', ?_⟩
  conv => whnf
  refine CallQ.mono (hnext t' S2) ?_
  rintro r S3 ⟨rfl, k0, rfl⟩
  by_cases hw0 : w < 0
  · obtain ⟨g1, g2, g3, g4, g5, g6⟩ := hgood hw0
    rw [if_neg (by omega)] at hR
    obtain ⟨n, rfl⟩ : ∃ q : Nat, n = (q : Int) := ⟨n.toNat, by omega⟩
    simp only [Int.toNat_natCast] at hR
    conv => whnf
    refine brEq (fun hz => absurd hz (by omega)) (fun _ => ?_)
    have hpn : p + n ≤ bs.length := by omega
    obtain ⟨t2, ht2⟩ := cut_fromto bs t p (p + n) (by omega) hpn (IntKind.i64.wrap ((p : Int) + (n : Int))) (by rw [wrap_i64 (by omega) (by omega)]; omega)
    have hcut : (bs.take (p + n)).drop p = (bs.drop p).take n := by rw [List.drop_take]; congr 1; omega
    rw [hcut] at ht2
    have hcl : ((bs.drop p).take n).length = n := by simp; omega
    obtain ⟨ys, hys⟩ : ∃ ys, ys = (bs.drop p).take n := ⟨_, rfl⟩
    rw [← hys] at ht2 hR hcl
    conv => whnf
    refine ⟨_, ht2, ?_⟩
    conv => whnf
    obtain ⟨r, S5, q1, q2, q3, q4, q5⟩ := OwnB.append (C := JC h) (f := 39) elB rfl hv (by omega) (show elemsA S3 false 1 (.lst (ys.map u8) t2) = some (ys.map u8) from rfl) (shed_u8 _) (wellA_u8 _) (wellA_u8 _) (by simp; omega)
    refine ⟨r, S5, q1, ?_⟩
    conv => whnf
    refine ⟨m, (p + n, r), by omega, ⟨k2.trans (q3.less (by omega)), by have := q3.1; omega, by rw [q3.cells (by omega)]; exact a2, hpn, by dsimp only; omega, out ++ ys, by rw [List.map_append]; exact q2, by simp; omega, hR⟩, ⟨rfl, ?_, rfl, rfl, trivial⟩⟩
    rw [wrap_i64 (by omega) (by omega)]; try rfl
  · obtain ⟨rfl, rfl, hwl⟩ := hbad hw0
    rw [if_pos rfl] at hR
    have hwl2 : w ≤ ((bs.length - p : Nat) : Int) := hwl
    obtain ⟨w, rfl⟩ : ∃ q : Nat, w = (q : Int) := ⟨w.toNat, by omega⟩
    conv => whnf
    refine brEq (fun _ => ?_) (fun hz => absurd rfl hz)
    conv => whnf
    refine ⟨_, ht', ?_⟩
    conv => whnf
    refine CallQ.mono (hrunes t' S3 hw0) ?_
    rintro r S4 ⟨k4, l, rfl, hl1, hl2⟩
    conv => whnf
    refine ⟨_, _, cells_new _ _, store_agg rfl rfl rfl, ?_⟩
    conv => whnf
    generalize hS5 : (S4.new _).set S4.next _ = S5
    have k5 : Keep S4 S5 := by rw [← hS5]; exact ((Keep.refl S4).new _).set _ _ (Nat.le_refl _)
    have c5 : S5.cells S4.next = some [.int .i64 6, .int .i64 (w : Nat)] := by rw [← hS5]; exact cells_set _ _ _
    clear hS5
    have k45 := k4.trans k5
    have a5 := kset k45 (by omega) a2
    have n4 := k45.next
    refine ⟨_, c5, ?_⟩
    conv => whnf
    have ws : IntKind.i64.wrap (((bs.map u8).length : Int) - (p : Int)) = ((bs.length : Nat) : Int) - p := by rw [List.length_map, wrap_i64 (by omega) (by omega)]
    rw [ws]
    refine brEq (fun hq => ?_) (fun hq => ?_)
    · rw [if_pos (by omega)] at hR
      rw [← hR]
      conv => whnf
      rw [List.length_map]
      refine CallQ.mono (hfault bs.length S5) ?_
      rintro r S6 ⟨rfl, k6⟩
      rw [faultN_eq]
      have a6 := kset k6 (by omega) a5
      conv => whnf
      refine ⟨_, _, a6, store_agg rfl rfl rfl, ?_⟩
      conv => whnf
      refine ⟨.agg [.int .i64 3, .int .i64 bs.length], by show (St.cells _ S.next).bind _ = _; rw [cells_set]; rfl, ?_⟩
      conv => whnf
      exact ⟨(((k2.trans (.of (k45.trans k6) (by omega))).set _ _ (Nat.le_refl _))).keep, rfl⟩
    · rw [if_neg (by omega)] at hR
      rw [← hR]
      conv => whnf
      refine ⟨[0, 1, 2, 3, 4, 5, 6, 7], [], by kernel_rfl, by kernel_rfl, by kernel_rfl, ?_⟩
      conv => whnf
      refine ⟨_, c5, ?_⟩
      conv => whnf
      refine ⟨_, _, a5, store_agg rfl rfl rfl, ?_⟩
      conv => whnf
      refine ⟨.agg [.int .i64 6, .int .i64 ((p : Int) + w)], by show (St.cells _ S.next).bind _ = _; rw [cells_set, wrap_i64 (by omega) (by omega)]; rfl, ?_⟩
      conv => whnf
      exact ⟨(((k2.trans (.of k45 (by omega))).set _ _ (Nat.le_refl _))).keep, rfl⟩
end Go.Proofs.Ytfphpjinimfhfaa
namespace Go.Proofs.Ytfphpjinimfhfaa
open Go.Proofs.Ytfphpjinimfhfaa.VM Go.RowKit
set_option maxRecDepth 100000
set_option linter.unusedVariables false
set_option linter.unusedSimpArgs false
set_option maxHeartbeats 4000000
/-! The document's lexer, walked: token. -/
theorem faultN_err (n e : Nat) : (faultN n e).1 ≠ 0 := by
  unfold faultN
  split
  · show (3 : Int) ≠ 0; decide
  · show (5 : Int) ≠ 0; decide
theorem textR_err (bs : List UInt8) : ∀ (k i : Nat) (out : List UInt8) (f : Int × Int), i ≤ bs.length → bs.length - i < k → textR bs k i out = .error f → f.1 ≠ 0
  | 0, i, out, f, _, hk, hq => by omega
  | k + 1, i, out, f, hi, hk, hq => by
    cases hc : bs[i]? with
    | none =>
      unfold textR at hq
      rw [hc] at hq
      cases hq; exact faultN_err _ _
    | some c =>
      have hlt : i < bs.length := by
        rcases Nat.lt_or_ge i bs.length with p | p
        · exact p
        · rw [List.getElem?_eq_none p] at hc; cases hc
      rw [textR_step bs k i out hc] at hq
      split at hq
      · cases hq
      split at hq
      · cases hq; exact faultN_err _ _
      split at hq
      · have h1 := @escR_le bs (i + 1)
        have h2 := @escR_gt bs (i + 1)
        cases he : escR bs (i + 1) with
        | error e => rw [he] at hq; cases hq; exact faultN_err _ _
        | ok r =>
          obtain ⟨n, j⟩ := r
          rw [he] at hq
          have := h1 hlt he
          have := h2 he
          exact textR_err bs k j _ f (by omega) (by omega) hq
      split at hq
      · cases hq
        split
        · show (3 : Int) ≠ 0; decide
        · show (6 : Int) ≠ 0; decide
      · rename_i h0
        rw [← ib_drop] at h0 hq
        by_cases hg : (oneS (ib (bs.drop i))).2.2 < 0
        · obtain ⟨_, g2, g3, g4, _, _⟩ := one_good (ib_byt (bs.drop i)) hg
          have hlen : (ib (bs.drop i)).length = bs.length - i := by rw [ib_len]; simp
          exact textR_err bs k _ _ f (by omega) (by omega) hq
        · exact absurd (one_bad hg).2.1 h0
theorem tokR_err {bs : List UInt8} {i : Nat} {c : UInt8} {f : Int × Int} (hi : i < bs.length) (h : tokR bs i c = .error f) : f.1 ≠ 0 := by
  unfold tokR at h
  split at h
  · cases h
  split at h
  · cases hq : textR bs (bs.length + 2) (i + 1) [] with
    | error g => rw [hq] at h; cases h; exact textR_err bs _ _ _ _ (by omega) (by omega) hq
    | ok q => rw [hq] at h; cases h
  split at h
  · cases hq : numR bs i with
    | error g => rw [hq] at h; cases h; exact faultN_err _ _
    | ok j => rw [hq] at h; cases h
  split at h
  · cases hq : wordR bs wtrue i with
    | error g => rw [hq] at h; cases h; exact faultN_err _ _
    | ok j => rw [hq] at h; cases h
  split at h
  · cases hq : wordR bs wfalse i with
    | error g => rw [hq] at h; cases h; exact faultN_err _ _
    | ok j => rw [hq] at h; cases h
  split at h
  · cases hq : wordR bs wnull i with
    | error g => rw [hq] at h; cases h; exact faultN_err _ _
    | ok j => rw [hq] at h; cases h
  · cases h; exact faultN_err _ _
theorem sign_idx : ∀ k : Nat, k < 6 → ∀ x : UInt8, signs[k]? = some x → Lib.indexByte signs x = k := by
  intro k hk x hx
  have : ∀ k : Fin 6, Lib.indexByte signs (signs.getD k.val 0) = k.val := by decide
  have h := this ⟨k, hk⟩
  rw [List.getD_eq_getElem?_getD, hx] at h
  exact h
theorem sign_not (c : UInt8) : (∀ j < 6, signs[j]? ≠ some c) → hasB signs c = false :=
  all_u8' (p := fun c => (∀ j < 6, signs[j]? ≠ some c) → hasB signs c = false) (by decide +kernel) c
theorem u8_eq {c d : UInt8} (h : (c.toNat : Int) = d.toNat) : c = d := UInt8.toNat_inj.1 (by omega)
/-- A token, or the fault. -/
def tokV : Except (Int × Int) Tk → AV
  | .ok t => .tuple [t.v, faultV (0, 0)]
  | .error f => .tuple [.agg (tokC 0 0 0 []), faultV f]
/-- What is neither sign, string nor number. -/
def tokW (bs : List UInt8) (i : Nat) (c : UInt8) : Except (Int × Int) Tk :=
  if c = 116 then (match wordR bs wtrue i with | .error e => .error (faultN bs.length e) | .ok j => .ok ⟨9, i, j, []⟩)
  else if c = 102 then (match wordR bs wfalse i with | .error e => .error (faultN bs.length e) | .ok j => .ok ⟨10, i, j, []⟩)
  else if c = 110 then (match wordR bs wnull i with | .error e => .error (faultN bs.length e) | .ok j => .ok ⟨11, i, j, []⟩)
  else .error (faultN bs.length i)
def tokN (bs : List UInt8) (i : Nat) (c : UInt8) : Except (Int × Int) Tk :=
  if c = 45 ∨ dg c = true then (match numR bs i with | .error e => .error (faultN bs.length e) | .ok j => .ok ⟨8, i, j, (bs.take j).drop i⟩)
  else tokW bs i c
theorem t26 (h : Bool) (bs : List UInt8) (t : Tip) (hl : bs.length ≤ 2 ^ 40) (i : Nat) (c : UInt8) (hc : bs[i]? = some c) (S : St) : CallQ Try.prog (JC h) 26 [.lst (bs.map u8) t, .int .i64 i] S fun r S1 => Keep S S1 ∧ r = tokV (tokR bs i c) := by
  have hlt : i < bs.length := by
    rcases Nat.lt_or_ge i bs.length with q | q
    · exact q
    · rw [List.getElem?_eq_none q] at hc; cases hc
  have hmc : ((bs.map u8)[i]? : Option AV) = some (u8 c) := by rw [List.getElem?_map, hc]; rfl
  have hfault := fun k S => t41r h bs t k S
  have hstr := fun hq S => t39 h bs t hl i hq S
  have hnum := fun S => t40 h bs t (by omega) i (by omega) S
  have hword := fun w hw S => t42 h bs t w i (by omega) hw S
  refine CallQ.of rfl (by kernel_rfl : Try.prog.funcs[26]? = some Try.f26) rfl (by decide) ?_
  conv => whnf
  refine ⟨by omega, u8 c, hmc, rfl, ?_⟩
  conv => whnf
  have hdn : ∀ b, (S.new b).next = S.next + 1 := fun _ => rfl
  rw [hdn]
  generalize hS1 : (S.new _).new _ = S1
  have k1 : Low S.next S S1 := by rw [← hS1]; exact ((Low.refl _ S).new (Nat.le_refl _) _).new (by show S.next ≤ S.next + 1; omega) _
  have n1 : S1.next = S.next + 2 := by rw [← hS1]; rfl
  have a1 : S1.cells S.next = some (tokC 0 0 0 []) := by rw [← hS1]; exact cells_new_ne (cells_new _ _) (by show S.next ≠ S.next + 1; omega)
  have a2 : S1.cells (S.next + 1) = some [.int .i64 0, .int .i64 0] := by rw [← hS1]; exact cells_new _ _
  clear hS1
  generalize hR : tokR bs i c = R
  unfold tokR at hR
  refine CodeQ.loop (fun (k : Nat) => pat 130 [(0, .lst (bs.map u8) t), (1, .int .i64 i), (4, .ptr S.next 0), (5, .ptr (S.next + 1) 0), (6, u8 c), (7, .str signs), (8, .int .i64 k)])
    (fun m k S2 => S2 = S1 ∧ k + m = 6 ∧ ∀ j < k, signs[j]? ≠ some c) ?_ 6 0 _ _ ⟨rfl, rfl, fun j hj => absurd hj (by omega)⟩ ⟨rfl, rfl, rfl, rfl, rfl, rfl, rfl, trivial⟩
  rintro m k S2 d ⟨rfl, hk, hno⟩
  conv => whnf
  refine br (fun hon => ?on) (fun hoff => ?off)
  case on =>
    have hk6 : k < 6 := by have : (k : Int) < 6 := hon; omega
    obtain ⟨x, hx⟩ : ∃ x, signs[k]? = some x := ⟨_, List.getElem?_eq_getElem (show k < signs.length from hk6)⟩
    have hix := sign_idx k hk6 x hx
    conv => whnf
    refine ⟨by omega, x, by simpa using hx, ?_⟩
    conv => whnf
    refine brEq (fun he => ?_) (fun he => ?_)
    · obtain rfl : c = x := u8_eq he
      rw [if_pos (by unfold hasB; rw [hix]; simp)] at hR
      rw [← hR]
      conv => whnf
      have w1 : IntKind.i64.wrap ((i : Int) + 1) = ((i + 1 : Nat) : Int) := by rw [wrap_i64 (by omega) (by omega)]; omega
      have w2 : IntKind.i64.wrap ((k : Int) + 1) = (k : Int) + 1 := wrap_i64 (by omega) (by omega)
      rw [w1, w2]
      rw [hix]
      refine ⟨_, _, a1, store_agg rfl rfl rfl, ?_⟩
      conv => whnf
      refine ⟨_, _, cells_set_ne (a2) (by omega), store_agg rfl rfl rfl, ?_⟩
      conv => whnf
      refine ⟨.agg (tokC ((k : Int) + 1) i (i + 1) []), by show (St.cells _ S.next).bind _ = _; rw [cells_set_ne (cells_set _ _ _) (by omega)]; rfl, ?_⟩
      conv => whnf
      refine ⟨.agg [.int .i64 0, .int .i64 0], by show (St.cells _ (S.next + 1)).bind _ = _; rw [cells_set]; rfl, ?_⟩
      conv => whnf
      exact ⟨((k1.set _ _ (Nat.le_refl _)).set _ _ (by omega)).keep, rfl⟩
    · have hne : ¬ signs[k]? = some c := by
        rw [hx]; rintro ⟨⟩; exact he rfl
      conv => whnf
      refine ⟨m - 1, k + 1, by omega, ⟨rfl, by omega, ?_⟩, ⟨rfl, rfl, rfl, rfl, rfl, rfl, ?_, trivial⟩⟩
      · intro j hj
        rcases Nat.lt_or_ge j k with q | q
        · exact hno j q
        · obtain rfl : j = k := by omega
          exact hne
      · rw [wrap_i64 (by omega) (by omega)]; try rfl
  obtain rfl : k = 6 := by have : ¬ (k : Int) < 6 := hoff; omega
  rw [sign_not c hno, if_neg (by simp)] at hR
  clear hno
  have hC := c.toNat_lt
  conv => whnf
  refine brEq (fun he => ?_) (fun he => ?_)
  · obtain rfl : c = 34 := u8_eq he
    rw [if_pos rfl] at hR
    conv => whnf
    refine CallQ.mono (hstr hc S2) ?_
    rintro r S3 ⟨k3, rfl⟩
    have herr := textR_err bs (bs.length + 2) (i + 1) []
    have b1 := kset k3 (by omega) a1
    have b2 := kset k3 (by omega) a2
    have n3 := k3.next
    cases htx : textR bs (bs.length + 2) (i + 1) [] with
    | error f =>
      rw [htx] at hR
      have herr := herr f (by omega) (by omega) htx
      rw [← hR]
      obtain ⟨w, f⟩ := f
      conv => whnf
      refine ⟨_, _, cells_new _ _, store_agg rfl rfl rfl, ?_⟩
      conv => whnf
      generalize hS4 : (S3.new _).set S3.next _ = S4
      have k4 : Keep S3 S4 := by rw [← hS4]; exact ((Keep.refl S3).new _).set _ _ (Nat.le_refl _)
      have c4 : S4.cells S3.next = some [.int .i64 w, .int .i64 f] := by rw [← hS4]; exact cells_set _ _ _
      clear hS4
      have d1 := kset k4 (by omega) b1
      have d2 := kset k4 (by omega) b2
      have n4 := k4.next
      refine ⟨_, c4, ?_⟩
      conv => whnf
      refine brNe (fun _ => ?_) (fun q => absurd q herr)
      conv => whnf
      refine ⟨[0, 1, 2, 3], [(2, [1])], by kernel_rfl, by kernel_rfl, by kernel_rfl, ?_⟩
      conv => whnf
      refine ⟨_, c4, ?_⟩
      conv => whnf
      refine ⟨_, _, d1, store_agg rfl rfl rfl, ?_⟩
      conv => whnf
      refine ⟨stab_load rfl rfl rfl rfl rfl (by show (St.cells _ S3.next).bind _ = _; rw [cells_set_ne c4 (by omega)]; rfl), ?_⟩
      conv => whnf
      refine ⟨_, _, cells_set_ne (d2) (by omega), store_agg rfl rfl rfl, ?_⟩
      conv => whnf
      refine ⟨.agg (tokC 0 0 0 []), by show (St.cells _ S.next).bind _ = _; rw [cells_set_ne (cells_set _ _ _) (by omega)]; rfl, ?_⟩
      conv => whnf
      refine ⟨.agg [.int .i64 w, .int .i64 f], by show (St.cells _ (S.next + 1)).bind _ = _; rw [cells_set]; rfl, ?_⟩
      conv => whnf
      exact ⟨(((k1.trans (.of (k3.trans k4) (by omega))).set _ _ (Nat.le_refl _)).set _ _ (by omega)).keep, rfl⟩
    | ok q =>
      rw [htx] at hR
      rw [← hR]
      obtain ⟨s, j⟩ := q
      conv => whnf
      refine ⟨_, _, cells_new _ _, store_agg rfl rfl rfl, ?_⟩
      conv => whnf
      generalize hS4 : (S3.new _).set S3.next _ = S4
      have k4 : Keep S3 S4 := by rw [← hS4]; exact ((Keep.refl S3).new _).set _ _ (Nat.le_refl _)
      have c4 : S4.cells S3.next = some [.int .i64 0, .int .i64 0] := by rw [← hS4]; exact cells_set _ _ _
      clear hS4
      have d1 := kset k4 (by omega) b1
      have d2 := kset k4 (by omega) b2
      have n4 := k4.next
      refine ⟨_, c4, ?_⟩
      conv => whnf
      refine brNe (fun q => absurd rfl q) (fun _ => ?_)
      conv => whnf
      refine ⟨_, _, d1, store_agg rfl rfl rfl, ?_⟩
      conv => whnf
      refine ⟨_, _, cells_set_ne (d2) (by omega), store_agg rfl rfl rfl, ?_⟩
      conv => whnf
      refine ⟨.agg (tokC 7 i j s), by show (St.cells _ S.next).bind _ = _; rw [cells_set_ne (cells_set _ _ _) (by omega)]; rfl, ?_⟩
      conv => whnf
      refine ⟨.agg [.int .i64 0, .int .i64 0], by show (St.cells _ (S.next + 1)).bind _ = _; rw [cells_set]; rfl, ?_⟩
      conv => whnf
      exact ⟨(((k1.trans (.of (k3.trans k4) (by omega))).set _ _ (Nat.le_refl _)).set _ _ (by omega)).keep, rfl⟩
  rw [if_neg (fun q => he (by rw [q]; rfl))] at hR
  have hnl : ∀ j, numR bs i = .ok j → i ≤ j ∧ j ≤ bs.length := by
    intro j hj
    have e := num_eq bs i
    rw [hj] at e
    have e : numS bs (L0 i) = L0 j := e
    have l1 := num_ge (bs := bs) (x := L0 i)
    have l2 := num_le (bs := bs) (x := L0 i) (Nat.le_of_lt hlt)
    rw [e] at l1 l2
    exact ⟨l1, l2⟩
  conv => whnf
  refine brEq (fun h45 => ?_) (fun h45 => ?_)
  · obtain rfl : c = 45 := u8_eq h45
    rw [if_pos (.inl rfl)] at hR
    conv => whnf
    refine CallQ.mono (hnum S2) ?_
    rintro r S3 ⟨rfl, rfl⟩
    cases hnr : numR bs i with
    | error e =>
      rw [hnr] at hR
      rw [← hR]
      conv => whnf
      refine br (fun _ => ?_) (fun q => absurd (Int.natCast_nonneg _) q)
      conv => whnf
      refine CallQ.mono (hfault e S3) ?_
      rintro r S4 ⟨rfl, k4⟩
      have d1 := kset k4 (by omega) a1
      have d2 := kset k4 (by omega) a2
      have n4 := k4.next
      conv => whnf
      refine ⟨_, _, d1, store_agg rfl rfl rfl, ?_⟩
      conv => whnf
      refine ⟨_, _, cells_set_ne (d2) (by omega), store_agg rfl rfl rfl, ?_⟩
      conv => whnf
      refine ⟨.agg (tokC 0 0 0 []), by show (St.cells _ S.next).bind _ = _; rw [cells_set_ne (cells_set _ _ _) (by omega)]; rfl, ?_⟩
      conv => whnf
      refine ⟨.agg [.int .i64 (faultN bs.length e).1, .int .i64 (faultN bs.length e).2], by show (St.cells _ (S.next + 1)).bind _ = _; rw [cells_set]; rfl, ?_⟩
      conv => whnf
      exact ⟨(((k1.trans (.of k4 (by omega))).set _ _ (Nat.le_refl _)).set _ _ (by omega)).keep, rfl⟩
    | ok j =>
      rw [hnr] at hR
      rw [← hR]
      obtain ⟨l1, l2⟩ := hnl j hnr
      obtain ⟨t2, ht2⟩ := cut_fromto bs t i j l1 l2 j rfl
      conv => whnf
      refine br (fun q => absurd q (by decide)) (fun _ => ?_)
      conv => whnf
      refine ⟨_, ht2, ?_⟩
      conv => whnf
      refine ⟨_, conv_str _ _ _, ?_⟩
      conv => whnf
      refine ⟨_, _, a1, store_agg rfl rfl rfl, ?_⟩
      conv => whnf
      refine ⟨_, _, cells_set_ne (a2) (by omega), store_agg rfl rfl rfl, ?_⟩
      conv => whnf
      refine ⟨.agg (tokC 8 i j ((bs.take j).drop i)), by show (St.cells _ S.next).bind _ = _; rw [cells_set_ne (cells_set _ _ _) (by omega)]; rfl, ?_⟩
      conv => whnf
      refine ⟨.agg [.int .i64 0, .int .i64 0], by show (St.cells _ (S.next + 1)).bind _ = _; rw [cells_set]; rfl, ?_⟩
      conv => whnf
      exact ⟨((k1.set _ _ (Nat.le_refl _)).set _ _ (by omega)).keep, rfl⟩
  have h45 : c ≠ 45 := fun q => h45 (by rw [q]; rfl)
  conv => whnf
  have hR : tokN bs i c = R := hR
  have hnd : dg c = false → tokN bs i c = R → tokW bs i c = R := fun q hR => by
    unfold tokN at hR
    rw [if_neg (fun q2 => q2.elim h45 (fun a => by rw [q] at a; cases a))] at hR; exact hR
  refine br (fun h48 => ?_) (fun h48 => ?_)
  · conv => whnf
    refine br (fun h57 => ?_) (fun h57 => ?_)
    · unfold tokN at hR
      rw [if_pos (.inr (by unfold dg; rw [decide_eq_true_iff]; omega))] at hR
      conv => whnf
      refine CallQ.mono (hnum S2) ?_
      rintro r S3 ⟨rfl, rfl⟩
      cases hnr : numR bs i with
      | error e =>
        rw [hnr] at hR
        rw [← hR]
        conv => whnf
        refine br (fun _ => ?_) (fun q => absurd (Int.natCast_nonneg _) q)
        conv => whnf
        refine CallQ.mono (hfault e S3) ?_
        rintro r S4 ⟨rfl, k4⟩
        have d1 := kset k4 (by omega) a1
        have d2 := kset k4 (by omega) a2
        have n4 := k4.next
        conv => whnf
        refine ⟨_, _, d1, store_agg rfl rfl rfl, ?_⟩
        conv => whnf
        refine ⟨_, _, cells_set_ne (d2) (by omega), store_agg rfl rfl rfl, ?_⟩
        conv => whnf
        refine ⟨.agg (tokC 0 0 0 []), by show (St.cells _ S.next).bind _ = _; rw [cells_set_ne (cells_set _ _ _) (by omega)]; rfl, ?_⟩
        conv => whnf
        refine ⟨.agg [.int .i64 (faultN bs.length e).1, .int .i64 (faultN bs.length e).2], by show (St.cells _ (S.next + 1)).bind _ = _; rw [cells_set]; rfl, ?_⟩
        conv => whnf
        exact ⟨(((k1.trans (.of k4 (by omega))).set _ _ (Nat.le_refl _)).set _ _ (by omega)).keep, rfl⟩
      | ok j =>
        rw [hnr] at hR
        rw [← hR]
        obtain ⟨l1, l2⟩ := hnl j hnr
        obtain ⟨t2, ht2⟩ := cut_fromto bs t i j l1 l2 j rfl
        conv => whnf
        refine br (fun q => absurd q (by decide)) (fun _ => ?_)
        conv => whnf
        refine ⟨_, ht2, ?_⟩
        conv => whnf
        refine ⟨_, conv_str _ _ _, ?_⟩
        conv => whnf
        refine ⟨_, _, a1, store_agg rfl rfl rfl, ?_⟩
        conv => whnf
        refine ⟨_, _, cells_set_ne (a2) (by omega), store_agg rfl rfl rfl, ?_⟩
        conv => whnf
        refine ⟨.agg (tokC 8 i j ((bs.take j).drop i)), by show (St.cells _ S.next).bind _ = _; rw [cells_set_ne (cells_set _ _ _) (by omega)]; rfl, ?_⟩
        conv => whnf
        refine ⟨.agg [.int .i64 0, .int .i64 0], by show (St.cells _ (S.next + 1)).bind _ = _; rw [cells_set]; rfl, ?_⟩
        conv => whnf
        exact ⟨((k1.set _ _ (Nat.le_refl _)).set _ _ (by omega)).keep, rfl⟩
    · skip
      have hR := hnd (by unfold dg; rw [decide_eq_false_iff_not]; omega) hR
      unfold tokW at hR
      clear hnd
      conv => whnf
      refine CodeQ.loop (fun (k : Nat) => pat 130 [(0, .lst (bs.map u8) t), (1, .int .i64 i), (4, .ptr S.next 0), (5, .ptr (S.next + 1) 0), (6, u8 c), (14, .lst [.str wtrue, .str wfalse, .str wnull] .full), (15, .int .i64 k)])
        (fun m k S3 => S3 = S2 ∧ k + m = 3 ∧ (0 < k → c ≠ 116) ∧ (1 < k → c ≠ 102) ∧ (2 < k → c ≠ 110)) ?_ 3 0 _ _ ⟨rfl, rfl, fun q => absurd q (by omega), fun q => absurd q (by omega), fun q => absurd q (by omega)⟩ ⟨rfl, rfl, rfl, rfl, rfl, rfl, rfl, trivial⟩
      rintro m k S3 d ⟨rfl, hk, w1, w2, w3⟩
      obtain rfl | rfl | rfl | rfl : k = 0 ∨ k = 1 ∨ k = 2 ∨ k = 3 := by omega
      · conv => whnf
        refine br (fun _ => ?_) (fun q => absurd (by decide) q)
        conv => whnf
        refine ⟨by decide, .str wtrue, rfl, rfl, ?_⟩
        conv => whnf
        refine ⟨by decide, 116, rfl, ?_⟩
        conv => whnf
        refine brEq (fun he => ?_) (fun he => ?_)
        · obtain rfl : c = 116 := u8_eq he
          rw [if_pos rfl] at hR
          conv => whnf
          refine ⟨by decide, .str wtrue, rfl, rfl, ?_⟩
          conv => whnf
          refine CallQ.mono (hword wtrue (by decide) S3) ?_
          rintro r S4 ⟨rfl, rfl⟩
          cases hnr : wordR bs wtrue i with
          | error e =>
            rw [hnr] at hR
            rw [← hR]
            conv => whnf
            refine br (fun _ => ?_) (fun q => absurd (Int.natCast_nonneg _) q)
            conv => whnf
            refine CallQ.mono (hfault e S4) ?_
            rintro r S5 ⟨rfl, k4⟩
            have d1 := kset k4 (by omega) a1
            have d2 := kset k4 (by omega) a2
            have n4 := k4.next
            conv => whnf
            refine ⟨_, _, d1, store_agg rfl rfl rfl, ?_⟩
            conv => whnf
            refine ⟨_, _, cells_set_ne (d2) (by omega), store_agg rfl rfl rfl, ?_⟩
            conv => whnf
            refine ⟨.agg (tokC 0 0 0 []), by show (St.cells _ S.next).bind _ = _; rw [cells_set_ne (cells_set _ _ _) (by omega)]; rfl, ?_⟩
            conv => whnf
            refine ⟨.agg [.int .i64 (faultN bs.length e).1, .int .i64 (faultN bs.length e).2], by show (St.cells _ (S.next + 1)).bind _ = _; rw [cells_set]; rfl, ?_⟩
            conv => whnf
            exact ⟨(((k1.trans (.of k4 (by omega))).set _ _ (Nat.le_refl _)).set _ _ (by omega)).keep, rfl⟩
          | ok j =>
            rw [hnr] at hR
            rw [← hR]
            conv => whnf
            refine br (fun q => absurd q (by decide)) (fun _ => ?_)
            conv => whnf
            refine ⟨_, _, a1, store_agg rfl rfl rfl, ?_⟩
            conv => whnf
            refine ⟨_, _, cells_set_ne (a2) (by omega), store_agg rfl rfl rfl, ?_⟩
            conv => whnf
            refine ⟨.agg (tokC 9 i j []), by show (St.cells _ S.next).bind _ = _; rw [cells_set_ne (cells_set _ _ _) (by omega)]; rfl, ?_⟩
            conv => whnf
            refine ⟨.agg [.int .i64 0, .int .i64 0], by show (St.cells _ (S.next + 1)).bind _ = _; rw [cells_set]; rfl, ?_⟩
            conv => whnf
            exact ⟨((k1.set _ _ (Nat.le_refl _)).set _ _ (by omega)).keep, rfl⟩
        · have he : c ≠ 116 := fun q => he (by subst q; rfl)
          conv => whnf
          exact ⟨m - 1, 1, by omega, ⟨rfl, by omega, fun _ => he, fun q => absurd q (by omega), fun q => absurd q (by omega)⟩, ⟨rfl, rfl, rfl, rfl, rfl, rfl, rfl, trivial⟩⟩
      · conv => whnf
        refine br (fun _ => ?_) (fun q => absurd (by decide) q)
        conv => whnf
        refine ⟨by decide, .str wfalse, rfl, rfl, ?_⟩
        conv => whnf
        refine ⟨by decide, 102, rfl, ?_⟩
        conv => whnf
        refine brEq (fun he => ?_) (fun he => ?_)
        · obtain rfl : c = 102 := u8_eq he
          rw [if_neg (w1 (by omega))] at hR
          rw [if_pos rfl] at hR
          conv => whnf
          refine ⟨by decide, .str wfalse, rfl, rfl, ?_⟩
          conv => whnf
          refine CallQ.mono (hword wfalse (by decide) S3) ?_
          rintro r S4 ⟨rfl, rfl⟩
          cases hnr : wordR bs wfalse i with
          | error e =>
            rw [hnr] at hR
            rw [← hR]
            conv => whnf
            refine br (fun _ => ?_) (fun q => absurd (Int.natCast_nonneg _) q)
            conv => whnf
            refine CallQ.mono (hfault e S4) ?_
            rintro r S5 ⟨rfl, k4⟩
            have d1 := kset k4 (by omega) a1
            have d2 := kset k4 (by omega) a2
            have n4 := k4.next
            conv => whnf
            refine ⟨_, _, d1, store_agg rfl rfl rfl, ?_⟩
            conv => whnf
            refine ⟨_, _, cells_set_ne (d2) (by omega), store_agg rfl rfl rfl, ?_⟩
            conv => whnf
            refine ⟨.agg (tokC 0 0 0 []), by show (St.cells _ S.next).bind _ = _; rw [cells_set_ne (cells_set _ _ _) (by omega)]; rfl, ?_⟩
            conv => whnf
            refine ⟨.agg [.int .i64 (faultN bs.length e).1, .int .i64 (faultN bs.length e).2], by show (St.cells _ (S.next + 1)).bind _ = _; rw [cells_set]; rfl, ?_⟩
            conv => whnf
            exact ⟨(((k1.trans (.of k4 (by omega))).set _ _ (Nat.le_refl _)).set _ _ (by omega)).keep, rfl⟩
          | ok j =>
            rw [hnr] at hR
            rw [← hR]
            conv => whnf
            refine br (fun q => absurd q (by decide)) (fun _ => ?_)
            conv => whnf
            refine ⟨_, _, a1, store_agg rfl rfl rfl, ?_⟩
            conv => whnf
            refine ⟨_, _, cells_set_ne (a2) (by omega), store_agg rfl rfl rfl, ?_⟩
            conv => whnf
            refine ⟨.agg (tokC 10 i j []), by show (St.cells _ S.next).bind _ = _; rw [cells_set_ne (cells_set _ _ _) (by omega)]; rfl, ?_⟩
            conv => whnf
            refine ⟨.agg [.int .i64 0, .int .i64 0], by show (St.cells _ (S.next + 1)).bind _ = _; rw [cells_set]; rfl, ?_⟩
            conv => whnf
            exact ⟨((k1.set _ _ (Nat.le_refl _)).set _ _ (by omega)).keep, rfl⟩
        · have he : c ≠ 102 := fun q => he (by subst q; rfl)
          conv => whnf
          exact ⟨m - 1, 2, by omega, ⟨rfl, by omega, fun _ => w1 (by omega), fun _ => he, fun q => absurd q (by omega)⟩, ⟨rfl, rfl, rfl, rfl, rfl, rfl, rfl, trivial⟩⟩
      · conv => whnf
        refine br (fun _ => ?_) (fun q => absurd (by decide) q)
        conv => whnf
        refine ⟨by decide, .str wnull, rfl, rfl, ?_⟩
        conv => whnf
        refine ⟨by decide, 110, rfl, ?_⟩
        conv => whnf
        refine brEq (fun he => ?_) (fun he => ?_)
        · obtain rfl : c = 110 := u8_eq he
          rw [if_neg (w1 (by omega))] at hR
          rw [if_neg (w2 (by omega))] at hR
          rw [if_pos rfl] at hR
          conv => whnf
          refine ⟨by decide, .str wnull, rfl, rfl, ?_⟩
          conv => whnf
          refine CallQ.mono (hword wnull (by decide) S3) ?_
          rintro r S4 ⟨rfl, rfl⟩
          cases hnr : wordR bs wnull i with
          | error e =>
            rw [hnr] at hR
            rw [← hR]
            conv => whnf
            refine br (fun _ => ?_) (fun q => absurd (Int.natCast_nonneg _) q)
            conv => whnf
            refine CallQ.mono (hfault e S4) ?_
            rintro r S5 ⟨rfl, k4⟩
            have d1 := kset k4 (by omega) a1
            have d2 := kset k4 (by omega) a2
            have n4 := k4.next
            conv => whnf
            refine ⟨_, _, d1, store_agg rfl rfl rfl, ?_⟩
            conv => whnf
            refine ⟨_, _, cells_set_ne (d2) (by omega), store_agg rfl rfl rfl, ?_⟩
            conv => whnf
            refine ⟨.agg (tokC 0 0 0 []), by show (St.cells _ S.next).bind _ = _; rw [cells_set_ne (cells_set _ _ _) (by omega)]; rfl, ?_⟩
            conv => whnf
            refine ⟨.agg [.int .i64 (faultN bs.length e).1, .int .i64 (faultN bs.length e).2], by show (St.cells _ (S.next + 1)).bind _ = _; rw [cells_set]; rfl, ?_⟩
            conv => whnf
            exact ⟨(((k1.trans (.of k4 (by omega))).set _ _ (Nat.le_refl _)).set _ _ (by omega)).keep, rfl⟩
          | ok j =>
            rw [hnr] at hR
            rw [← hR]
            conv => whnf
            refine br (fun q => absurd q (by decide)) (fun _ => ?_)
            conv => whnf
            refine ⟨_, _, a1, store_agg rfl rfl rfl, ?_⟩
            conv => whnf
            refine ⟨_, _, cells_set_ne (a2) (by omega), store_agg rfl rfl rfl, ?_⟩
            conv => whnf
            refine ⟨.agg (tokC 11 i j []), by show (St.cells _ S.next).bind _ = _; rw [cells_set_ne (cells_set _ _ _) (by omega)]; rfl, ?_⟩
            conv => whnf
            refine ⟨.agg [.int .i64 0, .int .i64 0], by show (St.cells _ (S.next + 1)).bind _ = _; rw [cells_set]; rfl, ?_⟩
            conv => whnf
            exact ⟨((k1.set _ _ (Nat.le_refl _)).set _ _ (by omega)).keep, rfl⟩
        · have he : c ≠ 110 := fun q => he (by subst q; rfl)
          conv => whnf
          exact ⟨m - 1, 3, by omega, ⟨rfl, by omega, fun _ => w1 (by omega), fun _ => w2 (by omega), fun _ => he⟩, ⟨rfl, rfl, rfl, rfl, rfl, rfl, rfl, trivial⟩⟩
      · rw [if_neg (w1 (by omega)), if_neg (w2 (by omega)), if_neg (w3 (by omega))] at hR
        rw [← hR]
        conv => whnf
        refine br (fun q => absurd q (by decide)) (fun _ => ?_)
        conv => whnf
        refine CallQ.mono (hfault i S3) ?_
        rintro r S5 ⟨rfl, k4⟩
        have d1 := kset k4 (by omega) a1
        have d2 := kset k4 (by omega) a2
        have n4 := k4.next
        conv => whnf
        refine ⟨_, _, d1, store_agg rfl rfl rfl, ?_⟩
        conv => whnf
        refine ⟨_, _, cells_set_ne (d2) (by omega), store_agg rfl rfl rfl, ?_⟩
        conv => whnf
        refine ⟨.agg (tokC 0 0 0 []), by show (St.cells _ S.next).bind _ = _; rw [cells_set_ne (cells_set _ _ _) (by omega)]; rfl, ?_⟩
        conv => whnf
        refine ⟨.agg [.int .i64 (faultN bs.length i).1, .int .i64 (faultN bs.length i).2], by show (St.cells _ (S.next + 1)).bind _ = _; rw [cells_set]; rfl, ?_⟩
        conv => whnf
        exact ⟨(((k1.trans (.of k4 (by omega))).set _ _ (Nat.le_refl _)).set _ _ (by omega)).keep, rfl⟩
  · skip
    have hR := hnd (by unfold dg; rw [decide_eq_false_iff_not]; omega) hR
    unfold tokW at hR
    clear hnd
    conv => whnf
    refine CodeQ.loop (fun (k : Nat) => pat 130 [(0, .lst (bs.map u8) t), (1, .int .i64 i), (4, .ptr S.next 0), (5, .ptr (S.next + 1) 0), (6, u8 c), (14, .lst [.str wtrue, .str wfalse, .str wnull] .full), (15, .int .i64 k)])
      (fun m k S3 => S3 = S2 ∧ k + m = 3 ∧ (0 < k → c ≠ 116) ∧ (1 < k → c ≠ 102) ∧ (2 < k → c ≠ 110)) ?_ 3 0 _ _ ⟨rfl, rfl, fun q => absurd q (by omega), fun q => absurd q (by omega), fun q => absurd q (by omega)⟩ ⟨rfl, rfl, rfl, rfl, rfl, rfl, rfl, trivial⟩
    rintro m k S3 d ⟨rfl, hk, w1, w2, w3⟩
    obtain rfl | rfl | rfl | rfl : k = 0 ∨ k = 1 ∨ k = 2 ∨ k = 3 := by omega
    · conv => whnf
      refine br (fun _ => ?_) (fun q => absurd (by decide) q)
      conv => whnf
      refine ⟨by decide, .str wtrue, rfl, rfl, ?_⟩
      conv => whnf
      refine ⟨by decide, 116, rfl, ?_⟩
      conv => whnf
      refine brEq (fun he => ?_) (fun he => ?_)
      · obtain rfl : c = 116 := u8_eq he
        rw [if_pos rfl] at hR
        conv => whnf
        refine ⟨by decide, .str wtrue, rfl, rfl, ?_⟩
        conv => whnf
        refine CallQ.mono (hword wtrue (by decide) S3) ?_
        rintro r S4 ⟨rfl, rfl⟩
        cases hnr : wordR bs wtrue i with
        | error e =>
          rw [hnr] at hR
          rw [← hR]
          conv => whnf
          refine br (fun _ => ?_) (fun q => absurd (Int.natCast_nonneg _) q)
          conv => whnf
          refine CallQ.mono (hfault e S4) ?_
          rintro r S5 ⟨rfl, k4⟩
          have d1 := kset k4 (by omega) a1
          have d2 := kset k4 (by omega) a2
          have n4 := k4.next
          conv => whnf
          refine ⟨_, _, d1, store_agg rfl rfl rfl, ?_⟩
          conv => whnf
          refine ⟨_, _, cells_set_ne (d2) (by omega), store_agg rfl rfl rfl, ?_⟩
          conv => whnf
          refine ⟨.agg (tokC 0 0 0 []), by show (St.cells _ S.next).bind _ = _; rw [cells_set_ne (cells_set _ _ _) (by omega)]; rfl, ?_⟩
          conv => whnf
          refine ⟨.agg [.int .i64 (faultN bs.length e).1, .int .i64 (faultN bs.length e).2], by show (St.cells _ (S.next + 1)).bind _ = _; rw [cells_set]; rfl, ?_⟩
          conv => whnf
          exact ⟨(((k1.trans (.of k4 (by omega))).set _ _ (Nat.le_refl _)).set _ _ (by omega)).keep, rfl⟩
        | ok j =>
          rw [hnr] at hR
          rw [← hR]
          conv => whnf
          refine br (fun q => absurd q (by decide)) (fun _ => ?_)
          conv => whnf
          refine ⟨_, _, a1, store_agg rfl rfl rfl, ?_⟩
          conv => whnf
          refine ⟨_, _, cells_set_ne (a2) (by omega), store_agg rfl rfl rfl, ?_⟩
          conv => whnf
          refine ⟨.agg (tokC 9 i j []), by show (St.cells _ S.next).bind _ = _; rw [cells_set_ne (cells_set _ _ _) (by omega)]; rfl, ?_⟩
          conv => whnf
          refine ⟨.agg [.int .i64 0, .int .i64 0], by show (St.cells _ (S.next + 1)).bind _ = _; rw [cells_set]; rfl, ?_⟩
          conv => whnf
          exact ⟨((k1.set _ _ (Nat.le_refl _)).set _ _ (by omega)).keep, rfl⟩
      · have he : c ≠ 116 := fun q => he (by subst q; rfl)
        conv => whnf
        exact ⟨m - 1, 1, by omega, ⟨rfl, by omega, fun _ => he, fun q => absurd q (by omega), fun q => absurd q (by omega)⟩, ⟨rfl, rfl, rfl, rfl, rfl, rfl, rfl, trivial⟩⟩
    · conv => whnf
      refine br (fun _ => ?_) (fun q => absurd (by decide) q)
      conv => whnf
      refine ⟨by decide, .str wfalse, rfl, rfl, ?_⟩
      conv => whnf
      refine ⟨by decide, 102, rfl, ?_⟩
      conv => whnf
      refine brEq (fun he => ?_) (fun he => ?_)
      · obtain rfl : c = 102 := u8_eq he
        rw [if_neg (w1 (by omega))] at hR
        rw [if_pos rfl] at hR
        conv => whnf
        refine ⟨by decide, .str wfalse, rfl, rfl, ?_⟩
        conv => whnf
        refine CallQ.mono (hword wfalse (by decide) S3) ?_
        rintro r S4 ⟨rfl, rfl⟩
        cases hnr : wordR bs wfalse i with
        | error e =>
          rw [hnr] at hR
          rw [← hR]
          conv => whnf
          refine br (fun _ => ?_) (fun q => absurd (Int.natCast_nonneg _) q)
          conv => whnf
          refine CallQ.mono (hfault e S4) ?_
          rintro r S5 ⟨rfl, k4⟩
          have d1 := kset k4 (by omega) a1
          have d2 := kset k4 (by omega) a2
          have n4 := k4.next
          conv => whnf
          refine ⟨_, _, d1, store_agg rfl rfl rfl, ?_⟩
          conv => whnf
          refine ⟨_, _, cells_set_ne (d2) (by omega), store_agg rfl rfl rfl, ?_⟩
          conv => whnf
          refine ⟨.agg (tokC 0 0 0 []), by show (St.cells _ S.next).bind _ = _; rw [cells_set_ne (cells_set _ _ _) (by omega)]; rfl, ?_⟩
          conv => whnf
          refine ⟨.agg [.int .i64 (faultN bs.length e).1, .int .i64 (faultN bs.length e).2], by show (St.cells _ (S.next + 1)).bind _ = _; rw [cells_set]; rfl, ?_⟩
          conv => whnf
          exact ⟨(((k1.trans (.of k4 (by omega))).set _ _ (Nat.le_refl _)).set _ _ (by omega)).keep, rfl⟩
        | ok j =>
          rw [hnr] at hR
          rw [← hR]
          conv => whnf
          refine br (fun q => absurd q (by decide)) (fun _ => ?_)
          conv => whnf
          refine ⟨_, _, a1, store_agg rfl rfl rfl, ?_⟩
          conv => whnf
          refine ⟨_, _, cells_set_ne (a2) (by omega), store_agg rfl rfl rfl, ?_⟩
          conv => whnf
          refine ⟨.agg (tokC 10 i j []), by show (St.cells _ S.next).bind _ = _; rw [cells_set_ne (cells_set _ _ _) (by omega)]; rfl, ?_⟩
          conv => whnf
          refine ⟨.agg [.int .i64 0, .int .i64 0], by show (St.cells _ (S.next + 1)).bind _ = _; rw [cells_set]; rfl, ?_⟩
          conv => whnf
          exact ⟨((k1.set _ _ (Nat.le_refl _)).set _ _ (by omega)).keep, rfl⟩
      · have he : c ≠ 102 := fun q => he (by subst q; rfl)
        conv => whnf
        exact ⟨m - 1, 2, by omega, ⟨rfl, by omega, fun _ => w1 (by omega), fun _ => he, fun q => absurd q (by omega)⟩, ⟨rfl, rfl, rfl, rfl, rfl, rfl, rfl, trivial⟩⟩
    · conv => whnf
      refine br (fun _ => ?_) (fun q => absurd (by decide) q)
      conv => whnf
      refine ⟨by decide, .str wnull, rfl, rfl, ?_⟩
      conv => whnf
      refine ⟨by decide, 110, rfl, ?_⟩
      conv => whnf
      refine brEq (fun he => ?_) (fun he => ?_)
      · obtain rfl : c = 110 := u8_eq he
        rw [if_neg (w1 (by omega))] at hR
        rw [if_neg (w2 (by omega))] at hR
        rw [if_pos rfl] at hR
        conv => whnf
        refine ⟨by decide, .str wnull, rfl, rfl, ?_⟩
        conv => whnf
        refine CallQ.mono (hword wnull (by decide) S3) ?_
        rintro r S4 ⟨rfl, rfl⟩
        cases hnr : wordR bs wnull i with
        | error e =>
          rw [hnr] at hR
          rw [← hR]
          conv => whnf
          refine br (fun _ => ?_) (fun q => absurd (Int.natCast_nonneg _) q)
          conv => whnf
          refine CallQ.mono (hfault e S4) ?_
          rintro r S5 ⟨rfl, k4⟩
          have d1 := kset k4 (by omega) a1
          have d2 := kset k4 (by omega) a2
          have n4 := k4.next
          conv => whnf
          refine ⟨_, _, d1, store_agg rfl rfl rfl, ?_⟩
          conv => whnf
          refine ⟨_, _, cells_set_ne (d2) (by omega), store_agg rfl rfl rfl, ?_⟩
          conv => whnf
          refine ⟨.agg (tokC 0 0 0 []), by show (St.cells _ S.next).bind _ = _; rw [cells_set_ne (cells_set _ _ _) (by omega)]; rfl, ?_⟩
          conv => whnf
          refine ⟨.agg [.int .i64 (faultN bs.length e).1, .int .i64 (faultN bs.length e).2], by show (St.cells _ (S.next + 1)).bind _ = _; rw [cells_set]; rfl, ?_⟩
          conv => whnf
          exact ⟨(((k1.trans (.of k4 (by omega))).set _ _ (Nat.le_refl _)).set _ _ (by omega)).keep, rfl⟩
        | ok j =>
          rw [hnr] at hR
          rw [← hR]
          conv => whnf
          refine br (fun q => absurd q (by decide)) (fun _ => ?_)
          conv => whnf
          refine ⟨_, _, a1, store_agg rfl rfl rfl, ?_⟩
          conv => whnf
          refine ⟨_, _, cells_set_ne (a2) (by omega), store_agg rfl rfl rfl, ?_⟩
          conv => whnf
          refine ⟨.agg (tokC 11 i j []), by show (St.cells _ S.next).bind _ = _; rw [cells_set_ne (cells_set _ _ _) (by omega)]; rfl, ?_⟩
          conv => whnf
          refine ⟨.agg [.int .i64 0, .int .i64 0], by show (St.cells _ (S.next + 1)).bind _ = _; rw [cells_set]; rfl, ?_⟩
          conv => whnf
          exact ⟨((k1.set _ _ (Nat.le_refl _)).set _ _ (by omega)).keep, rfl⟩
      · have he : c ≠ 110 := fun q => he (by subst q; rfl)
        conv => whnf
        exact ⟨m - 1, 3, by omega, ⟨rfl, by omega, fun _ => w1 (by omega), fun _ => w2 (by omega), fun _ => he⟩, ⟨rfl, rfl, rfl, rfl, rfl, rfl, rfl, trivial⟩⟩
    · rw [if_neg (w1 (by omega)), if_neg (w2 (by omega)), if_neg (w3 (by omega))] at hR
      rw [← hR]
      conv => whnf
      refine br (fun q => absurd q (by decide)) (fun _ => ?_)
      conv => whnf
      refine CallQ.mono (hfault i S3) ?_
      rintro r S5 ⟨rfl, k4⟩
      have d1 := kset k4 (by omega) a1
      have d2 := kset k4 (by omega) a2
      have n4 := k4.next
      conv => whnf
      refine ⟨_, _, d1, store_agg rfl rfl rfl, ?_⟩
      conv => whnf
      refine ⟨_, _, cells_set_ne (d2) (by omega), store_agg rfl rfl rfl, ?_⟩
      conv => whnf
      refine ⟨.agg (tokC 0 0 0 []), by show (St.cells _ S.next).bind _ = _; rw [cells_set_ne (cells_set _ _ _) (by omega)]; rfl, ?_⟩
      conv => whnf
      refine ⟨.agg [.int .i64 (faultN bs.length i).1, .int .i64 (faultN bs.length i).2], by show (St.cells _ (S.next + 1)).bind _ = _; rw [cells_set]; rfl, ?_⟩
      conv => whnf
      exact ⟨(((k1.trans (.of k4 (by omega))).set _ _ (Nat.le_refl _)).set _ _ (by omega)).keep, rfl⟩
end Go.Proofs.Ytfphpjinimfhfaa
namespace Go.Proofs.Ytfphpjinimfhfaa
open Go.Proofs.Ytfphpjinimfhfaa.VM Go.RowKit
set_option maxRecDepth 100000
set_option linter.unusedVariables false
set_option linter.unusedSimpArgs false
set_option maxHeartbeats 4000000
/-! The document's lexer, walked: Lex. -/
theorem tokR_gt {bs : List UInt8} {i : Nat} {c : UInt8} {t : Tk} (hc : bs[i]? = some c) (h : tokR bs i c = .ok t) : i < t.to ∧ t.fr = i := by
  have e := tok_eq bs i c hc
  rw [h] at e
  obtain ⟨e1, e2⟩ := e
  have g := @tok_gt bs (L0 i)
  rw [e1] at g
  exact ⟨g rfl, e2⟩
theorem lexR_step (bs : List UInt8) (k i : Nat) (out : List Tk) {c : UInt8} (hc : bs[i]? = some c) : lexR bs (k + 1) i out =
    if gapB c = true then lexR bs k (i + 1) out else match tokR bs i c with
      | .error f => (out, f)
      | .ok t => lexR bs k t.to (out ++ [t]) := by
  conv => lhs; unfold lexR; rw [hc]
  rfl
theorem cells_stay {e : TypeId} {S S1 : St} {n : Nat} {cs : List AV} (h : S.cells n = some cs) (g : ∀ b, S.mem n = some b → b ≠ .tip e → S1.mem n = some b) : S1.cells n = some cs := by
  unfold St.cells at h ⊢
  cases hm : S.mem n with
  | none => rw [hm] at h; cases h
  | some b =>
    rw [hm] at h
    rw [g b hm (by rintro rfl; cases h)]
    exact h
/-- What the document's Lex answers. -/
def LexD (bs : List UInt8) (r : AV) : Prop :=
  if bs.length ≤ 4096 then ∃ v, r = .tuple [v, faultV (lexR bs (bs.length + 1) 0 []).2] ∧ ((v = .nils ∧ (lexR bs (bs.length + 1) 0 []).1 = []) ∨ v = .lst ((lexR bs (bs.length + 1) 0 []).1.map Tk.v) .lost)
  else r = .tuple [.nils, faultV (8, 0)]
theorem t13 (h : Bool) (bs : List UInt8) (t : Tip) (hl : bs.length ≤ 2 ^ 47) (S : St) : CallQ Try.prog (JC h) 13 [.lst (bs.map u8) t] S fun r S1 => Keep S S1 ∧ LexD bs r := by
  refine CallQ.of rfl (by kernel_rfl : Try.prog.funcs[13]? = some Try.f13) rfl (by decide) ?_
  conv => whnf
  refine br (fun hbig => ?_) (fun hbig => ?_)
  · have hbig : ¬ bs.length ≤ 4096 := by simp at hbig; omega
    conv => whnf
    refine ⟨_, _, cells_new _ _, store_agg rfl rfl rfl, ?_⟩
    conv => whnf
    refine ⟨.agg [.int .i64 8, .int .i64 0], by show (St.cells _ S.next).bind _ = _; rw [cells_set]; rfl, ?_⟩
    conv => whnf
    exact ⟨((Keep.refl S).new _).set _ _ (Nat.le_refl _), by unfold LexD; rw [if_neg hbig]; rfl⟩
  have hbig : bs.length ≤ 4096 := by simp at hbig; omega
  have htok := fun i c hc S => t26 h bs t (by omega) i c hc S
  have hD : ∀ r, (∃ v, r = .tuple [v, faultV (lexR bs (bs.length + 1) 0 []).2] ∧ ((v = .nils ∧ (lexR bs (bs.length + 1) 0 []).1 = []) ∨ v = .lst ((lexR bs (bs.length + 1) 0 []).1.map Tk.v) .lost)) → LexD bs r := fun r q => by unfold LexD; rw [if_pos hbig]; exact q
  generalize hR : lexR bs (bs.length + 1) 0 [] = R at hD
  conv => whnf
  generalize hS1 : S.new _ = S1
  have k1 : Low S.next S S1 := by rw [← hS1]; exact (Low.refl _ S).new (Nat.le_refl _) _
  have n1 : S1.next = S.next + 1 := by rw [← hS1]; rfl
  have a1 : S1.cells S.next = some [.int .i64 0, .int .i64 0] := by rw [← hS1]; exact cells_new _ _
  clear hS1
  refine CodeQ.loop (fun (q : Nat × AV) => pat 42 [(0, .lst (bs.map u8) t), (3, .ptr S.next 0), (4, q.2), (5, .int .i64 q.1)])
    (fun m q S2 => Low S.next S S2 ∧ S.next + 1 ≤ S2.next ∧ S2.cells S.next = some [.int .i64 0, .int .i64 0] ∧ q.1 ≤ bs.length ∧ bs.length - q.1 < m ∧ ∃ out : List Tk, OwnB 33 (S.next + 1) S2 q.2 (out.map Tk.v) ∧ out.length ≤ q.1 ∧ lexR bs m q.1 out = R) ?_ (bs.length + 1) (0, .nils) _ _
    ⟨k1, by omega, a1, by simp, by simp, [], OwnB.nil _ _ _, by simp, hR⟩ ⟨rfl, rfl, rfl, rfl, trivial⟩
  clear hR k1 n1 a1 S1
  rintro m ⟨p, v⟩ S2 d ⟨k2, n2, a2, hil, hm, out, hv, hol, hR⟩
  dsimp only at *
  obtain ⟨m, rfl⟩ : ∃ k, m = k + 1 := ⟨m - 1, by omega⟩
  conv => whnf
  refine br (fun hlt => ?_) (fun hge => ?_)
  rotate_left
  · have hge : bs.length ≤ p := by simp at hge; omega
    have hR : R = (out, 0, 0) := by rw [← hR]; unfold lexR; rw [List.getElem?_eq_none hge]
    rcases hv with ⟨rfl, hv⟩ | ⟨n, _, _, rfl, _⟩
    · obtain rfl : out = [] := List.map_eq_nil_iff.1 hv
      conv => whnf
      refine ⟨_, _, a2, store_agg rfl rfl rfl, ?_⟩
      conv => whnf
      refine ⟨.agg [.int .i64 0, .int .i64 0], by show (St.cells _ S.next).bind _ = _; rw [cells_set]; rfl, ?_⟩
      conv => whnf
      exact ⟨(k2.set _ _ (Nat.le_refl _)).keep, hD _ ⟨.nils, by rw [hR]; rfl, .inl ⟨rfl, by rw [hR]⟩⟩⟩
    · conv => whnf
      refine ⟨_, _, a2, store_agg rfl rfl rfl, ?_⟩
      conv => whnf
      refine ⟨.agg [.int .i64 0, .int .i64 0], by show (St.cells _ S.next).bind _ = _; rw [cells_set]; rfl, ?_⟩
      conv => whnf
      exact ⟨(k2.set _ _ (Nat.le_refl _)).keep, hD _ ⟨_, by rw [hR]; rfl, .inr (by rw [hR]; rfl)⟩⟩
  have hlt : p < bs.length := by simp at hlt; omega
  obtain ⟨c, hc⟩ : ∃ c, bs[p]? = some c := ⟨_, List.getElem?_eq_getElem hlt⟩
  have hmc : ((bs.map u8)[p]? : Option AV) = some (u8 c) := by rw [List.getElem?_map, hc]; rfl
  rw [lexR_step bs m p out hc] at hR
  have hcall := htok p c hc
  have hle := @tokR_le bs p c
  have hgt := @tokR_gt bs p c
  have herr := @tokR_err bs p c
  conv => whnf
  refine ⟨by omega, u8 c, hmc, rfl, ?_⟩
  conv => whnf
  refine CallQ.mono (t12g h c S2) ?_
  rintro r S3 ⟨rfl, rfl⟩
  cases hg : gapB c
  rotate_left
  · rw [if_pos hg] at hR
    conv => whnf
    refine ⟨m, (p + 1, v), by omega, ⟨k2, n2, a2, hlt, by dsimp only; omega, out, hv, by dsimp only; omega, hR⟩, ⟨rfl, rfl, rfl, ?_, trivial⟩⟩
    rw [wrap_i64 (by omega) (by omega)]; try rfl
  rw [if_neg (by rw [hg]; simp)] at hR
  conv => whnf
  refine CallQ.mono (hcall S3) ?_
  rintro r S4 ⟨k4, rfl⟩
  have a4 := kset k4 (by omega) a2
  have n4 := k4.next
  have v4 : OwnB 33 (S.next + 1) S4 v (out.map Tk.v) := hv.keep k4
  cases htk : tokR bs p c with
  | error f =>
    rw [htk] at hR
    have herr := herr hlt htk
    have hR : R = (out, f) := hR.symm
    obtain ⟨w, f⟩ := f
    conv => whnf
    have hdn : ∀ b, (S4.new b).next = S4.next + 1 := fun _ => rfl
    rw [hdn]
    refine ⟨_, _, cells_new_ne (cells_new _ _) (by show S4.next ≠ S4.next + 1; omega), store_agg rfl rfl rfl, ?_⟩
    conv => whnf
    refine ⟨_, _, cells_set_ne (cells_new _ _) (by show S4.next + 1 ≠ S4.next; omega), store_agg rfl rfl rfl, ?_⟩
    conv => whnf
    generalize hS6 : St.set (St.set ((S4.new _).new _) S4.next _) (S4.next + 1) _ = S6
    have k6 : Keep S4 S6 := by rw [← hS6]; exact ((((Keep.refl S4).new _).new _).set _ _ (Nat.le_refl _)).set _ _ (by omega)
    have n6 : S6.next = S4.next + 2 := by rw [← hS6]; rfl
    have c6 : S6.cells S4.next = some (tokC 0 0 0 []) := by rw [← hS6]; exact cells_set_ne (cells_set _ _ _) (by omega)
    have e6 : S6.cells (S4.next + 1) = some [.int .i64 w, .int .i64 f] := by rw [← hS6]; exact cells_set _ _ _
    clear hS6
    have a6 := kset k6 (by omega) a4
    have v6 : OwnB 33 (S.next + 1) S6 v (out.map Tk.v) := v4.keep k6
    refine ⟨_, e6, ?_⟩
    conv => whnf
    refine brNe (fun _ => ?_) (fun q => absurd q herr)
    conv => whnf
    refine ⟨[0, 1, 2, 3], [], by kernel_rfl, by kernel_rfl, by kernel_rfl, ?_⟩
    conv => whnf
    refine ⟨_, e6, ?_⟩
    conv => whnf
    refine ⟨_, _, a6, store_agg rfl rfl rfl, ?_⟩
    rcases v6 with ⟨rfl, hv6⟩ | ⟨n, _, _, rfl, _⟩
    · obtain rfl : out = [] := List.map_eq_nil_iff.1 hv6
      conv => whnf
      refine ⟨.agg [.int .i64 w, .int .i64 f], by show (St.cells _ S.next).bind _ = _; rw [cells_set]; rfl, ?_⟩
      conv => whnf
      exact ⟨((k2.trans (.of (k4.trans k6) (by omega))).set _ _ (Nat.le_refl _)).keep, hD _ ⟨.nils, by rw [hR]; rfl, .inl ⟨rfl, by rw [hR]⟩⟩⟩
    · conv => whnf
      refine ⟨.agg [.int .i64 w, .int .i64 f], by show (St.cells _ S.next).bind _ = _; rw [cells_set]; rfl, ?_⟩
      conv => whnf
      exact ⟨((k2.trans (.of (k4.trans k6) (by omega))).set _ _ (Nat.le_refl _)).keep, hD _ ⟨_, by rw [hR]; rfl, .inr (by rw [hR]; rfl)⟩⟩
  | ok tk =>
    rw [htk] at hR
    have hR : lexR bs m tk.to (out ++ [tk]) = R := hR
    have h1 := hle hlt htk
    obtain ⟨h2, h3⟩ := hgt hc htk
    conv => whnf
    have hdn : ∀ b, (S4.new b).next = S4.next + 1 := fun _ => rfl
    rw [hdn]
    refine ⟨_, _, cells_new_ne (cells_new _ _) (by show S4.next ≠ S4.next + 1; omega), store_agg rfl rfl rfl, ?_⟩
    conv => whnf
    refine ⟨_, _, cells_set_ne (cells_new _ _) (by show S4.next + 1 ≠ S4.next; omega), store_agg rfl rfl rfl, ?_⟩
    conv => whnf
    generalize hS6 : St.set (St.set ((S4.new _).new _) S4.next _) (S4.next + 1) _ = S6
    have k6 : Keep S4 S6 := by rw [← hS6]; exact ((((Keep.refl S4).new _).new _).set _ _ (Nat.le_refl _)).set _ _ (by omega)
    have n6 : S6.next = S4.next + 2 := by rw [← hS6]; rfl
    have c6 : S6.cells S4.next = some (tokC tk.k tk.fr tk.to tk.s) := by rw [← hS6]; exact cells_set_ne (cells_set _ _ _) (by omega)
    have e6 : S6.cells (S4.next + 1) = some [.int .i64 0, .int .i64 0] := by rw [← hS6]; exact cells_set _ _ _
    clear hS6
    have a6 := kset k6 (by omega) a4
    have v6 : OwnB 33 (S.next + 1) S6 v (out.map Tk.v) := v4.keep k6
    refine ⟨_, e6, ?_⟩
    conv => whnf
    refine brNe (fun q => absurd rfl q) (fun _ => ?_)
    conv => whnf
    refine ⟨_, c6, ?_⟩
    conv => whnf
    obtain ⟨r, S7, g1, g2, g3, g4, g5⟩ := OwnB.append (C := JC h) (f := 13) elT rfl v6 (by omega) (show elemsA S6 true 4 (.lst [Tk.v tk] .full) = some ([tk].map Tk.v) from rfl) (shed_tk _) (wellA_tk _) (wellA_tk _) (by simp; omega)
    refine ⟨r, S7, g1, ?_⟩
    conv => whnf
    have c7 : S7.cells S4.next = some (tokC tk.k tk.fr tk.to tk.s) := cells_stay c6 fun b q1 q2 => g4 _ b (by omega) q1 q2
    refine ⟨_, c7, ?_⟩
    conv => whnf
    exact ⟨m, (tk.to, r), by omega, ⟨(k2.trans (.of (k4.trans k6) (by omega))).trans (g3.less (by omega)), by have := g3.1; omega, by rw [g3.cells (by omega)]; exact a6, h1, by dsimp only; omega, out ++ [tk], by rw [List.map_append]; exact g2, by simp; omega, hR⟩, ⟨rfl, rfl, rfl, rfl, trivial⟩⟩
end Go.Proofs.Ytfphpjinimfhfaa
