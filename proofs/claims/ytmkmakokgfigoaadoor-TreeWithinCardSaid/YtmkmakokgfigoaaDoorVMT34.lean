import Derived.Test.YtmkmakokgfigoaaDoorVMTK30
namespace Go.Proofs.YtmkmakokgfigoaaDoor
open Go.Proofs.YtmkmakokgfigoaaDoor.VM Go.RowKit
set_option maxRecDepth 100000
set_option linter.unusedVariables false
set_option linter.unusedSimpArgs false
set_option maxHeartbeats 4000000
open Classical in
theorem t52 (x k : Nd) (hx : x.Ok) (hk : k.Ok) (q : Nat) (S : St) (hq : S.cells q = some k.cs) : CallQ Tryd.prog TC 52 [x.v, .ptr q 0] S fun r S1 => Keep S S1 ∧ r = .bool (sameB x k) := by
  have ht := t29 (cnt x) x k hx hk (Nat.le_refl _) S
  generalize sameB x k = sb at *
  obtain ⟨kind, n, neg, dg, ex, tx, fb, bs, fk, keys, fd, kids⟩ := x
  obtain ⟨kind', n', neg', dg', ex', tx', fb', bs', fk', keys', fd', kids'⟩ := k
  refine CallQ.of rfl (by kernel_rfl : Tryd.prog.funcs[52]? = some Tryd.f52) rfl (by decide) ?_
  conv => whnf
  refine ⟨_, hq, ?_⟩
  conv => whnf
  refine CallQ.mono ht ?_
  rintro r S1 ⟨rfl, k1⟩
  conv => whnf
  exact ⟨k1, rfl⟩
open Classical in
/-- Where the first one is that is the same; -1: there is none. -/
theorem t57 (xs : List Nd) (tp : Tip) (k : Nd) (hx : Nd.Oks xs) (hk : k.Ok) (hl : xs.length ≤ 2 ^ 47) (q : Nat) (S : St) (hqn : q < S.next) (hq : S.cells q = some k.cs) :
    CallQ Tryd.prog TC 57 [.lst (Nd.vs xs) tp, .func (.func 52) [] [.ptr q 0]] S fun r S1 => Keep S S1 ∧ ∃ j : Int, r = .int .i64 j ∧ (0 ≤ j ↔ er k ∈ ers xs) := by
  have hcall : ∀ (i : Nat) (h : i < xs.length) (S1 : St), Keep S S1 → CallQ Tryd.prog TC 52 [xs[i].v, .ptr q 0] S1 fun r S2 => Keep S1 S2 ∧ r = .bool (sameB xs[i] k) := fun i h S1 k1 =>
    t52 xs[i] k (oks_iff.1 hx _ (List.getElem_mem h)) hk q S1 (by rw [cells_keep k1 hqn]; exact hq)
  refine CallQ.of rfl (by kernel_rfl : Tryd.prog.funcs[57]? = some Tryd.f57) rfl (by decide) ?_
  conv => whnf
  refine CodeQ.loop (fun (i : Nat) => pat 19 [(0, .lst (Nd.vs xs) tp), (1, .func (.func 52) [] [.ptr q 0]), (7, .int .i64 xs.length), (8, .int .i64 i)])
    (fun m i S1 => i + m = xs.length ∧ Keep S S1 ∧ er k ∉ ers (xs.take i)) ?_ xs.length 0 _ _ ⟨by simp, .refl _, by simp [ers]⟩ ⟨rfl, rfl, by simp [vs_len], rfl, trivial⟩
  rintro m i S1 d ⟨hi, k1, hn⟩
  dsimp only at *
  conv => whnf
  refine br (fun h => ?_) (fun h => ?_)
  rotate_left
  · conv => whnf
    rw [List.take_of_length_le (by omega)] at hn
    exact ⟨k1, -1, rfl, by constructor; (intro h; omega); (intro h; exact absurd h hn)⟩
  have hlt : i < xs.length := by omega
  have g1 := vs_at hlt
  have hc := hcall i hlt S1 k1
  have e1 := ers_take hlt
  have hin : er xs[i] ∈ ers xs := by rw [ers_map]; exact List.mem_map.2 ⟨_, List.getElem_mem hlt, rfl⟩
  have hsb : sameB xs[i] k = true ↔ er xs[i] = er k := by unfold sameB; exact decide_eq_true_iff
  generalize sameB xs[i] k = sb at *
  generalize xs[i] = x at *
  obtain ⟨kind, n, neg, dg, ex, tx, fb, bs, fk, keys, fd, kids⟩ := x
  conv => whnf
  refine ⟨by omega, _, g1, rfl, ?_⟩
  conv => whnf
  refine CallQ.mono hc ?_
  rintro r S2 ⟨k2, rfl⟩
  cases sb
  · conv => whnf
    refine ⟨m - 1, i + 1, by omega, ⟨by omega, k1.trans k2, ?_⟩, ⟨rfl, rfl, rfl, ?_, trivial⟩⟩
    · rw [e1, List.mem_append, not_or]
      refine ⟨hn, ?_⟩
      simp only [List.mem_singleton]
      exact fun q => by have := hsb.2 q.symm; cases this
    · rw [wrap_i64 (by omega) (by omega)]; rfl
  · conv => whnf
    exact ⟨k1.trans k2, i, rfl, ⟨fun _ => by rw [← hsb.1 rfl]; exact hin, fun _ => by omega⟩⟩
open Classical in
theorem t51 (xs : List Nd) (tp : Tip) (k : Nd) (hx : Nd.Oks xs) (hk : k.Ok) (hl : xs.length ≤ 2 ^ 47) (q : Nat) (S : St) (hqn : q < S.next) (hq : S.cells q = some k.cs) :
    CallQ Tryd.prog TC 51 [.lst (Nd.vs xs) tp, .func (.func 52) [] [.ptr q 0]] S fun r S1 => Keep S S1 ∧ r = .bool (decide (er k ∈ ers xs)) := by
  refine CallQ.of rfl (by kernel_rfl : Tryd.prog.funcs[51]? = some Tryd.f51) rfl (by decide) ?_
  conv => whnf
  refine CallQ.mono (t57 xs tp k hx hk hl q S hqn hq) ?_
  rintro r S1 ⟨k1, j, rfl, hj⟩
  conv => whnf
  refine br (fun h => ?_) (fun h => ?_)
  · conv => whnf
    exact ⟨k1, by rw [decide_eq_true (hj.1 h)]; rfl⟩
  · conv => whnf
    exact ⟨k1, by rw [decide_eq_false (fun q => h (hj.2 q))]; rfl⟩
open Classical in
theorem und_nodes : Tryd.prog.underlying 24 = some (.slice 26) := by kernel_rfl
open Classical in
theorem sz_node : szA Tryd.prog 26 = some 9 := by kernel_rfl
open Classical in
theorem head_vs (xs : List Nd) : headOk 9 (Nd.vs xs) = true := by
  cases xs with
  | nil => rfl
  | cons x xs =>
    rw [Nd.vs]
    show decide (x.v.cells.length = 9) = true
    rw [v_cs]
    simp [AV.cells, cs_len]
open Classical in
theorem vs_take (xs : List Nd) (i : Nat) : (Nd.vs xs).take i = Nd.vs (xs.take i) := by rw [vs_map, vs_map, List.map_take]
open Classical in
theorem oks_take {xs : List Nd} (h : Nd.Oks xs) (i : Nat) : Nd.Oks (xs.take i) := oks_iff.2 fun x hx => oks_iff.1 h x (List.mem_of_mem_take hx)
open Classical in
theorem t39 (x : Nd) (hx : x.Ok) (S : St) : CallQ Tryd.prog TC 39 [x.v] S fun r S1 => Keep S S1 ∧ r = .bool (twinP (er x)) := by
  obtain ⟨kind, n, neg, dg, ex, tx, fb, bs, fk, keys, fd, kids⟩ := x
  obtain ⟨x1, x2, x3, x4, x5, x6, x7, x8⟩ := hx
  have yes : ¬ (ers keys).Nodup → AV.bool true = .bool (twinP (er (.mk kind n neg dg ex tx fb bs fk keys fd kids))) := fun h => by simp only [er, twinP]; rw [decide_eq_true h]
  have non : (ers keys).Nodup → AV.bool false = .bool (twinP (er (.mk kind n neg dg ex tx fb bs fk keys fd kids))) := fun h => by simp only [er, twinP]; rw [decide_eq_false (fun q => q h)]
  generalize twinP (er (.mk kind n neg dg ex tx fb bs fk keys fd kids)) = tw at *
  rcases fk with _ | tk
  · obtain rfl := x2 rfl
    refine CallQ.of rfl (by kernel_rfl : Tryd.prog.funcs[39]? = some Tryd.f39) rfl (by decide) ?_
    conv => whnf
    refine CodeQ.loop (fun (i : Nat) => pat 20 [(7, .int .i64 0), (8, .int .i64 0)]) (fun m i S1 => S1 = S) ?_ 0 0 _ _ rfl ⟨rfl, rfl, trivial⟩
    rintro m i S1 d rfl
    conv => whnf
    refine br (fun h => by exfalso; omega) (fun _ => ?_)
    conv => whnf
    exact ⟨.refl _, non (by simp [ers])⟩
  refine CallQ.of rfl (by kernel_rfl : Tryd.prog.funcs[39]? = some Tryd.f39) rfl (by decide) ?_
  conv => whnf
  refine CodeQ.loop (fun (i : Nat) => pat 20 [(1, .cptr (Nd.cs (.mk kind n neg dg ex tx fb bs (.lst tk) keys fd kids)) 0), (6, .lst (Nd.vs keys) tk), (7, .int .i64 keys.length), (8, .int .i64 i)])
    (fun m i S1 => i + m = keys.length ∧ Keep S S1 ∧ (ers (keys.take i)).Nodup) ?_ keys.length 0 _ _ ⟨by simp, .refl _, by simp [ers]⟩ ⟨rfl, rfl, by simp [vs_len], rfl, trivial⟩
  rintro m i S1 d ⟨hi, k1, hn⟩
  dsimp only at *
  unfold Nd.cs
  conv => whnf
  refine br (fun h => ?_) (fun h => ?_)
  rotate_left
  · conv => whnf
    rw [List.take_of_length_le (by omega)] at hn
    exact ⟨k1, non hn⟩
  have hlt : i < keys.length := by omega
  have g1 := vs_at hlt
  have e1 := ers_take hlt
  have hok := oks_iff.1 x7 _ (List.getElem_mem hlt)
  have hpre : ∃ t, ers keys = ers (keys.take (i + 1)) ++ t := ⟨ers (keys.drop (i + 1)), by rw [← ers_app, List.take_append_drop]⟩
  generalize keys[i] = y at *
  obtain ⟨Y, hY⟩ : ∃ Y, Y = y := ⟨_, rfl⟩
  rw [← hY] at e1 hok
  obtain ⟨kind', n', neg', dg', ex', tx', fb', bs', fk', keys', fd', kids'⟩ := y
  conv => whnf
  refine ⟨by omega, _, g1, rfl, ?_⟩
  conv => whnf
  refine ⟨_, _, cells_new _ _, store_agg rfl rfl (nd_leaf ..), ?_⟩
  conv => whnf
  generalize hS2 : (S1.new _).set S1.next _ = S2
  have k2 : Keep S1 S2 := by rw [← hS2]; exact ((Keep.refl S1).new _).set _ _ (Nat.le_refl _)
  have n2 : S2.next = S1.next + 1 := by rw [← hS2]; rfl
  have a2 : S2.cells S1.next = some Y.cs := by rw [← hS2, hY]; exact cells_set _ _ _
  clear hS2
  obtain ⟨tp, htp⟩ := slice_hi (P := Tryd.prog) und_nodes sz_node (Nd.vs keys) tk (head_vs keys) i (by rw [vs_len]; omega) .i64
  refine ⟨_, htp, ?_⟩
  conv => whnf
  rw [vs_take]
  refine CallQ.mono (t51 (keys.take i) tp Y (oks_take x7 i) hok (by rw [List.length_take]; omega) S1.next S2 (by omega) a2) ?_
  rintro r S3 ⟨k3, rfl⟩
  by_cases hm : er Y ∈ ers (keys.take i)
  · rw [decide_eq_true hm]
    conv => whnf
    refine ⟨(k1.trans k2).trans k3, yes ?_⟩
    obtain ⟨t, ht⟩ := hpre
    rw [ht, e1]
    intro hnd
    have := (List.nodup_append.1 (List.nodup_append.1 hnd).1).2.2 _ hm _ (List.mem_singleton.2 rfl)
    exact this rfl
  · rw [decide_eq_false hm]
    conv => whnf
    refine ⟨m - 1, i + 1, by omega, ⟨by omega, (k1.trans k2).trans k3, ?_⟩, ⟨rfl, rfl, rfl, ?_, trivial⟩⟩
    · rw [e1]
      refine List.nodup_append.2 ⟨hn, by simp, ?_⟩
      intro a ha b hb hab
      rw [List.mem_singleton.1 hb] at hab
      rw [hab] at ha
      exact hm ha
    · rw [wrap_i64 (by omega) (by omega)]; rfl
end Go.Proofs.YtmkmakokgfigoaaDoor
namespace Go.Proofs.YtmkmakokgfigoaaDoor
open Go.Proofs.YtmkmakokgfigoaaDoor.VM Go.RowKit
set_option maxRecDepth 100000
set_option linter.unusedVariables false
set_option linter.unusedSimpArgs false
set_option maxHeartbeats 4000000
theorem run_one (x : Pl) (s : Int × Bool) : runL [x] s = if aloneP x = 0 then ((0, s.2 || twinP x), true) else ((aloneP x, s.2), false) := by
  by_cases h : aloneP x = 0
  · rw [runL_ok h, if_pos h]; rfl
  · rw [runL_bad h, if_neg h]
theorem t37 (x : Nd) (d : Nat) (S : St) (ep bp : Nat) (s : Int × Bool) (hx : x.Ok) (hb : Sb (er x)) (hs : Lk ep bp s S) (hep : ep < S.next) (hbp : bp < S.next) (hne : ep ≠ bp) :
    CallQ Tryd.prog TC 37 [x.v, .int .i64 d, .ptr ep 0, .ptr bp 0] S fun r S1 => WR ep bp [er x] s S r S1 := by
  have hA := t38 x hx hb
  have hT := t39 x hx
  obtain ⟨e0, b0⟩ := s
  obtain ⟨h1, h2⟩ := hs
  have hr := run_one (er x) (e0, b0)
  unfold WR
  rw [hr]
  generalize aloneP (er x) = al at *
  generalize twinP (er x) = tw at *
  clear hr
  dsimp only at *
  obtain ⟨kind, n, neg, dg, ex, tx, fb, bs, fk, keys, fd, kids⟩ := x
  refine CallQ.of rfl (by kernel_rfl : Tryd.prog.funcs[37]? = some Tryd.f37) rfl (by decide) ?_
  conv => whnf
  refine CallQ.mono (hA S) ?_
  rintro r S1 ⟨k1, rfl⟩
  have a1 := (cells_keep k1 hep).trans h1
  have a2 := (cells_keep k1 hbp).trans h2
  have n1 := k1.next
  conv => whnf
  refine ⟨_, _, a1, if_pos ⟨rfl, rfl, Nat.le_of_ble_eq_true rfl⟩, ?_⟩
  conv => whnf
  have b2 : ∀ q, (S1.set ep q).cells bp = some [.bool b0] := fun q => cells_set_ne a2 (Ne.symm hne)
  refine ⟨_, b2 _, ?_⟩
  cases b0
  · conv => whnf
    refine ⟨_, cells_set _ _ _, ?_⟩
    conv => whnf
    refine brEq (fun h => ?_) (fun h => ?_)
    · subst h
      conv => whnf
      generalize hS2 : S1.set ep _ = S2
      have k2 : But ep bp S S2 := by rw [← hS2]; exact (But.of k1).setl _
      have c1 : S2.cells ep = some [.int .i64 0] := by rw [← hS2]; exact cells_set _ _ _
      have c2 : S2.cells bp = some [.bool false] := by rw [← hS2]; exact b2 _
      clear hS2
      refine CallQ.mono (hT S2) ?_
      rintro r S3 ⟨k3, rfl⟩
      have n2 := k2.next
      have d1 := (cells_keep k3 (show ep < S2.next by omega)).trans c1
      have d2 := (cells_keep k3 (show bp < S2.next by omega)).trans c2
      have g : ∀ q, But ep bp S (S3.set bp q) := fun q => (k2.trans (But.of k3)).setr _
      cases tw
      all_goals
        conv => whnf
        refine ⟨_, _, d2, if_pos ⟨rfl, rfl, Nat.le_of_ble_eq_true rfl⟩, ?_⟩
        conv => whnf
        refine ⟨_, cells_set_ne d1 hne, ?_⟩
        conv => whnf
        refine brEq (fun _ => ?_) (fun h => absurd rfl h)
        conv => whnf
        exact ⟨g _, ⟨cells_set_ne d1 hne, cells_set _ _ _⟩, rfl⟩
    · rw [if_neg h]
      conv => whnf
      have g : ∀ q q', But ep bp S ((S1.set ep q).set bp q') := fun q q' => ((But.of k1).setl _).setr _
      refine ⟨_, _, b2 _, if_pos ⟨rfl, rfl, Nat.le_of_ble_eq_true rfl⟩, ?_⟩
      conv => whnf
      have c1 : ∀ q' : Option Blk, ((S1.set ep (some (.cells [.int .i64 al]))).set bp q').cells ep = some [.int .i64 al] := fun q' => cells_set_ne (cells_set _ _ _) hne
      refine ⟨_, c1 _, ?_⟩
      conv => whnf
      refine brEq (fun q => absurd q h) (fun _ => ?_)
      conv => whnf
      exact ⟨g _ _, ⟨c1 _, cells_set _ _ _⟩, rfl⟩
  · conv => whnf
    have g : ∀ q q', But ep bp S ((S1.set ep q).set bp q') := fun q q' => ((But.of k1).setl _).setr _
    refine ⟨_, _, b2 _, if_pos ⟨rfl, rfl, Nat.le_of_ble_eq_true rfl⟩, ?_⟩
    conv => whnf
    have c1 : ∀ q' : Option Blk, ((S1.set ep (some (.cells [.int .i64 al]))).set bp q').cells ep = some [.int .i64 al] := fun q' => cells_set_ne (cells_set _ _ _) hne
    refine ⟨_, c1 _, ?_⟩
    conv => whnf
    refine brEq (fun h => ?_) (fun h => ?_)
    · subst h
      conv => whnf
      exact ⟨g _ _, ⟨c1 _, cells_set _ _ _⟩, rfl⟩
    · rw [if_neg h]
      conv => whnf
      exact ⟨g _ _, ⟨c1 _, cells_set _ _ _⟩, rfl⟩
theorem t22 (x : Nd) (hx : x.Ok) (hb : Sb (er x)) (S : St) : CallQ Tryd.prog TC 22 [x.v] S fun r S1 => Keep S S1 ∧ r = .int .i64 (chkP (er x)) := by
  have hM := t27 x hx S
  have hW := w36 t37 (cnt x) x hx hb (Nat.le_refl _)
  have hC : chkP (er x) = if 1024 < cnt x then 8 else if 24 < dep x then 7
    else if (runL (wl (er x)) (0, false)).1.1 = 0 ∧ (runL (wl (er x)) (0, false)).1.2 = true then 9 else (runL (wl (er x)) (0, false)).1.1 := by
    unfold chkP; rw [er_pcnt, er_pdep]
  rw [hC]
  clear hC
  have hs : szN x = if cnt x ≤ 1024 then cnt x else 1025 := rfl
  have hd : dpN x = if cnt x ≤ 1024 then dep x else 1025 := rfl
  generalize szN x = sz at *
  generalize dpN x = dp at *
  generalize cnt x = cn at *
  generalize dep x = de at *
  generalize wl (er x) = W at *
  obtain ⟨kind, n, neg, dg, ex, tx, fb, bs, fk, keys, fd, kids⟩ := x
  refine CallQ.of rfl (by kernel_rfl : Tryd.prog.funcs[22]? = some Tryd.f22) rfl (by decide) ?_
  conv => whnf
  refine CallQ.mono hM ?_
  rintro r S1 ⟨rfl, k1⟩
  unfold I
  conv => whnf
  refine br (fun h => ?_) (fun h => ?_)
  · conv => whnf
    rw [if_pos (by split at hs <;> omega)]
    exact ⟨k1, rfl⟩
  have hcn : cn ≤ 1024 := by split at hs <;> omega
  rw [if_pos hcn] at hs hd
  subst hs hd
  rw [if_neg (by omega)]
  conv => whnf
  refine br (fun h2 => ?_) (fun h2 => ?_)
  · conv => whnf
    rw [if_pos (by omega)]
    exact ⟨k1, rfl⟩
  rw [if_neg (by omega)]
  conv => whnf
  have hdn : ∀ b, (S1.new b).next = S1.next + 1 := fun _ => rfl
  rw [hdn]
  refine ⟨_, _, cells_new_ne (cells_new _ _) (by show S1.next ≠ S1.next + 1; omega), if_pos ⟨rfl, rfl, Nat.le_of_ble_eq_true rfl⟩, ?_⟩
  conv => whnf
  refine ⟨_, _, cells_set_ne (cells_new _ _) (by show S1.next + 1 ≠ S1.next; omega), if_pos ⟨rfl, rfl, Nat.le_of_ble_eq_true rfl⟩, ?_⟩
  conv => whnf
  generalize hS2 : St.set _ (S1.next + 1) _ = S2
  have k2 : Keep S1 S2 := by rw [← hS2]; exact ((((Keep.refl S1).new _).new _).set _ _ (Nat.le_refl _)).set _ _ (by omega)
  have n2 : S2.next = S1.next + 2 := by rw [← hS2]; rfl
  have c1 : S2.cells S1.next = some [.int .i64 0] := by rw [← hS2]; exact cells_set_ne (cells_set _ _ _) (by show S1.next ≠ S1.next + 1; omega)
  have c2 : S2.cells (S1.next + 1) = some [.bool false] := by rw [← hS2]; exact cells_set _ _ _
  clear hS2
  refine CallQ.mono (hW S2 S1.next (S1.next + 1) 1 (0, false) ⟨c1, c2⟩ (by omega) (by omega) (by omega) (by omega)) ?_
  rintro r S3 ⟨b3, ⟨d1, d2⟩, rfl⟩
  have k3 : Keep S S3 := ⟨by have := b3.next; have := k1.next; omega, fun j hj => by
    have := k1.next
    rw [b3.mem j (by omega) (by omega) (by omega), k2.mem j (by omega), k1.mem j hj]⟩
  generalize runL W (0, false) = R at *
  obtain ⟨⟨e, b⟩, go⟩ := R
  dsimp only at *
  conv => whnf
  refine ⟨_, d1, ?_⟩
  conv => whnf
  refine brEq (fun h3 => ?_) (fun h3 => ?_)
  · subst h3
    conv => whnf
    refine ⟨_, d2, ?_⟩
    cases b
    · conv => whnf
      refine ⟨_, d1, ?_⟩
      conv => whnf
      exact ⟨k3, rfl⟩
    · conv => whnf
      exact ⟨k3, rfl⟩
  · rw [if_neg (fun q => h3 q.1)]
    conv => whnf
    refine ⟨_, d1, ?_⟩
    conv => whnf
    exact ⟨k3, rfl⟩
end Go.Proofs.YtmkmakokgfigoaaDoor
namespace Go.Proofs.YtmkmakokgfigoaaDoor
open Go.Proofs.YtmkmakokgfigoaaDoor.VM Go.RowKit
set_option maxRecDepth 100000
set_option linter.unusedVariables false
set_option maxHeartbeats 1000000
def Good (l : List Pl) : Prop := ∀ x ∈ l, aloneP x = 0 ∧ twinP x = false
theorem run_good : ∀ (l : List Pl) (b : Bool), (runL l (0, b)).1.1 = 0 ∧ (runL l (0, b)).1.2 = false ↔ b = false ∧ Good l
  | [], b => ⟨fun h => ⟨h.2, fun _ h => (List.not_mem_nil h).elim⟩, fun h => ⟨rfl, h.1⟩⟩
  | x :: l, b => by
    by_cases h : aloneP x = 0
    · rw [runL_ok h, run_good l]
      constructor
      · rintro ⟨h1, h2⟩
        simp only [Bool.or_eq_false_iff] at h1
        exact ⟨h1.1, fun y hy => by rcases List.mem_cons.1 hy with rfl | hy; exact ⟨h, h1.2⟩; exact h2 y hy⟩
      · rintro ⟨h1, h2⟩
        exact ⟨by rw [h1, (h2 x (by simp)).2]; rfl, fun y hy => h2 y (by simp [hy])⟩
    · rw [runL_bad h]
      exact ⟨fun q => absurd q.1 h, fun q => absurd (q.2 x (by simp)).1 h⟩
theorem chk_good (x : Pl) : chkP x = 0 ↔ pcnt x ≤ 1024 ∧ pdep x ≤ 24 ∧ Good (wl x) := by
  have h := run_good (wl x) false
  unfold chkP
  by_cases h1 : 1024 < pcnt x
  · rw [if_pos h1]; constructor; (intro q; omega); (intro q; omega)
  rw [if_neg h1]
  by_cases h2 : 24 < pdep x
  · rw [if_pos h2]; constructor; (intro q; omega); (intro q; omega)
  rw [if_neg h2]
  by_cases h3 : (runL (wl x) (0, false)).1.1 = 0 ∧ (runL (wl x) (0, false)).1.2 = true
  · rw [if_pos h3]
    constructor
    · intro q; omega
    · rintro ⟨_, _, q⟩
      have := (h.2 ⟨rfl, q⟩).2
      rw [h3.2] at this; cases this
  · rw [if_neg h3]
    constructor
    · intro q
      refine ⟨by omega, by omega, (h.1 ⟨q, ?_⟩).2⟩
      cases hb : (runL (wl x) (0, false)).1.2 with
      | false => rfl
      | true => exact absurd ⟨q, hb⟩ h3
    · rintro ⟨_, _, q⟩
      exact (h.2 ⟨rfl, q⟩).1
theorem inter_left {α : Type} : ∀ (L M : List (List α)), L.length = M.length → ∀ l ∈ L, ∀ z ∈ l, z ∈ inter L M
  | a :: L, b :: M, h, l, hl, z, hz => by
    simp only [inter, List.mem_append]
    rcases List.mem_cons.1 hl with rfl | hl
    · exact .inl hz
    · exact .inr (.inr (inter_left L M (by simpa using h) l hl z hz))
  | [], _, _, l, hl, _, _ => (List.not_mem_nil hl).elim
theorem inter_right {α : Type} : ∀ (L M : List (List α)), L.length = M.length → ∀ l ∈ M, ∀ z ∈ l, z ∈ inter L M
  | a :: L, b :: M, h, l, hl, z, hz => by
    simp only [inter, List.mem_append]
    rcases List.mem_cons.1 hl with rfl | hl
    · exact .inr (.inl hz)
    · exact .inr (.inr (inter_right L M (by simpa using h) l hl z hz))
  | [], [], _, l, hl, _, _ => (List.not_mem_nil hl).elim
theorem wl_kid {x : Pl} {kind : Int} {n : Nat} {neg : Bool} {dg : List UInt8} {ex : Int} {tx bs : List UInt8} {keys kids : List Pl} (h : x ∈ keys ∨ x ∈ kids) : ∀ z ∈ wl x, z ∈ wl (.mk kind n neg dg ex tx bs keys kids) := by
  intro z hz
  simp only [wl]
  refine List.mem_cons_of_mem _ ?_
  split
  · rename_i hk
    have hl : (wls keys).length = (wls kids).length := by rw [wls_map, wls_map]; simpa using hk.2
    rcases h with h | h
    · exact inter_left _ _ hl (wl x) (by rw [wls_map]; exact List.mem_map.2 ⟨x, h, rfl⟩) z hz
    · exact inter_right _ _ hl (wl x) (by rw [wls_map]; exact List.mem_map.2 ⟨x, h, rfl⟩) z hz
  · rw [List.mem_append]
    rcases h with h | h
    · exact .inl (List.mem_flatten.2 ⟨wl x, by rw [wls_map]; exact List.mem_map.2 ⟨x, h, rfl⟩, hz⟩)
    · exact .inr (List.mem_flatten.2 ⟨wl x, by rw [wls_map]; exact List.mem_map.2 ⟨x, h, rfl⟩, hz⟩)
theorem dep_mem {xs : List Nd} {x : Nd} (h : x ∈ xs) : dep x ≤ deps xs := by
  induction xs with
  | nil => cases h
  | cons y xs ih =>
    rcases List.mem_cons.1 h with rfl | h
    · simp only [deps]; omega
    · have := ih h; simp only [deps]; omega
theorem step_dep {x y : Nd} {k : Int} (h : stepN x k = some y) : dep y ≤ dep x := by
  have hm := step_mem h
  obtain ⟨kind, n, neg, dg, ex, tx, fb, bs, fk, keys, fd, kids⟩ := x
  simp only [dep]
  rcases hm with hm | hm
  · have := dep_mem (xs := keys) hm; omega
  · have := dep_mem (xs := kids) hm; omega
theorem step_wl {x y : Nd} {k : Int} (h : stepN x k = some y) : ∀ z ∈ wl (er y), z ∈ wl (er x) := by
  have hm := step_mem h
  obtain ⟨kind, n, neg, dg, ex, tx, fb, bs, fk, keys, fd, kids⟩ := x
  simp only [er]
  refine wl_kid ?_
  rcases hm with hm | hm
  · exact .inl (by rw [ers_map]; exact List.mem_map.2 ⟨y, hm, rfl⟩)
  · exact .inr (by rw [ers_map]; exact List.mem_map.2 ⟨y, hm, rfl⟩)
theorem step_sb {x y : Nd} {k : Int} (hb : Sb (er x)) (h : stepN x k = some y) : Sb (er y) := by
  have hm := step_mem h
  obtain ⟨kind, n, neg, dg, ex, tx, fb, bs, fk, keys, fd, kids⟩ := x
  simp only [er, Sb, sbs_iff, ers_map] at hb
  rcases hm with hm | hm
  · exact hb.2.2.1 _ (List.mem_map.2 ⟨y, hm, rfl⟩)
  · exact hb.2.2.2 _ (List.mem_map.2 ⟨y, hm, rfl⟩)
theorem find_all : ∀ {ps : List Int} {x y : Nd}, Sb (er x) → findN x ps = some y → dep y ≤ dep x ∧ cnt y ≤ cnt x ∧ Sb (er y) ∧ ∀ z ∈ wl (er y), z ∈ wl (er x)
  | [], x, y, hb, h => by cases h; exact ⟨Nat.le_refl _, Nat.le_refl _, hb, fun _ h => h⟩
  | k :: ps, x, y, hb, h => by
    simp only [findN] at h
    obtain ⟨z, h1, h2⟩ := Option.bind_eq_some_iff.1 h
    obtain ⟨q1, q2, q3, q4⟩ := find_all (step_sb hb h1) h2
    have := step_dep h1
    have := step_cnt h1
    exact ⟨by omega, by omega, q3, fun w hw => step_wl h1 w (q4 w hw)⟩
/-- What stands in a tree that may be may be. -/
theorem chk_within {x y : Nd} {ps : List Int} (hb : Sb (er x)) (h : findN x ps = some y) (hc : chkP (er x) = 0) : chkP (er y) = 0 := by
  obtain ⟨h1, h2, h3, h4⟩ := find_all hb h
  rw [chk_good, er_pcnt, er_pdep] at *
  exact ⟨by omega, by omega, fun z hz => hc.2.2 z (h4 z hz)⟩
theorem t6 (x : Nd) (hx : x.Ok) (hb : Sb (er x)) (ps : List Int) (fp : Sl) (hf : fp = .nil → ps = []) (hp : PsOk ps) (hl : ps.length ≤ 2 ^ 62) (S : St) : CallQ Tryd.prog TC 6 [x.v, slV fp (ps.map pI)] S fun r S1 => r = .bool true := by
  have hA := t19 x hx ps fp hf hp hl
  have fin : ∀ S, CallQ Tryd.prog TC 18 [] S fun r S1 => S1 = S ∧ r = .bool true := t18
  have hC := t22 x hx hb
  have hSz := t14 x hx
  have hDp := t16 x hx
  -- what At found
  have key : ∀ z : Nd, ∀ y, findN x ps = some y → Cp y z → chkP (er x) = 0 → chkP (er z) = 0 ∧ szN z ≤ szN x ∧ dpN z ≤ dpN x ∧ z.Ok ∧ Sb (er z) := by
    intro z y hy hz hc
    obtain ⟨h1, h2, h3, h4⟩ := find_all hb hy
    have h5 := chk_within hb hy hc
    have hcx := (chk_good _).1 hc
    rw [er_pcnt, er_pdep] at hcx
    obtain ⟨c1, c2, c3⟩ := hz
    have e1 : cnt z = cnt y := cnt_er c1
    have e2 : dep z = dep y := by rw [← er_pdep, c1, er_pdep]
    refine ⟨by rw [c1]; exact h5, ?_, ?_, c2, by rw [c1]; exact h3⟩
    · unfold szN; rw [if_pos (by omega), if_pos (by omega)]; omega
    · unfold dpN; rw [if_pos (by omega), if_pos (by omega)]; omega
  have keyS : ∀ z : Nd, ∀ y, findN x ps = some y → Cp y z → z.Ok ∧ Sb (er z) := by
    intro z y hy hz
    obtain ⟨h1, h2, h3, h4⟩ := find_all hb hy
    exact ⟨hz.2.1, by rw [hz.1]; exact h3⟩
  have hAt : ∀ r, AtR x ps r → ∃ (z : Nd) (e : Int), r = .tuple [z.v, .int .i64 e] ∧ (e = 0 → ∃ y, findN x ps = some y ∧ Cp y z) := by
    rintro r (⟨h1, rfl⟩ | ⟨h1, h2, rfl⟩ | ⟨h1, y, z, h2, h3, rfl⟩)
    · exact ⟨zN, 8, rfl, fun h => by cases h⟩
    · exact ⟨zN, 19, rfl, fun h => by cases h⟩
    · exact ⟨z, 0, rfl, fun _ => ⟨y, h2, h3⟩⟩
  generalize chkP (er x) = cx at *
  generalize szN x = sx at *
  generalize dpN x = dx at *
  obtain ⟨X, hX⟩ : ∃ X, X = x := ⟨_, rfl⟩
  rw [← hX] at key keyS hAt
  obtain ⟨kind, n, neg, dg, ex, tx, fb, bs, fk, keys, fd, kids⟩ := x
  refine CallQ.of rfl (by kernel_rfl : Tryd.prog.funcs[6]? = some Tryd.f6) rfl (by decide) ?_
  conv => whnf
  rcases fp with _ | tp
  all_goals
    refine CallQ.mono (hA S) ?_
    rintro r S1 ⟨hr, k1⟩
    rw [← hX] at hr
    obtain ⟨z, e, rfl, hz⟩ := hAt r hr
    obtain ⟨Z, hZ⟩ : ∃ Z, Z = z := ⟨_, rfl⟩
    rw [← hZ] at hz
    obtain ⟨kind', n', neg', dg', ex', tx', fb', bs', fk', keys', fd', kids'⟩ := z
    conv => whnf
    refine ⟨_, _, cells_new _ _, store_agg rfl rfl (nd_leaf ..), ?_⟩
    conv => whnf
    generalize hS2 : (S1.new _).set S1.next _ = S2
    have a2 : S2.cells S1.next = some Z.cs := by rw [← hS2, hZ]; exact cells_set _ _ _
    have n2 : S2.next = S1.next + 1 := by rw [← hS2]; rfl
    rw [hZ] at a2
    clear hS2
    refine ⟨[0, 1, 2, 3, 4, 5, 6, 7, 8, 9, 10, 11, 12, 14, 13, 15, 16, 17, 18, 19, 21, 20, 22, 23, 24, 25, 26, 27, 28, 29], [(13, [14]), (20, [21])], by kernel_rfl, by kernel_rfl, by kernel_rfl, ?_⟩
    conv => whnf
    refine brNe (fun he => ?_) (fun he => ?_)
    · conv => whnf
      refine CallQ.mono (fin S2) ?_
      rintro r S3 ⟨rfl, rfl⟩
      conv => whnf
      rfl
    obtain ⟨y, hy, hcp⟩ := hz he
    conv => whnf
    refine CallQ.mono (hC S2) ?_
    rintro r S3 ⟨k3, rfl⟩
    have n3 := k3.next
    conv => whnf
    refine brNe (fun he2 => ?_) (fun he2 => ?_)
    · conv => whnf
      refine CallQ.mono (fin S3) ?_
      rintro r S4 ⟨rfl, rfl⟩
      conv => whnf
      rfl
    obtain ⟨z1, z2, z3, z4, z5⟩ := key Z y hy hcp he2
    have a3 := (cells_keep k3 (j := S1.next) (by omega)).trans a2
    have hCz := t22 Z z4 z5
    rw [z1] at hCz
    have hSzz := t14 Z z4
    have hDpz := t16 Z z4
    generalize szN Z = sz at *
    generalize dpN Z = dz at *
    rw [hZ] at hCz hSzz hDpz
    conv => whnf
    refine ⟨_, a3, ?_⟩
    conv => whnf
    refine CallQ.mono (hCz S3) ?_
    rintro r S4 ⟨k4, rfl⟩
    have n4 := k4.next
    have a4 := (cells_keep k4 (j := S1.next) (by omega)).trans a3
    conv => whnf
    refine brEq (fun _ => ?_) (fun h => absurd rfl h)
    conv => whnf
    refine ⟨_, a4, ?_⟩
    conv => whnf
    refine CallQ.mono (hSzz S4) ?_
    rintro r S5 ⟨rfl, k5⟩
    have n5 := k5.next
    have a5 := (cells_keep k5 (j := S1.next) (by omega)).trans a4
    conv => whnf
    refine ⟨⟨_, rfl, .inr ⟨_, _, _, rfl, rfl, rfl, rfl⟩⟩, ?_⟩
    conv => whnf
    refine CallQ.mono (hSz S5) ?_
    rintro r S6 ⟨rfl, k6⟩
    have n6 := k6.next
    have a6 := (cells_keep k6 (j := S1.next) (by omega)).trans a5
    unfold I
    conv => whnf
    refine br (fun _ => ?_) (fun h => absurd (show (sz : Int) ≤ sx by omega) h)
    conv => whnf
    refine ⟨_, a6, ?_⟩
    conv => whnf
    refine CallQ.mono (hDpz S6) ?_
    rintro r S7 ⟨rfl, k7⟩
    conv => whnf
    refine ⟨⟨_, rfl, .inr ⟨_, _, _, rfl, rfl, rfl, rfl⟩⟩, ?_⟩
    conv => whnf
    refine CallQ.mono (hDp S7) ?_
    rintro r S8 ⟨rfl, k8⟩
    unfold I
    conv => whnf
    refine br (fun _ => ?_) (fun h => absurd (show (dz : Int) ≤ dx by omega) h)
    conv => whnf
    refine CallQ.mono (fin S8) ?_
    rintro r S9 ⟨rfl, rfl⟩
    conv => whnf
    rfl
end Go.Proofs.YtmkmakokgfigoaaDoor
