import Derived.Test.YtmkmakokgfigoaaDoorVMO8
import Derived.Test.YtmkmakokgfigoaaDoorVMCut
namespace Go.Proofs.YtmkmakokgfigoaaDoor
open Go.Proofs.YtmkmakokgfigoaaDoor.VM
set_option maxRecDepth 100000
set_option linter.unusedVariables false

def lf (m c : Nat) : Int := if c ≤ m then ((m - c : Nat) : Int) else -1
theorem vs_len (xs : List Nd) : (Nd.vs xs).length = xs.length := by rw [vs_map, List.length_map]
theorem vs_at {xs : List Nd} {i : Nat} (h : i < xs.length) : (Nd.vs xs)[i]? = some xs[i].v := by rw [vs_map]; simp [h]
theorem cnts_len (xs : List Nd) : cnts (xs.take xs.length) = cnts xs := by rw [List.take_length]
theorem lf_neg {m c : Nat} (h : ¬ (0 : Int) ≤ lf m c) {c' : Nat} (h2 : c ≤ c') : lf m c = lf m c' := by
  unfold lf at *
  split at h
  · omega
  · rw [if_neg (by omega), if_neg (by omega)]
theorem lf_add {m c c' : Nat} (h : (0 : Int) ≤ lf m c) : ∃ k : Nat, lf m c = (k : Int) ∧ k ≤ m ∧ lf k c' = lf m (c + c') := by
  unfold lf at *
  split at h
  · refine ⟨m - c, by rw [if_pos (by assumption)], by omega, ?_⟩
    split
    · rw [if_pos (by omega)]; omega
    · rw [if_neg (by omega)]
  · omega

theorem t28 : ∀ (N : Nat) (x : Nd) (many : Nat), x.Ok → cnt x ≤ N → many ≤ 2 ^ 62 → ∀ S, CallQ Tryd.prog TC 28 [x.v, .int .i64 many] S fun r S1 => r = .int .i64 (lf many (cnt x)) ∧ Keep S S1
  | 0, x, _, _, h, _, _ => by have := cnt_pos x; omega
  | N + 1, x, many, hx, hN, hm, S => by
    have ih : ∀ xs : List Nd, cnts xs ≤ N → Nd.Oks xs → ∀ i (h : i < xs.length) (m : Nat), m ≤ 2 ^ 62 → ∀ S, CallQ Tryd.prog TC 28 [xs[i].v, .int .i64 m] S fun r S1 => r = .int .i64 (lf m (cnt xs[i])) ∧ Keep S S1 :=
      fun xs h1 h2 i h m hm S => t28 N xs[i] m (oks_iff.1 h2 _ (List.getElem_mem h)) (Nat.le_trans (cnt_mem (List.getElem_mem h)) h1) hm S
    obtain ⟨kind, n, neg, dg, ex, tx, fb, bs, fk, keys, fd, kids⟩ := x
    obtain ⟨x1, x2, x3, x4, x5, x6, x7, x8⟩ := hx
    simp only [cnt] at hN ⊢
    have ihk := ih keys (by omega) x7
    have ihd := ih kids (by omega) x8
    have e0 : IntKind.i64.wrap ((many : Int) - 1) = lf many (1 + cnts (keys.take 0)) := by
      rw [wrap_i64 (by omega) (by omega)]
      unfold lf
      simp only [List.take_zero, cnts]
      split <;> omega
    refine CallQ.of rfl (by kernel_rfl : Tryd.prog.funcs[28]? = some Tryd.f28) rfl (by decide) ?_
    conv => whnf
    refine CodeQ.loop (fun (i : Nat) => pat 46 [(1, .int .i64 (lf many (1 + cnts (keys.take i)))), (2, .cptr [.int .i64 kind, .int .u64 n, .bool neg, .str dg, .int .i64 ex, .str tx, slV fb (bs.map u8), slV fk (Nd.vs keys), slV fd (Nd.vs kids)] 0), (5, .int .i64 i)]) (fun m i S1 => Keep S S1 ∧ i + m = keys.length) ?_ keys.length 0 _ _ ⟨.refl _, by omega⟩ ⟨by rw [← e0], rfl, rfl, trivial⟩
    rintro m i S1 d ⟨k1, hi1⟩
    cases fk
    case' nil =>
      have h0 := x2 rfl
      conv => whnf
      intro c hc
      obtain rfl : c = false := by rw [hc]; exact decide_eq_false (by show ¬ ((i : Int) < 0); omega)
      conv => whnf
      have e1 : lf many (1 + cnts (keys.take i)) = lf many (1 + cnts keys) := by rw [h0]; simp
    case' lst t =>
      conv => whnf
      intro c hc
      cases c
      case' false =>
        conv => whnf
        have e1 : lf many (1 + cnts (keys.take i)) = lf many (1 + cnts keys) := by
          have : ¬ ((i : Int) < ((Nd.vs keys).length : Nat)) := by simpa using hc
          rw [vs_len] at this
          rw [List.take_of_length_le (by omega)]
      case' true =>
        have hc1 : i < keys.length := by
          have : (i : Int) < ((Nd.vs keys).length : Nat) := by simpa using hc
          rw [vs_len] at this; omega
        conv => whnf
        intro c hc2
        cases c
        case' false =>
          conv => whnf
          have e1 : lf many (1 + cnts (keys.take i)) = lf many (1 + cnts keys) := by
            have h := cnts_le keys i
            exact lf_neg (by simpa using hc2) (by omega)
        case' true =>
          have hc3 : (0 : Int) ≤ lf many (1 + cnts (keys.take i)) := by simpa using hc2
          obtain ⟨k, q1, q2, q3⟩ := lf_add (c' := cnt keys[i]) hc3
          rw [Nat.add_assoc, ← cnts_take keys i hc1] at q3
          have hcall := ihk i hc1 k (by omega) S1
          have g1 := vs_at hc1
          rw [q1]
          generalize keys[i] = x at *
          obtain ⟨kind', n', neg', dg', ex', tx', fb', bs', fk', keys', fd', kids'⟩ := x
          conv => whnf
          refine ⟨by omega, _, g1, rfl, ?_⟩
          conv => whnf
          refine CallQ.mono hcall ?_
          rintro r S12 ⟨rfl, kk⟩
          conv => whnf
          refine ⟨m - 1, i + 1, by omega, ⟨k1.trans kk, by omega⟩, ⟨by rw [q3], rfl, ?_, trivial⟩⟩
          rw [wrap_i64 (by omega) (by omega)]; try rfl
    all_goals
      refine CodeQ.loop (fun (i : Nat) => pat 46 [(1, .int .i64 (lf many (1 + cnts keys + cnts (kids.take i)))), (2, .cptr [.int .i64 kind, .int .u64 n, .bool neg, .str dg, .int .i64 ex, .str tx, slV fb (bs.map u8), _, slV fd (Nd.vs kids)] 0), (6, .int .i64 i)]) (fun m i S1 => Keep S S1 ∧ i + m = kids.length) ?_ kids.length 0 _ _ ⟨k1, by omega⟩ ⟨by rw [e1]; simp [cnts], rfl, rfl, trivial⟩
      rintro m i S3 d ⟨k3, hi3⟩
      cases fd
      case' nil =>
        have h0 := x3 rfl
        conv => whnf
        intro c hc
        obtain rfl : c = false := by rw [hc]; exact decide_eq_false (by show ¬ ((i : Int) < 0); omega)
        conv => whnf
        have e3 : lf many (1 + cnts keys + cnts (kids.take i)) = lf many (1 + cnts keys + cnts kids) := by rw [h0]; simp
      case' lst t =>
        conv => whnf
        intro c hc
        cases c
        case' false =>
          conv => whnf
          have e3 : lf many (1 + cnts keys + cnts (kids.take i)) = lf many (1 + cnts keys + cnts kids) := by
            have : ¬ ((i : Int) < ((Nd.vs kids).length : Nat)) := by simpa using hc
            rw [vs_len] at this
            rw [List.take_of_length_le (by omega)]
        case' true =>
          have hc1 : i < kids.length := by
            have : (i : Int) < ((Nd.vs kids).length : Nat) := by simpa using hc
            rw [vs_len] at this; omega
          conv => whnf
          intro c hc2
          cases c
          case' false =>
            conv => whnf
            have e3 : lf many (1 + cnts keys + cnts (kids.take i)) = lf many (1 + cnts keys + cnts kids) := by
              have h := cnts_le kids i
              exact lf_neg (by simpa using hc2) (by omega)
          case' true =>
            have hc3 : (0 : Int) ≤ lf many (1 + cnts keys + cnts (kids.take i)) := by simpa using hc2
            obtain ⟨k, q1, q2, q3⟩ := lf_add (c' := cnt kids[i]) hc3
            rw [Nat.add_assoc, ← cnts_take kids i hc1] at q3
            have hcall := ihd i hc1 k (by omega) S3
            have g1 := vs_at hc1
            rw [q1]
            generalize kids[i] = x at *
            obtain ⟨kind', n', neg', dg', ex', tx', fb', bs', fk', keys', fd', kids'⟩ := x
            conv => whnf
            refine ⟨by omega, _, g1, rfl, ?_⟩
            conv => whnf
            refine CallQ.mono hcall ?_
            rintro r S32 ⟨rfl, kk⟩
            conv => whnf
            refine ⟨m - 1, i + 1, by omega, ⟨k3.trans kk, by omega⟩, ⟨by rw [q3], rfl, ?_, trivial⟩⟩
            rw [wrap_i64 (by omega) (by omega)]; try rfl
      all_goals
        conv => whnf
        exact ⟨by rw [e3]; rfl, k3⟩

theorem t11 (x : Nd) (hx : x.Ok) (S : St) : CallQ Tryd.prog TC 11 [x.v] S fun r S1 => r = .bool (few x) ∧ Keep S S1 := by
  have t := t28 (cnt x) x 1024 hx (Nat.le_refl _) (by omega)
  have hf : few x = decide ((0 : Int) ≤ lf 1024 (cnt x)) := by
    unfold few lf
    rw [decide_eq_decide]
    split <;> omega
  obtain ⟨kind, n, neg, dg, ex, tx, fb, bs, fk, keys, fd, kids⟩ := x
  refine CallQ.of rfl (by kernel_rfl : Tryd.prog.funcs[11]? = some Tryd.f11) rfl (by decide) ?_
  conv => whnf
  refine CallQ.mono (t S) ?_
  rintro r S1 ⟨rfl, k⟩
  conv => whnf
  intro b hb
  conv => whnf
  refine ⟨?_, k⟩
  show AV.bool b = _
  rw [hb, hf]
theorem t15 (x : Nd) (hx : x.Ok) (S : St) : CallQ Tryd.prog TC 15 [x.v] S fun r S1 => r = I (szN x) ∧ Keep S S1 := by
  have t := t28 (cnt x) x 1024 hx (Nat.le_refl _) (by omega)
  have hs : IntKind.i64.wrap ((1024 : Int) - (if (-1 : Int) > lf 1024 (cnt x) then -1 else lf 1024 (cnt x))) = szN x := by
    unfold szN lf
    rw [wrap_i64]
    · split <;> split <;> omega
    · split <;> split <;> omega
    · split <;> split <;> omega
  obtain ⟨kind, n, neg, dg, ex, tx, fb, bs, fk, keys, fd, kids⟩ := x
  refine CallQ.of rfl (by kernel_rfl : Tryd.prog.funcs[15]? = some Tryd.f15) rfl (by decide) ?_
  conv => whnf
  refine CallQ.mono (t S) ?_
  rintro r S1 ⟨rfl, k⟩
  conv => whnf
  refine ⟨?_, k⟩
  show AV.int .i64 _ = AV.int .i64 _
  rw [hs]
end Go.Proofs.YtmkmakokgfigoaaDoor
namespace Go.Proofs.YtmkmakokgfigoaaDoor
open Go.Proofs.YtmkmakokgfigoaaDoor.VM
set_option maxRecDepth 100000
set_option linter.unusedVariables false

mutual
theorem dep_cnt : ∀ x : Nd, dep x ≤ cnt x
  | .mk _ _ _ _ _ _ _ _ _ keys _ kids => by
    have := deps_cnts keys
    have := deps_cnts kids
    simp only [dep, cnt]; omega
theorem deps_cnts : ∀ xs : List Nd, deps xs ≤ cnts xs
  | [] => Nat.le_refl _
  | x :: xs => by
    have := dep_cnt x
    have := deps_cnts xs
    simp only [deps, cnts]; omega
end
theorem deps_le (xs : List Nd) (i : Nat) : deps (xs.take i) ≤ cnts xs := Nat.le_trans (deps_cnts _) (cnts_le xs i)

theorem ite_max (a b : Nat) : (if (b : Int) > (a : Int) then (b : Int) else a) = ((max a b : Nat) : Int) := by split <;> omega

theorem t31 : ∀ (N : Nat) (x : Nd), x.Ok → cnt x ≤ N → N ≤ 2 ^ 60 → ∀ S, CallQ Tryd.prog TC 31 [x.v] S fun r S1 => r = .int .i64 (dep x : Nat) ∧ Keep S S1
  | 0, x, _, h, _, _ => by have := cnt_pos x; omega
  | N + 1, x, hx, hN, hm, S => by
    have ih : ∀ xs : List Nd, cnts xs ≤ N → Nd.Oks xs → ∀ i (h : i < xs.length), ∀ S, CallQ Tryd.prog TC 31 [xs[i].v] S fun r S1 => r = .int .i64 (dep xs[i] : Nat) ∧ Keep S S1 :=
      fun xs h1 h2 i h S => t31 N xs[i] (oks_iff.1 h2 _ (List.getElem_mem h)) (Nat.le_trans (cnt_mem (List.getElem_mem h)) h1) (by omega) S
    obtain ⟨kind, n, neg, dg, ex, tx, fb, bs, fk, keys, fd, kids⟩ := x
    obtain ⟨x1, x2, x3, x4, x5, x6, x7, x8⟩ := hx
    simp only [cnt] at hN
    have hdep : dep (.mk kind n neg dg ex tx fb bs fk keys fd kids) = max (deps keys) (deps kids) + 1 := by simp only [dep]; omega
    have hlim : max (deps keys) (deps kids) ≤ 2 ^ 60 := by have := deps_cnts keys; have := deps_cnts kids; omega
    have ihk := ih keys (by omega) x7
    have ihd := ih kids (by omega) x8
    refine CallQ.of rfl (by kernel_rfl : Tryd.prog.funcs[31]? = some Tryd.f31) rfl (by decide) ?_
    conv => whnf
    refine CodeQ.loop (fun (i : Nat) => pat 38 [(1, .cptr [.int .i64 kind, .int .u64 n, .bool neg, .str dg, .int .i64 ex, .str tx, slV fb (bs.map u8), slV fk (Nd.vs keys), slV fd (Nd.vs kids)] 0), (3, .int .i64 (deps (keys.take i) : Nat)), (4, .int .i64 i)]) (fun m i S1 => Keep S S1 ∧ i + m = keys.length) ?_ keys.length 0 _ _ ⟨.refl _, by omega⟩ ⟨rfl, rfl, rfl, trivial⟩
    rintro m i S1 d ⟨k1, hi1⟩
    cases fk
    case' nil =>
      have h0 := x2 rfl
      conv => whnf
      intro c hc
      obtain rfl : c = false := by rw [hc]; exact decide_eq_false (by show ¬ ((i : Int) < 0); omega)
      conv => whnf
      have e1 : deps (keys.take i) = deps keys := by rw [h0]; simp
    case' lst t =>
      conv => whnf
      intro c hc
      cases c
      case' false =>
        conv => whnf
        have e1 : deps (keys.take i) = deps keys := by
          have : ¬ ((i : Int) < ((Nd.vs keys).length : Nat)) := by simpa using hc
          rw [vs_len] at this
          rw [List.take_of_length_le (by omega)]
      case' true =>
        have hc1 : i < keys.length := by
          have : (i : Int) < ((Nd.vs keys).length : Nat) := by simpa using hc
          rw [vs_len] at this; omega
        have hcall := ihk i hc1 S1
        have g1 := vs_at hc1
        have g2 := deps_take keys i hc1
        conv => whnf
        generalize keys[i] = x at *
        obtain ⟨kind', n', neg', dg', ex', tx', fb', bs', fk', keys', fd', kids'⟩ := x
        refine ⟨by omega, _, g1, rfl, ?_⟩
        conv => whnf
        refine CallQ.mono hcall ?_
        rintro r S12 ⟨rfl, kk⟩
        conv => whnf
        refine ⟨m - 1, i + 1, by omega, ⟨k1.trans kk, by omega⟩, ⟨rfl, ?_, ?_, trivial⟩⟩
        · rw [g2]
          refine congrArg (AV.int IntKind.i64) ?_
          exact (ite_max _ _).trans (by omega)
        · rw [wrap_i64 (by omega) (by omega)]; try rfl
    all_goals
      refine CodeQ.loop (fun (i : Nat) => pat 38 [(1, .cptr [.int .i64 kind, .int .u64 n, .bool neg, .str dg, .int .i64 ex, .str tx, slV fb (bs.map u8), _, slV fd (Nd.vs kids)] 0), (3, .int .i64 (max (deps keys) (deps (kids.take i)) : Nat)), (5, .int .i64 i)]) (fun m i S1 => Keep S S1 ∧ i + m = kids.length) ?_ kids.length 0 _ _ ⟨k1, by omega⟩ ⟨rfl, by rw [e1]; simp [deps], rfl, trivial⟩
      rintro m i S3 d ⟨k3, hi3⟩
      cases fd
      case' nil =>
        have h0 := x3 rfl
        conv => whnf
        intro c hc
        obtain rfl : c = false := by rw [hc]; exact decide_eq_false (by show ¬ ((i : Int) < 0); omega)
        conv => whnf
        have e3 : max (deps keys) (deps (kids.take i)) = max (deps keys) (deps kids) := by rw [h0]; simp
      case' lst t =>
        conv => whnf
        intro c hc
        cases c
        case' false =>
          conv => whnf
          have e3 : max (deps keys) (deps (kids.take i)) = max (deps keys) (deps kids) := by
            have : ¬ ((i : Int) < ((Nd.vs kids).length : Nat)) := by simpa using hc
            rw [vs_len] at this
            rw [List.take_of_length_le (by omega)]
        case' true =>
          have hc1 : i < kids.length := by
            have : (i : Int) < ((Nd.vs kids).length : Nat) := by simpa using hc
            rw [vs_len] at this; omega
          have hcall := ihd i hc1 S3
          have g1 := vs_at hc1
          have g2 := deps_take kids i hc1
          conv => whnf
          generalize kids[i] = x at *
          obtain ⟨kind', n', neg', dg', ex', tx', fb', bs', fk', keys', fd', kids'⟩ := x
          refine ⟨by omega, _, g1, rfl, ?_⟩
          conv => whnf
          refine CallQ.mono hcall ?_
          rintro r S32 ⟨rfl, kk⟩
          conv => whnf
          refine ⟨m - 1, i + 1, by omega, ⟨k3.trans kk, by omega⟩, ⟨rfl, ?_, ?_, trivial⟩⟩
          · rw [g2]
            refine congrArg (AV.int IntKind.i64) ?_
            exact (ite_max _ _).trans (by omega)
          · rw [wrap_i64 (by omega) (by omega)]; try rfl
      all_goals
        conv => whnf
        refine ⟨?_, k3⟩
        show AV.int .i64 _ = AV.int .i64 _
        rw [e3, wrap_i64 (by omega) (by omega), hdep]
        rfl

theorem t17 (x : Nd) (hx : x.Ok) (S : St) : CallQ Tryd.prog TC 17 [x.v] S fun r S1 => r = I (dpN x) ∧ Keep S S1 := by
  have t1 := t11 x hx
  have t2 : cnt x ≤ 1024 → ∀ S, CallQ Tryd.prog TC 31 [x.v] S fun r S1 => r = .int .i64 (dep x : Nat) ∧ Keep S S1 := fun h => t31 1024 x hx h (by omega)
  have hd : dpN x = if few x = true then dep x else 1025 := by unfold dpN few; simp
  have hf : few x = true → cnt x ≤ 1024 := by unfold few; simp
  generalize few x = fx at *
  obtain ⟨kind, n, neg, dg, ex, tx, fb, bs, fk, keys, fd, kids⟩ := x
  refine CallQ.of rfl (by kernel_rfl : Tryd.prog.funcs[17]? = some Tryd.f17) rfl (by decide) ?_
  conv => whnf
  refine CallQ.mono (t1 S) ?_
  rintro r S1 ⟨rfl, k⟩
  cases fx
  · conv => whnf
    exact ⟨by rw [hd]; rfl, k⟩
  conv => whnf
  refine CallQ.mono (t2 (hf rfl) S1) ?_
  rintro r S2 ⟨rfl, k2⟩
  conv => whnf
  exact ⟨by rw [hd, if_pos rfl]; rfl, k.trans k2⟩
end Go.Proofs.YtmkmakokgfigoaaDoor
namespace Go.Proofs.YtmkmakokgfigoaaDoor
open Go.Proofs.YtmkmakokgfigoaaDoor.VM
set_option maxRecDepth 100000
set_option linter.unusedVariables false
set_option maxHeartbeats 2000000

theorem conv_ub (S : St) (bs : List UInt8) (t : Tip) : convertA Tryd.prog S 23 9 (.lst (bs.map u8) t) = some (.str bs) := by
  have h : convertA Tryd.prog S 23 9 (.lst (bs.map u8) t) = (bytesOfA (bs.map u8)).map .str := rfl
  rw [h, bytesOfA_u8]; rfl
theorem ers_take {xs : List Nd} {i : Nat} (h : i < xs.length) : ers (xs.take (i + 1)) = ers (xs.take i) ++ [er xs[i]] := by
  rw [ers_map, ers_map, List.take_succ_eq_append_getElem h, List.map_append]; rfl
theorem ers_at {xs ys : List Nd} {i : Nat} (h1 : i < xs.length) (h2 : i < ys.length) (h : er xs[i] ≠ er ys[i]) : ers xs ≠ ers ys := fun e => by
  rw [ers_map, ers_map] at e
  have := congrArg (fun l => l[i]?) e
  simp [h1, h2] at this
  exact h this
theorem ers_len {xs ys : List Nd} (h : ers xs = ers ys) : xs.length = ys.length := by
  rw [ers_map, ers_map] at h; simpa using congrArg List.length h

open Classical in
theorem t30_step (N : Nat) (H : ∀ x y : Nd, x.Ok → y.Ok → cnt x ≤ N → ∀ S, CallQ Tryd.prog TC 30 [x.v, y.v] S fun r S1 => r = .bool (sameB x y) ∧ Keep S S1) (x y : Nd) (hx : x.Ok) (hy : y.Ok) (hN : cnt x ≤ N + 1) (S : St) : CallQ Tryd.prog TC 30 [x.v, y.v] S fun r S1 => r = .bool (sameB x y) ∧ Keep S S1 := by
    have ih : ∀ (xs ys : List Nd), cnts xs ≤ N → Nd.Oks xs → Nd.Oks ys → ∀ i (h1 : i < xs.length) (h2 : i < ys.length), ∀ S, CallQ Tryd.prog TC 30 [xs[i].v, ys[i].v] S fun r S1 => r = .bool (sameB xs[i] ys[i]) ∧ Keep S S1 :=
      fun xs ys h h1 h2 i q1 q2 S => H _ _ (oks_iff.1 h1 _ (List.getElem_mem q1)) (oks_iff.1 h2 _ (List.getElem_mem q2)) (Nat.le_trans (cnt_mem (List.getElem_mem q1)) h) S
    have fls : er x ≠ er y → AV.bool false = .bool (sameB x y) := fun h => by rw [sameB, decide_eq_false h]
    have tru : er x = er y → AV.bool true = .bool (sameB x y) := fun h => by rw [sameB, decide_eq_true h]
    obtain ⟨kind, n, neg, dg, ex, tx, fb, bs, fk, keys, fd, kids⟩ := x
    obtain ⟨kind', n', neg', dg', ex', tx', fb', bs', fk', keys', fd', kids'⟩ := y
    obtain ⟨x1, x2, x3, x4, x5, x6, x7, x8⟩ := hx
    obtain ⟨y1, y2, y3, y4, y5, y6, y7, y8⟩ := hy
    simp only [cnt] at hN
    simp only [er, ne_eq, Pl.mk.injEq] at fls tru
    have ihk := ih keys keys' (by omega) x7 y7
    have ihd := ih kids kids' (by omega) x8 y8
    refine CallQ.ofQ rfl (by kernel_rfl : Tryd.prog.funcs[30]? = some Tryd.f30) rfl (by decide) ?_
    refine CodeQ.seq (CodeQ.wp ?_)
    conv => whnf
    refine CodeQ.cut (fun (u : Unit) => pat 112 [(2, .cptr [.int .i64 kind, .int .u64 n, .bool neg, .str dg, .int .i64 ex, .str tx, slV fb (bs.map u8), slV fk (Nd.vs keys), slV fd (Nd.vs kids)] 0), (3, .cptr [.int .i64 kind', .int .u64 n', .bool neg', .str dg', .int .i64 ex', .str tx', slV fb' (bs'.map u8), slV fk' (Nd.vs keys'), slV fd' (Nd.vs kids')] 0)]) (fun _ S1 => S1 = S ∧ (kind = kind' ∧ n = n' ∧ neg = neg' ∧ dg = dg' ∧ ex = ex' ∧ tx = tx' ∧ bs = bs' ∧ keys.length = keys'.length ∧ kids.length = kids'.length)) (CodeQ.wp ?_) ?_
    · clear ihk ihd ih tru
      conv => whnf
      intro c1 hc1
      cases c1
      rotate_left
      · conv => whnf
        exact ⟨fls (fun e => by simp [e] at hc1), .refl _⟩
      conv => whnf
      intro c2 hc2
      cases c2
      rotate_left
      · conv => whnf
        exact ⟨fls (fun e => by simp [e] at hc2), .refl _⟩
      conv => whnf
      intro c3 hc3
      cases c3
      rotate_left
      · conv => whnf
        exact ⟨fls (fun e => by simp [e] at hc3), .refl _⟩
      conv => whnf
      intro c4 hc4
      cases c4
      rotate_left
      · conv => whnf
        exact ⟨fls (fun e => by simp [e] at hc4), .refl _⟩
      conv => whnf
      intro c5 hc5
      cases c5
      rotate_left
      · conv => whnf
        exact ⟨fls (fun e => by simp [e] at hc5), .refl _⟩
      conv => whnf
      intro c6 hc6
      cases c6
      rotate_left
      · conv => whnf
        exact ⟨fls (fun e => by simp [e] at hc6), .refl _⟩
      have a6 : kind = kind' ∧ n = n' ∧ neg = neg' ∧ dg = dg' ∧ ex = ex' ∧ tx = tx' := by
        simp at hc1 hc2 hc3 hc4 hc5 hc6
        exact ⟨hc1, by omega, hc3, hc4, hc5, hc6⟩
      obtain ⟨a1, a2, a3, a4, a5, a6⟩ := a6
      clear hc1 hc2 hc3 hc4 hc5 hc6
      have fls7 : bs ≠ bs' → AV.bool false = .bool (sameB (.mk kind n neg dg ex tx fb bs fk keys fd kids) (.mk kind' n' neg' dg' ex' tx' fb' bs' fk' keys' fd' kids')) := fun h => fls (fun e => h e.2.2.2.2.2.2.1)
      have fls8 : keys.length ≠ keys'.length → AV.bool false = .bool (sameB (.mk kind n neg dg ex tx fb bs fk keys fd kids) (.mk kind' n' neg' dg' ex' tx' fb' bs' fk' keys' fd' kids')) := fun h => fls (fun e => h (ers_len e.2.2.2.2.2.2.2.1))
      have fls9 : kids.length ≠ kids'.length → AV.bool false = .bool (sameB (.mk kind n neg dg ex tx fb bs fk keys fd kids) (.mk kind' n' neg' dg' ex' tx' fb' bs' fk' keys' fd' kids')) := fun h => fls (fun e => h (ers_len e.2.2.2.2.2.2.2.2))
      clear fls
      cases fb <;> cases fb'
      all_goals conv => whnf
      all_goals try (refine ⟨.str bs, conv_ub _ _ _, ?_⟩; conv => whnf)
      all_goals try (refine ⟨.str bs', conv_ub _ _ _, ?_⟩; conv => whnf)
      all_goals
        intro c7 hc7
        have b7 : c7 = true ↔ bs ≠ bs' := by rw [hc7]; simp [x1, y1]
        clear hc7
        cases c7
        case' true =>
          conv => whnf
          exact ⟨fls7 (b7.1 rfl), .refl _⟩
        case' false =>
          have a7 : bs = bs' := by simpa using b7
          clear b7 fls7
          cases fk <;> cases fk'
        all_goals
          conv => whnf
          intro c8 hc8
          have b8 : c8 = true ↔ keys.length ≠ keys'.length := by rw [hc8]; simp [x2, y2, vs_len]; try omega
          clear hc8
          cases c8
          case' true =>
            conv => whnf
            exact ⟨fls8 (b8.1 rfl), .refl _⟩
          case' false =>
            have a8 : keys.length = keys'.length := by simpa using b8
            clear b8 fls8
            cases fd <;> cases fd'
          all_goals
            conv => whnf
            intro c9 hc9
            have b9 : c9 = true ↔ kids.length ≠ kids'.length := by rw [hc9]; simp [x3, y3, vs_len]; try omega
            clear hc9
            cases c9
            case' true =>
              conv => whnf
              exact ⟨fls9 (b9.1 rfl), .refl _⟩
            case' false =>
              have a9 : kids.length = kids'.length := by simpa using b9
              clear b9 fls9
              conv => whnf
              exact ⟨(), ⟨rfl, a1, a2, a3, a4, a5, a6, a7, a8, a9⟩, rfl, rfl, trivial⟩
    · rintro ⟨⟩ d S1 ⟨rfl, a1, a2, a3, a4, a5, a6, a7, a8, a9⟩
      refine CodeQ.cut (fun (u : Unit) => pat 112 [(2, .cptr [.int .i64 kind, .int .u64 n, .bool neg, .str dg, .int .i64 ex, .str tx, slV fb (bs.map u8), slV fk (Nd.vs keys), slV fd (Nd.vs kids)] 0), (3, .cptr [.int .i64 kind', .int .u64 n', .bool neg', .str dg', .int .i64 ex', .str tx', slV fb' (bs'.map u8), slV fk' (Nd.vs keys'), slV fd' (Nd.vs kids')] 0)]) (fun _ S2 => Keep S1 S2 ∧ ers keys = ers keys') (CodeQ.wp ?_) ?_
      · conv => whnf
        refine CodeQ.loop (fun (i : Nat) => pat 112 [(2, .cptr [.int .i64 kind, .int .u64 n, .bool neg, .str dg, .int .i64 ex, .str tx, slV fb (bs.map u8), slV fk (Nd.vs keys), slV fd (Nd.vs kids)] 0), (3, .cptr [.int .i64 kind', .int .u64 n', .bool neg', .str dg', .int .i64 ex', .str tx', slV fb' (bs'.map u8), slV fk' (Nd.vs keys'), slV fd' (Nd.vs kids')] 0), (5, .int .i64 i)]) (fun m i S3 => Keep S1 S3 ∧ i + m = keys.length ∧ ers (keys.take i) = ers (keys'.take i)) ?_ keys.length 0 _ _ ⟨.refl _, by omega, by simp⟩ ⟨rfl, rfl, rfl, trivial⟩
        rintro m i S3 d ⟨k3, hi, he⟩
        by_cases hlt : i < keys.length
        · have hlt' : i < keys'.length := by omega
          have hcall := ihk i hlt hlt' S3
          have g1 := vs_at hlt
          have g2 := vs_at hlt'
          have e1 := ers_take hlt
          have e2 := ers_take hlt'
          have e3 := ers_at hlt hlt'
          cases fk with
          | nil => rw [x2 rfl] at hlt; simp at hlt
          | lst t =>
          cases fk' with
          | nil => rw [y2 rfl] at hlt'; simp at hlt'
          | lst t' =>
          conv => whnf
          intro c hc
          obtain rfl : c = true := by rw [hc]; exact decide_eq_true (by rw [vs_len]; omega)
          conv => whnf
          generalize keys[i] = x at *
          generalize keys'[i] = y at *
          obtain ⟨kind1, n1, neg1, dg1, ex1, tx1, fb1, bs1, fk1, keys1, fd1, kids1⟩ := x
          obtain ⟨kind2, n2, neg2, dg2, ex2, tx2, fb2, bs2, fk2, keys2, fd2, kids2⟩ := y
          refine ⟨[0, 1, 2, 3, 4, 5, 6, 7, 8, 9, 10, 11], [], by kernel_rfl, by kernel_rfl, by kernel_rfl, ?_⟩
          conv => whnf
          refine ⟨by omega, _, g1, rfl, ?_⟩
          conv => whnf
          refine ⟨by omega, _, g2, rfl, ?_⟩
          conv => whnf
          refine CallQ.mono hcall ?_
          rintro r S4 ⟨rfl, k4⟩
          by_cases hs : er (.mk kind1 n1 neg1 dg1 ex1 tx1 fb1 bs1 fk1 keys1 fd1 kids1) = er (.mk kind2 n2 neg2 dg2 ex2 tx2 fb2 bs2 fk2 keys2 fd2 kids2)
          · rw [show sameB (.mk kind1 n1 neg1 dg1 ex1 tx1 fb1 bs1 fk1 keys1 fd1 kids1) (.mk kind2 n2 neg2 dg2 ex2 tx2 fb2 bs2 fk2 keys2 fd2 kids2) = true by rw [sameB, decide_eq_true hs]]
            conv => whnf
            refine ⟨m - 1, i + 1, by omega, ⟨k3.trans k4, by omega, by rw [e1, e2, he, hs]⟩, ⟨rfl, rfl, ?_, trivial⟩⟩
            rw [wrap_i64 (by omega) (by omega)]; try rfl
          · rw [show sameB (.mk kind1 n1 neg1 dg1 ex1 tx1 fb1 bs1 fk1 keys1 fd1 kids1) (.mk kind2 n2 neg2 dg2 ex2 tx2 fb2 bs2 fk2 keys2 fd2 kids2) = false by rw [sameB, decide_eq_false hs]]
            conv => whnf
            exact ⟨fls (fun e => e3 hs e.2.2.2.2.2.2.2.1), k3.trans k4⟩
        · cases fk
          all_goals
            conv => whnf
            intro c hc
            obtain rfl : c = false := by rw [hc]; first | exact decide_eq_false (by rw [vs_len]; omega) | exact decide_eq_false (by omega)
            conv => whnf
            refine ⟨(), ⟨k3, ?_⟩, rfl, rfl, trivial⟩
            rwa [List.take_of_length_le (by omega), List.take_of_length_le (by omega)] at he
      · rintro ⟨⟩ d S2 ⟨k1, a10⟩
        refine CodeQ.cut (fun (u : Unit) => pat 112 [(2, .cptr [.int .i64 kind, .int .u64 n, .bool neg, .str dg, .int .i64 ex, .str tx, slV fb (bs.map u8), slV fk (Nd.vs keys), slV fd (Nd.vs kids)] 0), (3, .cptr [.int .i64 kind', .int .u64 n', .bool neg', .str dg', .int .i64 ex', .str tx', slV fb' (bs'.map u8), slV fk' (Nd.vs keys'), slV fd' (Nd.vs kids')] 0)]) (fun _ S2 => Keep S1 S2 ∧ ers kids = ers kids') (CodeQ.wp ?_) ?_
        · conv => whnf
          refine CodeQ.loop (fun (i : Nat) => pat 112 [(2, .cptr [.int .i64 kind, .int .u64 n, .bool neg, .str dg, .int .i64 ex, .str tx, slV fb (bs.map u8), slV fk (Nd.vs keys), slV fd (Nd.vs kids)] 0), (3, .cptr [.int .i64 kind', .int .u64 n', .bool neg', .str dg', .int .i64 ex', .str tx', slV fb' (bs'.map u8), slV fk' (Nd.vs keys'), slV fd' (Nd.vs kids')] 0), (6, .int .i64 i)]) (fun m i S3 => Keep S1 S3 ∧ i + m = kids.length ∧ ers (kids.take i) = ers (kids'.take i)) ?_ kids.length 0 _ _ ⟨k1, by omega, by simp⟩ ⟨rfl, rfl, rfl, trivial⟩
          rintro m i S3 d ⟨k3, hi, he⟩
          by_cases hlt : i < kids.length
          · have hlt' : i < kids'.length := by omega
            have hcall := ihd i hlt hlt' S3
            have g1 := vs_at hlt
            have g2 := vs_at hlt'
            have e1 := ers_take hlt
            have e2 := ers_take hlt'
            have e3 := ers_at hlt hlt'
            cases fd with
            | nil => rw [x3 rfl] at hlt; simp at hlt
            | lst t =>
            cases fd' with
            | nil => rw [y3 rfl] at hlt'; simp at hlt'
            | lst t' =>
            conv => whnf
            intro c hc
            obtain rfl : c = true := by rw [hc]; exact decide_eq_true (by rw [vs_len]; omega)
            conv => whnf
            generalize kids[i] = x at *
            generalize kids'[i] = y at *
            obtain ⟨kind1, n1, neg1, dg1, ex1, tx1, fb1, bs1, fk1, keys1, fd1, kids1⟩ := x
            obtain ⟨kind2, n2, neg2, dg2, ex2, tx2, fb2, bs2, fk2, keys2, fd2, kids2⟩ := y
            refine ⟨[0, 1, 2, 3, 4, 5, 6, 7, 8, 9, 10, 11], [], by kernel_rfl, by kernel_rfl, by kernel_rfl, ?_⟩
            conv => whnf
            refine ⟨by omega, _, g1, rfl, ?_⟩
            conv => whnf
            refine ⟨by omega, _, g2, rfl, ?_⟩
            conv => whnf
            refine CallQ.mono hcall ?_
            rintro r S4 ⟨rfl, k4⟩
            by_cases hs : er (.mk kind1 n1 neg1 dg1 ex1 tx1 fb1 bs1 fk1 keys1 fd1 kids1) = er (.mk kind2 n2 neg2 dg2 ex2 tx2 fb2 bs2 fk2 keys2 fd2 kids2)
            · rw [show sameB (.mk kind1 n1 neg1 dg1 ex1 tx1 fb1 bs1 fk1 keys1 fd1 kids1) (.mk kind2 n2 neg2 dg2 ex2 tx2 fb2 bs2 fk2 keys2 fd2 kids2) = true by rw [sameB, decide_eq_true hs]]
              conv => whnf
              refine ⟨m - 1, i + 1, by omega, ⟨k3.trans k4, by omega, by rw [e1, e2, he, hs]⟩, ⟨rfl, rfl, ?_, trivial⟩⟩
              rw [wrap_i64 (by omega) (by omega)]; try rfl
            · rw [show sameB (.mk kind1 n1 neg1 dg1 ex1 tx1 fb1 bs1 fk1 keys1 fd1 kids1) (.mk kind2 n2 neg2 dg2 ex2 tx2 fb2 bs2 fk2 keys2 fd2 kids2) = false by rw [sameB, decide_eq_false hs]]
              conv => whnf
              exact ⟨fls (fun e => e3 hs e.2.2.2.2.2.2.2.2), k3.trans k4⟩
          · cases fd
            all_goals
              conv => whnf
              intro c hc
              obtain rfl : c = false := by rw [hc]; first | exact decide_eq_false (by rw [vs_len]; omega) | exact decide_eq_false (by omega)
              conv => whnf
              refine ⟨(), ⟨k3, ?_⟩, rfl, rfl, trivial⟩
              rwa [List.take_of_length_le (by omega), List.take_of_length_le (by omega)] at he
        · rintro ⟨⟩ d S3 ⟨k3, a11⟩
          refine CodeQ.wp ?_
          conv => whnf
          exact ⟨tru ⟨a1, a2, a3, a4, a5, a6, a7, a10, a11⟩, k3⟩
theorem t30 : ∀ (N : Nat) (x y : Nd), x.Ok → y.Ok → cnt x ≤ N → ∀ S, CallQ Tryd.prog TC 30 [x.v, y.v] S fun r S1 => r = .bool (sameB x y) ∧ Keep S S1
  | 0, x, y, _, _, h, _ => by have := cnt_pos x; omega
  | N + 1, x, y, hx, hy, hN, S => t30_step N (t30 N) x y hx hy hN S
theorem t13 (x y : Nd) (hx : x.Ok) (hy : y.Ok) (S : St) : CallQ Tryd.prog TC 13 [x.v, y.v] S fun r S1 => r = .bool (SameB x y) ∧ Keep S S1 := by
  have t1 := t11 x hx
  have t2 := t11 y hy
  have t3 := t30 (cnt x) x y hx hy (Nat.le_refl _)
  have ht : SameB x y = (few x && few y && sameB x y) := rfl
  generalize SameB x y = sb at *
  generalize few x = fx at *
  generalize few y = fy at *
  generalize sameB x y = sm at *
  obtain ⟨kind, n, neg, dg, ex, tx, fb, bs, fk, keys, fd, kids⟩ := x
  obtain ⟨kind', n', neg', dg', ex', tx', fb', bs', fk', keys', fd', kids'⟩ := y
  refine CallQ.of rfl (by kernel_rfl : Tryd.prog.funcs[13]? = some Tryd.f13) rfl (by decide) ?_
  conv => whnf
  refine CallQ.mono (t1 S) ?_
  rintro r S1 ⟨rfl, k1⟩
  cases fx
  · conv => whnf
    exact ⟨by rw [ht]; rfl, k1⟩
  conv => whnf
  refine CallQ.mono (t2 S1) ?_
  rintro r S2 ⟨rfl, k2⟩
  cases fy
  · conv => whnf
    exact ⟨by rw [ht]; rfl, k1.trans k2⟩
  conv => whnf
  refine CallQ.mono (t3 S2) ?_
  rintro r S3 ⟨rfl, k3⟩
  conv => whnf
  exact ⟨by rw [ht]; cases sm <;> rfl, (k1.trans k2).trans k3⟩
end Go.Proofs.YtmkmakokgfigoaaDoor
namespace Go.Proofs.YtmkmakokgfigoaaDoor
open Go.Proofs.YtmkmakokgfigoaaDoor.VM
set_option maxRecDepth 100000
set_option linter.unusedVariables false

theorem same_self (x : Nd) : SameB x x = few x := by
  unfold SameB sameB
  simp
theorem t3 (x y : Nd) (hx : x.Ok) (hy : y.Ok) (S : St) : CallQ Tryd.prog TC 3 [x.v, y.v] S fun r S1 => r = .bool true := by
  have a1 := t10 x hx
  have a2 := t11 x hx
  have a3 := t12 x y hx hy
  have a4 := t13 x y hx hy
  have a5 := t12 x x hx hx
  have a6 := t14 x hx
  have a7 := t15 x hx
  have a8 := t16 x hx
  have a9 := t17 x hx
  rw [same_self] at a5
  have fin : ∀ S, CallQ Tryd.prog TC 18 [] S fun r S1 => S1 = S ∧ r = .bool true := t18
  generalize few x = fx at *
  generalize SameB x y = s1 at *
  generalize szN x = sz at *
  generalize dpN x = dp at *
  obtain ⟨kind, n, neg, dg, ex, tx, fb, bs, fk, keys, fd, kids⟩ := x
  obtain ⟨kind', n', neg', dg', ex', tx', fb', bs', fk', keys', fd', kids'⟩ := y
  refine CallQ.of rfl (by kernel_rfl : Tryd.prog.funcs[3]? = some Tryd.f3) rfl (by decide) ?_
  conv => whnf
  refine ⟨[0, 2, 1, 3, 4, 5, 6, 7, 9, 10, 8, 11, 12, 13, 14, 15, 16, 18, 17, 19, 20, 21, 22, 23, 25, 24, 26, 27, 28, 29, 30, 32, 31, 33, 34, 35, 36, 37, 38, 39], [(1, [2]), (8, [9, 10]), (17, [18]), (24, [25]), (31, [32])], by kernel_rfl, by kernel_rfl, by kernel_rfl, ?_⟩
  conv => whnf
  refine CallQ.mono (a1 S) ?_
  rintro r S1 ⟨rfl, k1⟩
  conv => whnf
  refine ⟨⟨_, rfl, .inr ⟨_, _, _, rfl, rfl, rfl, rfl⟩⟩, ?_⟩
  conv => whnf
  refine CallQ.mono (a2 S1) ?_
  rintro r S2 ⟨rfl, k2⟩
  conv => whnf
  intro c hc
  obtain rfl : c = true := by rw [hc]; simp
  conv => whnf
  refine CallQ.mono (a3 S2) ?_
  rintro r S3 ⟨rfl, k3⟩
  conv => whnf
  refine ⟨⟨_, rfl, .inr ⟨_, _, _, rfl, rfl, rfl, rfl⟩⟩, ?_⟩
  conv => whnf
  refine ⟨⟨_, rfl, .inr ⟨_, _, _, rfl, rfl, rfl, rfl⟩⟩, ?_⟩
  conv => whnf
  refine CallQ.mono (a4 S3) ?_
  rintro r S4 ⟨rfl, k4⟩
  conv => whnf
  intro c hc
  obtain rfl : c = true := by rw [hc]; simp
  conv => whnf
  refine CallQ.mono (a5 S4) ?_
  rintro r S5 ⟨rfl, k5⟩
  conv => whnf
  refine ⟨⟨_, rfl, .inr ⟨_, _, _, rfl, rfl, rfl, rfl⟩⟩, ?_⟩
  conv => whnf
  refine CallQ.mono (a2 S5) ?_
  rintro r S6 ⟨rfl, k6⟩
  conv => whnf
  intro c hc
  obtain rfl : c = true := by rw [hc]; simp
  conv => whnf
  refine CallQ.mono (a6 S6) ?_
  rintro r S7 ⟨rfl, k7⟩
  conv => whnf
  refine ⟨⟨_, rfl, .inr ⟨_, _, _, rfl, rfl, rfl, rfl⟩⟩, ?_⟩
  conv => whnf
  refine CallQ.mono (a7 S7) ?_
  rintro r S8 ⟨rfl, k8⟩
  conv => whnf
  intro c hc
  obtain rfl : c = true := by rw [hc]; simp
  conv => whnf
  refine CallQ.mono (a8 S8) ?_
  rintro r S9 ⟨rfl, k9⟩
  conv => whnf
  refine ⟨⟨_, rfl, .inr ⟨_, _, _, rfl, rfl, rfl, rfl⟩⟩, ?_⟩
  conv => whnf
  refine CallQ.mono (a9 S9) ?_
  rintro r S10 ⟨rfl, k10⟩
  conv => whnf
  intro c hc
  obtain rfl : c = true := by rw [hc]; simp
  conv => whnf
  refine CallQ.mono (fin S10) ?_
  rintro r S11 ⟨rfl, rfl⟩
  conv => whnf
  rfl
end Go.Proofs.YtmkmakokgfigoaaDoor
