import Derived.Test.YtmkmakokgfigoaaDoorVMT8
namespace Go.Proofs.YtmkmakokgfigoaaDoor
open Go.Proofs.YtmkmakokgfigoaaDoor.VM
set_option maxRecDepth 100000
set_option linter.unusedVariables false

def lf (m c : Nat) : Int := if c ≤ m then ((m - c : Nat) : Int) else -1
theorem vs_len (xs : List Nd) : (Nd.vs xs).length = xs.length := by rw [vs_map, List.length_map]
theorem vs_at {xs : List Nd} {i : Nat} (h : i < xs.length) : (Nd.vs xs)[i]? = some xs[i].v := by rw [vs_map]; simp [h]
theorem cnts_len (xs : List Nd) : cnts (xs.take xs.length) = cnts xs := by rw [List.take_length]
theorem lf_neg {m c : Nat} (h : ¬ (0 : Int) ≤ lf m c) {c' : Nat} (h2 : c ≤ c') : lf m c = lf m c' := by
  unfold lf at *
  split at h
  · omega
  · rw [if_neg (by omega), if_neg (by omega)]
theorem lf_add {m c c' : Nat} (h : (0 : Int) ≤ lf m c) : ∃ k : Nat, lf m c = (k : Int) ∧ k ≤ m ∧ lf k c' = lf m (c + c') := by
  unfold lf at *
  split at h
  · refine ⟨m - c, by rw [if_pos (by assumption)], by omega, ?_⟩
    split
    · rw [if_pos (by omega)]; omega
    · rw [if_neg (by omega)]
  · omega

theorem t28 : ∀ (N : Nat) (x : Nd) (many : Nat), x.Ok → cnt x ≤ N → many ≤ 2 ^ 62 → ∀ S, CallQ Tryd.prog TC 28 [x.v, .int .i64 many] S fun r S1 => r = .int .i64 (lf many (cnt x)) ∧ Keep S S1
  | 0, x, _, _, h, _, _ => by have := cnt_pos x; omega
  | N + 1, x, many, hx, hN, hm, S => by
    have ih : ∀ xs : List Nd, cnts xs ≤ N → Nd.Oks xs → ∀ i (h : i < xs.length) (m : Nat), m ≤ 2 ^ 62 → ∀ S, CallQ Tryd.prog TC 28 [xs[i].v, .int .i64 m] S fun r S1 => r = .int .i64 (lf m (cnt xs[i])) ∧ Keep S S1 :=
      fun xs h1 h2 i h m hm S => t28 N xs[i] m (oks_iff.1 h2 _ (List.getElem_mem h)) (Nat.le_trans (cnt_mem (List.getElem_mem h)) h1) hm S
    obtain ⟨kind, n, neg, dg, ex, tx, fb, bs, fk, keys, fd, kids⟩ := x
    obtain ⟨x1, x2, x3, x4, x5, x6, x7, x8⟩ := hx
    simp only [cnt] at hN ⊢
    have ihk := ih keys (by omega) x7
    have ihd := ih kids (by omega) x8
    have e0 : IntKind.i64.wrap ((many : Int) - 1) = lf many (1 + cnts (keys.take 0)) := by
      rw [wrap_i64 (by omega) (by omega)]
      unfold lf
      simp only [List.take_zero, cnts]
      split <;> omega
    refine CallQ.of rfl (by kernel_rfl : Tryd.prog.funcs[28]? = some Tryd.f28) rfl (by decide) ?_
    conv => whnf
    refine CodeQ.loop (fun (i : Nat) => pat 46 [(1, .int .i64 (lf many (1 + cnts (keys.take i)))), (2, .cptr [.int .i64 kind, .int .u64 n, .bool neg, .str dg, .int .i64 ex, .str tx, slV fb (bs.map u8), slV fk (Nd.vs keys), slV fd (Nd.vs kids)] 0), (5, .int .i64 i)]) (fun m i S1 => Keep S S1 ∧ i + m = keys.length) ?_ keys.length 0 _ _ ⟨.refl _, by omega⟩ ⟨by rw [← e0], rfl, rfl, trivial⟩
    rintro m i S1 d ⟨k1, hi1⟩
    cases fk
    case' nil =>
      have h0 := x2 rfl
      conv => whnf
      intro c hc
      obtain rfl : c = false := by rw [hc]; exact decide_eq_false (by show ¬ ((i : Int) < 0); omega)
      conv => whnf
      have e1 : lf many (1 + cnts (keys.take i)) = lf many (1 + cnts keys) := by rw [h0]; simp
    case' lst t =>
      conv => whnf
      intro c hc
      cases c
      case' false =>
        conv => whnf
        have e1 : lf many (1 + cnts (keys.take i)) = lf many (1 + cnts keys) := by
          have : ¬ ((i : Int) < ((Nd.vs keys).length : Nat)) := by simpa using hc
          rw [vs_len] at this
          rw [List.take_of_length_le (by omega)]
      case' true =>
        have hc1 : i < keys.length := by
          have : (i : Int) < ((Nd.vs keys).length : Nat) := by simpa using hc
          rw [vs_len] at this; omega
        conv => whnf
        intro c hc2
        cases c
        case' false =>
          conv => whnf
          have e1 : lf many (1 + cnts (keys.take i)) = lf many (1 + cnts keys) := by
            have h := cnts_le keys i
            exact lf_neg (by simpa using hc2) (by omega)
        case' true =>
          have hc3 : (0 : Int) ≤ lf many (1 + cnts (keys.take i)) := by simpa using hc2
          obtain ⟨k, q1, q2, q3⟩ := lf_add (c' := cnt keys[i]) hc3
          rw [Nat.add_assoc, ← cnts_take keys i hc1] at q3
          have hcall := ihk i hc1 k (by omega) S1
          have g1 := vs_at hc1
          rw [q1]
          generalize keys[i] = x at *
          obtain ⟨kind', n', neg', dg', ex', tx', fb', bs', fk', keys', fd', kids'⟩ := x
          conv => whnf
          refine ⟨by omega, _, g1, rfl, ?_⟩
          conv => whnf
          refine CallQ.mono hcall ?_
          rintro r S12 ⟨rfl, kk⟩
          conv => whnf
          refine ⟨m - 1, i + 1, by omega, ⟨k1.trans kk, by omega⟩, ⟨by rw [q3], rfl, ?_, trivial⟩⟩
          rw [wrap_i64 (by omega) (by omega)]; try rfl
    all_goals
      refine CodeQ.loop (fun (i : Nat) => pat 46 [(1, .int .i64 (lf many (1 + cnts keys + cnts (kids.take i)))), (2, .cptr [.int .i64 kind, .int .u64 n, .bool neg, .str dg, .int .i64 ex, .str tx, slV fb (bs.map u8), _, slV fd (Nd.vs kids)] 0), (6, .int .i64 i)]) (fun m i S1 => Keep S S1 ∧ i + m = kids.length) ?_ kids.length 0 _ _ ⟨k1, by omega⟩ ⟨by rw [e1]; simp [cnts], rfl, rfl, trivial⟩
      rintro m i S3 d ⟨k3, hi3⟩
      cases fd
      case' nil =>
        have h0 := x3 rfl
        conv => whnf
        intro c hc
        obtain rfl : c = false := by rw [hc]; exact decide_eq_false (by show ¬ ((i : Int) < 0); omega)
        conv => whnf
        have e3 : lf many (1 + cnts keys + cnts (kids.take i)) = lf many (1 + cnts keys + cnts kids) := by rw [h0]; simp
      case' lst t =>
        conv => whnf
        intro c hc
        cases c
        case' false =>
          conv => whnf
          have e3 : lf many (1 + cnts keys + cnts (kids.take i)) = lf many (1 + cnts keys + cnts kids) := by
            have : ¬ ((i : Int) < ((Nd.vs kids).length : Nat)) := by simpa using hc
            rw [vs_len] at this
            rw [List.take_of_length_le (by omega)]
        case' true =>
          have hc1 : i < kids.length := by
            have : (i : Int) < ((Nd.vs kids).length : Nat) := by simpa using hc
            rw [vs_len] at this; omega
          conv => whnf
          intro c hc2
          cases c
          case' false =>
            conv => whnf
            have e3 : lf many (1 + cnts keys + cnts (kids.take i)) = lf many (1 + cnts keys + cnts kids) := by
              have h := cnts_le kids i
              exact lf_neg (by simpa using hc2) (by omega)
          case' true =>
            have hc3 : (0 : Int) ≤ lf many (1 + cnts keys + cnts (kids.take i)) := by simpa using hc2
            obtain ⟨k, q1, q2, q3⟩ := lf_add (c' := cnt kids[i]) hc3
            rw [Nat.add_assoc, ← cnts_take kids i hc1] at q3
            have hcall := ihd i hc1 k (by omega) S3
            have g1 := vs_at hc1
            rw [q1]
            generalize kids[i] = x at *
            obtain ⟨kind', n', neg', dg', ex', tx', fb', bs', fk', keys', fd', kids'⟩ := x
            conv => whnf
            refine ⟨by omega, _, g1, rfl, ?_⟩
            conv => whnf
            refine CallQ.mono hcall ?_
            rintro r S32 ⟨rfl, kk⟩
            conv => whnf
            refine ⟨m - 1, i + 1, by omega, ⟨k3.trans kk, by omega⟩, ⟨by rw [q3], rfl, ?_, trivial⟩⟩
            rw [wrap_i64 (by omega) (by omega)]; try rfl
      all_goals
        conv => whnf
        exact ⟨by rw [e3]; rfl, k3⟩

theorem t11 (x : Nd) (hx : x.Ok) (S : St) : CallQ Tryd.prog TC 11 [x.v] S fun r S1 => r = .bool (few x) ∧ Keep S S1 := by
  have t := t28 (cnt x) x 1024 hx (Nat.le_refl _) (by omega)
  have hf : few x = decide ((0 : Int) ≤ lf 1024 (cnt x)) := by
    unfold few lf
    rw [decide_eq_decide]
    split <;> omega
  obtain ⟨kind, n, neg, dg, ex, tx, fb, bs, fk, keys, fd, kids⟩ := x
  refine CallQ.of rfl (by kernel_rfl : Tryd.prog.funcs[11]? = some Tryd.f11) rfl (by decide) ?_
  conv => whnf
  refine CallQ.mono (t S) ?_
  rintro r S1 ⟨rfl, k⟩
  conv => whnf
  intro b hb
  conv => whnf
  refine ⟨?_, k⟩
  show AV.bool b = _
  rw [hb, hf]
theorem t15 (x : Nd) (hx : x.Ok) (S : St) : CallQ Tryd.prog TC 15 [x.v] S fun r S1 => r = I (szN x) ∧ Keep S S1 := by
  have t := t28 (cnt x) x 1024 hx (Nat.le_refl _) (by omega)
  have hs : IntKind.i64.wrap ((1024 : Int) - (if (-1 : Int) > lf 1024 (cnt x) then -1 else lf 1024 (cnt x))) = szN x := by
    unfold szN lf
    rw [wrap_i64]
    · split <;> split <;> omega
    · split <;> split <;> omega
    · split <;> split <;> omega
  obtain ⟨kind, n, neg, dg, ex, tx, fb, bs, fk, keys, fd, kids⟩ := x
  refine CallQ.of rfl (by kernel_rfl : Tryd.prog.funcs[15]? = some Tryd.f15) rfl (by decide) ?_
  conv => whnf
  refine CallQ.mono (t S) ?_
  rintro r S1 ⟨rfl, k⟩
  conv => whnf
  refine ⟨?_, k⟩
  show AV.int .i64 _ = AV.int .i64 _
  rw [hs]
end Go.Proofs.YtmkmakokgfigoaaDoor
