import Derived.Test.YtmkmakokgfigoaaDoorVMT11
namespace Go.Proofs.YtmkmakokgfigoaaDoor
open Go.Proofs.YtmkmakokgfigoaaDoor.VM
set_option maxRecDepth 100000
set_option linter.unusedVariables false

mutual
theorem dep_cnt : ∀ x : Nd, dep x ≤ cnt x
  | .mk _ _ _ _ _ _ _ _ _ keys _ kids => by
    have := deps_cnts keys
    have := deps_cnts kids
    simp only [dep, cnt]; omega
theorem deps_cnts : ∀ xs : List Nd, deps xs ≤ cnts xs
  | [] => Nat.le_refl _
  | x :: xs => by
    have := dep_cnt x
    have := deps_cnts xs
    simp only [deps, cnts]; omega
end
theorem deps_le (xs : List Nd) (i : Nat) : deps (xs.take i) ≤ cnts xs := Nat.le_trans (deps_cnts _) (cnts_le xs i)

theorem ite_max (a b : Nat) : (if (b : Int) > (a : Int) then (b : Int) else a) = ((max a b : Nat) : Int) := by split <;> omega

theorem t31 : ∀ (N : Nat) (x : Nd), x.Ok → cnt x ≤ N → N ≤ 2 ^ 60 → ∀ S, CallQ Tryd.prog TC 31 [x.v] S fun r S1 => r = .int .i64 (dep x : Nat) ∧ Keep S S1
  | 0, x, _, h, _, _ => by have := cnt_pos x; omega
  | N + 1, x, hx, hN, hm, S => by
    have ih : ∀ xs : List Nd, cnts xs ≤ N → Nd.Oks xs → ∀ i (h : i < xs.length), ∀ S, CallQ Tryd.prog TC 31 [xs[i].v] S fun r S1 => r = .int .i64 (dep xs[i] : Nat) ∧ Keep S S1 :=
      fun xs h1 h2 i h S => t31 N xs[i] (oks_iff.1 h2 _ (List.getElem_mem h)) (Nat.le_trans (cnt_mem (List.getElem_mem h)) h1) (by omega) S
    obtain ⟨kind, n, neg, dg, ex, tx, fb, bs, fk, keys, fd, kids⟩ := x
    obtain ⟨x1, x2, x3, x4, x5, x6, x7, x8⟩ := hx
    simp only [cnt] at hN
    have hdep : dep (.mk kind n neg dg ex tx fb bs fk keys fd kids) = max (deps keys) (deps kids) + 1 := by simp only [dep]; omega
    have hlim : max (deps keys) (deps kids) ≤ 2 ^ 60 := by have := deps_cnts keys; have := deps_cnts kids; omega
    have ihk := ih keys (by omega) x7
    have ihd := ih kids (by omega) x8
    refine CallQ.of rfl (by kernel_rfl : Tryd.prog.funcs[31]? = some Tryd.f31) rfl (by decide) ?_
    conv => whnf
    refine CodeQ.loop (fun (i : Nat) => pat 38 [(1, .cptr [.int .i64 kind, .int .u64 n, .bool neg, .str dg, .int .i64 ex, .str tx, slV fb (bs.map u8), slV fk (Nd.vs keys), slV fd (Nd.vs kids)] 0), (3, .int .i64 (deps (keys.take i) : Nat)), (4, .int .i64 i)]) (fun m i S1 => Keep S S1 ∧ i + m = keys.length) ?_ keys.length 0 _ _ ⟨.refl _, by omega⟩ ⟨rfl, rfl, rfl, trivial⟩
    rintro m i S1 d ⟨k1, hi1⟩
    cases fk
    case' nil =>
      have h0 := x2 rfl
      conv => whnf
      intro c hc
      obtain rfl : c = false := by rw [hc]; exact decide_eq_false (by show ¬ ((i : Int) < 0); omega)
      conv => whnf
      have e1 : deps (keys.take i) = deps keys := by rw [h0]; simp
    case' lst t =>
      conv => whnf
      intro c hc
      cases c
      case' false =>
        conv => whnf
        have e1 : deps (keys.take i) = deps keys := by
          have : ¬ ((i : Int) < ((Nd.vs keys).length : Nat)) := by simpa using hc
          rw [vs_len] at this
          rw [List.take_of_length_le (by omega)]
      case' true =>
        have hc1 : i < keys.length := by
          have : (i : Int) < ((Nd.vs keys).length : Nat) := by simpa using hc
          rw [vs_len] at this; omega
        have hcall := ihk i hc1 S1
        have g1 := vs_at hc1
        have g2 := deps_take keys i hc1
        conv => whnf
        generalize keys[i] = x at *
        obtain ⟨kind', n', neg', dg', ex', tx', fb', bs', fk', keys', fd', kids'⟩ := x
        refine ⟨by omega, _, g1, rfl, ?_⟩
        conv => whnf
        refine CallQ.mono hcall ?_
        rintro r S12 ⟨rfl, kk⟩
        conv => whnf
        refine ⟨m - 1, i + 1, by omega, ⟨k1.trans kk, by omega⟩, ⟨rfl, ?_, ?_, trivial⟩⟩
        · rw [g2]
          refine congrArg (AV.int IntKind.i64) ?_
          exact (ite_max _ _).trans (by omega)
        · rw [wrap_i64 (by omega) (by omega)]; try rfl
    all_goals
      refine CodeQ.loop (fun (i : Nat) => pat 38 [(1, .cptr [.int .i64 kind, .int .u64 n, .bool neg, .str dg, .int .i64 ex, .str tx, slV fb (bs.map u8), _, slV fd (Nd.vs kids)] 0), (3, .int .i64 (max (deps keys) (deps (kids.take i)) : Nat)), (5, .int .i64 i)]) (fun m i S1 => Keep S S1 ∧ i + m = kids.length) ?_ kids.length 0 _ _ ⟨k1, by omega⟩ ⟨rfl, by rw [e1]; simp [deps], rfl, trivial⟩
      rintro m i S3 d ⟨k3, hi3⟩
      cases fd
      case' nil =>
        have h0 := x3 rfl
        conv => whnf
        intro c hc
        obtain rfl : c = false := by rw [hc]; exact decide_eq_false (by show ¬ ((i : Int) < 0); omega)
        conv => whnf
        have e3 : max (deps keys) (deps (kids.take i)) = max (deps keys) (deps kids) := by rw [h0]; simp
      case' lst t =>
        conv => whnf
        intro c hc
        cases c
        case' false =>
          conv => whnf
          have e3 : max (deps keys) (deps (kids.take i)) = max (deps keys) (deps kids) := by
            have : ¬ ((i : Int) < ((Nd.vs kids).length : Nat)) := by simpa using hc
            rw [vs_len] at this
            rw [List.take_of_length_le (by omega)]
        case' true =>
          have hc1 : i < kids.length := by
            have : (i : Int) < ((Nd.vs kids).length : Nat) := by simpa using hc
            rw [vs_len] at this; omega
          have hcall := ihd i hc1 S3
          have g1 := vs_at hc1
          have g2 := deps_take kids i hc1
          conv => whnf
          generalize kids[i] = x at *
          obtain ⟨kind', n', neg', dg', ex', tx', fb', bs', fk', keys', fd', kids'⟩ := x
          refine ⟨by omega, _, g1, rfl, ?_⟩
          conv => whnf
          refine CallQ.mono hcall ?_
          rintro r S32 ⟨rfl, kk⟩
          conv => whnf
          refine ⟨m - 1, i + 1, by omega, ⟨k3.trans kk, by omega⟩, ⟨rfl, ?_, ?_, trivial⟩⟩
          · rw [g2]
            refine congrArg (AV.int IntKind.i64) ?_
            exact (ite_max _ _).trans (by omega)
          · rw [wrap_i64 (by omega) (by omega)]; try rfl
      all_goals
        conv => whnf
        refine ⟨?_, k3⟩
        show AV.int .i64 _ = AV.int .i64 _
        rw [e3, wrap_i64 (by omega) (by omega), hdep]
        rfl

theorem t17 (x : Nd) (hx : x.Ok) (S : St) : CallQ Tryd.prog TC 17 [x.v] S fun r S1 => r = I (dpN x) ∧ Keep S S1 := by
  have t1 := t11 x hx
  have t2 : cnt x ≤ 1024 → ∀ S, CallQ Tryd.prog TC 31 [x.v] S fun r S1 => r = .int .i64 (dep x : Nat) ∧ Keep S S1 := fun h => t31 1024 x hx h (by omega)
  have hd : dpN x = if few x = true then dep x else 1025 := by unfold dpN few; simp
  have hf : few x = true → cnt x ≤ 1024 := by unfold few; simp
  generalize few x = fx at *
  obtain ⟨kind, n, neg, dg, ex, tx, fb, bs, fk, keys, fd, kids⟩ := x
  refine CallQ.of rfl (by kernel_rfl : Tryd.prog.funcs[17]? = some Tryd.f17) rfl (by decide) ?_
  conv => whnf
  refine CallQ.mono (t1 S) ?_
  rintro r S1 ⟨rfl, k⟩
  cases fx
  · conv => whnf
    exact ⟨by rw [hd]; rfl, k⟩
  conv => whnf
  refine CallQ.mono (t2 (hf rfl) S1) ?_
  rintro r S2 ⟨rfl, k2⟩
  conv => whnf
  exact ⟨by rw [hd, if_pos rfl]; rfl, k.trans k2⟩
end Go.Proofs.YtmkmakokgfigoaaDoor
