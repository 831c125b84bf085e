import Derived.Test.YtiknkngdfdmkbaaDoorVML11
namespace Go.Proofs.YtiknkngdfdmkbaaDoor
open Go.Proofs.YtiknkngdfdmkbaaDoor.VM
set_option maxRecDepth 100000
set_option linter.unusedVariables false

def dec0 (n : Nat) : List UInt8 := if n = 0 then [] else Lib.decDigits n
theorem dec_step (n : Nat) : Lib.decDigits n = dec0 (n / 10) ++ [UInt8.ofNat (48 + n % 10)] := by
  conv => lhs; unfold Lib.decDigits
  split
  · rename_i h
    have : n / 10 = 0 := by omega
    have h2 : n % 10 = n := by omega
    rw [this, h2]; rfl
  · have : n / 10 ≠ 0 := by omega
    simp [dec0, this]
theorem t25 (n : Nat) (hn : n < 2 ^ 64) (S : St) : CallQ Tryd.prog LC 25 [.int .u64 n] S fun r S1 => S1 = S ∧ r = .str (Lib.decDigits n) := by
  refine CallQ.of rfl (by kernel_rfl : Tryd.prog.funcs[25]? = some Tryd.f25) rfl (by decide) ?_
  conv => whnf
  refine CodeQ.loop (fun (q : Nat × List UInt8 × Bool) => pat 21 [(0, .int .u64 q.1), (3, .str q.2.1), (4, .bool q.2.2)])
    (fun m q S1 => S1 = S ∧ m = q.1 + (if q.2.2 = true then 1 else 0) ∧ q.1 < 2 ^ 64 ∧ q.2.1.length ≤ 100 - (if q.1 = 0 then 0 else 1) ∧ ((q.2.2 = true ∧ q.1 = n ∧ q.2.1 = []) ∨ (q.2.2 = false ∧ dec0 q.1 ++ q.2.1 = Lib.decDigits n))) ?_ (n + 1) (n, [], true) _ _
    ⟨rfl, rfl, hn, by simp, .inl ⟨rfl, rfl, rfl⟩⟩ ⟨rfl, rfl, rfl, trivial⟩
  have hlen := dec_len 19 n (by have : (10 : Nat) ^ 20 = 100000000000000000000 := rfl; omega)
  rintro m ⟨n', s, fst⟩ S1 d ⟨rfl, k1, k2, _, k4⟩
  dsimp only at k1 k2 k4 ⊢
  have hr : (n' : Int).tmod 10 = ((n' % 10 : Nat) : Int) := by
    rw [Int.tmod_eq_emod_of_nonneg (by omega)]; omega
  have hq : (n' : Int).tdiv 10 = ((n' / 10 : Nat) : Int) := by
    rw [Int.tdiv_eq_ediv_of_nonneg (by omega)]; omega
  have e1 : IntKind.u8.wrap (IntKind.u64.wrap (48 + ((n' % 10 : Nat) : Int))) = ((UInt8.ofNat (48 + n' % 10)).toNat : Int) := by
    rw [wrap_u64 (by omega) (by omega), show (48 : Int) + ((n' % 10 : Nat) : Int) = ((48 + n' % 10 : Nat) : Int) by omega, wrap_u8_nat]
  have e2 : IntKind.u64.wrap ((n' / 10 : Nat) : Int) = ((n' / 10 : Nat) : Int) := wrap_u64 (by omega) (by omega)
  cases fst
  · rcases k4 with ⟨h, _⟩ | ⟨_, k4⟩
    · cases h
    have hsl : s.length ≤ 20 := by have := congrArg List.length k4; simp at this; omega
    conv => whnf
    intro c hc
    cases c
    · conv => whnf
      have h0 : n' = 0 := by simp at hc; omega
      subst h0
      refine ⟨rfl, ?_⟩
      show AV.str s = AV.str _
      rw [← k4]; rfl
    have h0 : 0 < n' := by simp at hc; omega
    conv => whnf
    refine ⟨by decide, ?_⟩
    rw [hr]
    conv => whnf
    rw [e1]
    refine ⟨_, conv_u8 [UInt8.ofNat (48 + n' % 10)] .full _, ?_⟩
    conv => whnf
    refine ⟨by simp; omega, ?_⟩
    conv => whnf
    refine ⟨by decide, ?_⟩
    rw [hq, e2]
    conv => whnf
    refine ⟨n' / 10, (n' / 10, [UInt8.ofNat (48 + n' % 10)] ++ s, false), by simp at k1; omega, ⟨rfl, by simp, by show n' / 10 < _; omega, by show _ ≤ _; simp only [List.length_append, List.length_singleton]; split <;> omega, .inr ⟨rfl, ?_⟩⟩, ⟨rfl, rfl, rfl, trivial⟩⟩
    show dec0 (n' / 10) ++ ([UInt8.ofNat (48 + n' % 10)] ++ s) = _
    rw [← List.append_assoc, ← dec_step, ← k4]
    have : n' ≠ 0 := by omega
    simp [dec0, this]
  · rcases k4 with ⟨_, rfl, rfl⟩ | ⟨h, _⟩
    rotate_left
    · cases h
    conv => whnf
    refine ⟨by decide, ?_⟩
    rw [hr]
    conv => whnf
    rw [e1]
    refine ⟨_, conv_u8 [UInt8.ofNat (48 + n' % 10)] .full _, ?_⟩
    conv => whnf
    refine ⟨by simp, ?_⟩
    conv => whnf
    refine ⟨by decide, ?_⟩
    rw [hq, e2]
    conv => whnf
    refine ⟨n' / 10, (n' / 10, [UInt8.ofNat (48 + n' % 10)] ++ [], false), by simp at k1; omega, ⟨rfl, by simp, by show n' / 10 < _; omega, by show _ ≤ _; simp; split <;> omega, .inr ⟨rfl, ?_⟩⟩, ⟨rfl, rfl, rfl, trivial⟩⟩
    show dec0 (n' / 10) ++ ([UInt8.ofNat (48 + n' % 10)] ++ []) = _
    rw [List.append_nil, ← dec_step]

theorem t13 (s : AV) (ps : List Int) (kind : Int) (n : Nat) (hs : Elems s (ps.map I64)) (hb : ps.length ≤ 2000) (hp : ∀ p ∈ ps, -9223372036854775808 ≤ p ∧ p ≤ 9223372036854775807) (S : St) :
    CallQ Tryd.prog LC 13 [.agg [s, .int .i64 kind, .int .u64 n]] S fun r S1 => Keep S S1 ∧ r = .str (nameOf kind ++ [32, 47] ++ jn Lib.itoa 0 ps) := by
  refine CallQ.of rfl (by kernel_rfl : Tryd.prog.funcs[13]? = some Tryd.f13) rfl (by decide) ?_
  have hnl := nameOf_len kind
  rcases hs with ⟨rfl, hps⟩ | ⟨t, rfl⟩
  · obtain rfl : ps = [] := by simpa using hps
    conv => whnf
    intro c hc
    cases c
    rotate_left
    conv => whnf
    intro c2 hc2
    cases c2
    rotate_left
    conv => whnf
    have hc : 1 ≤ kind := by simp at hc; omega
    have hc2 : kind ≤ 6 := by simp at hc2; omega
    rw [wrap_i64 (by omega) (by omega)]
    refine ⟨by omega, .str (nameOf kind), namesL_at hc hc2, rfl, ?_⟩
    conv => whnf
    refine ⟨by simp; omega, ?_⟩
    conv => whnf
    rotate_left
    conv => whnf
    have hn : nameOf kind = [63] := by unfold nameOf; rw [if_neg (by simp at hc; omega)]
    refine ⟨by decide, ?_⟩
    conv => whnf
    rotate_left
    conv => whnf
    have hn : nameOf kind = [63] := by unfold nameOf; rw [if_neg (by simp at hc2; omega)]
    refine ⟨by decide, ?_⟩
    conv => whnf
    all_goals
      refine CodeQ.loop (fun (_ : Nat) => pat 53 [(1, .cptr [.nils, .int .i64 kind, .int .u64 n] 0), (3, .str (nameOf kind ++ [32, 47])), (4, .int .i64 0)]) (fun m i S1 => S1 = S) ?_ 0 0 _ _ rfl ⟨rfl, by first | rfl | rw [hn], rfl, trivial⟩
      intro m i S1 d e
      subst e
      conv => whnf
      intro c hc
      simp at hc
      subst hc
      conv => whnf
      exact ⟨.refl _, by simp [jn, AV.shed2, AV.shed, AV.shedLeaf]⟩
  conv => whnf
  intro c hc
  cases c
  rotate_left
  conv => whnf
  intro c2 hc2
  cases c2
  rotate_left
  conv => whnf
  have hc : 1 ≤ kind := by simp at hc; omega
  have hc2 : kind ≤ 6 := by simp at hc2; omega
  rw [wrap_i64 (by omega) (by omega)]
  refine ⟨by omega, .str (nameOf kind), namesL_at hc hc2, rfl, ?_⟩
  conv => whnf
  refine ⟨by simp; omega, ?_⟩
  conv => whnf
  rotate_left
  conv => whnf
  have hn : nameOf kind = [63] := by unfold nameOf; rw [if_neg (by simp at hc; omega)]
  refine ⟨by decide, ?_⟩
  conv => whnf
  rotate_left
  conv => whnf
  have hn : nameOf kind = [63] := by unfold nameOf; rw [if_neg (by simp at hc2; omega)]
  refine ⟨by decide, ?_⟩
  conv => whnf
  all_goals
    refine CodeQ.loop (fun (q : Nat × List UInt8) => pat 53 [(1, .cptr [.lst (ps.map I64) t, .int .i64 kind, .int .u64 n] 0), (3, .str q.2), (4, .int .i64 q.1)])
      (fun m q S1 => q.1 + m = ps.length ∧ Keep S S1 ∧ q.2.length ≤ 8 + 22 * q.1 ∧ q.2 ++ jn Lib.itoa q.1 (ps.drop q.1) = nameOf kind ++ [32, 47] ++ jn Lib.itoa 0 ps) ?_ ps.length (0, nameOf kind ++ [32, 47]) _ _
      ⟨by simp, .refl _, by simp; omega, by simp⟩ ⟨rfl, by first | rfl | rw [hn], rfl, trivial⟩
    rintro m ⟨i, acc⟩ S1 d ⟨k1, k2, k3, k4⟩
    dsimp only at k1 k3 k4 ⊢
    conv => whnf
    intro c hc3
    simp at hc3
    cases c
    · conv => whnf
      simp at hc3
      obtain rfl : i = ps.length := by omega
      rw [List.drop_length] at k4
      refine ⟨k2, ?_⟩
      show AV.str acc = AV.str _
      rw [← k4]; simp [jn]
    simp at hc3
    conv => whnf
    have ed : ps.drop i = ps[i] :: ps.drop (i + 1) := List.drop_eq_getElem_cons hc3
    rw [ed, jn] at k4
    obtain ⟨p, hpe⟩ : ∃ p, p = ps[i] := ⟨_, rfl⟩
    have hpp := hp ps[i] (by simp)
    have hpi : (ps.map I64)[i]? = some (I64 ps[i]) := by simp [hc3]
    rw [← hpe] at k4 hpp hpi
    have hpl := itoa_len hpp
    have e9 : IntKind.i64.wrap ((i : Int) + 1) = ((i + 1 : Nat) : Int) := by rw [wrap_i64 (by omega) (by omega)]; omega
    intro c4 hc4
    simp at hc4
    obtain ⟨acc', ha1, ha2, ha3⟩ : ∃ acc', acc'.length ≤ 9 + 22 * i ∧ acc' ++ Lib.itoa p ++ jn Lib.itoa (i + 1) (ps.drop (i + 1)) = nameOf kind ++ [32, 47] ++ jn Lib.itoa 0 ps ∧ acc' = acc ++ (if 0 < i then [47] else []) := by
      refine ⟨_, ?_, ?_, rfl⟩
      · split <;> simp <;> omega
      · rw [← k4]; simp
    have hal : (acc' ++ Lib.itoa p).length ≤ 8 + 22 * (i + 1) := by simp; omega
    have fin : ∀ q : List UInt8, q = acc' ++ Lib.itoa p → q.length ≤ 8 + 22 * (i + 1) ∧ q ++ jn Lib.itoa (i + 1) (ps.drop (i + 1)) = nameOf kind ++ [32, 47] ++ jn Lib.itoa 0 ps := fun q hq => by rw [hq]; exact ⟨hal, ha2⟩
    cases c4
    · have hc4 : ¬ 0 < i := by simpa using hc4
      rw [if_neg hc4, List.append_nil] at ha3
      subst ha3
      conv => whnf
      refine ⟨by omega, _, hpi, rfl, ?_⟩
      conv => whnf
      intro c5 hc5
      cases c5
      · conv => whnf
        have h5 : 0 ≤ p := by simp at hc5; omega
        have hw : IntKind.u64.wrap p = (p.toNat : Int) := wrapu h5 (by omega)
        rw [hw]
        refine CallQ.mono (t25 p.toNat (by omega) S1) ?_
        rintro r S2 ⟨rfl, rfl⟩
        have hi : Lib.decDigits p.toNat = Lib.itoa p := by unfold Lib.itoa; rw [if_neg (by omega)]
        rw [hi]
        conv => whnf
        refine ⟨by omega, ?_⟩
        conv => whnf
        obtain ⟨f1, f2⟩ := fin _ rfl
        exact ⟨m - 1, (i + 1, acc' ++ Lib.itoa p), by omega, ⟨by show i + 1 + _ = _; omega, k2, f1, f2⟩, ⟨rfl, rfl, by rw [e9], trivial⟩⟩
      · conv => whnf
        have h5 : p < 0 := by simp at hc5; omega
        have hw : IntKind.u64.wrap (0 - IntKind.u64.wrap p) = (p.natAbs : Int) := by
          simp [IntKind.wrap, IntKind.bits, IntKind.signed]
          omega
        rw [hw]
        refine CallQ.mono (t25 p.natAbs (by omega) S1) ?_
        rintro r S2 ⟨rfl, rfl⟩
        have hi : Lib.itoa p = [45] ++ Lib.decDigits p.natAbs := by unfold Lib.itoa; rw [if_pos h5]; rfl
        rw [hi] at hpl fin
        conv => whnf
        refine ⟨by simp at hpl ⊢; omega, ?_⟩
        conv => whnf
        refine ⟨by simp at hpl ⊢; omega, ?_⟩
        conv => whnf
        obtain ⟨f1, f2⟩ := fin _ rfl
        exact ⟨m - 1, (i + 1, acc' ++ ([45] ++ Lib.decDigits p.natAbs)), by omega, ⟨by show i + 1 + _ = _; omega, k2, f1, f2⟩, ⟨rfl, rfl, by rw [e9], trivial⟩⟩
    · have hc4 : 0 < i := by simpa using hc4
      rw [if_pos hc4] at ha3
      subst ha3
      conv => whnf
      refine ⟨by simp; omega, ?_⟩
      conv => whnf
      refine ⟨by omega, _, hpi, rfl, ?_⟩
      conv => whnf
      intro c5 hc5
      cases c5
      · conv => whnf
        have h5 : 0 ≤ p := by simp at hc5; omega
        have hw : IntKind.u64.wrap p = (p.toNat : Int) := wrapu h5 (by omega)
        rw [hw]
        refine CallQ.mono (t25 p.toNat (by omega) S1) ?_
        rintro r S2 ⟨rfl, rfl⟩
        have hi : Lib.decDigits p.toNat = Lib.itoa p := by unfold Lib.itoa; rw [if_neg (by omega)]
        rw [hi]
        conv => whnf
        refine ⟨by simp; omega, ?_⟩
        conv => whnf
        obtain ⟨f1, f2⟩ := fin _ rfl
        exact ⟨m - 1, (i + 1, acc ++ [47] ++ Lib.itoa p), by omega, ⟨by show i + 1 + _ = _; omega, k2, f1, f2⟩, ⟨rfl, rfl, by rw [e9], trivial⟩⟩
      · conv => whnf
        have h5 : p < 0 := by simp at hc5; omega
        have hw : IntKind.u64.wrap (0 - IntKind.u64.wrap p) = (p.natAbs : Int) := by
          simp [IntKind.wrap, IntKind.bits, IntKind.signed]
          omega
        rw [hw]
        refine CallQ.mono (t25 p.natAbs (by omega) S1) ?_
        rintro r S2 ⟨rfl, rfl⟩
        have hi : Lib.itoa p = [45] ++ Lib.decDigits p.natAbs := by unfold Lib.itoa; rw [if_pos h5]; rfl
        rw [hi] at hpl fin
        conv => whnf
        refine ⟨by simp at hpl ⊢; omega, ?_⟩
        conv => whnf
        refine ⟨by simp at hpl ⊢; omega, ?_⟩
        conv => whnf
        obtain ⟨f1, f2⟩ := fin _ rfl
        exact ⟨m - 1, (i + 1, acc ++ [47] ++ ([45] ++ Lib.decDigits p.natAbs)), by omega, ⟨by show i + 1 + _ = _; omega, k2, f1, f2⟩, ⟨rfl, rfl, by rw [e9], trivial⟩⟩
end Go.Proofs.YtiknkngdfdmkbaaDoor
