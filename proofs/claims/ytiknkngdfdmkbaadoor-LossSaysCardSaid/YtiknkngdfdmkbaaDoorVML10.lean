import Derived.Test.YtiknkngdfdmkbaaDoorVML9
namespace Go.Proofs.YtiknkngdfdmkbaaDoor
open Go.Proofs.YtiknkngdfdmkbaaDoor.VM
set_option maxRecDepth 100000
set_option linter.unusedVariables false

theorem t24 (n : Int) (h : -9223372036854775808 ≤ n ∧ n ≤ 9223372036854775807) (S : St) : CallQ Tryd.prog LC 24 [.int .i64 n] S fun r S1 => Keep S S1 ∧ r = .str (Lib.itoa n) :=
  CallQ.intr (g := itoaG) rfl (by simp only [itoaG]; rw [if_pos h]) ⟨.refl S, rfl⟩
theorem dec_len : ∀ (k u : Nat), u < 10 ^ (k + 1) → (Lib.decDigits u).length ≤ k + 1
  | 0, u, h => by
    unfold Lib.decDigits
    rw [dif_pos (by omega)]; simp
  | k + 1, u, h => by
    unfold Lib.decDigits
    split
    · simp
    · have := dec_len k (u / 10) (by rw [Nat.pow_succ] at h; omega)
      simp only [List.length_append, List.length_singleton]; omega
theorem itoa_len {n : Int} (h : -9223372036854775808 ≤ n ∧ n ≤ 9223372036854775807) : (Lib.itoa n).length ≤ 21 := by
  unfold Lib.itoa
  split
  · have := dec_len 19 n.natAbs (by have : (10 : Nat) ^ 20 = 100000000000000000000 := rfl; omega)
    simp only [List.length_cons]; omega
  · have := dec_len 19 n.toNat (by have : (10 : Nat) ^ 20 = 100000000000000000000 := rfl; omega)
    omega
def namesB : List (List UInt8) := [[102, 108, 111, 97, 116], [110, 97, 110], [98, 121, 116, 101, 115], [116, 97, 103], [109, 97, 112], [115, 105, 109, 112, 108, 101]]
def nameOf (kind : Int) : List UInt8 := if 1 ≤ kind ∧ kind ≤ 6 then namesB.getD (kind - 1).toNat [] else [63]
def jn (f : Int → List UInt8) : Nat → List Int → List UInt8
  | _, [] => []
  | i, p :: ps => (if 0 < i then [47] else []) ++ f p ++ jn f (i + 1) ps

theorem nameOf_len (kind : Int) : (nameOf kind).length ≤ 6 := by
  unfold nameOf
  split
  · rename_i h
    obtain ⟨h1, h2⟩ := h
    have : kind = 1 ∨ kind = 2 ∨ kind = 3 ∨ kind = 4 ∨ kind = 5 ∨ kind = 6 := by omega
    rcases this with rfl | rfl | rfl | rfl | rfl | rfl <;> decide
  · decide
theorem namesL_at {kind : Int} (h1 : 1 ≤ kind) (h2 : kind ≤ 6) : namesL[(kind - 1).toNat]? = some (.str (nameOf kind)) := by
  have : kind = 1 ∨ kind = 2 ∨ kind = 3 ∨ kind = 4 ∨ kind = 5 ∨ kind = 6 := by omega
  rcases this with rfl | rfl | rfl | rfl | rfl | rfl <;> rfl

theorem t12 (itoa : Int → List UInt8) (s : AV) (ps : List Int) (kind : Int) (n : Nat) (hs : Elems s (ps.map I64)) (hb : ps.length ≤ 2000) (hi : ∀ p ∈ ps, (itoa p).length ≤ 21)
    (H : ∀ p ∈ ps, ∀ S, CallQ Tryd.prog LC 24 [.int .i64 p] S fun r S1 => Keep S S1 ∧ r = .str (itoa p)) (S : St) :
    CallQ Tryd.prog LC 12 [.agg [s, .int .i64 kind, .int .u64 n]] S fun r S1 => Keep S S1 ∧ r = .str (nameOf kind ++ [32, 47] ++ jn itoa 0 ps) := by
  refine CallQ.of rfl (by kernel_rfl : Tryd.prog.funcs[12]? = some Tryd.f12) rfl (by decide) ?_
  have hnl := nameOf_len kind
  rcases hs with ⟨rfl, hps⟩ | ⟨t, rfl⟩
  · obtain rfl : ps = [] := by simpa using hps
    conv => whnf
    refine ⟨[0, 1, 2, 3, 4, 5, 6, 7, 8, 9], [(6, [5])], by kernel_rfl, by kernel_rfl, by kernel_rfl, ?_⟩
    conv => whnf
    intro c hc
    cases c
    · conv => whnf
      simp at hc
      have hn : nameOf kind = [63] := by unfold nameOf; rw [if_neg (by omega)]
      refine ⟨by decide, ?_⟩
      conv => whnf
      refine CodeQ.loop (fun (_ : Nat) => pat 42 [(3, .str (nameOf kind ++ [32, 47])), (26, .int .i64 0), (27, .int .i64 0)]) (fun m i S1 => S1 = S) ?_ 0 0 _ _ rfl ⟨by rw [hn], rfl, rfl, trivial⟩
      intro m i S1 d e
      subst e
      conv => whnf
      intro c hc
      simp at hc
      subst hc
      conv => whnf
      exact ⟨.refl _, by simp [jn, AV.shed2, AV.shed, AV.shedLeaf]⟩
    conv => whnf
    refine CallQ.mono (t23 S) ?_
    rintro v S ⟨rfl, rfl⟩
    conv => whnf
    refine ⟨⟨_, rfl, .inr ⟨_, _, _, rfl, rfl, rfl, rfl⟩⟩, ?_⟩
    conv => whnf
    intro c2 hc2
    simp [namesL] at hc2
    simp at hc
    cases c2
    · conv => whnf
      simp at hc2
      have hn : nameOf kind = [63] := by unfold nameOf; rw [if_neg (by omega)]
      refine ⟨by decide, ?_⟩
      conv => whnf
      refine CodeQ.loop (fun (_ : Nat) => pat 42 [(3, .str (nameOf kind ++ [32, 47])), (26, .int .i64 0), (27, .int .i64 0)]) (fun m i S1 => S1 = S) ?_ 0 0 _ _ rfl ⟨by rw [hn], rfl, rfl, trivial⟩
      intro m i S1 d e
      subst e
      conv => whnf
      intro c hc
      simp at hc
      subst hc
      conv => whnf
      exact ⟨.refl _, by simp [jn, AV.shed2, AV.shed, AV.shedLeaf]⟩
    conv => whnf
    refine ⟨[1, 2, 0, 3, 4, 5, 6], [(0, [2])], by kernel_rfl, by kernel_rfl, by kernel_rfl, ?_⟩
    conv => whnf
    refine CallQ.mono (t23 S) ?_
    rintro v S ⟨rfl, rfl⟩
    conv => whnf
    refine ⟨⟨_, rfl, .inr ⟨_, _, _, rfl, rfl, rfl, rfl⟩⟩, ?_⟩
    conv => whnf
    simp at hc2
    rw [wrap_i64 (by omega) (by omega)]
    refine ⟨by omega, .str (nameOf kind), namesL_at hc hc2, rfl, ?_⟩
    conv => whnf
    refine ⟨by simp; omega, ?_⟩
    conv => whnf
    refine CodeQ.loop (fun (_ : Nat) => pat 42 [(3, .str (nameOf kind ++ [32, 47])), (26, .int .i64 0), (27, .int .i64 0)]) (fun m i S1 => S1 = S) ?_ 0 0 _ _ rfl ⟨rfl, rfl, rfl, trivial⟩
    intro m i S1 d e
    subst e
    conv => whnf
    intro c hc
    simp at hc
    subst hc
    conv => whnf
    exact ⟨.refl _, by simp [jn, AV.shed2, AV.shed, AV.shedLeaf]⟩
  conv => whnf
  refine ⟨[0, 1, 2, 3, 4, 5, 6, 7, 8, 9], [(6, [5])], by kernel_rfl, by kernel_rfl, by kernel_rfl, ?_⟩
  conv => whnf
  intro c hc
  cases c
  rotate_left
  conv => whnf
  refine CallQ.mono (t23 S) ?_
  rintro v S ⟨rfl, rfl⟩
  conv => whnf
  refine ⟨⟨_, rfl, .inr ⟨_, _, _, rfl, rfl, rfl, rfl⟩⟩, ?_⟩
  conv => whnf
  intro c2 hc2
  simp [namesL] at hc2
  simp at hc
  cases c2
  rotate_left
  conv => whnf
  refine ⟨[1, 2, 0, 3, 4, 5, 6], [(0, [2])], by kernel_rfl, by kernel_rfl, by kernel_rfl, ?_⟩
  conv => whnf
  refine CallQ.mono (t23 S) ?_
  rintro v S ⟨rfl, rfl⟩
  conv => whnf
  refine ⟨⟨_, rfl, .inr ⟨_, _, _, rfl, rfl, rfl, rfl⟩⟩, ?_⟩
  conv => whnf
  simp at hc2
  rw [wrap_i64 (by omega) (by omega)]
  refine ⟨by omega, .str (nameOf kind), namesL_at hc hc2, rfl, ?_⟩
  conv => whnf
  refine ⟨by simp; omega, ?_⟩
  conv => whnf
  rotate_left
  conv => whnf
  simp at hc
  have hn : nameOf kind = [63] := by unfold nameOf; rw [if_neg (by omega)]
  refine ⟨by decide, ?_⟩
  conv => whnf
  rotate_left
  conv => whnf
  simp at hc2
  have hn : nameOf kind = [63] := by unfold nameOf; rw [if_neg (by omega)]
  refine ⟨by decide, ?_⟩
  conv => whnf
  all_goals
    refine CodeQ.loop (fun (q : Nat × List UInt8) => pat 42 [(3, .str q.2), (25, .lst (ps.map I64) t), (26, .int .i64 ps.length), (27, .int .i64 q.1)])
      (fun m q S1 => q.1 + m = ps.length ∧ Keep S S1 ∧ q.2.length ≤ 8 + 22 * q.1 ∧ q.2 ++ jn itoa q.1 (ps.drop q.1) = nameOf kind ++ [32, 47] ++ jn itoa 0 ps) ?_ ps.length (0, nameOf kind ++ [32, 47]) _ _
      ⟨by simp, .refl _, by simp; omega, by simp⟩ ⟨by first | rfl | rw [hn], rfl, by simp, rfl, trivial⟩
    rintro m ⟨i, acc⟩ S1 d ⟨k1, k2, k3, k4⟩
    dsimp only at k1 k3 k4 ⊢
    conv => whnf
    intro c hc3
    simp at hc3
    cases c
    · conv => whnf
      simp at hc3
      obtain rfl : i = ps.length := by omega
      rw [List.drop_length] at k4
      refine ⟨k2, ?_⟩
      show AV.str acc = AV.str _
      rw [← k4]; simp [jn]
    simp at hc3
    conv => whnf
    refine ⟨by omega, I64 ps[i], by simp [hc3], rfl, ?_⟩
    conv => whnf
    have ed : ps.drop i = ps[i] :: ps.drop (i + 1) := List.drop_eq_getElem_cons hc3
    rw [ed, jn] at k4
    have hp := hi ps[i] (by simp)
    have e9 : IntKind.i64.wrap ((i : Int) + 1) = ((i + 1 : Nat) : Int) := by rw [wrap_i64 (by omega) (by omega)]; omega
    intro c4 hc4
    simp at hc4
    cases c4
    · conv => whnf
      simp at hc4
      obtain rfl : i = 0 := by omega
      refine CallQ.mono (H ps[0] (by simp) S1) ?_
      rintro v S2 ⟨h1, rfl⟩
      conv => whnf
      refine ⟨by omega, ?_⟩
      conv => whnf
      refine ⟨m - 1, (0 + 1, acc ++ itoa ps[0]), by omega, ⟨by show 0 + 1 + _ = _; omega, k2.trans h1, by simp; omega, by rw [← k4]; simp⟩, ⟨rfl, rfl, rfl, by rw [e9], trivial⟩⟩
    · conv => whnf
      have hc4 : 0 < i := by simpa using hc4
      refine ⟨by simp; omega, ?_⟩
      conv => whnf
      refine CallQ.mono (H ps[i] (by simp) S1) ?_
      rintro v S2 ⟨h1, rfl⟩
      conv => whnf
      refine ⟨by simp; omega, ?_⟩
      conv => whnf
      refine ⟨m - 1, (i + 1, acc ++ [47] ++ itoa ps[i]), by omega, ⟨by show i + 1 + _ = _; omega, k2.trans h1, by simp; omega, by rw [← k4]; simp [hc4]⟩, ⟨rfl, rfl, rfl, by rw [e9], trivial⟩⟩
end Go.Proofs.YtiknkngdfdmkbaaDoor
