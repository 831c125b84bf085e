import Derived.Test.YtiknkngdfdmkbaaDoorVML1
namespace Go.Proofs.YtiknkngdfdmkbaaDoor
open Go.Proofs.YtiknkngdfdmkbaaDoor.VM
set_option maxRecDepth 100000
set_option linter.unusedVariables false

theorem conv_u8 (bs : List UInt8) (t : Tip) (S : St) : convertA Tryd.prog S 23 9 (.lst (bs.map u8) t) = some (.str bs) := by
  have h : convertA Tryd.prog S 23 9 (.lst (bs.map u8) t) = (bytesOfA (bs.map u8)).map .str := rfl
  rw [h, bytesOfA_u8]; rfl

theorem t10 (a b : List UInt8) (va vb : AV) (ha : Elems va (a.map u8)) (hb : Elems vb (b.map u8)) (S : St) :
    CallQ Tryd.prog LC 10 [va, vb] S fun r S1 => S1 = S ∧ r = .bool (a == b) := by
  refine CallQ.of rfl (by kernel_rfl : Tryd.prog.funcs[10]? = some Tryd.f10) rfl (by decide) ?_
  have fin : ∀ c, c = (a == b) → S = S ∧ (AV.bool c).shed2 = .bool (a == b) := fun c hc => ⟨rfl, by rw [hc]; rfl⟩
  rcases ha with ⟨rfl, ha⟩ | ⟨t, rfl⟩ <;> rcases hb with ⟨rfl, hb⟩ | ⟨t', rfl⟩
  · conv => whnf
    intro c hc
    conv => whnf
    obtain rfl : a = [] := by simpa using ha
    obtain rfl : b = [] := by simpa using hb
    exact fin c hc
  · conv => whnf
    refine ⟨_, conv_u8 b _ _, ?_⟩
    conv => whnf
    intro c hc
    conv => whnf
    obtain rfl : a = [] := by simpa using ha
    exact fin c hc
  · conv => whnf
    refine ⟨_, conv_u8 a _ _, ?_⟩
    conv => whnf
    intro c hc
    conv => whnf
    obtain rfl : b = [] := by simpa using hb
    exact fin c hc
  · conv => whnf
    refine ⟨_, conv_u8 a _ _, ?_⟩
    conv => whnf
    refine ⟨_, conv_u8 b _ _, ?_⟩
    conv => whnf
    intro c hc
    conv => whnf
    exact fin c hc
theorem t34 (p : Int) (S : St) : CallQ Tryd.prog LC 34 [I64 p] S fun r S1 => S1 = S ∧ r = .bool (decide (p < 0 ∨ p > 4095)) := by
  refine CallQ.of rfl (by kernel_rfl : Tryd.prog.funcs[34]? = some Tryd.f34) rfl (by decide) ?_
  conv => whnf
  intro c hc
  cases c
  · conv => whnf
    intro c1 hc1
    conv => whnf
    refine ⟨rfl, ?_⟩
    show AV.bool _ = AV.bool _
    congr 1
    rw [hc1]
    simp at hc
    simp; omega
  · conv => whnf
    refine ⟨rfl, ?_⟩
    show AV.bool _ = AV.bool _
    congr 1
    simp at hc
    simp; omega

theorem t42 (ps : List Int) (s : AV) (hs : Elems s (ps.map I64)) (hb : ps.length ≤ 64) (S : St) :
    CallQ Tryd.prog LC 42 [s, .func (.func 34) [] []] S fun r S1 => S1 = S ∧ ∃ j : Int, r = .int .i64 j ∧ (0 ≤ j ↔ ∃ p ∈ ps, p < 0 ∨ p > 4095) := by
  refine CallQ.of rfl (by kernel_rfl : Tryd.prog.funcs[42]? = some Tryd.f42) rfl (by decide) ?_
  rcases hs with ⟨rfl, hps⟩ | ⟨t, rfl⟩
  · obtain rfl : ps = [] := by simpa using hps
    conv => whnf
    refine CodeQ.loop (fun (i : Nat) => pat 19 [(7, .int .i64 0), (8, .int .i64 0)]) (fun m i S1 => S1 = S) ?_ 0 0 _ _ rfl ⟨rfl, rfl, trivial⟩
    intro m i S1 d e
    subst e
    conv => whnf
    intro c hc
    simp at hc
    subst hc
    conv => whnf
    exact ⟨rfl, -1, rfl, by simp⟩
  · conv => whnf
    refine CodeQ.loop (fun (i : Nat) => pat 19 [(0, .lst (ps.map I64) t), (1, .func (.func 34) [] []), (7, .int .i64 ps.length), (8, .int .i64 i)]) (fun m i S1 => S1 = S ∧ i + m = ps.length ∧ ∀ j (h : j < ps.length), j < i → ¬ (ps[j] < 0 ∨ ps[j] > 4095)) ?_ ps.length 0 _ _ ⟨rfl, by omega, fun j h1 h2 => by omega⟩ ⟨rfl, rfl, by simp, rfl, trivial⟩
    intro m i S1 d ⟨e1, e2, e3⟩
    subst e1
    conv => whnf
    intro c hc
    simp at hc
    cases c
    · simp at hc
      conv => whnf
      refine ⟨rfl, -1, rfl, by simp; intro p hp; obtain ⟨j, hj, rfl⟩ := List.getElem_of_mem hp; have := e3 j hj (by omega); omega⟩
    · simp at hc
      conv => whnf
      refine ⟨by omega, I64 ps[i], by simp [hc], rfl, ?_⟩
      conv => whnf
      refine CallQ.mono (t34 ps[i] S1) ?_
      rintro v S2 ⟨rfl, rfl⟩
      generalize hc2 : decide (ps[i] < 0 ∨ ps[i] > 4095) = c2
      cases c2
      · conv => whnf
        simp at hc2
        refine ⟨m - 1, i + 1, by omega, ⟨rfl, by omega, fun j h1 h2 => ?_⟩, ⟨rfl, rfl, rfl, by rw [wrap_i64 (by omega) (by omega)]; rfl, trivial⟩⟩
        by_cases e : j = i
        · subst e; omega
        · exact e3 j h1 (by omega)
      · conv => whnf
        simp at hc2
        exact ⟨rfl, i, rfl, by simp; exact ⟨ps[i], by simp, by omega⟩⟩

theorem t33 (ps : List Int) (s : AV) (hs : Elems s (ps.map I64)) (hb : ps.length ≤ 64) (S : St) :
    CallQ Tryd.prog LC 33 [s, .func (.func 34) [] []] S fun r S1 => S1 = S ∧ r = .bool (decide (∃ p ∈ ps, p < 0 ∨ p > 4095)) := by
  refine CallQ.of rfl (by kernel_rfl : Tryd.prog.funcs[33]? = some Tryd.f33) rfl (by decide) ?_
  conv => whnf
  refine CallQ.mono (t42 ps s hs hb S) ?_
  rintro v S1 ⟨rfl, j, rfl, hj⟩
  conv => whnf
  intro c hc
  conv => whnf
  refine ⟨rfl, ?_⟩
  show AV.bool _ = AV.bool _
  congr 1
  rw [hc, decide_eq_decide]
  exact hj

def namesL : List AV := [.str [102, 108, 111, 97, 116], .str [110, 97, 110], .str [98, 121, 116, 101, 115], .str [116, 97, 103], .str [109, 97, 112], .str [115, 105, 109, 112, 108, 101]]
theorem t23 (S : St) : CallQ Tryd.prog LC 23 [] S fun r S1 => S1 = S ∧ r = .lst namesL .lost := by
  refine CallQ.of rfl (by kernel_rfl : Tryd.prog.funcs[23]? = some Tryd.f23) rfl (by decide) ?_
  conv => whnf
  exact ⟨rfl, rfl⟩

theorem t18 (ps : List Int) (s : AV) (hs : Elems s (ps.map I64)) (kind n : Int) (S : St) : CallQ Tryd.prog LC 18 [.agg [s, .int .i64 kind, .int .u64 n]] S fun r S1 => S1 = S ∧ r = .bool (mayL kind ps) := by
  refine CallQ.of rfl (by kernel_rfl : Tryd.prog.funcs[18]? = some Tryd.f18) rfl (by decide) ?_
  conv => whnf
  refine ⟨[0, 1, 2, 3, 4, 5, 6, 7, 8, 9, 10, 11, 12, 13, 14, 15, 16, 17, 18, 19, 20, 21, 22], [(6, [5])], by kernel_rfl, by kernel_rfl, by kernel_rfl, ?_⟩
  conv => whnf
  intro c hc
  cases c
  · conv => whnf
    simp at hc
    exact ⟨rfl, by show AV.bool false = AV.bool _; congr 1; simp [mayL]; omega⟩
  conv => whnf
  refine CallQ.mono (t23 S) ?_
  rintro v S1 ⟨rfl, rfl⟩
  conv => whnf
  refine ⟨⟨_, rfl, .inr ⟨_, _, _, rfl, rfl, rfl, rfl⟩⟩, ?_⟩
  conv => whnf
  intro c1 hc1
  cases c1
  · conv => whnf
    simp [namesL] at hc1
    exact ⟨rfl, by show AV.bool false = AV.bool _; congr 1; simp [mayL]; omega⟩
  simp [namesL] at hc1
  simp at hc
  rcases hs with ⟨rfl, hps⟩ | ⟨t, rfl⟩
  · obtain rfl : ps = [] := by simpa using hps
    conv => whnf
    intro c2 hc2
    simp at hc2
    subst hc2
    conv => whnf
    refine CallQ.mono (t33 [] .nils (.inl ⟨rfl, rfl⟩) (by simp) S1) ?_
    rintro v S1 ⟨rfl, rfl⟩
    conv => whnf
    refine ⟨rfl, ?_⟩
    show AV.bool _ = AV.bool _
    congr 1
    simp [mayL]; omega
  · conv => whnf
    intro c2 hc2
    simp at hc2
    cases c2
    · conv => whnf
      simp at hc2
      exact ⟨rfl, by show AV.bool false = AV.bool _; congr 1; simp [mayL]; omega⟩
    · simp at hc2
      conv => whnf
      refine CallQ.mono (t33 ps (.lst (ps.map I64) t) (.inr ⟨t, rfl⟩) (by omega) S1) ?_
      rintro v S1 ⟨rfl, rfl⟩
      conv => whnf
      refine ⟨rfl, ?_⟩
      show AV.bool _ = AV.bool _
      congr 1
      by_cases h : ∀ p ∈ ps, 0 ≤ p ∧ p ≤ 4095
      · have h2 : ¬ ∃ p, p ∈ ps ∧ (p < 0 ∨ p > 4095) := by
          rintro ⟨p, hp, h'⟩
          have := h p hp
          omega
        rw [decide_eq_false h2, mayL, decide_eq_true ⟨hc, hc1, by omega, h⟩]; rfl
      · have h2 : ∃ p, p ∈ ps ∧ (p < 0 ∨ p > 4095) := Classical.byContradiction fun hn => h fun p hp => Classical.byContradiction fun h' => hn ⟨p, hp, by omega⟩
        rw [decide_eq_true h2, mayL, decide_eq_false (fun q => h q.2.2.2)]; rfl
end Go.Proofs.YtiknkngdfdmkbaaDoor
