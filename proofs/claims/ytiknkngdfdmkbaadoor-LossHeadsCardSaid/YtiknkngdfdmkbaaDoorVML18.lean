import Derived.Test.YtiknkngdfdmkbaaDoorVML17
namespace Go.Proofs.YtiknkngdfdmkbaaDoor
open Go.Proofs.YtiknkngdfdmkbaaDoor.VM
set_option maxRecDepth 100000
set_option linter.unusedVariables false

/-- Alike, but for where the paths lie. -/
structure Ls.Like (a b : Ls) : Prop where
  kind : a.kind = b.kind
  num : a.n = b.n
  path : a.ps = b.ps

theorem t15 (la lb : List Ls) (ha : ∀ l ∈ la, l.Ok) (hb : ∀ l ∈ lb, l.Ok) (va vb : AV) (hva : Elems va (la.map Ls.v)) (hvb : Elems vb (lb.map Ls.v)) (hl : la.length = lb.length) (hle : la.length ≤ 2 ^ 60)
    (hp : ∀ l ∈ la, l.ps.length ≤ 2 ^ 60) (hs : ∀ (i : Nat) (h1 : i < la.length) (h2 : i < lb.length), Ls.Like la[i] lb[i]) (S : St) :
    CallQ Tryd.prog LC 15 [va, vb] S fun r S1 => r = .bool true ∧ S1 = S := by
  refine CallQ.of rfl (by kernel_rfl : Tryd.prog.funcs[15]? = some Tryd.f15) rfl (by decide) ?_
  by_cases h0 : la = []
  · subst h0
    obtain rfl : lb = [] := List.length_eq_zero_iff.1 (by simpa using hl.symm)
    rcases hva with ⟨rfl, _⟩ | ⟨t1, rfl⟩ <;> rcases hvb with ⟨rfl, _⟩ | ⟨t2, rfl⟩
    all_goals
      conv => whnf
      intro c hc
      simp at hc
      subst hc
      conv => whnf
      first
        | refine CodeQ.loop (fun (_ : Nat) => pat 84 [(0, .nils), (5, .int .i64 0)]) (fun _ _ S8 => S8 = S) ?_ 0 0 _ _ rfl ⟨rfl, rfl, trivial⟩
        | refine CodeQ.loop (fun (_ : Nat) => pat 84 [(0, .lst (List.map Ls.v []) t1), (5, .int .i64 0)]) (fun _ _ S8 => S8 = S) ?_ 0 0 _ _ rfl ⟨rfl, rfl, trivial⟩
      intro m i S8 d e
      subst e
      conv => whnf
      intro c hc
      simp at hc
      subst hc
      conv => whnf
      exact ⟨rfl, rfl⟩
  have hpos : 0 < la.length := List.length_pos_iff.2 h0
  rcases hva with ⟨rfl, h⟩ | ⟨t1, rfl⟩
  · simp at h; exact absurd h h0
  rcases hvb with ⟨rfl, h⟩ | ⟨t2, rfl⟩
  · have : lb = [] := by simpa using h
    subst this; simp at hl; exact absurd hl h0
  conv => whnf
  intro c hc
  simp [hl] at hc
  subst hc
  conv => whnf
  refine CodeQ.loop (fun (i : Nat) => pat 84 [(0, .lst (la.map Ls.v) t1), (1, .lst (lb.map Ls.v) t2), (5, .int .i64 i)]) (fun m i S8 => S8 = S ∧ i + m = la.length) ?_ la.length 0 _ _ ⟨rfl, by simp⟩ ⟨rfl, rfl, rfl, trivial⟩
  rintro m i S8 d ⟨rfl, k1⟩
  conv => whnf
  intro c hc
  simp at hc
  cases c
  · conv => whnf
    exact ⟨rfl, rfl⟩
  simp at hc
  have hi2 : i < lb.length := by omega
  have hlk := hs i hc hi2
  have hoa := ha la[i] (by simp)
  have hob := hb lb[i] (by simp)
  have hpl := hp la[i] (by simp)
  obtain ⟨a, hea⟩ : ∃ a, a = la[i] := ⟨_, rfl⟩
  obtain ⟨b, heb⟩ : ∃ b, b = lb[i] := ⟨_, rfl⟩
  have fa : (la.map Ls.v)[i]? = some a.v := by rw [hea]; simp [hc]
  have fb : (lb.map Ls.v)[i]? = some b.v := by rw [heb]; simp [hi2]
  rw [← hea, ← heb] at hlk
  rw [← hea] at hoa hpl
  rw [← heb] at hob
  obtain ⟨l1, l2, l3⟩ := hlk
  obtain ⟨sb, pb, kb, nb⟩ := b
  obtain ⟨sa, pa, ka, na⟩ := a
  dsimp only at l1 l2 l3 hpl
  subst l1 l2 l3
  have pa1 := hoa.path
  have pb1 := hob.path
  dsimp only at pa1 pb1
  conv => whnf
  refine ⟨[0, 1, 2, 3, 4, 5, 6, 7, 8, 9, 10, 11, 12, 13, 14, 15, 16, 17, 18, 19, 20, 21, 22, 23, 24, 25, 26, 27, 28, 29, 30, 31, 32, 33, 34, 35, 36, 37, 38], [], by kernel_rfl, by kernel_rfl, by kernel_rfl, ?_⟩
  conv => whnf
  refine ⟨by omega, _, fa, rfl, ?_⟩
  conv => whnf
  refine ⟨by omega, _, fb, rfl, ?_⟩
  conv => whnf
  intro c1 h1
  simp at h1
  subst h1
  conv => whnf
  refine ⟨by omega, _, fa, rfl, ?_⟩
  conv => whnf
  refine ⟨by omega, _, fb, rfl, ?_⟩
  conv => whnf
  intro c1 h1
  simp at h1
  subst h1
  conv => whnf
  refine ⟨by omega, _, fa, rfl, ?_⟩
  rcases pa1 with ⟨rfl, hpa⟩ | ⟨ta, rfl⟩ <;> rcases pb1 with ⟨rfl, hpb⟩ | ⟨tb, rfl⟩
  all_goals
    conv => whnf
    refine ⟨by omega, _, fb, rfl, ?_⟩
    conv => whnf
    intro c1 h1
    first
      | (have h1 : c1 = false := by simp at hpa; rw [h1]; simp [hpa]
         subst h1)
      | (have h1 : c1 = false := by simp at hpb; rw [h1]; simp [hpb]
         subst h1)
      | (have h1 : c1 = false := by rw [h1]; simp
         subst h1)
    conv => whnf
    refine CodeQ.loop (fun (j : Nat) => pat 84 [(0, .lst (la.map Ls.v) t1), (1, .lst (lb.map Ls.v) t2), (5, .int .i64 i), (6, .int .i64 j)]) (fun m j S9 => S9 = S8 ∧ j + m = pa.length) ?_ pa.length 0 _ _ ⟨rfl, by simp⟩ ⟨rfl, rfl, rfl, rfl, trivial⟩
    rintro m' j S9 d' ⟨rfl, j1⟩
    conv => whnf
    refine ⟨by omega, _, fa, rfl, ?_⟩
    conv => whnf
    intro c2 h2
    cases c2
    · conv => whnf
      refine ⟨m - 1, i + 1, by omega, ⟨rfl, by omega⟩, ⟨rfl, rfl, ?_, trivial⟩⟩
      rw [wrap_i64 (by omega) (by omega)]; rfl
    have h3 : j < pa.length := by
      first
        | (have h2 : j < pa.length := by simpa using h2
           exact h2)
        | (simp at h2; omega)
    first
      | (exfalso; simp at hpa; rw [hpa] at h3; exact absurd h3 (Nat.not_lt_zero _))
      | (exfalso; simp at hpb; rw [hpb] at h3; exact absurd h3 (Nat.not_lt_zero _))
      | skip
    try
      conv => whnf
      refine ⟨[0, 1, 2, 3, 4, 5, 6, 7, 8, 9, 10, 11, 12, 13, 14, 15, 16], [], by kernel_rfl, by kernel_rfl, by kernel_rfl, ?_⟩
      conv => whnf
      refine ⟨by omega, _, fa, rfl, ?_⟩
      conv => whnf
      refine ⟨by omega, I64 pa[j], by simp [h3], rfl, ?_⟩
      conv => whnf
      refine ⟨by omega, _, fb, rfl, ?_⟩
      conv => whnf
      refine ⟨by omega, I64 pa[j], by simp [h3], rfl, ?_⟩
      conv => whnf
      intro c3 h4
      simp at h4
      subst h4
      conv => whnf
      refine ⟨m' - 1, j + 1, by omega, ⟨rfl, by omega⟩, ⟨rfl, rfl, rfl, ?_, trivial⟩⟩
      rw [wrap_i64 (by omega) (by omega)]; rfl
end Go.Proofs.YtiknkngdfdmkbaaDoor
