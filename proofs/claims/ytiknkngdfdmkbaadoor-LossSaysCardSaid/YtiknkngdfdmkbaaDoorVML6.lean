import Derived.Test.YtiknkngdfdmkbaaDoorVML5
namespace Go.Proofs.YtiknkngdfdmkbaaDoor
open Go.Proofs.YtiknkngdfdmkbaaDoor.VM
set_option maxRecDepth 100000
set_option linter.unusedVariables false

structure Ls where
  s : AV
  ps : List Int
  kind : Int
  n : Nat
def Ls.v (l : Ls) : AV := .agg [l.s, .int .i64 l.kind, .int .u64 l.n]
def Ls.may (l : Ls) : Bool := mayL l.kind l.ps
/-- What the row knows of a loss. -/
structure Ls.Ok (l : Ls) : Prop where
  path : Elems l.s (l.ps.map I64)
  num : l.n < 2 ^ 64

theorem t17 (l : Ls) (hl : l.Ok) (S : St) : CallQ Tryd.prog LC 17 [.agg [l.s, .int .i64 l.kind, .int .u64 l.n]] S fun r S1 => S1 = S ∧ r = .bool (!l.may) := by
  refine CallQ.of rfl (by kernel_rfl : Tryd.prog.funcs[17]? = some Tryd.f17) rfl (by decide) ?_
  conv => whnf
  refine CallQ.mono (t18 l.ps l.s hl.path l.kind l.n S) ?_
  rintro v S1 ⟨rfl, rfl⟩
  conv => whnf
  exact ⟨rfl, rfl⟩

theorem t32 (ls : List Ls) (hls : ∀ l ∈ ls, l.Ok) (hb : ls.length ≤ 2048) (s : AV) (hs : Elems s (ls.map Ls.v)) (S : St) :
    CallQ Tryd.prog LC 32 [s, .func (.func 17) [] []] S fun r S1 => S1 = S ∧ ∃ j : Int, r = .int .i64 j ∧ (0 ≤ j ↔ ∃ l ∈ ls, l.may = false) := by
  refine CallQ.of rfl (by kernel_rfl : Tryd.prog.funcs[32]? = some Tryd.f32) rfl (by decide) ?_
  rcases hs with ⟨rfl, hps⟩ | ⟨t, rfl⟩
  · obtain rfl : ls = [] := by simpa using hps
    conv => whnf
    refine CodeQ.loop (fun (i : Nat) => pat 19 [(7, .int .i64 0), (8, .int .i64 0)]) (fun m i S1 => S1 = S) ?_ 0 0 _ _ rfl ⟨rfl, rfl, trivial⟩
    intro m i S1 d e
    subst e
    conv => whnf
    intro c hc
    simp at hc
    subst hc
    conv => whnf
    exact ⟨rfl, -1, rfl, by simp⟩
  · conv => whnf
    refine CodeQ.loop (fun (i : Nat) => pat 19 [(0, .lst (ls.map Ls.v) t), (1, .func (.func 17) [] []), (7, .int .i64 ls.length), (8, .int .i64 i)]) (fun m i S1 => S1 = S ∧ i + m = ls.length ∧ ∀ j (h : j < ls.length), j < i → ls[j].may = true) ?_ ls.length 0 _ _ ⟨rfl, by omega, fun j h1 h2 => by omega⟩ ⟨rfl, rfl, by simp, rfl, trivial⟩
    intro m i S1 d ⟨e1, e2, e3⟩
    subst e1
    conv => whnf
    intro c hc
    simp at hc
    cases c
    · simp at hc
      conv => whnf
      refine ⟨rfl, -1, rfl, by simp; intro p hp; obtain ⟨j, hj, rfl⟩ := List.getElem_of_mem hp; exact e3 j hj (by omega)⟩
    · simp at hc
      conv => whnf
      refine ⟨by omega, Ls.v ls[i], by simp [hc], rfl, ?_⟩
      conv => whnf
      refine CallQ.mono (t17 ls[i] (hls _ (by simp)) S1) ?_
      rintro v S2 ⟨rfl, rfl⟩
      generalize hc2 : (!ls[i].may) = c2
      cases c2
      · conv => whnf
        simp at hc2
        refine ⟨m - 1, i + 1, by omega, ⟨rfl, by omega, fun j h1 h2 => ?_⟩, ⟨rfl, rfl, rfl, by rw [wrap_i64 (by omega) (by omega)]; rfl, trivial⟩⟩
        by_cases e : j = i
        · subst e; exact hc2
        · exact e3 j h1 (by omega)
      · conv => whnf
        simp at hc2
        exact ⟨rfl, i, rfl, by simp; exact ⟨ls[i], by simp, hc2⟩⟩

theorem t16 (ls : List Ls) (hls : ∀ l ∈ ls, l.Ok) (hb : ls.length ≤ 2048) (s : AV) (hs : Elems s (ls.map Ls.v)) (S : St) :
    CallQ Tryd.prog LC 16 [s, .func (.func 17) [] []] S fun r S1 => S1 = S ∧ r = .bool (decide (∃ l ∈ ls, l.may = false)) := by
  refine CallQ.of rfl (by kernel_rfl : Tryd.prog.funcs[16]? = some Tryd.f16) rfl (by decide) ?_
  conv => whnf
  refine CallQ.mono (t32 ls hls hb s hs S) ?_
  rintro v S1 ⟨rfl, j, rfl, hj⟩
  conv => whnf
  intro c hc
  conv => whnf
  refine ⟨rfl, ?_⟩
  show AV.bool _ = AV.bool _
  congr 1
  rw [hc, decide_eq_decide]
  exact hj

theorem curShort_len {n : Nat} (hn : n < 2 ^ 64) : (curShort n).length ≤ 10 := by
  have := grp_len 9 (n / 128) (by omega)
  simp [curShort]; omega

theorem t19 (S0 S : St) (o n : Nat) (v : AV) (xs : List UInt8) (hn : n < 2 ^ 64) (hv : Own S0 S v (xs.map u8)) (hk : Keep S0 S) (ho : S0.next ≤ o) (ho2 : o < S.next) (hc : S.cells o = some [v]) (hl : xs.length ≤ 2 ^ 40) :
    CallQ Tryd.prog LC 19 [.int .u64 n, .ptr o 0] S fun r S1 => r = .tuple [] ∧ ∃ v', S1.cells o = some [v'] ∧ Own S0 S1 v' ((xs ++ curShort n).map u8) ∧ Keep S0 S1 ∧ S.next ≤ S1.next ∧ ∀ j cs, j < S.next → j ≠ o → S.cells j = some cs → S1.cells j = some cs := by
  refine CallQ.of rfl (by kernel_rfl : Tryd.prog.funcs[19]? = some Tryd.f19) rfl (by decide) ?_
  conv => whnf
  refine ⟨[0, 1, 2, 3, 4], [(2, [0])], by kernel_rfl, by kernel_rfl, by kernel_rfl, ?_⟩
  conv => whnf
  refine ⟨_, hc, ?_⟩
  conv => whnf
  refine CallQ.mono (t20 n hn S) ?_
  rintro y S1 ⟨k, rfl, h1, h2, h3, h4⟩
  conv => whnf
  have hc1 : S1.cells o = some [v] := by unfold St.cells at *; rw [h4.mem o ho2]; exact hc
  refine ⟨stab_load rfl rfl rfl rfl rfl (by show (S1.cells o).bind _ = _; rw [hc1]; rfl), ?_⟩
  conv => whnf
  have hlen := curShort_len hn
  obtain ⟨r, S2, g1, g2, g3, g4, g5⟩ := Own.append' (f := 19) (C := LC) el23 rfl (Own.keep hv h4) (hk.trans h4) (elems_hnd h3) (shed_u8 _) (wellA_u8 _) (wellA_u8 _) (by simp; omega)
  refine ⟨r, S2, g1, ?_⟩
  conv => whnf
  have hrc : r.cells = [r] ∧ r.leafOk = true := by
    rcases g2 with ⟨rfl, _⟩ | ⟨_, _, _, rfl, _⟩ <;> exact ⟨rfl, rfl⟩
  have hc2 := g5 o _ (by have := h4.next; omega) hc1
  refine ⟨_, _, hc2, by rw [hrc.1]; exact if_pos ⟨rfl, by simp [hrc.2], Nat.le_refl _⟩, ?_⟩
  conv => whnf
  have hon : o < S2.next := by have := h4.next; omega
  refine ⟨rfl, r, cells_set _ _ _, ?_, g3.set _ _ ho, by have := h4.next; show S.next ≤ S2.next; omega, fun j cs hj hjo hcj => ?_⟩
  · rw [List.map_append]
    rcases g2 with h | ⟨m, a1, a2, a3, a4⟩
    · exact .inl h
    · refine .inr ⟨m, a1, a2, a3, ?_⟩
      show upd S2.mem o _ m = _
      have : m ≠ o := by
        rintro rfl
        unfold St.cells at hc2
        rw [a4] at hc2; cases hc2
      simp [upd, this, a4]
  · refine cells_set_ne (g5 j cs (by have := h4.next; omega) ?_) hjo
    unfold St.cells at *
    rw [h4.mem j hj]; exact hcj
end Go.Proofs.YtiknkngdfdmkbaaDoor
