import Derived.Test.YtmkmakokgfigoaaDoorVMT17
namespace Go.Proofs.YtmkmakokgfigoaaDoor
open Go.Proofs.YtmkmakokgfigoaaDoor.VM
set_option maxRecDepth 100000
set_option linter.unusedVariables false
set_option maxHeartbeats 1000000

def pI (k : Int) : AV := .int .i64 k
def findN : Nd → List Int → Option Nd
  | x, [] => some x
  | x, k :: ps => (stepN x k).bind fun y => findN y ps
def PsOk (ps : List Int) : Prop := ∀ k ∈ ps, -2 ^ 63 ≤ k ∧ k < 2 ^ 63
theorem step_mem {x y : Nd} {k : Int} (h : stepN x k = some y) : y ∈ x.keys ∨ y ∈ x.kids := by
  obtain ⟨kind, n, neg, dg, ex, tx, fb, bs, fk, keys, fd, kids⟩ := x
  simp only [stepN] at h
  split at h
  · split at h
    · cases h
    · split at h
      · exact .inl (List.mem_of_getElem? h)
      · exact .inr (List.mem_of_getElem? h)
  · split at h
    · split at h
      · cases h
      · exact .inr (List.mem_of_getElem? h)
    · cases h
theorem step_ok {x y : Nd} {k : Int} (hx : x.Ok) (h : stepN x k = some y) : y.Ok := by
  have hm := step_mem h
  obtain ⟨kind, n, neg, dg, ex, tx, fb, bs, fk, keys, fd, kids⟩ := x
  obtain ⟨x1, x2, x3, x4, x5, x6, x7, x8⟩ := hx
  rcases hm with hm | hm
  · exact oks_iff.1 x7 _ hm
  · exact oks_iff.1 x8 _ hm
theorem step_cnt {x y : Nd} {k : Int} (h : stepN x k = some y) : cnt y < cnt x := by
  have hm := step_mem h
  obtain ⟨kind, n, neg, dg, ex, tx, fb, bs, fk, keys, fd, kids⟩ := x
  simp only [cnt]
  rcases hm with hm | hm
  · have := cnt_mem (xs := keys) hm; omega
  · have := cnt_mem (xs := kids) hm; omega
def findV : Option Nd → AV
  | some y => .tuple [.cptr y.cs 0, .int .i64 0]
  | none => .tuple [.nul, .int .i64 19]
theorem drop_cons {α : Type} {xs : List α} {i : Nat} (h : i < xs.length) : xs.drop i = xs[i] :: xs.drop (i + 1) := List.drop_eq_getElem_cons h

theorem t33 (x : Nd) (hx : x.Ok) (ps : List Int) (fp : Sl) (hf : fp = .nil → ps = []) (hp : PsOk ps) (hl : ps.length ≤ 2 ^ 62) (S : St) : CallQ Tryd.prog TC 33 [.cptr x.cs 0, slV fp (ps.map pI)] S fun r S1 => r = findV (findN x ps) ∧ S1 = S := by
  refine CallQ.of rfl (by kernel_rfl : Tryd.prog.funcs[33]? = some Tryd.f33) rfl (by decide) ?_
  rcases fp with _ | tp
  · obtain rfl := hf rfl
    conv => whnf
    refine CodeQ.loop (fun (i : Nat) => pat 27 [(0, .cptr x.cs 0), (11, .int .i64 0), (12, .int .i64 0)]) (fun m i S1 => S1 = S) ?_ 0 0 _ _ rfl ⟨rfl, rfl, rfl, trivial⟩
    rintro m i S1 d rfl
    conv => whnf
    intro c hc
    obtain rfl : c = false := by rw [hc]; rfl
    conv => whnf
    exact ⟨rfl, rfl⟩
  · conv => whnf
    refine CodeQ.loop (fun (q : Nat × Nd) => pat 27 [(0, .cptr q.2.cs 0), (10, .lst (ps.map pI) tp), (11, .int .i64 ps.length), (12, .int .i64 q.1)]) (fun m q S1 => S1 = S ∧ q.1 + m = ps.length ∧ findN x ps = findN q.2 (ps.drop q.1) ∧ q.2.Ok) ?_ ps.length (0, x) _ _ ⟨rfl, by simp, rfl, hx⟩ ⟨rfl, rfl, by simp, rfl, trivial⟩
    rintro m ⟨i, y⟩ S1 d ⟨rfl, hi, hfi, hy⟩
    dsimp only at *
    conv => whnf
    intro c hc
    cases c
    · have : ps.length ≤ i := by simpa using hc
      conv => whnf
      refine ⟨?_, rfl⟩
      rw [hfi, List.drop_eq_nil_iff.2 this]
      rfl
    · have hlt : i < ps.length := by simpa using hc
      have hk := hp ps[i] (List.getElem_mem hlt)
      have g1 : (ps.map pI)[i]? = some (.int .i64 ps[i]) := by simp [hlt, pI]
      conv => whnf
      refine ⟨by omega, _, g1, rfl, ?_⟩
      conv => whnf
      refine CallQ.mono (t44 y hy ps[i] hk.1 hk.2 S1) ?_
      rintro r S2 ⟨rfl, rfl⟩
      rw [drop_cons hlt] at hfi
      simp only [findN] at hfi
      have hso := @step_ok y
      cases hst : stepN y ps[i] with
      | none =>
        rw [hst] at hfi
        conv => whnf
        refine ⟨?_, rfl⟩
        rw [hfi]
        rfl
      | some z =>
        rw [hst] at hfi
        conv => whnf
        refine ⟨m - 1, (i + 1, z), by omega, ⟨rfl, by dsimp only; omega, hfi, hso hy hst⟩, ⟨rfl, rfl, rfl, ?_, trivial⟩⟩
        rw [wrap_i64 (by omega) (by omega)]; rfl
end Go.Proofs.YtmkmakokgfigoaaDoor
