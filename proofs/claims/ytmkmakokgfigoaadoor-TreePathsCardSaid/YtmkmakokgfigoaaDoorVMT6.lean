import Derived.Test.YtmkmakokgfigoaaDoorVMT5
namespace Go.Proofs.YtmkmakokgfigoaaDoor
open Go.Proofs.YtmkmakokgfigoaaDoor.VM
set_option maxRecDepth 100000
set_option linter.unusedVariables false

/-- A node, however its slices lie. -/
inductive Pl where
  | mk (kind : Int) (n : Nat) (neg : Bool) (dg : List UInt8) (ex : Int) (tx bs : List UInt8) (keys kids : List Pl)
mutual
def er : Nd → Pl
  | .mk kind n neg dg ex tx _ bs _ keys _ kids => .mk kind n neg dg ex tx bs (ers keys) (ers kids)
def ers : List Nd → List Pl
  | [] => []
  | x :: xs => er x :: ers xs
end
theorem ers_map : ∀ xs : List Nd, ers xs = xs.map er
  | [] => rfl
  | x :: xs => by rw [ers, ers_map xs]; rfl
open Classical in
noncomputable def sameB (a b : Nd) : Bool := decide (er a = er b)
open Classical in
noncomputable def sameL (a b : List Nd) : Bool := decide (ers a = ers b)

theorem t42 (a b : List UInt8) (fa fb : Sl) (ha : fa = .nil → a = []) (hb : fb = .nil → b = []) (hl : a.length ≤ 2 ^ 47) (S : St) :
    CallQ Tryd.prog TC 42 [slV fa (a.map u8), slV fb (b.map u8)] S fun r S1 => r = .bool (decide (a = b)) ∧ S1 = S := by
  refine CallQ.of rfl (by kernel_rfl : Tryd.prog.funcs[42]? = some Tryd.f42) rfl (by decide) ?_
  have ne : ∀ {c : Bool}, a.length ≠ b.length → AV.bool false = .bool (decide (a = b)) := fun h => by
    rw [decide_eq_false (fun e => h (by rw [e]))]
  rcases fa with _ | ta <;> rcases fb with _ | tb
  · have h1 := ha rfl; have h2 := hb rfl
    subst h1 h2
    conv => whnf
    intro c hc
    simp at hc
    subst hc
    conv => whnf
    refine CodeQ.loop (fun (i : Nat) => pat 26 [(12, .int .i64 0), (13, .int .i64 0)]) (fun m i S1 => S1 = S) ?_ 0 0 _ _ rfl ⟨rfl, rfl, trivial⟩
    intro m i S1 d e
    subst e
    conv => whnf
    intro c hc
    simp at hc
    subst hc
    conv => whnf
    exact ⟨rfl, rfl⟩
  · have h1 := ha rfl
    subst h1
    conv => whnf
    intro c hc
    simp at hc
    cases c
    · have hb0 : b = [] := by rcases b with _ | ⟨x, l⟩; rfl; simp at hc; omega
      subst hb0
      conv => whnf
      refine CodeQ.loop (fun (i : Nat) => pat 26 [(12, .int .i64 0), (13, .int .i64 0)]) (fun m i S1 => S1 = S) ?_ 0 0 _ _ rfl ⟨rfl, rfl, trivial⟩
      intro m i S1 d e
      subst e
      conv => whnf
      intro c hc
      simp at hc
      subst hc
      conv => whnf
      exact ⟨rfl, rfl⟩
    · conv => whnf
      refine ⟨?_, rfl⟩
      refine ne (c := true) ?_
      intro h
      have hb0 : b = [] := List.length_eq_zero_iff.1 (by simpa using h.symm)
      subst hb0; simp at hc
  · have h1 := hb rfl
    subst h1
    conv => whnf
    intro c hc
    simp at hc
    cases c
    · have hb0 : a = [] := by rcases a with _ | ⟨x, l⟩; rfl; simp at hc; omega
      subst hb0
      conv => whnf
      refine CodeQ.loop (fun (i : Nat) => pat 26 [(12, .int .i64 0), (13, .int .i64 0)]) (fun m i S1 => S1 = S) ?_ 0 0 _ _ rfl ⟨rfl, rfl, trivial⟩
      intro m i S1 d e
      subst e
      conv => whnf
      intro c hc
      simp at hc
      subst hc
      conv => whnf
      exact ⟨rfl, rfl⟩
    · conv => whnf
      refine ⟨?_, rfl⟩
      refine ne (c := true) ?_
      intro h
      have hb0 : a = [] := List.length_eq_zero_iff.1 (by simpa using h)
      subst hb0; simp at hc
  · conv => whnf
    intro c hc
    cases c
    rotate_left
    · conv => whnf
      refine ⟨ne (c := true) ?_, rfl⟩
      intro h
      simp [h] at hc
    have hll : a.length = b.length := by simp at hc; omega
    conv => whnf
    refine CodeQ.loop (fun (i : Nat) => pat 26 [(0, .lst (a.map u8) ta), (1, .lst (b.map u8) tb), (12, .int .i64 a.length), (13, .int .i64 i)]) (fun m i S1 => S1 = S ∧ i + m = a.length ∧ a.take i = b.take i) ?_ a.length 0 _ _ ⟨rfl, by simp, rfl⟩ ⟨rfl, rfl, by simp, rfl, trivial⟩
    rintro m i S1 d ⟨rfl, k1, k2⟩
    conv => whnf
    intro c hc
    simp at hc
    cases c
    · simp at hc
      conv => whnf
      refine ⟨?_, rfl⟩
      have : a = b := by
        have e1 : a.take i = a := List.take_of_length_le (by omega)
        have e2 : b.take i = b := List.take_of_length_le (by omega)
        rw [← e1, ← e2]; exact k2
      rw [decide_eq_true this]; rfl
    simp at hc
    have hib : i < b.length := by omega
    conv => whnf
    refine ⟨[0, 1, 2, 3, 4, 5, 6, 7, 8], [], by kernel_rfl, by kernel_rfl, by kernel_rfl, ?_⟩
    conv => whnf
    refine ⟨by omega, u8 a[i], by simp [hc], rfl, ?_⟩
    conv => whnf
    refine ⟨by omega, u8 b[i], by simp [hib], rfl, ?_⟩
    conv => whnf
    intro c2 hc2
    cases c2
    · conv => whnf
      have hx : a[i] = b[i] := by simp at hc2; exact UInt8.toNat_inj.1 (by omega)
      refine ⟨m - 1, i + 1, by omega, ⟨rfl, by omega, ?_⟩, ⟨rfl, rfl, rfl, ?_, trivial⟩⟩
      · rw [List.take_succ_eq_append_getElem hc, List.take_succ_eq_append_getElem hib, k2, hx]
      · rw [wrap_i64 (by omega) (by omega)]; rfl
    · conv => whnf
      refine ⟨?_, rfl⟩
      have hx : ¬ a = b := by
        intro e
        subst e
        simp at hc2
      rw [decide_eq_false hx]; rfl

open Classical in
theorem t43 (xs ys : List Nd) (fa fb : Sl) (ha : fa = .nil → xs = []) (hb : fb = .nil → ys = []) (hl : xs.length ≤ 2 ^ 47)
    (H : ∀ x ∈ xs, ∀ y ∈ ys, ∀ S, CallQ Tryd.prog TC 29 [x.v, y.v] S fun r S1 => r = .bool (sameB x y) ∧ Keep S S1) (S : St) :
    CallQ Tryd.prog TC 43 [slV fa (Nd.vs xs), slV fb (Nd.vs ys), .func (.func 29) [] []] S fun r S1 => r = .bool (sameL xs ys) ∧ Keep S S1 := by
  refine CallQ.of rfl (by kernel_rfl : Tryd.prog.funcs[43]? = some Tryd.f43) rfl (by decide) ?_
  have ne : xs.length ≠ ys.length → AV.bool false = .bool (sameL xs ys) := fun h => by
    rw [sameL, decide_eq_false (fun e => h (by rw [ers_map, ers_map] at e; simpa using congrArg List.length e))]
  have nil : AV.bool true = .bool (sameL [] []) := by rw [sameL, decide_eq_true rfl]
  rcases fa with _ | ta <;> rcases fb with _ | tb
  · have h1 := ha rfl; have h2 := hb rfl
    subst h1 h2
    conv => whnf
    intro c hc
    simp at hc
    subst hc
    conv => whnf
    refine CodeQ.loop (fun (i : Nat) => pat 32 [(16, .int .i64 0), (17, .int .i64 0)]) (fun m i S1 => S1 = S) ?_ 0 0 _ _ rfl ⟨rfl, rfl, trivial⟩
    intro m i S1 d e
    subst e
    conv => whnf
    intro c hc
    simp at hc
    subst hc
    conv => whnf
    exact ⟨nil, .refl _⟩
  · have h1 := ha rfl
    subst h1
    conv => whnf
    intro c hc
    simp [vs_map] at hc
    cases c
    · have hb0 : ys = [] := by rcases ys with _ | ⟨x, l⟩; rfl; simp at hc; omega
      subst hb0
      conv => whnf
      refine CodeQ.loop (fun (i : Nat) => pat 32 [(16, .int .i64 0), (17, .int .i64 0)]) (fun m i S1 => S1 = S) ?_ 0 0 _ _ rfl ⟨rfl, rfl, trivial⟩
      intro m i S1 d e
      subst e
      conv => whnf
      intro c hc
      simp at hc
      subst hc
      conv => whnf
      exact ⟨nil, .refl _⟩
    · conv => whnf
      refine ⟨ne ?_, .refl _⟩
      intro h
      have hb0 : ys = [] := List.length_eq_zero_iff.1 (by simpa using h.symm)
      subst hb0; simp at hc
  · have h1 := hb rfl
    subst h1
    conv => whnf
    intro c hc
    simp [vs_map] at hc
    cases c
    · have hb0 : xs = [] := by rcases xs with _ | ⟨x, l⟩; rfl; simp at hc; omega
      subst hb0
      conv => whnf
      refine CodeQ.loop (fun (i : Nat) => pat 32 [(16, .int .i64 0), (17, .int .i64 0)]) (fun m i S1 => S1 = S) ?_ 0 0 _ _ rfl ⟨rfl, rfl, trivial⟩
      intro m i S1 d e
      subst e
      conv => whnf
      intro c hc
      simp at hc
      subst hc
      conv => whnf
      exact ⟨nil, .refl _⟩
    · conv => whnf
      refine ⟨ne ?_, .refl _⟩
      intro h
      have hb0 : xs = [] := List.length_eq_zero_iff.1 (by simpa using h)
      subst hb0; simp at hc
  · conv => whnf
    intro c hc
    cases c
    rotate_left
    · conv => whnf
      refine ⟨ne ?_, .refl _⟩
      intro h
      simp [vs_map, h] at hc
    have hll : xs.length = ys.length := by simp [vs_map] at hc; omega
    conv => whnf
    refine CodeQ.loop (fun (i : Nat) => pat 32 [(1, .lst (Nd.vs ys) tb), (2, .func (.func 29) [] []), (15, .lst (Nd.vs xs) ta), (16, .int .i64 xs.length), (17, .int .i64 i)]) (fun m i S1 => Keep S S1 ∧ i + m = xs.length ∧ ers (xs.take i) = ers (ys.take i)) ?_ xs.length 0 _ _ ⟨.refl _, by simp, rfl⟩ ⟨rfl, rfl, rfl, by simp [vs_map], rfl, trivial⟩
    rintro m i S1 d ⟨k0, k1, k2⟩
    conv => whnf
    intro c hc
    simp at hc
    cases c
    · simp at hc
      conv => whnf
      refine ⟨?_, k0⟩
      have : ers xs = ers ys := by
        have e1 : xs.take i = xs := List.take_of_length_le (by omega)
        have e2 : ys.take i = ys := List.take_of_length_le (by omega)
        rw [e1, e2] at k2; exact k2
      rw [sameL, decide_eq_true this]; rfl
    simp at hc
    have hib : i < ys.length := by omega
    have hcall := H xs[i] (by simp) ys[i] (by simp)
    have g1 : (Nd.vs xs)[i]? = some xs[i].v := by rw [vs_map]; simp [hc]
    have g2 : (Nd.vs ys)[i]? = some ys[i].v := by rw [vs_map]; simp [hib]
    have t1 : ers (xs.take (i + 1)) = ers (xs.take i) ++ [er xs[i]] := by rw [ers_map, ers_map, List.take_succ_eq_append_getElem hc, List.map_append]; rfl
    have t2 : ers (ys.take (i + 1)) = ers (ys.take i) ++ [er ys[i]] := by rw [ers_map, ers_map, List.take_succ_eq_append_getElem hib, List.map_append]; rfl
    have dif : er xs[i] ≠ er ys[i] → ers xs ≠ ers ys := fun h e => by
      rw [ers_map, ers_map] at e
      have := congrArg (fun l => l[i]?) e
      simp [hc, hib] at this
      exact h this
    generalize xs[i] = x at *
    generalize ys[i] = y at *
    obtain ⟨kind', n', neg', dg', ex', tx', fb', bs', fk', keys', fd', kids'⟩ := x
    obtain ⟨kind2, n2, neg2, dg2, ex2, tx2, fb2, bs2, fk2, keys2, fd2, kids2⟩ := y
    conv => whnf
    refine ⟨by omega, _, g1, rfl, ?_⟩
    conv => whnf
    refine ⟨_, _, cells_new _ _, store_agg rfl rfl (nd_leaf ..), ?_⟩
    conv => whnf
    generalize hS2 : (S1.new _).set S1.next _ = S2
    have kk2 : Keep S1 S2 := by rw [← hS2]; exact ((Keep.refl S1).new _).set _ _ (Nat.le_refl _)
    have x2 : S2.cells S1.next = some [.int .i64 kind', .int .u64 n', .bool neg', .str dg', .int .i64 ex', .str tx', slV fb' (bs'.map u8), slV fk' (Nd.vs keys'), slV fd' (Nd.vs kids')] := by rw [← hS2]; exact cells_set _ _ _
    have n2' : S2.next = S1.next + 1 := by rw [← hS2]; rfl
    refine ⟨by omega, _, g2, rfl, ?_⟩
    conv => whnf
    refine ⟨_, _, cells_new _ _, store_agg rfl rfl (nd_leaf ..), ?_⟩
    conv => whnf
    generalize hS3 : (S2.new _).set S2.next _ = S3
    have kk3 : Keep S2 S3 := by rw [← hS3]; exact ((Keep.refl S2).new _).set _ _ (Nat.le_refl _)
    have y3 : S3.cells S2.next = some [.int .i64 kind2, .int .u64 n2, .bool neg2, .str dg2, .int .i64 ex2, .str tx2, slV fb2 (bs2.map u8), slV fk2 (Nd.vs keys2), slV fd2 (Nd.vs kids2)] := by rw [← hS3]; exact cells_set _ _ _
    have x3 := (cells_keep kk3 (j := S1.next) (by omega)).trans x2
    refine ⟨_, x3, ?_⟩
    conv => whnf
    refine ⟨_, y3, ?_⟩
    conv => whnf
    refine CallQ.mono (hcall S3) ?_
    rintro r S4 ⟨rfl, k4⟩
    have kall : Keep S S4 := ((k0.trans kk2).trans kk3).trans k4
    by_cases hs : er (.mk kind' n' neg' dg' ex' tx' fb' bs' fk' keys' fd' kids') = er (.mk kind2 n2 neg2 dg2 ex2 tx2 fb2 bs2 fk2 keys2 fd2 kids2)
    · rw [show sameB (.mk kind' n' neg' dg' ex' tx' fb' bs' fk' keys' fd' kids') (.mk kind2 n2 neg2 dg2 ex2 tx2 fb2 bs2 fk2 keys2 fd2 kids2) = true by rw [sameB, decide_eq_true hs]]
      conv => whnf
      refine ⟨m - 1, i + 1, by omega, ⟨kall, by omega, by rw [t1, t2, k2, hs]⟩, ⟨rfl, rfl, rfl, rfl, ?_, trivial⟩⟩
      rw [wrap_i64 (by omega) (by omega)]; rfl
    · rw [show sameB (.mk kind' n' neg' dg' ex' tx' fb' bs' fk' keys' fd' kids') (.mk kind2 n2 neg2 dg2 ex2 tx2 fb2 bs2 fk2 keys2 fd2 kids2) = false by rw [sameB, decide_eq_false hs]]
      conv => whnf
      refine ⟨?_, kall⟩
      rw [sameL, decide_eq_false (dif hs)]; rfl
end Go.Proofs.YtmkmakokgfigoaaDoor
