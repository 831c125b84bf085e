import Derived.Test.YtmkmakokgfigoaaDoorVMO4
namespace Go.Proofs.YtmkmakokgfigoaaDoor
open Go.Proofs.YtmkmakokgfigoaaDoor.VM
set_option maxRecDepth 100000
set_option linter.unusedVariables false

def szN (x : Nd) : Nat := if cnt x ≤ 1024 then cnt x else 1025
def dpN (x : Nd) : Nat := if cnt x ≤ 1024 then dep x else 1025

theorem t27 (x : Nd) (hx : x.Ok) (S : St) : CallQ Tryd.prog TC 27 [x.v] S fun r S1 => r = .tuple [I (szN x), I (dpN x)] ∧ Keep S S1 := by
  have hw := t36 (cnt x) x hx (Nat.le_refl _)
  have hd := dep_pos x
  have hc1 := cnt_pos x
  obtain ⟨kind, n, neg, dg, ex, tx, fb, bs, fk, keys, fd, kids⟩ := x
  refine CallQ.of rfl (by kernel_rfl : Tryd.prog.funcs[27]? = some Tryd.f27) rfl (by decide) ?_
  conv => whnf
  obtain ⟨S1, hS1⟩ : ∃ S1, S1 = (S.new (.cells [.int .i64 0])).new (.cells [.int .i64 0]) := ⟨_, rfl⟩
  have k1 : Keep S S1 := by rw [hS1]; exact ((Keep.refl S).new _).new _
  have n1 : S1.next = S.next + 2 := by rw [hS1]; rfl
  have a1 : S1.cells S.next = some [.int .i64 ((0 : Nat) : Int)] := by rw [hS1]; exact cells_new_ne (cells_new _ _) (by show S.next ≠ S.next + 1; omega)
  have a2 : S1.cells (S.next + 1) = some [.int .i64 ((0 : Nat) : Int)] := by rw [hS1]; exact cells_new _ _
  have hdpn : (S.new (.cells [ofValue (.int .i64 0)])).next = S.next + 1 := rfl
  rw [hdpn]
  refine CallQ.mono (hw ((S.new (.cells [.int .i64 0])).new (.cells [.int .i64 0])) S.next (S.next + 1) 0 0 1 (by rw [← hS1]; exact a1) (by rw [← hS1]; exact a2) (by rw [← hS1]; omega) (by rw [← hS1]; omega) (by omega) (by omega) (by omega) (by omega)) ?_
  rw [← hS1]
  rintro r S2 ⟨b2, s', p', c1, c2, c3⟩
  have k2 : Keep S S2 := ⟨by have := b2.next; omega, fun j hj => by rw [b2.mem j (by omega) (by omega) (by omega), k1.mem j hj]⟩
  rcases c3 with ⟨h1, rfl, rfl, rfl⟩ | ⟨h1, rfl⟩
  · conv => whnf
    refine ⟨[0, 1, 2, 3], [(2, [1])], by kernel_rfl, by kernel_rfl, by kernel_rfl, ?_⟩
    conv => whnf
    refine ⟨_, c1, ?_⟩
    conv => whnf
    refine ⟨_, c2, ?_⟩
    conv => whnf
    refine ⟨_, _, c1, if_pos ⟨rfl, rfl, Nat.le_of_ble_eq_true rfl⟩, ?_⟩
    conv => whnf
    have c2' : ∀ b, (S2.set S.next b).cells (S.next + 1) = some [.int .i64 (max 0 (1 + dep (.mk kind n neg dg ex tx fb bs fk keys fd kids) - 1) : Nat)] := fun b => cells_set_ne c2 (by omega)
    refine ⟨stab_load rfl rfl rfl rfl rfl (by show (St.cells _ (S.next + 1)).bind _ = _; rw [c2']; rfl), ?_⟩
    conv => whnf
    refine ⟨_, _, c2' _, if_pos ⟨rfl, rfl, Nat.le_of_ble_eq_true rfl⟩, ?_⟩
    conv => whnf
    refine ⟨I (cnt (.mk kind n neg dg ex tx fb bs fk keys fd kids)), ?_, ?_⟩
    · show (St.cells _ S.next).bind _ = _
      rw [cells_set_ne (cells_set _ _ _) (by omega), Nat.zero_add]; rfl
    refine ⟨I (dep (.mk kind n neg dg ex tx fb bs fk keys fd kids)), ?_, ?_⟩
    · show (St.cells _ (S.next + 1)).bind _ = _
      have e : max 0 (1 + dep (.mk kind n neg dg ex tx fb bs fk keys fd kids) - 1) = dep (.mk kind n neg dg ex tx fb bs fk keys fd kids) := by omega
      rw [cells_set, e]; rfl
    conv => whnf
    refine ⟨?_, (k2.set _ _ (Nat.le_refl _)).set _ _ (by omega)⟩
    rw [szN, dpN, if_pos (by omega), if_pos (by omega)]; rfl
  · conv => whnf
    refine ⟨_, _, c1, if_pos ⟨rfl, rfl, Nat.le_of_ble_eq_true rfl⟩, ?_⟩
    conv => whnf
    have c2' : ∀ b, (S2.set S.next b).cells (S.next + 1) = some [.int .i64 p'] := fun b => cells_set_ne c2 (by omega)
    refine ⟨_, _, c2' _, if_pos ⟨rfl, rfl, Nat.le_of_ble_eq_true rfl⟩, ?_⟩
    conv => whnf
    refine ⟨.int .i64 1025, ?_, ?_⟩
    · show (St.cells _ S.next).bind _ = _
      rw [cells_set_ne (cells_set _ _ _) (by omega)]; rfl
    refine ⟨.int .i64 1025, ?_, ?_⟩
    · show (St.cells _ (S.next + 1)).bind _ = _
      rw [cells_set]; rfl
    conv => whnf
    refine ⟨?_, (k2.set _ _ (Nat.le_refl _)).set _ _ (by omega)⟩
    rw [szN, dpN, if_neg (by omega), if_neg (by omega)]; rfl

def few (x : Nd) : Bool := decide (cnt x ≤ 1024)
theorem t10 (x : Nd) (hx : x.Ok) (S : St) : CallQ Tryd.prog TC 10 [x.v] S fun r S1 => r = .bool (few x) ∧ Keep S S1 := by
  have t := t27 x hx
  have hs : szN x = if cnt x ≤ 1024 then cnt x else 1025 := rfl
  have hf : few x = decide (cnt x ≤ 1024) := rfl
  obtain ⟨kind, n, neg, dg, ex, tx, fb, bs, fk, keys, fd, kids⟩ := x
  refine CallQ.of rfl (by kernel_rfl : Tryd.prog.funcs[10]? = some Tryd.f10) rfl (by decide) ?_
  conv => whnf
  refine CallQ.mono (t S) ?_
  rintro r S1 ⟨rfl, k⟩
  conv => whnf
  intro b hb
  conv => whnf
  refine ⟨?_, k⟩
  show AV.bool b = _
  rw [hb, hf, hs]
  congr 1
  rw [decide_eq_decide]
  split <;> omega
theorem t14 (x : Nd) (hx : x.Ok) (S : St) : CallQ Tryd.prog TC 14 [x.v] S fun r S1 => r = I (szN x) ∧ Keep S S1 := by
  have t := t27 x hx
  obtain ⟨kind, n, neg, dg, ex, tx, fb, bs, fk, keys, fd, kids⟩ := x
  refine CallQ.of rfl (by kernel_rfl : Tryd.prog.funcs[14]? = some Tryd.f14) rfl (by decide) ?_
  conv => whnf
  refine CallQ.mono (t S) ?_
  rintro r S1 ⟨rfl, k⟩
  conv => whnf
  exact ⟨rfl, k⟩
theorem t16 (x : Nd) (hx : x.Ok) (S : St) : CallQ Tryd.prog TC 16 [x.v] S fun r S1 => r = I (dpN x) ∧ Keep S S1 := by
  have t := t27 x hx
  obtain ⟨kind, n, neg, dg, ex, tx, fb, bs, fk, keys, fd, kids⟩ := x
  refine CallQ.of rfl (by kernel_rfl : Tryd.prog.funcs[16]? = some Tryd.f16) rfl (by decide) ?_
  conv => whnf
  refine CallQ.mono (t S) ?_
  rintro r S1 ⟨rfl, k⟩
  conv => whnf
  exact ⟨rfl, k⟩
end Go.Proofs.YtmkmakokgfigoaaDoor
namespace Go.Proofs.YtmkmakokgfigoaaDoor
open Go.Proofs.YtmkmakokgfigoaaDoor.VM
set_option maxRecDepth 100000
set_option linter.unusedVariables false

/-- A node, however its slices lie. -/
inductive Pl where
  | mk (kind : Int) (n : Nat) (neg : Bool) (dg : List UInt8) (ex : Int) (tx bs : List UInt8) (keys kids : List Pl)
mutual
def er : Nd → Pl
  | .mk kind n neg dg ex tx _ bs _ keys _ kids => .mk kind n neg dg ex tx bs (ers keys) (ers kids)
def ers : List Nd → List Pl
  | [] => []
  | x :: xs => er x :: ers xs
end
theorem ers_map : ∀ xs : List Nd, ers xs = xs.map er
  | [] => rfl
  | x :: xs => by rw [ers, ers_map xs]; rfl
open Classical in
noncomputable def sameB (a b : Nd) : Bool := decide (er a = er b)
open Classical in
noncomputable def sameL (a b : List Nd) : Bool := decide (ers a = ers b)

theorem t42 (a b : List UInt8) (fa fb : Sl) (ha : fa = .nil → a = []) (hb : fb = .nil → b = []) (hl : a.length ≤ 2 ^ 47) (S : St) :
    CallQ Tryd.prog TC 42 [slV fa (a.map u8), slV fb (b.map u8)] S fun r S1 => r = .bool (decide (a = b)) ∧ S1 = S := by
  refine CallQ.of rfl (by kernel_rfl : Tryd.prog.funcs[42]? = some Tryd.f42) rfl (by decide) ?_
  have ne : ∀ {c : Bool}, a.length ≠ b.length → AV.bool false = .bool (decide (a = b)) := fun h => by
    rw [decide_eq_false (fun e => h (by rw [e]))]
  rcases fa with _ | ta <;> rcases fb with _ | tb
  · have h1 := ha rfl; have h2 := hb rfl
    subst h1 h2
    conv => whnf
    intro c hc
    simp at hc
    subst hc
    conv => whnf
    refine CodeQ.loop (fun (i : Nat) => pat 26 [(12, .int .i64 0), (13, .int .i64 0)]) (fun m i S1 => S1 = S) ?_ 0 0 _ _ rfl ⟨rfl, rfl, trivial⟩
    intro m i S1 d e
    subst e
    conv => whnf
    intro c hc
    simp at hc
    subst hc
    conv => whnf
    exact ⟨rfl, rfl⟩
  · have h1 := ha rfl
    subst h1
    conv => whnf
    intro c hc
    simp at hc
    cases c
    · have hb0 : b = [] := by rcases b with _ | ⟨x, l⟩; rfl; simp at hc; omega
      subst hb0
      conv => whnf
      refine CodeQ.loop (fun (i : Nat) => pat 26 [(12, .int .i64 0), (13, .int .i64 0)]) (fun m i S1 => S1 = S) ?_ 0 0 _ _ rfl ⟨rfl, rfl, trivial⟩
      intro m i S1 d e
      subst e
      conv => whnf
      intro c hc
      simp at hc
      subst hc
      conv => whnf
      exact ⟨rfl, rfl⟩
    · conv => whnf
      refine ⟨?_, rfl⟩
      refine ne (c := true) ?_
      intro h
      have hb0 : b = [] := List.length_eq_zero_iff.1 (by simpa using h.symm)
      subst hb0; simp at hc
  · have h1 := hb rfl
    subst h1
    conv => whnf
    intro c hc
    simp at hc
    cases c
    · have hb0 : a = [] := by rcases a with _ | ⟨x, l⟩; rfl; simp at hc; omega
      subst hb0
      conv => whnf
      refine CodeQ.loop (fun (i : Nat) => pat 26 [(12, .int .i64 0), (13, .int .i64 0)]) (fun m i S1 => S1 = S) ?_ 0 0 _ _ rfl ⟨rfl, rfl, trivial⟩
      intro m i S1 d e
      subst e
      conv => whnf
      intro c hc
      simp at hc
      subst hc
      conv => whnf
      exact ⟨rfl, rfl⟩
    · conv => whnf
      refine ⟨?_, rfl⟩
      refine ne (c := true) ?_
      intro h
      have hb0 : a = [] := List.length_eq_zero_iff.1 (by simpa using h)
      subst hb0; simp at hc
  · conv => whnf
    intro c hc
    cases c
    rotate_left
    · conv => whnf
      refine ⟨ne (c := true) ?_, rfl⟩
      intro h
      simp [h] at hc
    have hll : a.length = b.length := by simp at hc; omega
    conv => whnf
    refine CodeQ.loop (fun (i : Nat) => pat 26 [(0, .lst (a.map u8) ta), (1, .lst (b.map u8) tb), (12, .int .i64 a.length), (13, .int .i64 i)]) (fun m i S1 => S1 = S ∧ i + m = a.length ∧ a.take i = b.take i) ?_ a.length 0 _ _ ⟨rfl, by simp, rfl⟩ ⟨rfl, rfl, by simp, rfl, trivial⟩
    rintro m i S1 d ⟨rfl, k1, k2⟩
    conv => whnf
    intro c hc
    simp at hc
    cases c
    · simp at hc
      conv => whnf
      refine ⟨?_, rfl⟩
      have : a = b := by
        have e1 : a.take i = a := List.take_of_length_le (by omega)
        have e2 : b.take i = b := List.take_of_length_le (by omega)
        rw [← e1, ← e2]; exact k2
      rw [decide_eq_true this]; rfl
    simp at hc
    have hib : i < b.length := by omega
    conv => whnf
    refine ⟨[0, 1, 2, 3, 4, 5, 6, 7, 8], [], by kernel_rfl, by kernel_rfl, by kernel_rfl, ?_⟩
    conv => whnf
    refine ⟨by omega, u8 a[i], by simp [hc], rfl, ?_⟩
    conv => whnf
    refine ⟨by omega, u8 b[i], by simp [hib], rfl, ?_⟩
    conv => whnf
    intro c2 hc2
    cases c2
    · conv => whnf
      have hx : a[i] = b[i] := by simp at hc2; exact UInt8.toNat_inj.1 (by omega)
      refine ⟨m - 1, i + 1, by omega, ⟨rfl, by omega, ?_⟩, ⟨rfl, rfl, rfl, ?_, trivial⟩⟩
      · rw [List.take_succ_eq_append_getElem hc, List.take_succ_eq_append_getElem hib, k2, hx]
      · rw [wrap_i64 (by omega) (by omega)]; rfl
    · conv => whnf
      refine ⟨?_, rfl⟩
      have hx : ¬ a = b := by
        intro e
        subst e
        simp at hc2
      rw [decide_eq_false hx]; rfl

open Classical in
theorem t43 (xs ys : List Nd) (fa fb : Sl) (ha : fa = .nil → xs = []) (hb : fb = .nil → ys = []) (hl : xs.length ≤ 2 ^ 47)
    (H : ∀ x ∈ xs, ∀ y ∈ ys, ∀ S, CallQ Tryd.prog TC 29 [x.v, y.v] S fun r S1 => r = .bool (sameB x y) ∧ Keep S S1) (S : St) :
    CallQ Tryd.prog TC 43 [slV fa (Nd.vs xs), slV fb (Nd.vs ys), .func (.func 29) [] []] S fun r S1 => r = .bool (sameL xs ys) ∧ Keep S S1 := by
  refine CallQ.of rfl (by kernel_rfl : Tryd.prog.funcs[43]? = some Tryd.f43) rfl (by decide) ?_
  have ne : xs.length ≠ ys.length → AV.bool false = .bool (sameL xs ys) := fun h => by
    rw [sameL, decide_eq_false (fun e => h (by rw [ers_map, ers_map] at e; simpa using congrArg List.length e))]
  have nil : AV.bool true = .bool (sameL [] []) := by rw [sameL, decide_eq_true rfl]
  rcases fa with _ | ta <;> rcases fb with _ | tb
  · have h1 := ha rfl; have h2 := hb rfl
    subst h1 h2
    conv => whnf
    intro c hc
    simp at hc
    subst hc
    conv => whnf
    refine CodeQ.loop (fun (i : Nat) => pat 32 [(16, .int .i64 0), (17, .int .i64 0)]) (fun m i S1 => S1 = S) ?_ 0 0 _ _ rfl ⟨rfl, rfl, trivial⟩
    intro m i S1 d e
    subst e
    conv => whnf
    intro c hc
    simp at hc
    subst hc
    conv => whnf
    exact ⟨nil, .refl _⟩
  · have h1 := ha rfl
    subst h1
    conv => whnf
    intro c hc
    simp [vs_map] at hc
    cases c
    · have hb0 : ys = [] := by rcases ys with _ | ⟨x, l⟩; rfl; simp at hc; omega
      subst hb0
      conv => whnf
      refine CodeQ.loop (fun (i : Nat) => pat 32 [(16, .int .i64 0), (17, .int .i64 0)]) (fun m i S1 => S1 = S) ?_ 0 0 _ _ rfl ⟨rfl, rfl, trivial⟩
      intro m i S1 d e
      subst e
      conv => whnf
      intro c hc
      simp at hc
      subst hc
      conv => whnf
      exact ⟨nil, .refl _⟩
    · conv => whnf
      refine ⟨ne ?_, .refl _⟩
      intro h
      have hb0 : ys = [] := List.length_eq_zero_iff.1 (by simpa using h.symm)
      subst hb0; simp at hc
  · have h1 := hb rfl
    subst h1
    conv => whnf
    intro c hc
    simp [vs_map] at hc
    cases c
    · have hb0 : xs = [] := by rcases xs with _ | ⟨x, l⟩; rfl; simp at hc; omega
      subst hb0
      conv => whnf
      refine CodeQ.loop (fun (i : Nat) => pat 32 [(16, .int .i64 0), (17, .int .i64 0)]) (fun m i S1 => S1 = S) ?_ 0 0 _ _ rfl ⟨rfl, rfl, trivial⟩
      intro m i S1 d e
      subst e
      conv => whnf
      intro c hc
      simp at hc
      subst hc
      conv => whnf
      exact ⟨nil, .refl _⟩
    · conv => whnf
      refine ⟨ne ?_, .refl _⟩
      intro h
      have hb0 : xs = [] := List.length_eq_zero_iff.1 (by simpa using h)
      subst hb0; simp at hc
  · conv => whnf
    intro c hc
    cases c
    rotate_left
    · conv => whnf
      refine ⟨ne ?_, .refl _⟩
      intro h
      simp [vs_map, h] at hc
    have hll : xs.length = ys.length := by simp [vs_map] at hc; omega
    conv => whnf
    refine CodeQ.loop (fun (i : Nat) => pat 32 [(1, .lst (Nd.vs ys) tb), (2, .func (.func 29) [] []), (15, .lst (Nd.vs xs) ta), (16, .int .i64 xs.length), (17, .int .i64 i)]) (fun m i S1 => Keep S S1 ∧ i + m = xs.length ∧ ers (xs.take i) = ers (ys.take i)) ?_ xs.length 0 _ _ ⟨.refl _, by simp, rfl⟩ ⟨rfl, rfl, rfl, by simp [vs_map], rfl, trivial⟩
    rintro m i S1 d ⟨k0, k1, k2⟩
    conv => whnf
    intro c hc
    simp at hc
    cases c
    · simp at hc
      conv => whnf
      refine ⟨?_, k0⟩
      have : ers xs = ers ys := by
        have e1 : xs.take i = xs := List.take_of_length_le (by omega)
        have e2 : ys.take i = ys := List.take_of_length_le (by omega)
        rw [e1, e2] at k2; exact k2
      rw [sameL, decide_eq_true this]; rfl
    simp at hc
    have hib : i < ys.length := by omega
    have hcall := H xs[i] (by simp) ys[i] (by simp)
    have g1 : (Nd.vs xs)[i]? = some xs[i].v := by rw [vs_map]; simp [hc]
    have g2 : (Nd.vs ys)[i]? = some ys[i].v := by rw [vs_map]; simp [hib]
    have t1 : ers (xs.take (i + 1)) = ers (xs.take i) ++ [er xs[i]] := by rw [ers_map, ers_map, List.take_succ_eq_append_getElem hc, List.map_append]; rfl
    have t2 : ers (ys.take (i + 1)) = ers (ys.take i) ++ [er ys[i]] := by rw [ers_map, ers_map, List.take_succ_eq_append_getElem hib, List.map_append]; rfl
    have dif : er xs[i] ≠ er ys[i] → ers xs ≠ ers ys := fun h e => by
      rw [ers_map, ers_map] at e
      have := congrArg (fun l => l[i]?) e
      simp [hc, hib] at this
      exact h this
    generalize xs[i] = x at *
    generalize ys[i] = y at *
    obtain ⟨kind', n', neg', dg', ex', tx', fb', bs', fk', keys', fd', kids'⟩ := x
    obtain ⟨kind2, n2, neg2, dg2, ex2, tx2, fb2, bs2, fk2, keys2, fd2, kids2⟩ := y
    conv => whnf
    refine ⟨by omega, _, g1, rfl, ?_⟩
    conv => whnf
    refine ⟨_, _, cells_new _ _, store_agg rfl rfl (nd_leaf ..), ?_⟩
    conv => whnf
    generalize hS2 : (S1.new _).set S1.next _ = S2
    have kk2 : Keep S1 S2 := by rw [← hS2]; exact ((Keep.refl S1).new _).set _ _ (Nat.le_refl _)
    have x2 : S2.cells S1.next = some [.int .i64 kind', .int .u64 n', .bool neg', .str dg', .int .i64 ex', .str tx', slV fb' (bs'.map u8), slV fk' (Nd.vs keys'), slV fd' (Nd.vs kids')] := by rw [← hS2]; exact cells_set _ _ _
    have n2' : S2.next = S1.next + 1 := by rw [← hS2]; rfl
    refine ⟨by omega, _, g2, rfl, ?_⟩
    conv => whnf
    refine ⟨_, _, cells_new _ _, store_agg rfl rfl (nd_leaf ..), ?_⟩
    conv => whnf
    generalize hS3 : (S2.new _).set S2.next _ = S3
    have kk3 : Keep S2 S3 := by rw [← hS3]; exact ((Keep.refl S2).new _).set _ _ (Nat.le_refl _)
    have y3 : S3.cells S2.next = some [.int .i64 kind2, .int .u64 n2, .bool neg2, .str dg2, .int .i64 ex2, .str tx2, slV fb2 (bs2.map u8), slV fk2 (Nd.vs keys2), slV fd2 (Nd.vs kids2)] := by rw [← hS3]; exact cells_set _ _ _
    have x3 := (cells_keep kk3 (j := S1.next) (by omega)).trans x2
    refine ⟨_, x3, ?_⟩
    conv => whnf
    refine ⟨_, y3, ?_⟩
    conv => whnf
    refine CallQ.mono (hcall S3) ?_
    rintro r S4 ⟨rfl, k4⟩
    have kall : Keep S S4 := ((k0.trans kk2).trans kk3).trans k4
    by_cases hs : er (.mk kind' n' neg' dg' ex' tx' fb' bs' fk' keys' fd' kids') = er (.mk kind2 n2 neg2 dg2 ex2 tx2 fb2 bs2 fk2 keys2 fd2 kids2)
    · rw [show sameB (.mk kind' n' neg' dg' ex' tx' fb' bs' fk' keys' fd' kids') (.mk kind2 n2 neg2 dg2 ex2 tx2 fb2 bs2 fk2 keys2 fd2 kids2) = true by rw [sameB, decide_eq_true hs]]
      conv => whnf
      refine ⟨m - 1, i + 1, by omega, ⟨kall, by omega, by rw [t1, t2, k2, hs]⟩, ⟨rfl, rfl, rfl, rfl, ?_, trivial⟩⟩
      rw [wrap_i64 (by omega) (by omega)]; rfl
    · rw [show sameB (.mk kind' n' neg' dg' ex' tx' fb' bs' fk' keys' fd' kids') (.mk kind2 n2 neg2 dg2 ex2 tx2 fb2 bs2 fk2 keys2 fd2 kids2) = false by rw [sameB, decide_eq_false hs]]
      conv => whnf
      refine ⟨?_, kall⟩
      rw [sameL, decide_eq_false (dif hs)]; rfl
end Go.Proofs.YtmkmakokgfigoaaDoor
namespace Go.Proofs.YtmkmakokgfigoaaDoor
open Go.Proofs.YtmkmakokgfigoaaDoor.VM
set_option maxRecDepth 100000
set_option linter.unusedVariables false

open Classical in
theorem t29 : ∀ (N : Nat) (x y : Nd), x.Ok → y.Ok → cnt x ≤ N → ∀ S, CallQ Tryd.prog TC 29 [x.v, y.v] S fun r S1 => r = .bool (sameB x y) ∧ Keep S S1
  | 0, x, y, _, _, h, _ => by have := cnt_pos x; omega
  | N + 1, x, y, hx, hy, hN, S => by
    have ih : ∀ (xs ys : List Nd), cnts xs ≤ N → Nd.Oks xs → Nd.Oks ys → ∀ x ∈ xs, ∀ y ∈ ys, ∀ S, CallQ Tryd.prog TC 29 [x.v, y.v] S fun r S1 => r = .bool (sameB x y) ∧ Keep S S1 :=
      fun xs ys h h1 h2 x hx y hy S => t29 N x y (oks_iff.1 h1 x hx) (oks_iff.1 h2 y hy) (Nat.le_trans (cnt_mem hx) h) S
    have fls : er x ≠ er y → AV.bool false = .bool (sameB x y) := fun h => by rw [sameB, decide_eq_false h]
    have tru : er x = er y → AV.bool true = .bool (sameB x y) := fun h => by rw [sameB, decide_eq_true h]
    obtain ⟨kind, n, neg, dg, ex, tx, fb, bs, fk, keys, fd, kids⟩ := x
    obtain ⟨kind', n', neg', dg', ex', tx', fb', bs', fk', keys', fd', kids'⟩ := y
    obtain ⟨x1, x2, x3, x4, x5, x6, x7, x8⟩ := hx
    obtain ⟨y1, y2, y3, y4, y5, y6, y7, y8⟩ := hy
    simp only [cnt] at hN
    simp only [er, ne_eq, Pl.mk.injEq] at fls tru
    refine CallQ.of rfl (by kernel_rfl : Tryd.prog.funcs[29]? = some Tryd.f29) rfl (by decide) ?_
    conv => whnf
    intro c hc
    cases c
    · conv => whnf
      exact ⟨fls (fun e => by simp [e] at hc), .refl _⟩
    conv => whnf
    intro c2 hc2
    cases c2
    · conv => whnf
      exact ⟨fls (fun e => by simp [e] at hc2), .refl _⟩
    conv => whnf
    intro c3 hc3
    cases c3
    · conv => whnf
      exact ⟨fls (fun e => by simp [e] at hc3), .refl _⟩
    conv => whnf
    intro c4 hc4
    cases c4
    · conv => whnf
      exact ⟨fls (fun e => by simp [e] at hc4), .refl _⟩
    conv => whnf
    intro c5 hc5
    cases c5
    · conv => whnf
      exact ⟨fls (fun e => by simp [e] at hc5), .refl _⟩
    conv => whnf
    intro c6 hc6
    cases c6
    · conv => whnf
      exact ⟨fls (fun e => by simp [e] at hc6), .refl _⟩
    conv => whnf
    refine CallQ.mono (t42 bs bs' fb fb' x1 y1 x4 S) ?_
    rintro r S1 ⟨rfl, rfl⟩
    by_cases h7 : bs = bs'
    rotate_left
    · rw [decide_eq_false h7]
      conv => whnf
      exact ⟨fls (fun e => h7 e.2.2.2.2.2.2.1), .refl _⟩
    rw [decide_eq_true h7]
    conv => whnf
    refine CallQ.mono (t43 keys keys' fk fk' x2 y2 x5 (ih keys keys' (by omega) x7 y7) S1) ?_
    rintro r S2 ⟨rfl, k2⟩
    by_cases h8 : ers keys = ers keys'
    rotate_left
    · rw [sameL, decide_eq_false h8]
      conv => whnf
      exact ⟨fls (fun e => h8 e.2.2.2.2.2.2.2.1), k2⟩
    rw [sameL, decide_eq_true h8]
    conv => whnf
    refine CallQ.mono (t43 kids kids' fd fd' x3 y3 x6 (ih kids kids' (by omega) x8 y8) S2) ?_
    rintro r S3 ⟨rfl, k3⟩
    by_cases h9 : ers kids = ers kids'
    rotate_left
    · rw [sameL, decide_eq_false h9]
      conv => whnf
      exact ⟨fls (fun e => h9 e.2.2.2.2.2.2.2.2), k2.trans k3⟩
    rw [sameL, decide_eq_true h9]
    conv => whnf
    refine ⟨tru ?_, k2.trans k3⟩
    simp at hc hc2 hc3 hc4 hc5 hc6
    have hneg : neg = neg' := by first | exact hc3 | (revert hc3; cases neg <;> cases neg' <;> simp)
    exact ⟨hc, by omega, hneg, hc4, hc5, hc6, h7, h8, h9⟩

/-- What Same answers. -/
noncomputable def SameB (x y : Nd) : Bool := few x && few y && sameB x y
theorem t12 (x y : Nd) (hx : x.Ok) (hy : y.Ok) (S : St) : CallQ Tryd.prog TC 12 [x.v, y.v] S fun r S1 => r = .bool (SameB x y) ∧ Keep S S1 := by
  have t1 := t10 x hx
  have t2 := t10 y hy
  have t3 := t29 (cnt x) x y hx hy (Nat.le_refl _)
  have ht : SameB x y = (few x && few y && sameB x y) := rfl
  generalize SameB x y = sb at *
  generalize few x = fx at *
  generalize few y = fy at *
  generalize sameB x y = sm at *
  obtain ⟨kind, n, neg, dg, ex, tx, fb, bs, fk, keys, fd, kids⟩ := x
  obtain ⟨kind', n', neg', dg', ex', tx', fb', bs', fk', keys', fd', kids'⟩ := y
  refine CallQ.of rfl (by kernel_rfl : Tryd.prog.funcs[12]? = some Tryd.f12) rfl (by decide) ?_
  conv => whnf
  refine CallQ.mono (t1 S) ?_
  rintro r S1 ⟨rfl, k1⟩
  cases fx
  · conv => whnf
    exact ⟨by rw [ht]; rfl, k1⟩
  conv => whnf
  refine CallQ.mono (t2 S1) ?_
  rintro r S2 ⟨rfl, k2⟩
  cases fy
  · conv => whnf
    exact ⟨by rw [ht]; rfl, k1.trans k2⟩
  conv => whnf
  refine CallQ.mono (t3 S2) ?_
  rintro r S3 ⟨rfl, k3⟩
  conv => whnf
  exact ⟨by rw [ht]; cases sm <;> rfl, (k1.trans k2).trans k3⟩
end Go.Proofs.YtmkmakokgfigoaaDoor
namespace Go.Proofs.YtmkmakokgfigoaaDoor
open Go.Proofs.YtmkmakokgfigoaaDoor.VM
set_option maxRecDepth 100000
set_option linter.unusedVariables false

theorem same_comm (x y : Nd) : SameB x y = SameB y x := by
  unfold SameB sameB
  rw [Bool.and_comm (few x), decide_eq_decide.2 (eq_comm (a := er x) (b := er y))]
theorem same_trans {x y z : Nd} (h1 : SameB x y = true) (h2 : SameB y z = true) : SameB x z = true := by
  unfold SameB sameB at *
  simp only [Bool.and_eq_true, decide_eq_true_eq] at *
  exact ⟨⟨h1.1.1, h2.1.2⟩, h1.2.trans h2.2⟩

theorem t5 (x y z : Nd) (hx : x.Ok) (hy : y.Ok) (hz : z.Ok) (S : St) : CallQ Tryd.prog TC 5 [x.v, y.v, z.v] S fun r S1 => r = .bool true := by
  have t1 := t12 x y hx hy
  have t2 := t12 y x hy hx
  have t3 := t12 y z hy hz
  have t4 := t12 x z hx hz
  rw [same_comm y x] at t2
  have htr := @same_trans x y z
  generalize SameB x y = s1 at *
  generalize SameB y z = s3 at *
  generalize SameB x z = s4 at *
  have fin : ∀ S, CallQ Tryd.prog TC 18 [] S fun r S1 => S1 = S ∧ r = .bool true := t18
  obtain ⟨kind, n, neg, dg, ex, tx, fb, bs, fk, keys, fd, kids⟩ := x
  obtain ⟨kind', n', neg', dg', ex', tx', fb', bs', fk', keys', fd', kids'⟩ := y
  obtain ⟨kind2, n2, neg2, dg2, ex2, tx2, fb2, bs2, fk2, keys2, fd2, kids2⟩ := z
  refine CallQ.of rfl (by kernel_rfl : Tryd.prog.funcs[5]? = some Tryd.f5) rfl (by decide) ?_
  conv => whnf
  refine ⟨[0, 1, 3, 4, 2, 5, 6, 7, 8, 9, 10, 11, 12, 13, 14, 15, 16, 17, 18, 19, 20, 21, 22, 23, 24, 25, 26, 27], [(2, [3, 4])], by kernel_rfl, by kernel_rfl, by kernel_rfl, ?_⟩
  conv => whnf
  refine CallQ.mono (t1 S) ?_
  rintro r S1 ⟨rfl, k1⟩
  conv => whnf
  refine ⟨⟨_, rfl, .inr ⟨_, _, _, rfl, rfl, rfl, rfl⟩⟩, ?_⟩
  conv => whnf
  refine ⟨⟨_, rfl, .inr ⟨_, _, _, rfl, rfl, rfl, rfl⟩⟩, ?_⟩
  conv => whnf
  refine CallQ.mono (t2 S1) ?_
  rintro r S2 ⟨rfl, k2⟩
  cases s1
  · conv => whnf
    intro c hc
    obtain rfl : c = true := by simpa using hc
    conv => whnf
    refine CallQ.mono (t1 S2) ?_
    rintro r S3 ⟨rfl, k3⟩
    conv => whnf
    refine CallQ.mono (fin S3) ?_
    rintro r S4 ⟨rfl, rfl⟩
    conv => whnf
    rfl
  conv => whnf
  intro c hc
  obtain rfl : c = true := by simpa using hc
  conv => whnf
  refine CallQ.mono (t1 S2) ?_
  rintro r S3 ⟨rfl, k3⟩
  conv => whnf
  refine CallQ.mono (t3 S3) ?_
  rintro r S4 ⟨rfl, k4⟩
  cases s3
  · conv => whnf
    refine CallQ.mono (fin S4) ?_
    rintro r S5 ⟨rfl, rfl⟩
    conv => whnf
    rfl
  obtain rfl := htr rfl rfl
  conv => whnf
  refine CallQ.mono (t4 S4) ?_
  rintro r S5 ⟨rfl, k5⟩
  conv => whnf
  refine CallQ.mono (fin S5) ?_
  rintro r S6 ⟨rfl, rfl⟩
  conv => whnf
  rfl
end Go.Proofs.YtmkmakokgfigoaaDoor
