import Derived.Test.YtmkmakokgfigoaaDoorVMT4
namespace Go.Proofs.YtmkmakokgfigoaaDoor
open Go.Proofs.YtmkmakokgfigoaaDoor.VM
set_option maxRecDepth 100000
set_option linter.unusedVariables false

def szN (x : Nd) : Nat := if cnt x ≤ 1024 then cnt x else 1025
def dpN (x : Nd) : Nat := if cnt x ≤ 1024 then dep x else 1025

theorem t27 (x : Nd) (hx : x.Ok) (S : St) : CallQ Tryd.prog TC 27 [x.v] S fun r S1 => r = .tuple [I (szN x), I (dpN x)] ∧ Keep S S1 := by
  have hw := t36 (cnt x) x hx (Nat.le_refl _)
  have hd := dep_pos x
  have hc1 := cnt_pos x
  obtain ⟨kind, n, neg, dg, ex, tx, fb, bs, fk, keys, fd, kids⟩ := x
  refine CallQ.of rfl (by kernel_rfl : Tryd.prog.funcs[27]? = some Tryd.f27) rfl (by decide) ?_
  conv => whnf
  obtain ⟨S1, hS1⟩ : ∃ S1, S1 = (S.new (.cells [.int .i64 0])).new (.cells [.int .i64 0]) := ⟨_, rfl⟩
  have k1 : Keep S S1 := by rw [hS1]; exact ((Keep.refl S).new _).new _
  have n1 : S1.next = S.next + 2 := by rw [hS1]; rfl
  have a1 : S1.cells S.next = some [.int .i64 ((0 : Nat) : Int)] := by rw [hS1]; exact cells_new_ne (cells_new _ _) (by show S.next ≠ S.next + 1; omega)
  have a2 : S1.cells (S.next + 1) = some [.int .i64 ((0 : Nat) : Int)] := by rw [hS1]; exact cells_new _ _
  have hdpn : (S.new (.cells [ofValue (.int .i64 0)])).next = S.next + 1 := rfl
  rw [hdpn]
  refine CallQ.mono (hw ((S.new (.cells [.int .i64 0])).new (.cells [.int .i64 0])) S.next (S.next + 1) 0 0 1 (by rw [← hS1]; exact a1) (by rw [← hS1]; exact a2) (by rw [← hS1]; omega) (by rw [← hS1]; omega) (by omega) (by omega) (by omega) (by omega)) ?_
  rw [← hS1]
  rintro r S2 ⟨b2, s', p', c1, c2, c3⟩
  have k2 : Keep S S2 := ⟨by have := b2.next; omega, fun j hj => by rw [b2.mem j (by omega) (by omega) (by omega), k1.mem j hj]⟩
  rcases c3 with ⟨h1, rfl, rfl, rfl⟩ | ⟨h1, rfl⟩
  · conv => whnf
    refine ⟨[0, 1, 2, 3], [(2, [1])], by kernel_rfl, by kernel_rfl, by kernel_rfl, ?_⟩
    conv => whnf
    refine ⟨_, c1, ?_⟩
    conv => whnf
    refine ⟨_, c2, ?_⟩
    conv => whnf
    refine ⟨_, _, c1, if_pos ⟨rfl, rfl, Nat.le_of_ble_eq_true rfl⟩, ?_⟩
    conv => whnf
    have c2' : ∀ b, (S2.set S.next b).cells (S.next + 1) = some [.int .i64 (max 0 (1 + dep (.mk kind n neg dg ex tx fb bs fk keys fd kids) - 1) : Nat)] := fun b => cells_set_ne c2 (by omega)
    refine ⟨stab_load rfl rfl rfl rfl rfl (by show (St.cells _ (S.next + 1)).bind _ = _; rw [c2']; rfl), ?_⟩
    conv => whnf
    refine ⟨_, _, c2' _, if_pos ⟨rfl, rfl, Nat.le_of_ble_eq_true rfl⟩, ?_⟩
    conv => whnf
    refine ⟨I (cnt (.mk kind n neg dg ex tx fb bs fk keys fd kids)), ?_, ?_⟩
    · show (St.cells _ S.next).bind _ = _
      rw [cells_set_ne (cells_set _ _ _) (by omega), Nat.zero_add]; rfl
    refine ⟨I (dep (.mk kind n neg dg ex tx fb bs fk keys fd kids)), ?_, ?_⟩
    · show (St.cells _ (S.next + 1)).bind _ = _
      have e : max 0 (1 + dep (.mk kind n neg dg ex tx fb bs fk keys fd kids) - 1) = dep (.mk kind n neg dg ex tx fb bs fk keys fd kids) := by omega
      rw [cells_set, e]; rfl
    conv => whnf
    refine ⟨?_, (k2.set _ _ (Nat.le_refl _)).set _ _ (by omega)⟩
    rw [szN, dpN, if_pos (by omega), if_pos (by omega)]; rfl
  · conv => whnf
    refine ⟨_, _, c1, if_pos ⟨rfl, rfl, Nat.le_of_ble_eq_true rfl⟩, ?_⟩
    conv => whnf
    have c2' : ∀ b, (S2.set S.next b).cells (S.next + 1) = some [.int .i64 p'] := fun b => cells_set_ne c2 (by omega)
    refine ⟨_, _, c2' _, if_pos ⟨rfl, rfl, Nat.le_of_ble_eq_true rfl⟩, ?_⟩
    conv => whnf
    refine ⟨.int .i64 1025, ?_, ?_⟩
    · show (St.cells _ S.next).bind _ = _
      rw [cells_set_ne (cells_set _ _ _) (by omega)]; rfl
    refine ⟨.int .i64 1025, ?_, ?_⟩
    · show (St.cells _ (S.next + 1)).bind _ = _
      rw [cells_set]; rfl
    conv => whnf
    refine ⟨?_, (k2.set _ _ (Nat.le_refl _)).set _ _ (by omega)⟩
    rw [szN, dpN, if_neg (by omega), if_neg (by omega)]; rfl

def few (x : Nd) : Bool := decide (cnt x ≤ 1024)
theorem t10 (x : Nd) (hx : x.Ok) (S : St) : CallQ Tryd.prog TC 10 [x.v] S fun r S1 => r = .bool (few x) ∧ Keep S S1 := by
  have t := t27 x hx
  have hs : szN x = if cnt x ≤ 1024 then cnt x else 1025 := rfl
  have hf : few x = decide (cnt x ≤ 1024) := rfl
  obtain ⟨kind, n, neg, dg, ex, tx, fb, bs, fk, keys, fd, kids⟩ := x
  refine CallQ.of rfl (by kernel_rfl : Tryd.prog.funcs[10]? = some Tryd.f10) rfl (by decide) ?_
  conv => whnf
  refine CallQ.mono (t S) ?_
  rintro r S1 ⟨rfl, k⟩
  conv => whnf
  intro b hb
  conv => whnf
  refine ⟨?_, k⟩
  show AV.bool b = _
  rw [hb, hf, hs]
  congr 1
  rw [decide_eq_decide]
  split <;> omega
theorem t14 (x : Nd) (hx : x.Ok) (S : St) : CallQ Tryd.prog TC 14 [x.v] S fun r S1 => r = I (szN x) ∧ Keep S S1 := by
  have t := t27 x hx
  obtain ⟨kind, n, neg, dg, ex, tx, fb, bs, fk, keys, fd, kids⟩ := x
  refine CallQ.of rfl (by kernel_rfl : Tryd.prog.funcs[14]? = some Tryd.f14) rfl (by decide) ?_
  conv => whnf
  refine CallQ.mono (t S) ?_
  rintro r S1 ⟨rfl, k⟩
  conv => whnf
  exact ⟨rfl, k⟩
theorem t16 (x : Nd) (hx : x.Ok) (S : St) : CallQ Tryd.prog TC 16 [x.v] S fun r S1 => r = I (dpN x) ∧ Keep S S1 := by
  have t := t27 x hx
  obtain ⟨kind, n, neg, dg, ex, tx, fb, bs, fk, keys, fd, kids⟩ := x
  refine CallQ.of rfl (by kernel_rfl : Tryd.prog.funcs[16]? = some Tryd.f16) rfl (by decide) ?_
  conv => whnf
  refine CallQ.mono (t S) ?_
  rintro r S1 ⟨rfl, k⟩
  conv => whnf
  exact ⟨rfl, k⟩
end Go.Proofs.YtmkmakokgfigoaaDoor
