import Derived.Test.YtiknkngdfdmkbaaDoorVMKit
import Derived.Test.YtiknkngdfdmkbaaDoorChecked
import Derived.Lib.ItoaNum
import Derived.Lib.LaidTab
namespace Go.Proofs.YtiknkngdfdmkbaaDoor
open Go.Proofs.YtiknkngdfdmkbaaDoor.VM
set_option maxRecDepth 100000
set_option linter.unusedVariables false
instance : Glob := ⟨fun _ => .undef, fun w => Lib.TabIs Tryd.prog w "internal/strconv.uint64pow10" .u64 Lib.pow10Tab⟩
/-- strconv.Itoa, by its contract. -/
def itoaG : List AV → St → Option (AV × St)
  | [.int .i64 n], S => if -9223372036854775808 ≤ n ∧ n ≤ 9223372036854775807 then some (.str (Lib.itoa n), S) else none
  | _, _ => none
def LC : Cfg := { keep := fun f => [21].contains f, ro := fun f d => [4, 12, 13, 17, 18, 22].contains f, hnd := fun f => [20, 35, 36, 43].contains f, intr := fun f => if f = 24 then some itoaG else none }

theorem el23 : Elem Tryd.prog 23 5 1 1 false (.int .u8 0) := ⟨by kernel_rfl, by kernel_rfl, by kernel_rfl, by kernel_rfl, by kernel_rfl, rfl, by decide⟩

def hi (n i : Nat) : List UInt8 := if n / 2 ^ (7 * i) = 0 then [] else [UInt8.ofNat (n / 2 ^ (7 * i)) ||| 128]
def his (n : Nat) : Nat → List UInt8
  | 0 => []
  | i + 1 => hi n (i + 1) ++ his n i
/-- What the document puts for n. -/
def refShort (n : Nat) : List UInt8 := his n 9 ++ [UInt8.ofNat (n % 128)]

theorem t21 (bs : List UInt8) (v : AV) (hv : Elems v (bs.map u8)) (n : Nat) (hn : n < 2 ^ 64) (hb : bs.length ≤ 2 ^ 40) (S : St) :
    CallQ Tryd.prog LC 21 [v, .int .u64 n] S fun r S1 => Own S S1 r ((bs ++ refShort n).map u8) ∧ Keep S S1 := by
  refine CallQ.of rfl (by kernel_rfl : Tryd.prog.funcs[21]? = some Tryd.f21) rfl (by decide) ?_
  conv => whnf
  obtain ⟨r, S1, h1, h2, h3⟩ := Own.append (f := 21) (C := LC) el23 rfl (Own.nil S S) (Keep.refl S) (hv.run S false 1) (shed_u8 bs) rfl (wellA_u8 bs) (by simp; omega)
  refine ⟨r, S1, h1, ?_⟩
  conv => whnf
  refine CodeQ.loop (fun (q : Nat × AV) => pat 33 [(1, .int .u64 n), (5, q.2), (6, .int .i64 q.1)]) (fun m q S2 => m = q.1 ∧ m ≤ 9 ∧ Keep S S2 ∧ ∃ acc, acc.length + m ≤ bs.length + 9 ∧ Own S S2 q.2 (acc.map u8) ∧ acc ++ his n m = bs ++ his n 9) ?_ 9 (9, r) _ _ ⟨rfl, by omega, h3, bs, by omega, by simpa using h2, rfl⟩ ⟨rfl, rfl, rfl, trivial⟩
  rintro m ⟨i, r⟩ S2 d ⟨rfl, hm, hk, acc, ha1, ha2, ha3⟩
  dsimp only at ha1 ha2 ha3 hm ⊢
  conv => whnf
  intro c hc
  simp at hc
  cases c
  · conv => whnf
    simp at hc
    subst hc
    obtain ⟨r', S3, k1, k2, k3⟩ := Own.append (f := 21) (C := LC) el23 rfl ha2 hk (y := .lst ([UInt8.ofNat (n % 128)].map u8) .full) rfl (shed_u8 _) (wellA_u8 _) (wellA_u8 _) (by simp; omega)
    have e : IntKind.u8.wrap (IntKind.u64.wrap ((BitVec.ofInt IntKind.u64.bits (n : Int) &&& BitVec.ofInt IntKind.u64.bits 127).toNat : Int)) = ((UInt8.ofNat (n % 128)).toNat : Int) := by
      rw [show (127 : Int) = ((127 : Nat) : Int) from rfl, and_u64 n 127 hn (by omega), wrap_u8_nat, show (127 : Nat) = 2 ^ 7 - 1 from rfl, Nat.and_two_pow_sub_one_eq_mod]
    rw [e]
    refine ⟨r', S3, k1, ?_⟩
    conv => whnf
    refine ⟨?_, k3⟩
    have : his n 0 = [] := rfl
    rw [this, List.append_nil] at ha3
    rw [ha3] at k2
    simpa [refShort] using k2
  · simp at hc
    have e7 : IntKind.i64.wrap (7 * (m : Int)) = ((7 * m : Nat) : Int) := by rw [wrap_i64 (by omega) (by omega)]; omega
    have e8 : min (((7 * m : Nat) : Int).toNat) IntKind.u64.bits = 7 * m := by rw [Int.toNat_natCast]; simp [IntKind.bits]; omega
    conv => whnf
    rw [e7]
    refine ⟨by omega, ?_⟩
    conv => whnf
    rw [e8, shr_nat]
    obtain ⟨m, rfl⟩ : ∃ k, m = k + 1 := ⟨m - 1, by omega⟩
    have em : IntKind.i64.wrap (((m + 1 : Nat) : Int) - 1) = (m : Int) := by rw [wrap_i64 (by omega) (by omega)]; omega
    intro c1 hc1
    cases c1
    · conv => whnf
      refine ⟨m, (m, r), by omega, ⟨rfl, by omega, hk, acc, by omega, ha2, ?_⟩, ⟨rfl, rfl, by rw [em], trivial⟩⟩
      have : n / 2 ^ (7 * (m + 1)) = 0 := by
        have : ((n / 2 ^ (7 * (m + 1)) : Nat) : Int) = 0 := by simpa using hc1
        omega
      rw [← ha3]
      simp [his, hi, this]
    · conv => whnf
      rw [e7]
      refine ⟨by omega, ?_⟩
      rw [e8, shr_nat]
      conv => whnf
      obtain ⟨r', S3, k1, k2, k3⟩ := Own.append (f := 21) (C := LC) el23 rfl ha2 hk (y := .lst ([UInt8.ofNat (n / 2 ^ (7 * (m + 1))) ||| 128].map u8) .full) rfl (shed_u8 _) (wellA_u8 _) (wellA_u8 _) (by simp; omega)
      refine ⟨r', S3, ?_, ?_⟩
      · rw [wrap_u8_nat (n / 2 ^ (7 * (m + 1))), show (128 : Int) = ((128 : Nat) : Int) from rfl, or_u8 _ 128 (by have := (UInt8.ofNat (n / 2 ^ (7 * (m + 1)))).toNat_lt; omega) (by omega)]
        rw [← k1]
        simp [u8, UInt8.toNat_or]
      · conv => whnf
        refine ⟨m, (m, r'), by omega, ⟨rfl, by omega, k3, acc ++ [UInt8.ofNat (n / 2 ^ (7 * (m + 1))) ||| 128], by simp; omega, by simpa using k2, ?_⟩, ⟨rfl, rfl, by rw [em], trivial⟩⟩
        have : ¬ n / 2 ^ (7 * (m + 1)) = 0 := by
          intro h
          rw [h] at hc1
          simp at hc1
        rw [← ha3]
        simp [his, hi, this]
def I64 (n : Int) : AV := .int .i64 n
def mayL (kind : Int) (ps : List Int) : Bool := decide (1 ≤ kind ∧ kind ≤ 6 ∧ ps.length ≤ 64 ∧ ∀ p ∈ ps, 0 ≤ p ∧ p ≤ 4095)

theorem t22 (ps : List Int) (t : Tip) (kind n : Int) (S : St) : CallQ Tryd.prog LC 22 [.agg [.lst (ps.map I64) t, .int .i64 kind, .int .u64 n]] S fun v S1 => S1 = S ∧ v = .bool (mayL kind ps) := by
  refine CallQ.of rfl (by kernel_rfl : Tryd.prog.funcs[22]? = some Tryd.f22) rfl (by decide) ?_
  conv => whnf
  intro c hc
  cases c
  rotate_left
  · conv => whnf
    simp at hc
    exact ⟨rfl, by show AV.bool false = AV.bool _; congr 1; simp [mayL]; omega⟩
  conv => whnf
  intro c1 hc1
  cases c1
  rotate_left
  · conv => whnf
    simp at hc1
    exact ⟨rfl, by show AV.bool false = AV.bool _; congr 1; simp [mayL]; omega⟩
  conv => whnf
  intro c2 hc2
  cases c2
  rotate_left
  · conv => whnf
    simp at hc2
    exact ⟨rfl, by show AV.bool false = AV.bool _; congr 1; simp [mayL]; omega⟩
  conv => whnf
  simp at hc hc1 hc2
  refine CodeQ.loop (fun (i : Nat) => pat 39 [(1, .cptr [.lst (ps.map I64) t, .int .i64 kind, .int .u64 n] 0), (3, .int .i64 i)]) (fun m i S1 => S1 = S ∧ i + m = ps.length ∧ ∀ j (h : j < ps.length), j < i → 0 ≤ ps[j] ∧ ps[j] ≤ 4095) ?_ ps.length 0 _ _ ⟨rfl, by omega, fun j h1 h2 => by omega⟩ ?_
  rotate_left
  · exact ⟨rfl, rfl, trivial⟩
  intro m i S1 d ⟨e1, e2, e3⟩
  subst e1
  conv => whnf
  intro c3 hc3
  simp at hc3
  cases c3
  · conv => whnf
    simp at hc3
    refine ⟨rfl, ?_⟩
    show AV.bool true = AV.bool _
    congr 1
    simp only [mayL, Eq.comm (a := true), decide_eq_true_eq]
    refine ⟨hc, hc1, by omega, fun p hp => ?_⟩
    obtain ⟨j, hj, rfl⟩ := List.getElem_of_mem hp
    exact e3 j hj (by omega)
  · simp at hc3
    conv => whnf
    refine ⟨by omega, .int .i64 ps[i], by simp [hc3, I64], rfl, ?_⟩
    conv => whnf
    intro c4 hc4
    cases c4
    rotate_left
    · conv => whnf
      simp at hc4
      refine ⟨rfl, ?_⟩
      show AV.bool false = AV.bool _
      congr 1
      simp only [mayL, Eq.comm (a := false), decide_eq_false_iff_not]
      intro h
      have := h.2.2.2 ps[i] (by simp)
      omega
    conv => whnf
    refine ⟨by omega, .int .i64 ps[i], by simp [hc3, I64], rfl, ?_⟩
    conv => whnf
    intro c5 hc5
    cases c5
    rotate_left
    · conv => whnf
      simp at hc5
      refine ⟨rfl, ?_⟩
      show AV.bool false = AV.bool _
      congr 1
      simp only [mayL, Eq.comm (a := false), decide_eq_false_iff_not]
      intro h
      have := h.2.2.2 ps[i] (by simp)
      omega
    conv => whnf
    refine ⟨m - 1, i + 1, by omega, ⟨rfl, by omega, fun j h1 h2 => ?_⟩, ?_⟩
    · simp at hc4 hc5
      by_cases e : j = i
      · subst e; omega
      · exact e3 j h1 (by omega)
    · refine ⟨rfl, ?_, trivial⟩
      rw [wrap_i64 (by omega) (by omega)]; rfl
end Go.Proofs.YtiknkngdfdmkbaaDoor
