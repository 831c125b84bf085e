import Derived.Test.YtiknkngdfdmkbaaDoorVML4
namespace Go.Proofs.YtiknkngdfdmkbaaDoor
open Go.Proofs.YtiknkngdfdmkbaaDoor.VM
set_option maxRecDepth 100000
set_option linter.unusedVariables false

def grp (m : Nat) : List UInt8 := if h : m = 0 then [] else (UInt8.ofNat m ||| 128) :: grp (m / 128)
termination_by m
decreasing_by omega
theorem grp_len : ∀ (j m : Nat), m < 2 ^ (7 * j) → (grp m).length ≤ j
  | 0, m, h => by
    have : m = 0 := by omega
    subst this; unfold grp; simp
  | j + 1, m, h => by
    unfold grp
    split
    · simp
    · simp only [List.length_cons]
      have := grp_len j (m / 128) (by
        rw [show 7 * (j + 1) = 7 * j + 7 by omega, Nat.pow_add] at h
        omega)
      omega
/-- What the program puts for n. -/
def curShort (n : Nat) : List UInt8 := (UInt8.ofNat (n % 128) :: grp (n / 128)).reverse

theorem t20 (n : Nat) (hn : n < 2 ^ 64) (S : St) :
    CallQ Tryd.prog LC 20 [.nils, .int .u64 n] S fun r S1 => ∃ k, r = .hnd k 0 (curShort n).length 1 ∧ S.next ≤ k ∧ k < S1.next ∧ S1.cells k = some ((curShort n).map u8) ∧ Keep S S1 := by
  refine CallQ.of rfl (by kernel_rfl : Tryd.prog.funcs[20]? = some Tryd.f20) rfl (by decide) ?_
  have e1 : IntKind.u8.wrap ((BitVec.ofInt IntKind.u8.bits (IntKind.u8.wrap (n : Int)) &&& BitVec.ofInt IntKind.u8.bits 127).toNat : Int) = ((UInt8.ofNat (n % 128)).toNat : Int) := by
    rw [wrap_u8_nat n, show (127 : Int) = ((127 : Nat) : Int) from rfl, and_u8 _ 127 (by have := (UInt8.ofNat n).toNat_lt; omega) (by omega)]
    simp only [UInt8.toNat_ofNat']
    rw [show (127 : Nat) = 2 ^ 7 - 1 from rfl, Nat.and_two_pow_sub_one_eq_mod]
    congr 1
    omega
  have e2 : ∀ m : Nat, (m : Int).fdiv (2 ^ min (7 : Int).toNat IntKind.u64.bits) = ((m / 128 : Nat) : Int) := fun m => by
    rw [show min (7 : Int).toNat IntKind.u64.bits = 7 from rfl, shr_nat]
  conv => whnf
  refine ⟨by omega, ?_⟩
  rw [e1, e2]
  conv => whnf
  refine CodeQ.loop (fun (q : Nat × Nat × List UInt8) => pat 28 [(0, .nils), (1, .int .u64 q.1), (5, .hnd q.2.1 0 q.2.2.length 1)])
    (fun m q S1 => m = q.1 ∧ m < 2 ^ 64 ∧ S.next ≤ q.2.1 ∧ q.2.1 < S1.next ∧ S1.cells q.2.1 = some (q.2.2.map u8) ∧ Keep S S1 ∧ q.2.2 ++ grp m = UInt8.ofNat (n % 128) :: grp (n / 128)) ?_ (n / 128) (n / 128, S.next, [UInt8.ofNat (n % 128)]) _ _
    ⟨rfl, by omega, Nat.le_refl _, by show S.next < S.next + 1; omega, cells_new _ _, (Keep.refl S).new _, rfl⟩ ⟨rfl, rfl, rfl, trivial⟩
  rintro m ⟨m', k, acc⟩ S1 d ⟨h1, h2, h3, h4, h5, h6, h7⟩
  dsimp only at h1 h3 h4 h5 h7 ⊢
  subst h1
  have hlen : acc.length ≤ 10 := by
    have := congrArg List.length h7
    have h8 := grp_len 9 (n / 128) (by omega)
    simp at this
    omega
  conv => whnf
  intro c hc
  simp at hc
  cases c
  · simp at hc
    subst hc
    have h0 : grp 0 = [] := by unfold grp; simp
    rw [h0, List.append_nil] at h7
    conv => whnf
    have hl : AV.hnd k 0 acc.length 1 = AV.hnd k 0 (acc.map u8).length 1 := by simp
    rw [hl]
    refine CallQ.mono (t35 (acc.map u8) (by simp [u8, AV.leafOk]) k 0 S1 h5 (by simp; omega)) ?_
    rintro v S2 ⟨g1, g2, g3⟩
    conv => whnf
    have hacc : acc.reverse = curShort n := by rw [h7]; rfl
    have hl2 : AV.hnd k 0 (acc.map u8).length 1 = AV.hnd k 0 (curShort n).length 1 := by rw [← hacc]; simp
    rw [hl2]
    have hk2 : Keep S S2 := ⟨by rw [g1]; exact h6.next, fun j hj => by rw [g3 j (by omega), h6.mem j hj]⟩
    have hc2 : S2.cells k = some ((curShort n).map u8) := by rw [g2, ← hacc, List.map_reverse]
    refine CallQ.mono (t36 (curShort n) k (S2.new (.cells [.nils, .hnd k 0 (curShort n).length 1])) (by show k < S2.next + 1; omega) (by rw [← hacc, h7]; simp) (by rw [← hacc]; simp; omega) (cells_new_ne hc2 (by omega)) S2.next (by show S2.next < S2.next + 1; omega) (cells_new _ _)) ?_
    rintro v S3 ⟨k3, rfl, f1, f2, f3, f4⟩
    conv => whnf
    refine ⟨k3, rfl, ?_, f2, f3, (hk2.new _).trans f4⟩
    have := (hk2.new (.cells [.nils, .hnd k 0 (curShort n).length 1])).next
    omega
  · simp at hc
    conv => whnf
    have e3 : IntKind.u8.wrap ((BitVec.ofInt IntKind.u8.bits (IntKind.u8.wrap (m : Int)) ||| BitVec.ofInt IntKind.u8.bits 128).toNat : Int) = ((UInt8.ofNat m ||| 128).toNat : Int) := by
      rw [wrap_u8_nat m, show (128 : Int) = ((128 : Nat) : Int) from rfl, or_u8 _ 128 (by have := (UInt8.ofNat m).toNat_lt; omega) (by omega)]
      simp [UInt8.toNat_or]
    rw [e3]
    refine ⟨_, _, append_hnd (f := 20) (C := LC) (ds := acc) (bs := [UInt8.ofNat m ||| 128]) (rest := []) (S := S1.new (.cells ([UInt8.ofNat m ||| 128].map u8))) el23 (by rw [List.append_nil]; exact cells_new_ne h5 (by omega)) rfl (elems_hnd (bs := [UInt8.ofNat m ||| 128]) (cells_new _ _)) (by simp) (by simp; omega), ?_⟩
    conv => whnf
    refine ⟨by omega, ?_⟩
    rw [e2]
    conv => whnf
    refine ⟨m / 128, (m / 128, S1.next + 1, acc ++ [UInt8.ofNat m ||| 128]), by omega, ⟨rfl, by omega, by have := h6.next; show S.next ≤ S1.next + 1; omega, by show S1.next + 1 < S1.next + 1 + 1; omega, cells_new _ _, ((h6.new _).set _ _ (by omega)).new _, ?_⟩, ⟨rfl, rfl, ?_, trivial⟩⟩
    · rw [← h7]
      conv => rhs; unfold grp
      rw [dif_neg (by omega)]
      simp
    · show AV.hnd (S1.next + 1) 0 (acc.length + 1) 1 = _
      simp
end Go.Proofs.YtiknkngdfdmkbaaDoor
