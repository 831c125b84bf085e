import Derived.Test.YtfphpjinimfhfaaVMJ5
namespace Go.Proofs.Ytfphpjinimfhfaa
open Go.Proofs.Ytfphpjinimfhfaa.VM Go.RowKit
set_option maxRecDepth 100000
set_option linter.unusedVariables false
set_option maxHeartbeats 1000000
theorem consE {α : Type} {a b : α} {l m : List α} (h : a = b) (k : l = m) : a :: l = b :: m := by rw [h, k]
def encU (r : Nat) : List UInt8 := (encS r).map fun n => UInt8.ofNat n.toNat
theorem or128 : ∀ x : Nat, x < 64 → 128 ||| x = 128 + x := by decide
theorem or192 : ∀ x : Nat, x < 32 → 192 ||| x = 192 + x := by decide
theorem or224 : ∀ x : Nat, x < 16 → 224 ||| x = 224 + x := by decide
theorem or240 : ∀ x : Nat, x < 8 → 240 ||| x = 240 + x := by decide
theorem byte_shr (r k : Nat) (K : Int) (hK : K = k) (hk : k ≤ 32) : IntKind.u8.wrap ((r : Int).fdiv (2 ^ min K.toNat IntKind.i32.bits)) = ((r / 2 ^ k % 256 : Nat) : Int) := by
  have e : min K.toNat IntKind.i32.bits = k := by rw [hK, Int.toNat_natCast]; exact Nat.min_eq_left hk
  rw [e, shr_nat, wrap_u8_nat, UInt8.toNat_ofNat']
theorem byte_low (r : Nat) : IntKind.u8.wrap (r : Int) = ((r % 256 : Nat) : Int) := by rw [wrap_u8_nat, UInt8.toNat_ofNat']
theorem mid_ (x : Nat) : IntKind.u8.wrap ((BitVec.ofInt IntKind.u8.bits 128 ||| BitVec.ofInt IntKind.u8.bits (IntKind.u8.wrap ((BitVec.ofInt IntKind.u8.bits ((x % 256 : Nat) : Int) &&& BitVec.ofInt IntKind.u8.bits 63).toNat : Int))).toNat : Int) = (((UInt8.ofNat (128 + x % 64)).toNat : Nat) : Int) := by
  rw [and63 _ (by omega)]
  have := or_u8 128 (x % 256 % 64) (by omega) (by omega)
  rw [show ((128 : Nat) : Int) = 128 from rfl] at this
  rw [this, or128 _ (by omega), UInt8.toNat_ofNat']
  congr 1; omega
theorem hi_ (K : Int) (k x : Nat) (hK : K = k) (h : k + x < 256) (he : k ||| x = k + x) : IntKind.u8.wrap ((BitVec.ofInt IntKind.u8.bits K ||| BitVec.ofInt IntKind.u8.bits ((x % 256 : Nat) : Int)).toNat : Int) = (((UInt8.ofNat (k + x)).toNat : Nat) : Int) := by
  rw [hK, Nat.mod_eq_of_lt (by omega), or_u8 k x (by omega) (by omega), he, UInt8.toNat_ofNat', Nat.mod_eq_of_lt h]
def midB (r k : Nat) : List AV → Prop := fun l => l = [u8 (UInt8.ofNat (128 + r / 2 ^ k % 64))]
theorem encU2 {r : Nat} (h0 : 128 ≤ r) (h : r < 2048) : [UInt8.ofNat (192 + r / 64), UInt8.ofNat (128 + r % 64)] = encU r := by
  unfold encU encS
  rw [if_neg (by omega), if_pos (by omega)]
  simp only [List.map_cons, List.map_nil]
  congr 2
theorem encU3 {r : Nat} (h0 : 2048 ≤ r) (h : r < 65536) : [UInt8.ofNat (224 + r / 4096), UInt8.ofNat (128 + r / 64 % 64), UInt8.ofNat (128 + r % 64)] = encU r := by
  unfold encU encS
  rw [if_neg (by omega), if_neg (by omega), if_pos (by omega)]
  simp only [List.map_cons, List.map_nil]
  congr 2
theorem encU4 {r : Nat} (h0 : 65536 ≤ r) : [UInt8.ofNat (240 + r / 262144), UInt8.ofNat (128 + r / 4096 % 64), UInt8.ofNat (128 + r / 64 % 64), UInt8.ofNat (128 + r % 64)] = encU r := by
  unfold encU encS
  rw [if_neg (by omega), if_neg (by omega), if_neg (by omega)]
  simp only [List.map_cons, List.map_nil]
  congr 2

theorem t51 (h : Bool) (b : Nat) (S : St) (v : AV) (bs : List UInt8) (r : Nat) (hr : chr r) (h128 : 128 ≤ r) (ho : OwnB 5 b S v (bs.map u8)) (hb : b ≤ S.next) (hl : bs.length + 4 ≤ 2 ^ 47) :
    CallQ Try.prog (JC h) 51 [v, .int .i32 r] S fun q S1 => OwnB 5 b S1 q ((bs ++ encU r).map u8) ∧ Low b S S1 ∧ ∀ j blk, j < S.next → S.mem j = some blk → blk ≠ .tip 5 → S1.mem j = some blk := by
  obtain ⟨r0, r1, r2⟩ := hr
  have app : ∀ ys : List UInt8, ys.length ≤ 4 → ys = encU r → ∃ q S1, builtinA Try.prog (JC h) 51 .append #[25, 25] [v, .lst (ys.map u8) .full] S = some (.ret q, S1) ∧ (OwnB 5 b S1 q ((bs ++ encU r).map u8) ∧ Low b S S1 ∧ ∀ j blk, j < S.next → S.mem j = some blk → blk ≠ .tip 5 → S1.mem j = some blk) := by
    intro ys h4 he
    obtain ⟨q, S2, h1, h2, h3, h4, _⟩ := OwnB.append (C := JC h) (f := 51) elB rfl ho hb (show elemsA S false 1 (.lst (ys.map u8) .full) = some (ys.map u8) from rfl) (shed_u8 _) (wellA_u8 _) (wellA_u8 _) (by simp; omega)
    rw [← List.map_append, he] at h2
    exact ⟨q, S2, h1, h2, h3, h4⟩
  refine CallQ.of rfl (by kernel_rfl : Try.prog.funcs[51]? = some Try.f51) rfl (by decide) ?_
  conv => whnf
  rw [show IntKind.u32.wrap (r : Int) = r by simp [IntKind.wrap, IntKind.bits, IntKind.signed]; omega]
  refine br (fun h1 => ?_) (fun h1 => ?_)
  · conv => whnf
    refine ⟨by decide, ?_⟩
    conv => whnf
    obtain ⟨q, S2, k1, k2⟩ := app _ (by simp) (encU2 h128 (by omega))
    refine ⟨q, S2, Eq.trans (congrArg (fun l => builtinA Try.prog (JC h) 51 .append #[25, 25] [v, .lst l .full] S) ?_) k1, ?_⟩
    · refine consE (congrArg _ ?_) (consE (congrArg _ ?_) rfl)
      · rw [byte_shr r 6 6 rfl (by omega)]
        exact hi_ 192 192 (r / 64) rfl (by omega) (or192 _ (by omega))
      · rw [byte_low]
        exact mid_ r
    · conv => whnf
      exact k2
  conv => whnf
  have tail : ∀ {K : Prop}, K → K := fun h => h
  have e3 : r < 65536 → (55296 ≤ r → False) ∨ 57343 < r → True := fun _ _ => trivial
  refine br (fun h2 => ?_) (fun h2 => ?_)
  · conv => whnf
    refine ⟨by decide, ?_⟩
    conv => whnf
    refine ⟨by decide, ?_⟩
    conv => whnf
    obtain ⟨q, S2, k1, k2⟩ := app _ (by simp) (encU3 (by omega) (by omega))
    refine ⟨q, S2, Eq.trans (congrArg (fun l => builtinA Try.prog (JC h) 51 .append #[25, 25] [v, .lst l .full] S) ?_) k1, ?_⟩
    · refine consE (congrArg _ ?_) (consE (congrArg _ ?_) (consE (congrArg _ ?_) rfl))
      · rw [byte_shr r 12 12 rfl (by omega)]
        exact hi_ 224 224 (r / 4096) rfl (by omega) (or224 _ (by omega))
      · rw [byte_shr r 6 6 rfl (by omega)]
        exact mid_ (r / 64)
      · rw [byte_low]
        exact mid_ r
    · conv => whnf
      exact k2
  conv => whnf
  refine br (fun h3 => ?_) (fun h3 => absurd (show (57343 : Int) < r by omega) h3)
  conv => whnf
  refine br (fun h4 => ?_) (fun h4 => ?_)
  · conv => whnf
    refine ⟨by decide, ?_⟩
    conv => whnf
    refine ⟨by decide, ?_⟩
    conv => whnf
    obtain ⟨q, S2, k1, k2⟩ := app _ (by simp) (encU3 (by omega) (by omega))
    refine ⟨q, S2, Eq.trans (congrArg (fun l => builtinA Try.prog (JC h) 51 .append #[25, 25] [v, .lst l .full] S) ?_) k1, ?_⟩
    · refine consE (congrArg _ ?_) (consE (congrArg _ ?_) (consE (congrArg _ ?_) rfl))
      · rw [byte_shr r 12 12 rfl (by omega)]
        exact hi_ 224 224 (r / 4096) rfl (by omega) (or224 _ (by omega))
      · rw [byte_shr r 6 6 rfl (by omega)]
        exact mid_ (r / 64)
      · rw [byte_low]
        exact mid_ r
    · conv => whnf
      exact k2
  conv => whnf
  refine br (fun h5 => ?_) (fun h5 => absurd (show (r : Int) > 65535 by omega) h5)
  conv => whnf
  refine br (fun h6 => ?_) (fun h6 => absurd (show (r : Int) ≤ 1114111 by omega) h6)
  conv => whnf
  refine ⟨by decide, ?_⟩
  conv => whnf
  refine ⟨by decide, ?_⟩
  conv => whnf
  refine ⟨by decide, ?_⟩
  conv => whnf
  obtain ⟨q, S2, k1, k2⟩ := app _ (by simp) (encU4 (by omega))
  refine ⟨q, S2, Eq.trans (congrArg (fun l => builtinA Try.prog (JC h) 51 .append #[25, 25] [v, .lst l .full] S) ?_) k1, ?_⟩
  · refine consE (congrArg _ ?_) (consE (congrArg _ ?_) (consE (congrArg _ ?_) (consE (congrArg _ ?_) rfl)))
    · rw [byte_shr r 18 18 rfl (by omega)]
      exact hi_ 240 240 (r / 262144) rfl (by omega) (or240 _ (by omega))
    · rw [byte_shr r 12 12 rfl (by omega)]
      exact mid_ (r / 4096)
    · rw [byte_shr r 6 6 rfl (by omega)]
      exact mid_ (r / 64)
    · rw [byte_low]
      exact mid_ r
  · conv => whnf
    exact k2

theorem t33 (h : Bool) (b : Nat) (S : St) (v : AV) (bs : List UInt8) (r : Nat) (hr : chr r) (ho : OwnB 5 b S v (bs.map u8)) (hb : b ≤ S.next) (hl : bs.length + 4 ≤ 2 ^ 47) :
    CallQ Try.prog (JC h) 33 [v, .int .i32 r] S fun q S1 => OwnB 5 b S1 q ((bs ++ encU r).map u8) ∧ Low b S S1 ∧ ∀ j blk, j < S.next → S.mem j = some blk → blk ≠ .tip 5 → S1.mem j = some blk := by
  have hr' := hr
  obtain ⟨r0, r1, r2⟩ := hr
  refine CallQ.of rfl (by kernel_rfl : Try.prog.funcs[33]? = some Try.f33) rfl (by decide) ?_
  conv => whnf
  rw [show IntKind.u32.wrap (r : Int) = r by simp [IntKind.wrap, IntKind.bits, IntKind.signed]; omega]
  refine br (fun h1 => ?_) (fun h1 => ?_)
  · conv => whnf
    have he : [UInt8.ofNat r] = encU r := by unfold encU encS; rw [if_pos (by omega)]; simp
    obtain ⟨q, S2, h1, h2, h3, h4, _⟩ := OwnB.append (C := JC h) (f := 33) elB rfl ho hb (show elemsA S false 1 (.lst ([UInt8.ofNat r].map u8) .full) = some ([UInt8.ofNat r].map u8) from rfl) (shed_u8 _) (wellA_u8 _) (wellA_u8 _) (by simp; omega)
    rw [← List.map_append, he] at h2
    refine ⟨q, S2, Eq.trans (congrArg (fun l => builtinA Try.prog (JC h) 33 .append #[25, 25] [v, .lst l .full] S) ?_) h1, ?_⟩
    · refine consE (congrArg _ ?_) rfl
      exact wrap_u8_nat r
    · conv => whnf
      exact ⟨h2, h3, h4⟩
  · conv => whnf
    refine CallQ.mono (t51 h b S v bs r hr' (by omega) ho hb hl) ?_
    rintro q S1 hq
    conv => whnf
    exact hq

theorem t21 (h : Bool) (b : Nat) (S : St) (n : Nat) (bs : List UInt8) (r : Nat) (hr : chr r) (hB : BldJ b S n bs) (hb : b ≤ S.next) (hl : bs.length + 4 ≤ 2 ^ 47) :
    CallQ Try.prog (JC h) 21 [.ptr n 0, .int .i32 r] S fun q S1 => BldU b S1 n (bs ++ encU r) ∧ Low b S S1 ∧ Fr n S S1 := by
  obtain ⟨S1, e1, e2, e3, e4, e5⟩ := copy_check hB
  refine CallQ.of rfl (by kernel_rfl : Try.prog.funcs[21]? = some Try.f21) rfl (by decide) ?_
  conv => whnf
  refine CallQ.intr (g := copyCheckG 46) rfl e1 ?_
  obtain ⟨q1, q2, v, q3, q4⟩ := e2
  have hv := q4.elems
  have main := t33 h b S1 v bs r hr q4 (by omega) hl
  have hlen : (encU r).length = (encS r).length := by simp [encU]
  have hel := enc_len r
  have hne : encU r ≠ [] := fun e => by rw [e] at hlen; simp at hlen; omega
  rcases hv with ⟨rfl, hn⟩ | ⟨tp, rfl⟩
  all_goals
    conv => whnf
    refine ⟨_, cells_of_mem q3, ?_⟩
    conv => whnf
    refine ⟨_, cells_of_mem q3, ?_⟩
    conv => whnf
    refine CallQ.mono main ?_
    rintro q S2 ⟨h2, h3, h4⟩
    have m2 := h4 n _ q2 q3 (by simp)
    have fin := BldU.put q1 q2 (by omega) h2 h3 ⟨_, m2⟩
    have fin2 := (e3.trans h3).set n (some (.cells [.ptr n 0, q])) q1
    have fin3 : Fr n S (S2.set n (some (.cells [.ptr n 0, q]))) := (e5.trans (by omega) (fun j blk g1 _ g3 g4 => h4 j blk g1 g3 g4)).set _
    rcases h2 with ⟨rfl, h0⟩ | ⟨m, _, _, rfl, _⟩
    · have := congrArg List.length h0
      simp at this
      exact absurd this.2 hne
    conv => whnf
    refine ⟨_, _, cells_of_mem m2, if_pos ⟨rfl, rfl, Nat.le_of_ble_eq_true rfl⟩, ?_⟩
    conv => whnf
    refine ⟨_, cells_set _ _ _, ?_⟩
    conv => whnf
    exact ⟨fin, fin2, fin3⟩
end Go.Proofs.Ytfphpjinimfhfaa
