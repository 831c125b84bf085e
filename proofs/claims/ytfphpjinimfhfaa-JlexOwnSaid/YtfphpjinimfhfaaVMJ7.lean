import Derived.Test.YtfphpjinimfhfaaVMJ4
namespace Go.Proofs.Ytfphpjinimfhfaa
open Go.Proofs.Ytfphpjinimfhfaa.VM Go.RowKit
set_option maxRecDepth 100000
set_option linter.unusedVariables false
set_option maxHeartbeats 1000000
theorem elB : Elem Try.prog 25 5 1 1 false (.int .u8 0) := ⟨by kernel_rfl, by kernel_rfl, by kernel_rfl, by kernel_rfl, by kernel_rfl, rfl, by decide⟩
/-- A builder that was written. -/
def BldU (b : Nat) (S : St) (n : Nat) (bs : List UInt8) : Prop := b ≤ n ∧ n < S.next ∧ ∃ v, S.mem n = some (.cells [.ptr n 0, v]) ∧ OwnB 5 b S v (bs.map u8)
abbrev BldJ := Bld 46 5
theorem BldU.bld {b : Nat} {S : St} {n : Nat} {bs : List UInt8} (h : BldU b S n bs) : BldJ b S n bs := ⟨h.1, h.2.1, .inr h.2.2⟩
/-- Nothing else turns, but what can be appended to. -/
def Fr (n : Nat) (S S1 : St) : Prop := ∀ j blk, j < S.next → j ≠ n → S.mem j = some blk → blk ≠ .tip 5 → S1.mem j = some blk
theorem Fr.trans {n : Nat} {S S1 S2 : St} (h : Fr n S S1) (hn : S.next ≤ S1.next) (k : Fr n S1 S2) : Fr n S S2 := fun j blk h1 h2 h3 h4 => k j blk (by omega) h2 (h j blk h1 h2 h3 h4) h4
theorem Fr.set {n : Nat} {S S1 : St} (h : Fr n S S1) (x : Option Blk) : Fr n S (S1.set n x) := fun j blk h1 h2 h3 h4 => mem_set_ne (h j blk h1 h2 h3 h4) h2
theorem Fr.refl (n : Nat) (S : St) : Fr n S S := fun _ _ _ _ h _ => h
theorem copy_check {b : Nat} {S : St} {n : Nat} {bs : List UInt8} (h : BldJ b S n bs) : ∃ S1, copyCheckG 46 [.ptr n 0] S = some (.tuple [], S1) ∧ BldU b S1 n bs ∧ Low b S S1 ∧ S1.next = S.next ∧ Fr n S S1 := by
  obtain ⟨h1, h2, h3⟩ := h
  rcases h3 with ⟨h3, rfl⟩ | ⟨v, h3, h4⟩
  · refine ⟨S.set n (some (.cells [.ptr n 0, .nils])), ?_, ⟨h1, h2, _, mem_set _ _ _, OwnB.nil _ _ _⟩, (Low.refl b S).set _ _ h1, rfl, (Fr.refl n S).set _⟩
    simp only [copyCheckG, h3, if_true]
  · refine ⟨S, ?_, ⟨h1, h2, v, h3, h4⟩, Low.refl _ _, rfl, Fr.refl _ _⟩
    simp only [copyCheckG, h3, if_true]
theorem BldU.put {b : Nat} {S S1 : St} {n : Nat} {bs : List UInt8} {r : AV} (h1 : b ≤ n) (h2 : n < S.next) (hb : b ≤ S.next) (ho : OwnB 5 b S1 r (bs.map u8)) (hl : Low b S S1) (hm : ∃ v, S1.mem n = some (.cells [.ptr n 0, v])) : BldU b (S1.set n (some (.cells [.ptr n 0, r]))) n bs := by
  refine ⟨h1, Nat.lt_of_lt_of_le h2 hl.1, r, mem_set _ _ _, ho.mono (Nat.le_refl _) fun m _ _ hmm => ?_⟩
  refine mem_set_ne rfl ?_
  rintro rfl
  obtain ⟨v, hv⟩ := hm
  rw [hv] at hmm; cases hmm

theorem t18 (h : Bool) (b : Nat) (S : St) (n : Nat) (bs : List UInt8) (c : UInt8) (hB : BldJ b S n bs) (hb : b ≤ S.next) (hl : bs.length + 1 ≤ 2 ^ 47) :
    CallQ Try.prog (JC h) 18 [.ptr n 0, u8 c] S fun r S1 => r = .nilIface ∧ BldU b S1 n (bs ++ [c]) ∧ Low b S S1 ∧ Fr n S S1 := by
  obtain ⟨S1, e1, e2, e3, e4, e5⟩ := copy_check hB
  refine CallQ.of rfl (by kernel_rfl : Try.prog.funcs[18]? = some Try.f18) rfl (by decide) ?_
  conv => whnf
  refine CallQ.intr (g := copyCheckG 46) rfl e1 ?_
  obtain ⟨q1, q2, v, q3, q4⟩ := e2
  conv => whnf
  refine ⟨_, cells_of_mem q3, ?_⟩
  conv => whnf
  obtain ⟨r, S2, h1, h2, h3, h4, _⟩ := OwnB.append (C := JC h) (f := 18) elB rfl q4 (by omega) (show elemsA S1 false 1 (.lst [u8 c] .full) = some ([c].map u8) from rfl) (shed_u8 _) (wellA_u8 _) (wellA_u8 _) (by simp; omega)
  have hr : r = .nils ∨ ∃ m : Nat × List AV, r = .lst m.2 (.tag m.1) := by
    rcases h2 with ⟨rfl, _⟩ | ⟨m, _, _, rfl, _⟩
    · exact .inl rfl
    · exact .inr ⟨(m, _), rfl⟩
  refine ⟨r, S2, h1, ?_⟩
  conv => whnf
  have m2 := h4 n _ q2 q3 (by simp)
  rw [← List.map_append] at h2
  have fin := BldU.put q1 q2 (by omega) h2 h3 ⟨v, m2⟩
  have fin2 := (e3.trans h3).set n (some (.cells [.ptr n 0, r])) q1
  have fin3 : Fr n S (S2.set n (some (.cells [.ptr n 0, r]))) := (e5.trans (by omega) (fun j blk g1 _ g3 g4 => h4 j blk g1 g3 g4)).set _
  clear h1 h2
  rcases hr with rfl | ⟨m, rfl⟩
  all_goals
    refine ⟨_, _, cells_of_mem m2, if_pos ⟨rfl, rfl, Nat.le_of_ble_eq_true rfl⟩, ?_⟩
    conv => whnf
    exact ⟨rfl, fin, fin2, fin3⟩

theorem t20 (h : Bool) (b : Nat) (S : St) (n : Nat) (bs s : List UInt8) (hB : BldJ b S n bs) (hb : b ≤ S.next) (hl : bs.length + s.length ≤ 2 ^ 47) :
    CallQ Try.prog (JC h) 20 [.ptr n 0, .str s] S fun r S1 => r = .tuple [.int .i64 s.length, .nilIface] ∧ BldU b S1 n (bs ++ s) ∧ Low b S S1 ∧ Fr n S S1 := by
  obtain ⟨S1, e1, e2, e3, e4, e5⟩ := copy_check hB
  refine CallQ.of rfl (by kernel_rfl : Try.prog.funcs[20]? = some Try.f20) rfl (by decide) ?_
  conv => whnf
  refine CallQ.intr (g := copyCheckG 46) rfl e1 ?_
  obtain ⟨q1, q2, v, q3, q4⟩ := e2
  conv => whnf
  refine ⟨_, cells_of_mem q3, ?_⟩
  conv => whnf
  have hE : elemsA S1 false 1 (.str s) = some (s.map u8) := rfl
  obtain ⟨r, S2, h1, h2, h3, h4, _⟩ := OwnB.append (C := JC h) (f := 20) elB rfl q4 (by omega) hE (shed_u8 _) (wellA_u8 _) (wellA_u8 _) (by simp; omega)
  have hr : r = .nils ∨ ∃ m : Nat × List AV, r = .lst m.2 (.tag m.1) := by
    rcases h2 with ⟨rfl, _⟩ | ⟨m, _, _, rfl, _⟩
    · exact .inl rfl
    · exact .inr ⟨(m, _), rfl⟩
  refine ⟨r, S2, h1, ?_⟩
  conv => whnf
  have m2 := h4 n _ q2 q3 (by simp)
  rw [← List.map_append] at h2
  have fin := BldU.put q1 q2 (by omega) h2 h3 ⟨v, m2⟩
  have fin2 := (e3.trans h3).set n (some (.cells [.ptr n 0, r])) q1
  have fin3 : Fr n S (S2.set n (some (.cells [.ptr n 0, r]))) := (e5.trans (by omega) (fun j blk g1 _ g3 g4 => h4 j blk g1 g3 g4)).set _
  clear h1 h2
  rcases hr with rfl | ⟨m, rfl⟩
  all_goals
    refine ⟨_, _, cells_of_mem m2, if_pos ⟨rfl, rfl, Nat.le_of_ble_eq_true rfl⟩, ?_⟩
    conv => whnf
    exact ⟨rfl, fin, fin2, fin3⟩

theorem bld_string {b : Nat} {S : St} {n : Nat} {bs : List UInt8} (hB : BldJ b S n bs) (hl : bs.length ≤ 2 ^ 47) : bldStringG 5 [.ptr n 0] S = some (.str bs, S) := by
  obtain ⟨h1, h2, h3⟩ := hB
  rcases h3 with ⟨h3, rfl⟩ | ⟨v, h3, h4⟩
  · have : S.cells n = some [.nul, .nils] := by unfold St.cells; rw [h3]
    simp only [bldStringG, this]
  · rcases h4 with ⟨rfl, h4⟩ | ⟨m, _, _, rfl, h5⟩
    · obtain rfl : bs = [] := by simpa using h4
      simp only [bldStringG, cells_of_mem h3]
    · simp only [bldStringG, cells_of_mem h3, h5, byteList_u8]
      simp only [true_and]
      rw [if_pos (by omega)]
end Go.Proofs.Ytfphpjinimfhfaa
namespace Go.Proofs.Ytfphpjinimfhfaa
open Go.Proofs.Ytfphpjinimfhfaa.VM Go.RowKit
set_option maxRecDepth 100000
set_option linter.unusedVariables false
set_option maxHeartbeats 1000000
theorem consE {α : Type} {a b : α} {l m : List α} (h : a = b) (k : l = m) : a :: l = b :: m := by rw [h, k]
def encU (r : Nat) : List UInt8 := (encS r).map fun n => UInt8.ofNat n.toNat
theorem or128 : ∀ x : Nat, x < 64 → 128 ||| x = 128 + x := by decide
theorem or192 : ∀ x : Nat, x < 32 → 192 ||| x = 192 + x := by decide
theorem or224 : ∀ x : Nat, x < 16 → 224 ||| x = 224 + x := by decide
theorem or240 : ∀ x : Nat, x < 8 → 240 ||| x = 240 + x := by decide
theorem byte_shr (r k : Nat) (K : Int) (hK : K = k) (hk : k ≤ 32) : IntKind.u8.wrap ((r : Int).fdiv (2 ^ min K.toNat IntKind.i32.bits)) = ((r / 2 ^ k % 256 : Nat) : Int) := by
  have e : min K.toNat IntKind.i32.bits = k := by rw [hK, Int.toNat_natCast]; exact Nat.min_eq_left hk
  rw [e, shr_nat, wrap_u8_nat, UInt8.toNat_ofNat']
theorem byte_low (r : Nat) : IntKind.u8.wrap (r : Int) = ((r % 256 : Nat) : Int) := by rw [wrap_u8_nat, UInt8.toNat_ofNat']
theorem mid_ (x : Nat) : IntKind.u8.wrap ((BitVec.ofInt IntKind.u8.bits 128 ||| BitVec.ofInt IntKind.u8.bits (IntKind.u8.wrap ((BitVec.ofInt IntKind.u8.bits ((x % 256 : Nat) : Int) &&& BitVec.ofInt IntKind.u8.bits 63).toNat : Int))).toNat : Int) = (((UInt8.ofNat (128 + x % 64)).toNat : Nat) : Int) := by
  rw [and63 _ (by omega)]
  have := or_u8 128 (x % 256 % 64) (by omega) (by omega)
  rw [show ((128 : Nat) : Int) = 128 from rfl] at this
  rw [this, or128 _ (by omega), UInt8.toNat_ofNat']
  congr 1; omega
theorem hi_ (K : Int) (k x : Nat) (hK : K = k) (h : k + x < 256) (he : k ||| x = k + x) : IntKind.u8.wrap ((BitVec.ofInt IntKind.u8.bits K ||| BitVec.ofInt IntKind.u8.bits ((x % 256 : Nat) : Int)).toNat : Int) = (((UInt8.ofNat (k + x)).toNat : Nat) : Int) := by
  rw [hK, Nat.mod_eq_of_lt (by omega), or_u8 k x (by omega) (by omega), he, UInt8.toNat_ofNat', Nat.mod_eq_of_lt h]
def midB (r k : Nat) : List AV → Prop := fun l => l = [u8 (UInt8.ofNat (128 + r / 2 ^ k % 64))]
theorem encU2 {r : Nat} (h0 : 128 ≤ r) (h : r < 2048) : [UInt8.ofNat (192 + r / 64), UInt8.ofNat (128 + r % 64)] = encU r := by
  unfold encU encS
  rw [if_neg (by omega), if_pos (by omega)]
  simp only [List.map_cons, List.map_nil]
  congr 2
theorem encU3 {r : Nat} (h0 : 2048 ≤ r) (h : r < 65536) : [UInt8.ofNat (224 + r / 4096), UInt8.ofNat (128 + r / 64 % 64), UInt8.ofNat (128 + r % 64)] = encU r := by
  unfold encU encS
  rw [if_neg (by omega), if_neg (by omega), if_pos (by omega)]
  simp only [List.map_cons, List.map_nil]
  congr 2
theorem encU4 {r : Nat} (h0 : 65536 ≤ r) : [UInt8.ofNat (240 + r / 262144), UInt8.ofNat (128 + r / 4096 % 64), UInt8.ofNat (128 + r / 64 % 64), UInt8.ofNat (128 + r % 64)] = encU r := by
  unfold encU encS
  rw [if_neg (by omega), if_neg (by omega), if_neg (by omega)]
  simp only [List.map_cons, List.map_nil]
  congr 2

theorem t51 (h : Bool) (b : Nat) (S : St) (v : AV) (bs : List UInt8) (r : Nat) (hr : chr r) (h128 : 128 ≤ r) (ho : OwnB 5 b S v (bs.map u8)) (hb : b ≤ S.next) (hl : bs.length + 4 ≤ 2 ^ 47) :
    CallQ Try.prog (JC h) 51 [v, .int .i32 r] S fun q S1 => OwnB 5 b S1 q ((bs ++ encU r).map u8) ∧ Low b S S1 ∧ ∀ j blk, j < S.next → S.mem j = some blk → blk ≠ .tip 5 → S1.mem j = some blk := by
  obtain ⟨r0, r1, r2⟩ := hr
  have app : ∀ ys : List UInt8, ys.length ≤ 4 → ys = encU r → ∃ q S1, builtinA Try.prog (JC h) 51 .append #[25, 25] [v, .lst (ys.map u8) .full] S = some (.ret q, S1) ∧ (OwnB 5 b S1 q ((bs ++ encU r).map u8) ∧ Low b S S1 ∧ ∀ j blk, j < S.next → S.mem j = some blk → blk ≠ .tip 5 → S1.mem j = some blk) := by
    intro ys h4 he
    obtain ⟨q, S2, h1, h2, h3, h4, _⟩ := OwnB.append (C := JC h) (f := 51) elB rfl ho hb (show elemsA S false 1 (.lst (ys.map u8) .full) = some (ys.map u8) from rfl) (shed_u8 _) (wellA_u8 _) (wellA_u8 _) (by simp; omega)
    rw [← List.map_append, he] at h2
    exact ⟨q, S2, h1, h2, h3, h4⟩
  refine CallQ.of rfl (by kernel_rfl : Try.prog.funcs[51]? = some Try.f51) rfl (by decide) ?_
  conv => whnf
  rw [show IntKind.u32.wrap (r : Int) = r by simp [IntKind.wrap, IntKind.bits, IntKind.signed]; omega]
  refine br (fun h1 => ?_) (fun h1 => ?_)
  · conv => whnf
    refine ⟨by decide, ?_⟩
    conv => whnf
    obtain ⟨q, S2, k1, k2⟩ := app _ (by simp) (encU2 h128 (by omega))
    refine ⟨q, S2, Eq.trans (congrArg (fun l => builtinA Try.prog (JC h) 51 .append #[25, 25] [v, .lst l .full] S) ?_) k1, ?_⟩
    · refine consE (congrArg _ ?_) (consE (congrArg _ ?_) rfl)
      · rw [byte_shr r 6 6 rfl (by omega)]
        exact hi_ 192 192 (r / 64) rfl (by omega) (or192 _ (by omega))
      · rw [byte_low]
        exact mid_ r
    · conv => whnf
      exact k2
  conv => whnf
  have tail : ∀ {K : Prop}, K → K := fun h => h
  have e3 : r < 65536 → (55296 ≤ r → False) ∨ 57343 < r → True := fun _ _ => trivial
  refine br (fun h2 => ?_) (fun h2 => ?_)
  · conv => whnf
    refine ⟨by decide, ?_⟩
    conv => whnf
    refine ⟨by decide, ?_⟩
    conv => whnf
    obtain ⟨q, S2, k1, k2⟩ := app _ (by simp) (encU3 (by omega) (by omega))
    refine ⟨q, S2, Eq.trans (congrArg (fun l => builtinA Try.prog (JC h) 51 .append #[25, 25] [v, .lst l .full] S) ?_) k1, ?_⟩
    · refine consE (congrArg _ ?_) (consE (congrArg _ ?_) (consE (congrArg _ ?_) rfl))
      · rw [byte_shr r 12 12 rfl (by omega)]
        exact hi_ 224 224 (r / 4096) rfl (by omega) (or224 _ (by omega))
      · rw [byte_shr r 6 6 rfl (by omega)]
        exact mid_ (r / 64)
      · rw [byte_low]
        exact mid_ r
    · conv => whnf
      exact k2
  conv => whnf
  refine br (fun h3 => ?_) (fun h3 => absurd (show (57343 : Int) < r by omega) h3)
  conv => whnf
  refine br (fun h4 => ?_) (fun h4 => ?_)
  · conv => whnf
    refine ⟨by decide, ?_⟩
    conv => whnf
    refine ⟨by decide, ?_⟩
    conv => whnf
    obtain ⟨q, S2, k1, k2⟩ := app _ (by simp) (encU3 (by omega) (by omega))
    refine ⟨q, S2, Eq.trans (congrArg (fun l => builtinA Try.prog (JC h) 51 .append #[25, 25] [v, .lst l .full] S) ?_) k1, ?_⟩
    · refine consE (congrArg _ ?_) (consE (congrArg _ ?_) (consE (congrArg _ ?_) rfl))
      · rw [byte_shr r 12 12 rfl (by omega)]
        exact hi_ 224 224 (r / 4096) rfl (by omega) (or224 _ (by omega))
      · rw [byte_shr r 6 6 rfl (by omega)]
        exact mid_ (r / 64)
      · rw [byte_low]
        exact mid_ r
    · conv => whnf
      exact k2
  conv => whnf
  refine br (fun h5 => ?_) (fun h5 => absurd (show (r : Int) > 65535 by omega) h5)
  conv => whnf
  refine br (fun h6 => ?_) (fun h6 => absurd (show (r : Int) ≤ 1114111 by omega) h6)
  conv => whnf
  refine ⟨by decide, ?_⟩
  conv => whnf
  refine ⟨by decide, ?_⟩
  conv => whnf
  refine ⟨by decide, ?_⟩
  conv => whnf
  obtain ⟨q, S2, k1, k2⟩ := app _ (by simp) (encU4 (by omega))
  refine ⟨q, S2, Eq.trans (congrArg (fun l => builtinA Try.prog (JC h) 51 .append #[25, 25] [v, .lst l .full] S) ?_) k1, ?_⟩
  · refine consE (congrArg _ ?_) (consE (congrArg _ ?_) (consE (congrArg _ ?_) (consE (congrArg _ ?_) rfl)))
    · rw [byte_shr r 18 18 rfl (by omega)]
      exact hi_ 240 240 (r / 262144) rfl (by omega) (or240 _ (by omega))
    · rw [byte_shr r 12 12 rfl (by omega)]
      exact mid_ (r / 4096)
    · rw [byte_shr r 6 6 rfl (by omega)]
      exact mid_ (r / 64)
    · rw [byte_low]
      exact mid_ r
  · conv => whnf
    exact k2

theorem t33 (h : Bool) (b : Nat) (S : St) (v : AV) (bs : List UInt8) (r : Nat) (hr : chr r) (ho : OwnB 5 b S v (bs.map u8)) (hb : b ≤ S.next) (hl : bs.length + 4 ≤ 2 ^ 47) :
    CallQ Try.prog (JC h) 33 [v, .int .i32 r] S fun q S1 => OwnB 5 b S1 q ((bs ++ encU r).map u8) ∧ Low b S S1 ∧ ∀ j blk, j < S.next → S.mem j = some blk → blk ≠ .tip 5 → S1.mem j = some blk := by
  have hr' := hr
  obtain ⟨r0, r1, r2⟩ := hr
  refine CallQ.of rfl (by kernel_rfl : Try.prog.funcs[33]? = some Try.f33) rfl (by decide) ?_
  conv => whnf
  rw [show IntKind.u32.wrap (r : Int) = r by simp [IntKind.wrap, IntKind.bits, IntKind.signed]; omega]
  refine br (fun h1 => ?_) (fun h1 => ?_)
  · conv => whnf
    have he : [UInt8.ofNat r] = encU r := by unfold encU encS; rw [if_pos (by omega)]; simp
    obtain ⟨q, S2, h1, h2, h3, h4, _⟩ := OwnB.append (C := JC h) (f := 33) elB rfl ho hb (show elemsA S false 1 (.lst ([UInt8.ofNat r].map u8) .full) = some ([UInt8.ofNat r].map u8) from rfl) (shed_u8 _) (wellA_u8 _) (wellA_u8 _) (by simp; omega)
    rw [← List.map_append, he] at h2
    refine ⟨q, S2, Eq.trans (congrArg (fun l => builtinA Try.prog (JC h) 33 .append #[25, 25] [v, .lst l .full] S) ?_) h1, ?_⟩
    · refine consE (congrArg _ ?_) rfl
      exact wrap_u8_nat r
    · conv => whnf
      exact ⟨h2, h3, h4⟩
  · conv => whnf
    refine CallQ.mono (t51 h b S v bs r hr' (by omega) ho hb hl) ?_
    rintro q S1 hq
    conv => whnf
    exact hq

theorem t21 (h : Bool) (b : Nat) (S : St) (n : Nat) (bs : List UInt8) (r : Nat) (hr : chr r) (hB : BldJ b S n bs) (hb : b ≤ S.next) (hl : bs.length + 4 ≤ 2 ^ 47) :
    CallQ Try.prog (JC h) 21 [.ptr n 0, .int .i32 r] S fun q S1 => BldU b S1 n (bs ++ encU r) ∧ Low b S S1 ∧ Fr n S S1 := by
  obtain ⟨S1, e1, e2, e3, e4, e5⟩ := copy_check hB
  refine CallQ.of rfl (by kernel_rfl : Try.prog.funcs[21]? = some Try.f21) rfl (by decide) ?_
  conv => whnf
  refine CallQ.intr (g := copyCheckG 46) rfl e1 ?_
  obtain ⟨q1, q2, v, q3, q4⟩ := e2
  have hv := q4.elems
  have main := t33 h b S1 v bs r hr q4 (by omega) hl
  have hlen : (encU r).length = (encS r).length := by simp [encU]
  have hel := enc_len r
  have hne : encU r ≠ [] := fun e => by rw [e] at hlen; simp at hlen; omega
  rcases hv with ⟨rfl, hn⟩ | ⟨tp, rfl⟩
  all_goals
    conv => whnf
    refine ⟨_, cells_of_mem q3, ?_⟩
    conv => whnf
    refine ⟨_, cells_of_mem q3, ?_⟩
    conv => whnf
    refine CallQ.mono main ?_
    rintro q S2 ⟨h2, h3, h4⟩
    have m2 := h4 n _ q2 q3 (by simp)
    have fin := BldU.put q1 q2 (by omega) h2 h3 ⟨_, m2⟩
    have fin2 := (e3.trans h3).set n (some (.cells [.ptr n 0, q])) q1
    have fin3 : Fr n S (S2.set n (some (.cells [.ptr n 0, q]))) := (e5.trans (by omega) (fun j blk g1 _ g3 g4 => h4 j blk g1 g3 g4)).set _
    rcases h2 with ⟨rfl, h0⟩ | ⟨m, _, _, rfl, _⟩
    · have := congrArg List.length h0
      simp at this
      exact absurd this.2 hne
    conv => whnf
    refine ⟨_, _, cells_of_mem m2, if_pos ⟨rfl, rfl, Nat.le_of_ble_eq_true rfl⟩, ?_⟩
    conv => whnf
    refine ⟨_, cells_set _ _ _, ?_⟩
    conv => whnf
    exact ⟨fin, fin2, fin3⟩
end Go.Proofs.Ytfphpjinimfhfaa
namespace Go.Proofs.Ytfphpjinimfhfaa
open Go.Proofs.Ytfphpjinimfhfaa.VM Go.RowKit
set_option maxRecDepth 100000
set_option linter.unusedVariables false
set_option maxHeartbeats 2000000
theorem str_cut {P : Program} {t : TypeId} (hu : P.underlying t = some .string) (s : List UInt8) (lo hi : Nat) (h1 : lo ≤ hi) (h2 : hi ≤ s.length) (k k' : IntKind) (a b : Int) (ha : a = lo) (hb : b = hi) :
    sliceA P t (.str s) (some (.int k a)) (some (.int k' b)) none = some (.str ((s.take hi).drop lo)) := by
  subst ha hb
  unfold sliceA
  simp only [hu, Option.isSome_none, Bool.false_eq_true, if_false, boundA]
  rw [if_pos ⟨by omega, by omega⟩]
  simp only [Option.bind_some, Int.toNat_natCast]
  rw [if_pos ⟨by omega, by omega⟩]
  simp only [Option.bind_some, Int.toNat_natCast]
theorem cut_one (s : List UInt8) (i : Nat) (h : i < s.length) : (s.take (i + 1)).drop i = [s.getD i 0] := by
  rw [List.take_succ_eq_append_getElem h, List.drop_append_of_le_length (by simp; omega)]
  simp [List.getD, h]
theorem und9 : Try.prog.underlying 9 = some .string := by kernel_rfl
theorem toU8 (c : UInt8) : ((c.toNat : Nat) : Int).toNat.toUInt8 = c := by rw [Int.toNat_natCast]; exact UInt8.ofNat_toNat
def escFrom : List UInt8 := [34, 92, 8, 9, 10, 12, 13]
def escTo : List UInt8 := [34, 92, 98, 116, 110, 102, 114]
def hexd : List UInt8 := [48, 49, 50, 51, 52, 53, 54, 55, 56, 57, 97, 98, 99, 100, 101, 102]
/-- How a character is written. -/
def esc1 (r : Nat) : List UInt8 :=
  if r < 128 ∧ 0 ≤ Lib.indexByte escFrom (UInt8.ofNat (min r 255)) then [92, escTo.getD (Lib.indexByte escFrom (UInt8.ofNat (min r 255))).toNat 0]
  else if r < 32 then [92, 117, 48, 48, hexd.getD (r / 16) 0, hexd.getD (r % 16) 0] else encU r
def escs (l : List Int) : List UInt8 := l.flatMap fun r => esc1 r.toNat
theorem eqFault (a b : Int) : eqF Try.prog 29 (.agg [.int .i64 a, .int .i64 b]) (.agg [ofLeaf (.int .i64 0), ofLeaf (.int .i64 0)]) = some (a == 0 && (b == 0 && true)) := by kernel_rfl
theorem hex_cut (i : Nat) (hi : i < 16) (k k' : IntKind) (a b : Int) (ha : a = i) (hb : b = ((i + 1 : Nat) : Int)) : sliceA Try.prog 9 (.str hexd) (some (.int k a)) (some (.int k' b)) none = some (.str [hexd.getD i 0]) := by
  rw [str_cut und9 hexd i (i + 1) (by omega) (by show i + 1 ≤ 16; omega) k k' a b ha hb, cut_one _ _ (by show i < 16; omega)]
theorem shr32 (r k : Nat) (K : Int) (hK : K = k) (hk : k ≤ 32) : (r : Int).fdiv (2 ^ min K.toNat IntKind.i32.bits) = ((r / 2 ^ k : Nat) : Int) := by
  have e : min K.toNat IntKind.i32.bits = k := by rw [hK, Int.toNat_natCast]; exact Nat.min_eq_left hk
  rw [e, shr_nat]
theorem and15 (r : Nat) (h : r < 2 ^ 31) : IntKind.i32.wrap ((BitVec.ofInt IntKind.i32.bits (r : Int) &&& BitVec.ofInt IntKind.i32.bits 15).toNat : Int) = ((r % 16 : Nat) : Int) := by
  have e3 : IntKind.i32.bits = 32 := rfl
  have h1 : (BitVec.ofInt IntKind.i32.bits (r : Int) &&& BitVec.ofInt IntKind.i32.bits 15).toNat = r % 16 := by
    rw [e3, show (15 : Int) = ((15 : Nat) : Int) from rfl]
    simp only [BitVec.toNat_and, BitVec.ofInt_natCast, BitVec.toNat_ofNat]
    rw [Nat.mod_eq_of_lt (by omega), Nat.mod_eq_of_lt (by omega), show (15 : Nat) = 2 ^ 4 - 1 from rfl, Nat.and_two_pow_sub_one_eq_mod]
  rw [h1, wrap_i32 (by omega) (by omega)]
theorem esc1_len (r : Nat) : (esc1 r).length ≤ 6 := by
  unfold esc1
  split
  · simp
  · split
    · simp
    · have := enc_len r; simp [encU]; omega
theorem idx_range (r : Nat) : -1 ≤ Lib.indexByte escFrom (UInt8.ofNat (min r 255)) ∧ Lib.indexByte escFrom (UInt8.ofNat (min r 255)) < 7 := by
  have : ∀ c : Fin 256, -1 ≤ Lib.indexByte escFrom (UInt8.ofNat c.val) ∧ Lib.indexByte escFrom (UInt8.ofNat c.val) < 7 := by decide +kernel
  exact this ⟨min r 255, by omega⟩
theorem runF_chr {l : List Int} (hb : Byt l) (hl : l ≠ []) (h : (oneS l).2.2 < 0) : chr (oneS l).1 := by
  revert h
  unfold oneS
  match l, hl, hb with
  | c :: t, _, hb =>
    obtain ⟨⟨c0, c1⟩, ht⟩ := hb.cons
    by_cases a1 : c < 128
    · simp only [if_pos a1]; intro _; exact ⟨by omega, by omega, by omega⟩
    by_cases a2 : c < 194 ∨ 244 < c
    · simp [a1, a2]
    by_cases a3 : c < 224
    · simp only [if_neg a1, if_neg a2, if_pos a3]
      match t with
      | [] => simp
      | x :: t =>
        by_cases b : x < 128 ∨ 191 < x
        · simp [b]
        · simp only [if_neg b]; intro _; exact ⟨by omega, by omega, by omega⟩
    simp only [if_neg a1, if_neg a2, if_neg a3]
    match t with
    | [] => simp
    | x :: t =>
      by_cases b : x < loS c ∨ hiS c < x
      · simp [b]
      simp only [if_neg b]
      have hlo := loS_le c
      have hhi := hiS_le c
      have e1 : c = 224 → loS c = 160 := by rintro rfl; rfl
      have e2 : c = 240 → loS c = 144 := by rintro rfl; rfl
      have e3 : c = 237 → hiS c = 159 := by rintro rfl; rfl
      have e4 : c = 244 → hiS c = 143 := by rintro rfl; rfl
      match t with
      | [] => simp
      | y :: t =>
        by_cases d : y < 128 ∨ 191 < y
        · simp [d]
        simp only [if_neg d]
        by_cases a4 : c < 240
        · simp only [if_pos a4]; intro _; exact ⟨by omega, by omega, by omega⟩
        simp only [if_neg a4]
        match t with
        | [] => simp
        | z :: t =>
          by_cases f : z < 128 ∨ 191 < z
          · simp [f]
          · simp only [if_neg f]; intro _; exact ⟨by omega, by omega, by omega⟩
theorem t8 (h : Bool) (bs : List UInt8) (hl : bs.length ≤ 1048576) (S : St) :
    CallQ Try.prog (JC h) 8 [.str bs] S fun r S1 => Keep S S1 ∧ r = .str (if telS (ib bs) 0 = (0, 0) then 34 :: escs (runF (ib bs)).1 ++ [34] else []) := by
  refine CallQ.of rfl (by kernel_rfl : Try.prog.funcs[8]? = some Try.f8) rfl (by decide) ?_
  conv => whnf
  refine CallQ.mono (t17 h bs (by omega) (.lst (bs.map u8) .lost) (.inr ⟨_, rfl⟩) S) ?_
  rintro r S1 ⟨k1, rfl⟩
  generalize htel : telS (ib bs) 0 = tel
  obtain ⟨fw, fa⟩ := tel
  conv => whnf
  rw [eqFault]
  refine brN (fun hf => ?_) (fun hf => ?_)
  · conv => whnf
    refine ⟨k1, ?_⟩
    rw [if_neg (by rintro e; cases e; simp at hf)]; rfl
  have hf0 : fw = 0 ∧ fa = 0 := by simpa using hf
  obtain ⟨rfl, rfl⟩ := hf0
  rw [if_pos rfl]
  conv => whnf
  refine CallQ.mono (t18 h S.next (S1.new _) S1.next [] 34 ⟨k1.next, by show _ < S1.next + 1; omega, .inl ⟨mem_new _ _, rfl⟩⟩ (by show _ ≤ S1.next + 1; have := k1.next; omega) (by simp)) ?_
  rintro r S2 ⟨rfl, b2, l2, f2⟩
  have n2 : S1.next + 1 ≤ S2.next := l2.1
  have low2 : Low S.next S S2 := ((Low.of k1 (Nat.le_refl _)).new k1.next _).trans l2
  conv => whnf
  have hk1 := k1.next
  have htel0 : (runF ((ib bs).drop 0)).2 < 0 := by
    unfold telS at htel
    split at htel
    · assumption
    · cases htel
  have b3 : BldU S.next (S2.new (.iter bs 0)) S1.next ([] ++ [34]) := by
    obtain ⟨g1, g2, v, g3, g4⟩ := b2
    exact ⟨g1, Nat.lt_succ_of_lt g2, v, mem_new_ne g3 (by omega), g4.mono (Nat.le_succ _) fun m _ hm _ => mem_new_ne rfl (by omega)⟩
  refine CodeQ.loop (fun (q : Nat × List UInt8) => pat 55 [(3, .ptr S1.next 0), (14, .iter S2.next)])
    (fun m q S3 => Low S.next S S3 ∧ S2.next < S3.next ∧ BldU S.next S3 S1.next ([34] ++ q.2) ∧ S3.mem S2.next = some (.iter bs q.1) ∧ q.1 ≤ bs.length ∧ m = bs.length - q.1 ∧ (runF ((ib bs).drop q.1)).2 < 0 ∧ q.2.length ≤ 6 * q.1 ∧ escs (runF (ib bs)).1 = q.2 ++ escs (runF ((ib bs).drop q.1)).1) ?_ bs.length (0, []) _ _
    ⟨low2.new (by omega) _, Nat.lt_succ_self _, b3, mem_new _ _, by simp, by simp, htel0, by simp, by simp⟩ ⟨rfl, rfl, trivial⟩
  clear b3 low2 l2 b2 f2 htel k1
  rintro m ⟨p, acc⟩ S3 d ⟨l3, n3, b3, m3, q1, q2, q3, q4, q5⟩
  dsimp only at *
  rw [q5]
  clear q5
  conv => whnf
  rcases Nat.lt_or_ge p bs.length with hp | hp
  rotate_left
  · refine ⟨_, _, next_end m3 hp, ?_⟩
    conv => whnf
    refine CallQ.mono (t18 h S.next S3 S1.next _ 34 b3.bld (by omega) (by simp; omega)) ?_
    rintro r S4 ⟨rfl, b4, l4, f4⟩
    conv => whnf
    refine CallQ.intr (g := bldStringG 5) rfl (bld_string b4.bld (by simp; omega)) ?_
    conv => whnf
    refine ⟨(l3.trans l4).keep, ?_⟩
    rw [show (ib bs).drop p = [] from List.drop_eq_nil_iff.2 (by rw [ib_len]; exact hp)]
    show AV.str _ = AV.str _
    simp [runF_nil, escs]
  have hp' : p < (ib bs).length := by rw [ib_len]; exact hp
  have hne := drop_ne_nil hp'
  have hgood : (oneS ((ib bs).drop p)).2.2 < 0 := by
    by_cases hg : (oneS ((ib bs).drop p)).2.2 < 0
    · exact hg
    · rw [runF_bad hne hg] at q3; exact absurd q3 hg
  have hchr := runF_chr ((ib_byt bs).drop p) hne hgood
  have hrun := runF_good ((ib_byt bs).drop p) hne hgood
  have hdec := decode_ib hp
  rw [if_pos hgood] at hdec
  obtain ⟨g1, g2, g3, g4, g5, g6⟩ := one_good ((ib_byt bs).drop p) hgood
  rw [List.length_drop, ib_len] at g4
  rw [List.drop_drop] at hrun
  rw [hrun] at q3 ⊢
  simp only at q3
  have q3' : (runF ((ib bs).drop (p + (oneS ((ib bs).drop p)).2.1.toNat))).2 < 0 := by
    by_cases hx : (runF ((ib bs).drop (p + (oneS ((ib bs).drop p)).2.1.toNat))).2 < 0
    · exact hx
    · rw [if_neg hx] at q3; omega
  refine ⟨_, _, next_more m3 hp, ?_⟩
  rw [hdec]
  clear hrun hdec q3 hgood hne
  generalize oneS ((ib bs).drop p) = o at *
  obtain ⟨v, n, w⟩ := o
  dsimp only at *
  obtain ⟨r, rfl⟩ : ∃ r : Nat, v = (r : Int) := ⟨v.toNat, by omega⟩
  obtain ⟨n, rfl⟩ : ∃ k : Nat, n = (k : Int) := ⟨n.toNat, by omega⟩
  simp only [Int.toNat_natCast] at *
  have hrl : r < 1114112 := by obtain ⟨_, h2, _⟩ := hchr; omega
  have hw5 : esc1 r = esc1 r := rfl
  have nx : ∀ (S5 : St) (out : List UInt8), out = esc1 r → BldU S.next S5 S1.next ([34] ++ acc ++ out) → Low S.next S S5 → S2.next < S5.next → S5.mem S2.next = some (.iter bs (p + n)) →
      ∃ (m' : Nat) (b : Nat × List UInt8), m' < m ∧ (Low S.next S S5 ∧ S2.next < S5.next ∧ BldU S.next S5 S1.next ([34] ++ b.2) ∧ S5.mem S2.next = some (.iter bs b.1) ∧ b.1 ≤ bs.length ∧ m' = bs.length - b.1 ∧ (runF ((ib bs).drop b.1)).2 < 0 ∧ b.2.length ≤ 6 * b.1 ∧ acc ++ escs ((r : Int) :: (runF ((ib bs).drop (p + n))).1) = b.2 ++ escs (runF ((ib bs).drop b.1)).1) ∧ b.1 = p + n := by
    intro S5 out ho hB hL hN hM
    have he := esc1_len r
    refine ⟨bs.length - (p + n), (p + n, acc ++ out), by omega, ⟨hL, hN, by rw [← List.append_assoc]; exact hB, hM, by dsimp only; omega, rfl, q3', ?_, ?_⟩, rfl⟩
    · dsimp only; rw [ho, List.length_append]; omega
    · dsimp only; rw [ho]; simp [escs]
  have l3' : Low S.next S (S3.set S2.next (some (.iter bs (p + n)))) := l3.set _ _ (by omega)
  have b3' : BldU S.next (S3.set S2.next (some (.iter bs (p + n)))) S1.next ([34] ++ acc) := by
    obtain ⟨u1, u2, v, u3, u4⟩ := b3
    refine ⟨u1, u2, v, mem_set_ne u3 (by omega), u4.mono (Nat.le_refl _) fun m' _ _ hm' => ?_⟩
    refine mem_set_ne rfl ?_
    rintro rfl
    rw [m3] at hm'; cases hm'
  have m3' : (S3.set S2.next (some (.iter bs (p + n)))).mem S2.next = some (.iter bs (p + n)) := mem_set _ _ _
  have n3' : S2.next < (S3.set S2.next (some (.iter bs (p + n)))).next := n3
  generalize S3.set S2.next (some (.iter bs (p + n))) = S4 at *
  clear l3 b3 m3 n3
  conv => whnf
  have hmin : IntKind.u8.wrap (if (255 : Int) < (r : Int) then 255 else (r : Int)) = ((UInt8.ofNat (min r 255)).toNat : Int) := by
    rw [show (if (255 : Int) < (r : Int) then (255 : Int) else (r : Int)) = ((min r 255 : Nat) : Int) by split <;> omega, wrap_u8_nat]
  rw [hmin]
  refine CallQ.intr (g := idxByteG) rfl rfl ?_
  have hi := idx_range r
  obtain ⟨ix, hix⟩ : ∃ ix, ix = Lib.indexByte escFrom (UInt8.ofNat (min r 255)) := ⟨_, rfl⟩
  have hidx' : Lib.indexByte [34, 92, 8, 9, 10, 12, 13] (((UInt8.ofNat (min r 255)).toNat : Nat) : Int).toNat.toUInt8 = ix := by rw [toU8, hix]; rfl
  have he1 : r < 128 → 0 ≤ ix → esc1 r = [92, escTo.getD ix.toNat 0] := fun a b => by unfold esc1; rw [← hix, if_pos ⟨a, b⟩]
  have he2 : ¬ (r < 128 ∧ 0 ≤ ix) → r < 32 → esc1 r = [92, 117, 48, 48, hexd.getD (r / 16) 0, hexd.getD (r % 16) 0] := fun a b => by unfold esc1; rw [← hix, if_neg a, if_pos b]
  have he3 : ¬ (r < 128 ∧ 0 ≤ ix) → ¬ r < 32 → esc1 r = encU r := fun a b => by unfold esc1; rw [← hix, if_neg a, if_neg b]
  rw [← hix] at hi
  have hal : acc.length ≤ 6291456 := by omega
  have big : ∀ S5, BldU S.next S5 S1.next ([34] ++ acc) → Low S.next S4 S5 → Fr S1.next S4 S5 → S2.next < S5.next ∧ S5.mem S2.next = some (.iter bs (p + n)) := fun S5 _ a b => ⟨Nat.lt_of_lt_of_le n3' a.1, b _ _ n3' (by omega) m3' (by simp)⟩
  have wrote : ∀ S5, Low S.next S4 S5 → Fr S1.next S4 S5 → Low S.next S S5 ∧ S2.next < S5.next ∧ S5.mem S2.next = some (.iter bs (p + n)) := fun S5 a b => ⟨l3'.trans a, Nat.lt_of_lt_of_le n3' a.1, b _ _ n3' (by omega) m3' (by simp)⟩
  have rune : ¬ (r < 128 ∧ 0 ≤ ix) → ¬ r < 32 → ∀ {K : AV → St → Prop}, (∀ q S5, BldU S.next S5 S1.next ([34] ++ acc ++ esc1 r) → Low S.next S S5 → S2.next < S5.next → S5.mem S2.next = some (.iter bs (p + n)) → K q S5) → CallQ Try.prog (JC h) 21 [.ptr S1.next 0, .int .i32 r] S4 K := by
    intro a b K hK
    refine CallQ.mono (t21 h S.next S4 S1.next _ r hchr b3'.bld (by omega) (by simp; omega)) ?_
    rintro q S5 ⟨k1, k2, k3⟩
    obtain ⟨w1, w2, w3⟩ := wrote S5 k2 k3
    exact hK q S5 (by rw [he3 a b]; exact k1) w1 w2 w3
  have hexs : ¬ (r < 128 ∧ 0 ≤ ix) → r < 32 → ∀ {K : AV → St → Prop}, (∀ q S5, BldU S.next S5 S1.next ([34] ++ acc ++ esc1 r) → Low S.next S S5 → S2.next < S5.next → S5.mem S2.next = some (.iter bs (p + n)) → K q S5) → CallQ Try.prog (JC h) 20 [.ptr S1.next 0, .str ([92, 117, 48, 48] ++ [hexd.getD (r / 16) 0] ++ [hexd.getD (r % 16) 0])] S4 K := by
    intro a b K hK
    refine CallQ.mono (t20 h S.next S4 S1.next _ _ b3'.bld (by omega) (by simp; omega)) ?_
    rintro q S5 ⟨_, k1, k2, k3⟩
    obtain ⟨w1, w2, w3⟩ := wrote S5 k2 k3
    exact hK q S5 (by rw [he2 a b]; exact k1) w1 w2 w3
  have two : r < 128 → 0 ≤ ix → ∀ {K : AV → St → Prop}, (∀ S5, (∀ {K : AV → St → Prop}, (∀ q S6, BldU S.next S6 S1.next ([34] ++ acc ++ esc1 r) → Low S.next S S6 → S2.next < S6.next → S6.mem S2.next = some (.iter bs (p + n)) → K q S6) → CallQ Try.prog (JC h) 18 [.ptr S1.next 0, u8 (escTo.getD ix.toNat 0)] S5 K) → K .nilIface S5) → CallQ Try.prog (JC h) 18 [.ptr S1.next 0, u8 92] S4 K := by
    intro a b K hK
    refine CallQ.mono (t18 h S.next S4 S1.next _ 92 b3'.bld (by omega) (by simp; omega)) ?_
    rintro q S5 ⟨rfl, k1, k2, k3⟩
    refine hK S5 fun {K} hK => ?_
    refine CallQ.mono (t18 h S.next S5 S1.next _ (escTo.getD ix.toNat 0) k1.bld (by have := k2.1; omega) (by simp; omega)) ?_
    rintro q S6 ⟨rfl, k4, k5, k6⟩
    obtain ⟨w1, w2, w3⟩ := wrote S6 (k2.trans k5) (k3.trans k2.1 k6)
    exact hK _ S6 (by rw [he1 a b]; simpa using k4) w1 w2 w3
  have hto : 0 ≤ ix → escTo[ix.toNat]? = some (escTo.getD ix.toNat 0) := fun a => by
    have : ix.toNat < escTo.length := by show _ < 7; omega
    simp [List.getD, this]
  have hx1 : r < 32 → hexd.length = 16 ∧ r / 16 + 1 ≤ 16 ∧ r % 16 + 1 ≤ 16 := fun _ => ⟨rfl, by omega, by omega⟩
  clear he1 he2 he3 hix g1 htel0
  rw [hidx']
  conv => whnf
  refine br (fun c1 => ?_) (fun c1 => ?_)
  · conv => whnf
    refine br (fun c2 => ?_) (fun c2 => ?_)
    · conv => whnf
      refine two (by omega) (by omega) fun S5 hS5 => ?_
      conv => whnf
      refine ⟨by omega, _, hto (by omega), ?_⟩
      conv => whnf
      refine hS5 fun q S6 e1 e2 e3 e4 => ?_
      conv => whnf
      obtain ⟨m', b, u1, u2, u3⟩ := nx S6 _ rfl e1 e2 e3 e4
      exact ⟨m', b, u1, u2, ⟨rfl, rfl, trivial⟩⟩
    · conv => whnf
      refine br (fun c3 => ?_) (fun c3 => ?_)
      · conv => whnf
        refine ⟨[0, 1, 2, 3, 4, 5, 6, 7, 8, 9, 10, 11, 12, 13, 14], [], by kernel_rfl, by kernel_rfl, by kernel_rfl, ?_⟩
        conv => whnf
        refine ⟨by decide, ?_⟩
        conv => whnf
        refine ⟨by decide, ?_⟩
        conv => whnf
        have s16 := shr32 r 4 4 rfl (by omega)
        have a15 := and15 r (by omega)
        refine ⟨_, hex_cut (r / 16) (by omega) _ _ _ _ s16 (by rw [s16, wrap_i32 (by omega) (by omega)]; rfl), ?_⟩
        conv => whnf
        refine ⟨by simp, ?_⟩
        conv => whnf
        refine ⟨_, hex_cut (r % 16) (by omega) _ _ _ _ a15 (by rw [a15, wrap_i32 (by omega) (by omega)]; rfl), ?_⟩
        conv => whnf
        refine ⟨by simp, ?_⟩
        conv => whnf
        refine hexs (by omega) (by omega) fun q S6 e1 e2 e3 e4 => ?_
        conv => whnf
        obtain ⟨m', b, u1, u2, u3⟩ := nx S6 _ rfl e1 e2 e3 e4
        exact ⟨m', b, u1, u2, ⟨rfl, rfl, trivial⟩⟩
      · conv => whnf
        refine rune (by omega) (by omega) fun q S6 e1 e2 e3 e4 => ?_
        conv => whnf
        obtain ⟨m', b, u1, u2, u3⟩ := nx S6 _ rfl e1 e2 e3 e4
        exact ⟨m', b, u1, u2, ⟨rfl, rfl, trivial⟩⟩
  · conv => whnf
    refine br (fun c3 => absurd c3 (by omega)) (fun c3 => ?_)
    conv => whnf
    refine rune (by omega) (by omega) fun q S6 e1 e2 e3 e4 => ?_
    conv => whnf
    obtain ⟨m', b, u1, u2, u3⟩ := nx S6 _ rfl e1 e2 e3 e4
    exact ⟨m', b, u1, u2, ⟨rfl, rfl, trivial⟩⟩
end Go.Proofs.Ytfphpjinimfhfaa
