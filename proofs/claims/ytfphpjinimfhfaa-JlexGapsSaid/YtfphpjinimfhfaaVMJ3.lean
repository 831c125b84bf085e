import Derived.Test.YtfphpjinimfhfaaVMJ2
namespace Go.Proofs.Ytfphpjinimfhfaa
open Go.Proofs.Ytfphpjinimfhfaa.VM Go.RowKit
set_option maxRecDepth 100000
set_option linter.unusedVariables false
set_option maxHeartbeats 1000000
/-- Bytes as numbers. -/
def ib (bs : List UInt8) : List Int := bs.map fun b => (b.toNat : Int)
theorem ib_byt (bs : List UInt8) : Byt (ib bs) := fun x hx => by
  obtain ⟨b, _, rfl⟩ := List.mem_map.1 hx
  have := b.toNat_lt
  omega
theorem ib_len (bs : List UInt8) : (ib bs).length = bs.length := by simp [ib]
def oneV (o : Int × Int × Int) : AV := .tuple [.int .i32 o.1, .int .i64 o.2.1, .int .i64 o.2.2]
theorem and63 (x : Nat) (h : x < 256) : IntKind.u8.wrap ((BitVec.ofInt IntKind.u8.bits (x : Int) &&& BitVec.ofInt IntKind.u8.bits 63).toNat : Int) = ((x % 64 : Nat) : Int) := by
  have := and_u8 x 63 (by omega) (by omega)
  rw [show ((63 : Nat) : Int) = 63 from rfl] at this
  rw [this, show (63 : Nat) = 2 ^ 6 - 1 from rfl, Nat.and_two_pow_sub_one_eq_mod]
theorem wrap_i32 {x : Int} (h : -2147483648 ≤ x) (h2 : x < 2147483648) : IntKind.i32.wrap x = x := by
  simp [IntKind.wrap, IntKind.bits, IntKind.signed]
  split <;> omega
theorem or_i32 (n m : Nat) (hn : n * 64 < 2 ^ 31) (hm : m < 64) : IntKind.i32.wrap ((BitVec.ofInt IntKind.i32.bits (IntKind.i32.wrap ((n : Int) * 2 ^ min (6 : Int).toNat IntKind.i32.bits)) ||| BitVec.ofInt IntKind.i32.bits (IntKind.i32.wrap (m : Int))).toNat : Int) = ((n * 64 + m : Nat) : Int) := by
  have e0 : min (6 : Int).toNat IntKind.i32.bits = 6 := rfl
  have e1 : IntKind.i32.wrap ((n : Int) * 2 ^ 6) = ((n * 64 : Nat) : Int) := by rw [wrap_i32 (by omega) (by omega)]; omega
  have e2 : IntKind.i32.wrap (m : Int) = (m : Int) := wrap_i32 (by omega) (by omega)
  have e3 : IntKind.i32.bits = 32 := rfl
  rw [e0, e1, e2, e3]
  have h1 : (BitVec.ofInt 32 ((n * 64 : Nat) : Int) ||| BitVec.ofInt 32 (m : Int)).toNat = n * 64 + m := by
    simp only [BitVec.toNat_or, BitVec.ofInt_natCast, BitVec.toNat_ofNat]
    rw [Nat.mod_eq_of_lt (by omega), Nat.mod_eq_of_lt (by omega)]
    have := Nat.two_pow_add_eq_or_of_lt (i := 6) (b := m) hm n
    rw [Nat.mul_comm, show (64 : Nat) = 2 ^ 6 from rfl]
    exact this.symm
  rw [h1, wrap_i32 (by omega) (by omega)]

def resS : Nat → Int → Int → Int → Int → List Int → Int × Int × Int
  | 0, i, r, _, _, _ => (r, i, -1)
  | k + 1, i, r, _, _, [] => (0, 0, i)
  | k + 1, i, r, fr, to, x :: l => if x < fr ∨ to < x then (0, 0, i) else resS k (i + 1) (r * 64 + x % 64) 128 191 l
theorem one_res (c : Int) (l : List Int) (h : c < 128 ∨ 194 ≤ c ∧ c ≤ 244) : resS (moreF c).toNat 1 (bitsF c) (fromF c) (toF c) l = oneS (c :: l) := by
  have t2 : (2 : Int).toNat = 2 := rfl
  have t3 : (3 : Int).toNat = 3 := rfl
  unfold oneS moreF bitsF fromF toF
  by_cases h1 : c < 128
  · simp only [if_pos h1]; rfl
  have h2 : ¬ (c < 194 ∨ 244 < c) := by omega
  simp only [if_neg h1, if_neg h2]
  by_cases h3 : c < 224
  · have e1 : loS c = 128 := by unfold loS; rw [if_neg (by omega), if_neg (by omega)]
    have e2 : hiS c = 191 := by unfold hiS; rw [if_neg (by omega), if_neg (by omega)]
    simp only [if_pos h3, e1, e2]
    match l with
    | [] => rfl
    | x :: l => rfl
  simp only [if_neg h3]
  by_cases h4 : c < 240
  · simp only [if_pos h4]
    match l with
    | [] => rfl
    | [x] => simp only [t2, t3, resS]; split <;> rfl
    | x :: y :: l => simp only [t2, t3, resS]; rfl
  · simp only [if_neg h4]
    match l with
    | [] => rfl
    | [x] => simp only [t2, t3, resS]; split <;> rfl
    | [x, y] => simp only [t2, t3, resS]; repeat' split
                all_goals rfl
    | x :: y :: z :: l => simp only [t2, t3, resS]; rfl

theorem t30 (h : Bool) (b : UInt8) (bs : List UInt8) (t : Tip) (S : St) :
    CallQ Try.prog (JC h) 30 [.lst ((b :: bs).map u8) t] S fun r S1 => Keep S S1 ∧ r = oneV (oneS (ib (b :: bs))) := by
  have hb := b.toNat_lt
  refine CallQ.of rfl (by kernel_rfl : Try.prog.funcs[30]? = some Try.f30) rfl (by decide) ?_
  conv => whnf
  refine ⟨by decide, _, rfl, rfl, ?_⟩
  conv => whnf
  refine CallQ.intr (g := headsG) rfl (if_pos ⟨by omega, by omega⟩) ?_
  obtain ⟨c, hc⟩ : ∃ c : Int, c = (b.toNat : Int) := ⟨_, rfl⟩
  have hib : ib (b :: bs) = c :: ib bs := by rw [hc]; rfl
  rw [hib, ← hc]
  have c0 : 0 ≤ c ∧ c < 256 := by omega
  clear hc hib hb
  unfold headsV
  obtain ⟨m, hm⟩ : ∃ m, m = moreF c := ⟨_, rfl⟩
  obtain ⟨bt, hbt⟩ : ∃ m, m = bitsF c := ⟨_, rfl⟩
  obtain ⟨fr, hfr⟩ : ∃ m, m = fromF c := ⟨_, rfl⟩
  obtain ⟨to, hto⟩ : ∃ m, m = toF c := ⟨_, rfl⟩
  obtain ⟨ok, hok⟩ : ∃ m, m = okF c := ⟨_, rfl⟩
  rw [← hm, ← hbt, ← hfr, ← hto, ← hok]
  conv => whnf
  refine ⟨_, _, cells_new _ _, store_agg rfl rfl rfl, ?_⟩
  conv => whnf
  generalize hS1 : (S.new _).set S.next _ = S1
  have k1 : Keep S S1 := by rw [← hS1]; exact ((Keep.refl S).new _).set _ _ (Nat.le_refl _)
  have a1 : S1.cells S.next = some [.int .i64 m, .int .i32 bt, .int .u8 fr, .int .u8 to] := by rw [← hS1]; exact cells_set _ _ _
  clear hS1
  cases ok
  · conv => whnf
    refine ⟨k1, ?_⟩
    have : ¬ (c < 128 ∨ 194 ≤ c ∧ c ≤ 244) := of_decide_eq_false hok.symm
    simp only [oneS]
    rw [if_neg (by omega), if_pos (by omega)]
    rfl
  have hok2 : c < 128 ∨ 194 ≤ c ∧ c ≤ 244 := of_decide_eq_true hok.symm
  conv => whnf
  refine ⟨_, a1, ?_⟩
  conv => whnf
  have hc3 : (moreF c = 0 ∨ moreF c = 1 ∨ moreF c = 2 ∨ moreF c = 3) ∧ 0 ≤ bitsF c ∧ bitsF c < 128 := by
    unfold moreF bitsF; repeat' split
    all_goals omega
  obtain ⟨mn, hmn⟩ : ∃ mn : Nat, m = (mn : Int) ∧ mn ≤ 3 := ⟨m.toNat, by omega, by omega⟩
  obtain ⟨rfl, hmn3⟩ := hmn
  obtain ⟨bn, rfl⟩ : ∃ bn : Nat, bt = (bn : Int) := ⟨bt.toNat, by omega⟩
  have hres : oneS (c :: ib bs) = resS mn 1 bn fr to (ib bs) := by
    rw [← one_res c (ib bs) hok2, ← hm, ← hbt, ← hfr, ← hto]; rfl
  have hbl : bn < 128 := by omega
  rw [hres]
  obtain ⟨bnc, hbnc⟩ : ∃ q, q = (bn : Int) := ⟨_, rfl⟩
  rw [← hbnc] at a1
  refine CodeQ.loop (fun (q : Nat × Nat × Int × Int) => pat 63 [(0, .lst ((b :: bs).map u8) t), (2, .int .i32 q.2.1), (5, .ptr S.next 0), (7, .int .i64 ((q.1 + 1 : Nat) : Int))])
    (fun k q S2 => Keep S S2 ∧ S2.cells S.next = some [.int .i64 (mn : Nat), .int .i32 bnc, .int .u8 q.2.2.1, .int .u8 q.2.2.2] ∧ q.1 + k = mn ∧ q.1 ≤ bs.length ∧ q.2.1 < 128 * 64 ^ q.1 ∧ resS mn 1 bn fr to (ib bs) = resS k ((q.1 + 1 : Nat) : Int) q.2.1 q.2.2.1 q.2.2.2 ((ib bs).drop q.1)) ?_ mn (0, bn, fr, to) _ _ ⟨k1, a1, by simp, by simp, by simpa using hbl, rfl⟩ ⟨rfl, by rw [← hbnc], rfl, rfl, trivial⟩
  clear a1 k1 hres hm hbt hfr hto hok hok2 c0 hc3
  rintro k ⟨i, r, fr, to⟩ S2 d ⟨k2, a2, q1, q2, q3, q4⟩
  dsimp only at *
  rw [q4]
  clear q4
  conv => whnf
  refine ⟨_, a2, ?_⟩
  conv => whnf
  refine br (fun hle => ?_) (fun hle => ?_)
  rotate_left
  · obtain rfl : k = 0 := by omega
    conv => whnf
    refine ⟨[0, 1, 2, 3, 4, 5, 6], [], by kernel_rfl, by kernel_rfl, by kernel_rfl, ?_⟩
    conv => whnf
    refine ⟨_, a2, ?_⟩
    conv => whnf
    refine ⟨k2, ?_⟩
    simp only [resS]
    rw [wrap_i64 (by omega) (by omega)]
    have : ((mn : Nat) : Int) + 1 = ((i + 1 : Nat) : Int) := by omega
    rw [this]; rfl
  obtain ⟨k, rfl⟩ : ∃ k', k = k' + 1 := ⟨k - 1, by omega⟩
  conv => whnf
  refine ⟨[0, 1, 2, 3, 4, 5, 6, 7, 8, 9, 10, 11, 12, 13, 14, 15, 16, 17, 18, 19, 20, 21], [], by kernel_rfl, by kernel_rfl, by kernel_rfl, ?_⟩
  conv => whnf
  refine brEq (fun he => ?_) (fun he => ?_)
  · have : bs.length = i := by simp at he; omega
    conv => whnf
    refine ⟨k2, ?_⟩
    rw [show (ib bs).drop i = [] from List.drop_eq_nil_iff.2 (by rw [ib_len]; omega)]
    rfl
  have hlt : i < bs.length := by simp at he; omega
  have hx := (bs[i]).toNat_lt
  have hdr : (ib bs).drop i = ((bs[i]).toNat : Int) :: (ib bs).drop (i + 1) := by
    rw [List.drop_eq_getElem_cons (by rw [ib_len]; exact hlt)]
    simp [ib]
  have g1 : ((b :: bs).map u8)[((i + 1 : Nat) : Int).toNat]? = some (u8 bs[i]) := by
    rw [Int.toNat_natCast]; simp [hlt]
  rw [hdr]
  generalize bs[i] = x at *
  conv => whnf
  refine ⟨by omega, _, g1, rfl, ?_⟩
  conv => whnf
  refine ⟨_, a2, ?_⟩
  conv => whnf
  refine br (fun hlo => ?_) (fun hlo => ?_)
  · conv => whnf
    refine ⟨k2, ?_⟩
    simp only [resS]
    rw [if_pos (.inl hlo)]; rfl
  conv => whnf
  refine ⟨by omega, _, g1, rfl, ?_⟩
  conv => whnf
  refine ⟨_, a2, ?_⟩
  conv => whnf
  refine br (fun hhi => ?_) (fun hhi => ?_)
  · conv => whnf
    refine ⟨k2, ?_⟩
    simp only [resS]
    rw [if_pos (.inr hhi)]; rfl
  conv => whnf
  refine ⟨by decide, ?_⟩
  conv => whnf
  refine ⟨by omega, _, g1, rfl, ?_⟩
  conv => whnf
  refine ⟨_, _, a2, if_pos ⟨rfl, rfl, Nat.le_of_ble_eq_true rfl⟩, ?_⟩
  conv => whnf
  refine ⟨_, _, cells_set _ _ _, if_pos ⟨rfl, rfl, Nat.le_of_ble_eq_true rfl⟩, ?_⟩
  conv => whnf
  have hr : r * 64 < 2 ^ 31 := by
    have : i = 0 ∨ i = 1 ∨ i = 2 := by omega
    rcases this with rfl | rfl | rfl <;> simp at q3 <;> omega
  refine ⟨k, (i + 1, r * 64 + x.toNat % 64, 128, 191), by omega, ⟨(k2.set _ _ (Nat.le_refl _)).set _ _ (Nat.le_refl _), cells_set _ _ _, by dsimp only; omega, by dsimp only; omega, ?_, ?_⟩, ⟨rfl, ?_, rfl, ?_, trivial⟩⟩
  · dsimp only
    have : i = 0 ∨ i = 1 ∨ i = 2 := by omega
    rcases this with rfl | rfl | rfl <;> simp at q3 ⊢ <;> omega
  · simp only [resS]
    rw [if_neg (by omega)]
    congr 1
    all_goals first | rfl | omega | (push_cast; omega)
  · rw [and63 _ (by omega)]
    exact congrArg _ (or_i32 r (x.toNat % 64) hr (by omega))
  · rw [wrap_i64 (by omega) (by omega)]; rfl
end Go.Proofs.Ytfphpjinimfhfaa
