import Derived.Test.YtfphpjinimfhfaaVMJ14
namespace Go.Proofs.Ytfphpjinimfhfaa
open Go.Proofs.Ytfphpjinimfhfaa.VM Go.RowKit
set_option maxRecDepth 100000
set_option linter.unusedVariables false
set_option maxHeartbeats 4000000
def hexes : List UInt8 := [48, 49, 50, 51, 52, 53, 54, 55, 56, 57, 97, 98, 99, 100, 101, 102, 65, 66, 67, 68, 69, 70]
def setD : List UInt8 := [100, 68]
def setC : List UInt8 := [99, 100, 101, 102, 67, 68, 69, 70]
def setB : List UInt8 := [48, 49, 50, 51, 52, 53, 54, 55, 56, 57, 97, 98, 65, 66]
def hexv (c : UInt8) : Nat := if 97 ≤ c.toNat then c.toNat - 87 else if 65 ≤ c.toNat then c.toNat - 55 else c.toNat - 48
def setOf (low : Bool) (i n : Nat) : List UInt8 := if low = true ∧ i = 0 then setD else if low = true ∧ i = 1 then setC else if i = 1 ∧ n = 13 then setB else hexes
/-- Digits of base 16: so many, from the i-th on. -/
def unitS (bs : List UInt8) (low : Bool) : Nat → Nat → Nat → Lx → Nat × Lx
  | 0, _, n, x => (n, x)
  | k + 1, i, n, x => if mayB bs (setOf low i n) x = true then unitS bs low k (i + 1) (n * 16 + hexv (bs.getD x.at_ 0)) (mustS bs (setOf low i n) x) else (0, mustS bs (setOf low i n) x)
theorem all_u8' {p : UInt8 → Prop} (h : ∀ c : Fin 256, p (UInt8.ofNat c.val)) (c : UInt8) : p c := by
  have := h ⟨c.toNat, c.toNat_lt⟩
  simpa using this
theorem hex_all (c : UInt8) : (hasB setD c = true → hasB hexes c = true) ∧ (hasB setC c = true → hasB hexes c = true) ∧ (hasB setB c = true → hasB hexes c = true) ∧ (hasB hexes c = true → hexv c < 16 ∧ 48 ≤ c.toNat) :=
  all_u8' (p := fun c => (hasB setD c = true → hasB hexes c = true) ∧ (hasB setC c = true → hasB hexes c = true) ∧ (hasB setB c = true → hasB hexes c = true) ∧ (hasB hexes c = true → hexv c < 16 ∧ 48 ≤ c.toNat)) (by decide +kernel) c
theorem hex_in (low : Bool) (i n : Nat) (c : UInt8) (h : hasB (setOf low i n) c = true) : hexv c < 16 := by
  obtain ⟨h1, h2, h3, h4⟩ := hex_all c
  unfold setOf at h
  repeat' split at h
  · exact (h4 (h1 h)).1
  · exact (h4 (h2 h)).1
  · exact (h4 (h3 h)).1
  · exact (h4 h).1
theorem hex_lo (low : Bool) (i n : Nat) (c : UInt8) (h : hasB (setOf low i n) c = true) : 48 ≤ c.toNat := by
  obtain ⟨h1, h2, h3, h4⟩ := hex_all c
  unfold setOf at h
  repeat' split at h
  · exact (h4 (h1 h)).2
  · exact (h4 (h2 h)).2
  · exact (h4 (h3 h)).2
  · exact (h4 h).2
theorem or_i32_4 (n m : Nat) (hn : n * 16 < 2 ^ 31) (hm : m < 16) : IntKind.i32.wrap ((BitVec.ofInt IntKind.i32.bits (IntKind.i32.wrap ((n : Int) * 2 ^ min (4 : Int).toNat IntKind.i32.bits)) ||| BitVec.ofInt IntKind.i32.bits (m : Int)).toNat : Int) = ((n * 16 + m : Nat) : Int) := by
  have e0 : min (4 : Int).toNat IntKind.i32.bits = 4 := rfl
  have e1 : IntKind.i32.wrap ((n : Int) * 2 ^ 4) = ((n * 16 : Nat) : Int) := by rw [wrap_i32 (by omega) (by omega)]; omega
  have e3 : IntKind.i32.bits = 32 := rfl
  rw [e0, e1, e3]
  have h1 : (BitVec.ofInt 32 ((n * 16 : Nat) : Int) ||| BitVec.ofInt 32 (m : Int)).toNat = n * 16 + m := by
    simp only [BitVec.toNat_or, BitVec.ofInt_natCast, BitVec.toNat_ofNat]
    rw [Nat.mod_eq_of_lt (by omega), Nat.mod_eq_of_lt (by omega)]
    have := Nat.two_pow_add_eq_or_of_lt (i := 4) (b := m) hm n
    rw [Nat.mul_comm, show (16 : Nat) = 2 ^ 4 from rfl]
    exact this.symm
  rw [h1, wrap_i32 (by omega) (by omega)]

theorem t57 (h : Bool) (low : Bool) (p : Nat) (x : Lx) (bs : List UInt8) (t : Tip) (hl : bs.length ≤ 2 ^ 47) (hat : x.at_ ≤ bs.length) (S : St) (hp : p < S.next) (hc : S.cells p = some (x.cs (.lst (bs.map u8) t))) :
    CallQ Try.prog (JC h) 57 [.ptr p 0, .bool low] S fun r S1 => r = .int .i32 (unitS bs low 4 0 0 x).1 ∧ S1.cells p = some ((unitS bs low 4 0 0 x).2.cs (.lst (bs.map u8) t)) ∧ B1 p S S1 := by
  have must := fun set x S hp hat hc => t37 h set p x bs t hl hat S hp hc
  refine CallQ.of rfl (by kernel_rfl : Try.prog.funcs[57]? = some Try.f57) rfl (by decide) ?_
  conv => whnf
  refine CodeQ.loop (fun (q : Nat × Nat × Lx) => pat 65 [(0, .ptr p 0), (1, .bool low), (5, .int .i32 q.2.1), (9, .int .i64 q.1)])
    (fun m q S2 => S2.cells p = some (q.2.2.cs (.lst (bs.map u8) t)) ∧ B1 p S S2 ∧ q.2.2.at_ ≤ bs.length ∧ q.2.1 < 16 ^ q.1 ∧ q.1 ≤ 4 ∧ unitS bs low 4 0 0 x = unitS bs low (4 - q.1) q.1 q.2.1 q.2.2 ∧ m = 4 - q.1) ?_ 4 (0, 0, x) _ _ ⟨hc, .refl _ _, hat, by simp, by simp, rfl, rfl⟩ ⟨rfl, rfl, rfl, rfl, trivial⟩
  rintro m ⟨i, n, y⟩ S2 d ⟨k1, k2, q3, q4, q6, q5, q7⟩
  dsimp only at *
  have n2 := k2.next
  conv => whnf
  refine br (fun hi => ?_) (fun hi => ?_)
  rotate_left
  · obtain rfl : i = 4 := by omega
    conv => whnf
    rw [q5]
    exact ⟨rfl, k1, k2⟩
  have hi : i < 4 := by omega
  cases low
  · conv => whnf
    refine brEq (fun h1 => ?_) (fun h1 => ?_)
    · have h1 : i = 1 := by omega
      conv => whnf
      refine brEq (fun h2 => ?_) (fun h2 => ?_)
      · have h2 : n = 13 := by omega
        conv => whnf
        have hset : setOf false i n = setB := by unfold setOf; rw [if_neg (by simp), if_neg (by simp), if_pos ⟨h1, h2⟩]
        refine CallQ.mono (must setB y S2 (by omega) q3 k1) ?_
        rintro r S3 ⟨rfl, c3, b3⟩
        have n3 := b3.next
        have hst : unitS bs false (3 - i + 1) i n y = if mayB bs (setOf false i n) y = true then unitS bs false (3 - i) (i + 1) (n * 16 + hexv (bs.getD y.at_ 0)) (mustS bs (setOf false i n) y) else (0, mustS bs (setOf false i n) y) := rfl
        rw [q5, show 4 - i = 3 - i + 1 by omega, hst, hset]
        have hb := hex_in false i n (bs.getD y.at_ 0)
        rw [hset] at hb
        cases hm : mayB bs setB y
        · conv => whnf
          rw [if_neg (by simp)]
          exact ⟨rfl, c3, k2.trans b3⟩
        · have hlt := may_lt hm
          have hhb : hasB setB (bs.getD y.at_ 0) = true := by
            have := hm
            unfold mayB at this
            rw [getd hlt] at this
            simpa using (Bool.and_eq_true _ _ ▸ this).2
          have hcl := (bs.getD y.at_ 0).toNat_lt
          have hg := getd hlt
          have hh := hb hhb
          rw [if_pos rfl]
          rw [must_up hm] at c3 ⊢
          have hx1 : ∀ c : UInt8, hexv c = if 97 ≤ c.toNat then c.toNat - 87 else if 65 ≤ c.toNat then c.toNat - 55 else c.toNat - 48 := fun _ => rfl
          have hx2 := hex_lo false i n (bs.getD y.at_ 0)
          rw [hset] at hx2
          have hx3 := hx2 hhb
          clear hx2 hb hhb hm hst
          generalize bs.getD y.at_ 0 = c at *
          have hc1 := hx1 c
          generalize hexv c = v at *
          conv => whnf
          refine ⟨[0, 1, 2, 3, 4, 5, 6, 7, 8, 9, 10, 11, 12], [], by kernel_rfl, by kernel_rfl, by kernel_rfl, ?_⟩
          conv => whnf
          refine ⟨_, c3, ?_⟩
          conv => whnf
          refine ⟨_, c3, ?_⟩
          conv => whnf
          have e1 : IntKind.i64.wrap (((y.at_ + 1 : Nat) : Int) - 1) = (y.at_ : Int) := by rw [wrap_i64 (by omega) (by omega)]; omega
          refine ⟨by show 0 ≤ IntKind.i64.wrap (((y.at_ + 1 : Nat) : Int) - 1); rw [e1]; omega, u8 c, (by show (bs.map u8)[(IntKind.i64.wrap (((y.at_ + 1 : Nat) : Int) - 1)).toNat]? = _; rw [e1, Int.toNat_natCast, List.getElem?_map, hg]; rfl), rfl, ?_⟩
          conv => whnf
          have e2 : IntKind.i32.wrap (c.toNat : Int) = (c.toNat : Int) := wrap_i32 (by omega) (by omega)
          have nx : ∀ w : Int, w = (v : Int) → ∃ (m' : Nat) (b : Nat × Nat × Lx), m' < m ∧ (S3.cells p = some (b.2.2.cs (.lst (bs.map u8) t)) ∧ B1 p S S3 ∧ b.2.2.at_ ≤ bs.length ∧ b.2.1 < 16 ^ b.1 ∧ b.1 ≤ 4 ∧ unitS bs false (3 - i) (i + 1) (n * 16 + v) y.up = unitS bs false (4 - b.1) b.1 b.2.1 b.2.2 ∧ m' = 4 - b.1) ∧ b.1 = i + 1 ∧ IntKind.i32.wrap ((BitVec.ofInt IntKind.i32.bits (IntKind.i32.wrap ((n : Int) * 2 ^ min (4 : Int).toNat IntKind.i32.bits)) ||| BitVec.ofInt IntKind.i32.bits w).toNat : Int) = (b.2.1 : Int) := by
            intro w hw
            have hi4 : i = 0 ∨ i = 1 ∨ i = 2 ∨ i = 3 := by omega
            have hn : n * 16 < 2 ^ 31 := by rcases hi4 with rfl | rfl | rfl | rfl <;> simp at q4 <;> omega
            refine ⟨4 - (i + 1), (i + 1, n * 16 + v, y.up), by omega, ⟨c3, k2.trans b3, hlt, ?_, by dsimp only; omega, by dsimp only; rw [show 3 - i = 4 - (i + 1) by omega], rfl⟩, rfl, ?_⟩
            · dsimp only
              rcases hi4 with rfl | rfl | rfl | rfl <;> simp at q4 ⊢ <;> omega
            · rw [hw]; exact or_i32_4 n v hn hh
          refine br (fun d1 => ?_) (fun d1 => ?_)
          · rw [e2] at d1
            conv => whnf
            refine ⟨by decide, ?_⟩
            conv => whnf
            obtain ⟨m', b, u1, u2, u3, u4⟩ := nx (IntKind.i32.wrap (IntKind.i32.wrap (c.toNat : Int) - 87)) (by rw [e2, wrap_i32 (by omega) (by omega), hc1, if_pos (by omega)]; omega)
            refine ⟨m', b, u1, u2, ⟨rfl, rfl, by rw [u4], ?_, trivial⟩⟩
            rw [u3, wrap_i64 (by omega) (by omega)]; rfl
          · rw [e2] at d1
            conv => whnf
            refine br (fun d2 => ?_) (fun d2 => ?_)
            · rw [e2] at d2
              conv => whnf
              refine ⟨by decide, ?_⟩
              conv => whnf
              obtain ⟨m', b, u1, u2, u3, u4⟩ := nx (IntKind.i32.wrap (IntKind.i32.wrap (c.toNat : Int) - 55)) (by rw [e2, wrap_i32 (by omega) (by omega), hc1, if_neg (by omega), if_pos (by omega)]; omega)
              refine ⟨m', b, u1, u2, ⟨rfl, rfl, by rw [u4], ?_, trivial⟩⟩
              rw [u3, wrap_i64 (by omega) (by omega)]; rfl
            · rw [e2] at d2
              conv => whnf
              refine ⟨by decide, ?_⟩
              conv => whnf
              obtain ⟨m', b, u1, u2, u3, u4⟩ := nx (IntKind.i32.wrap (IntKind.i32.wrap (c.toNat : Int) - 48)) (by rw [e2, wrap_i32 (by omega) (by omega), hc1, if_neg (by omega), if_neg (by omega)]; omega)
              refine ⟨m', b, u1, u2, ⟨rfl, rfl, by rw [u4], ?_, trivial⟩⟩
              rw [u3, wrap_i64 (by omega) (by omega)]; rfl
      · have h2 : ¬ n = 13 := by omega
        conv => whnf
        have hset : setOf false i n = hexes := by unfold setOf; rw [if_neg (by simp), if_neg (by simp), if_neg (by omega)]
        refine CallQ.mono (must hexes y S2 (by omega) q3 k1) ?_
        rintro r S3 ⟨rfl, c3, b3⟩
        have n3 := b3.next
        have hst : unitS bs false (3 - i + 1) i n y = if mayB bs (setOf false i n) y = true then unitS bs false (3 - i) (i + 1) (n * 16 + hexv (bs.getD y.at_ 0)) (mustS bs (setOf false i n) y) else (0, mustS bs (setOf false i n) y) := rfl
        rw [q5, show 4 - i = 3 - i + 1 by omega, hst, hset]
        have hb := hex_in false i n (bs.getD y.at_ 0)
        rw [hset] at hb
        cases hm : mayB bs hexes y
        · conv => whnf
          rw [if_neg (by simp)]
          exact ⟨rfl, c3, k2.trans b3⟩
        · have hlt := may_lt hm
          have hhb : hasB hexes (bs.getD y.at_ 0) = true := by
            have := hm
            unfold mayB at this
            rw [getd hlt] at this
            simpa using (Bool.and_eq_true _ _ ▸ this).2
          have hcl := (bs.getD y.at_ 0).toNat_lt
          have hg := getd hlt
          have hh := hb hhb
          rw [if_pos rfl]
          rw [must_up hm] at c3 ⊢
          have hx1 : ∀ c : UInt8, hexv c = if 97 ≤ c.toNat then c.toNat - 87 else if 65 ≤ c.toNat then c.toNat - 55 else c.toNat - 48 := fun _ => rfl
          have hx2 := hex_lo false i n (bs.getD y.at_ 0)
          rw [hset] at hx2
          have hx3 := hx2 hhb
          clear hx2 hb hhb hm hst
          generalize bs.getD y.at_ 0 = c at *
          have hc1 := hx1 c
          generalize hexv c = v at *
          conv => whnf
          refine ⟨[0, 1, 2, 3, 4, 5, 6, 7, 8, 9, 10, 11, 12], [], by kernel_rfl, by kernel_rfl, by kernel_rfl, ?_⟩
          conv => whnf
          refine ⟨_, c3, ?_⟩
          conv => whnf
          refine ⟨_, c3, ?_⟩
          conv => whnf
          have e1 : IntKind.i64.wrap (((y.at_ + 1 : Nat) : Int) - 1) = (y.at_ : Int) := by rw [wrap_i64 (by omega) (by omega)]; omega
          refine ⟨by show 0 ≤ IntKind.i64.wrap (((y.at_ + 1 : Nat) : Int) - 1); rw [e1]; omega, u8 c, (by show (bs.map u8)[(IntKind.i64.wrap (((y.at_ + 1 : Nat) : Int) - 1)).toNat]? = _; rw [e1, Int.toNat_natCast, List.getElem?_map, hg]; rfl), rfl, ?_⟩
          conv => whnf
          have e2 : IntKind.i32.wrap (c.toNat : Int) = (c.toNat : Int) := wrap_i32 (by omega) (by omega)
          have nx : ∀ w : Int, w = (v : Int) → ∃ (m' : Nat) (b : Nat × Nat × Lx), m' < m ∧ (S3.cells p = some (b.2.2.cs (.lst (bs.map u8) t)) ∧ B1 p S S3 ∧ b.2.2.at_ ≤ bs.length ∧ b.2.1 < 16 ^ b.1 ∧ b.1 ≤ 4 ∧ unitS bs false (3 - i) (i + 1) (n * 16 + v) y.up = unitS bs false (4 - b.1) b.1 b.2.1 b.2.2 ∧ m' = 4 - b.1) ∧ b.1 = i + 1 ∧ IntKind.i32.wrap ((BitVec.ofInt IntKind.i32.bits (IntKind.i32.wrap ((n : Int) * 2 ^ min (4 : Int).toNat IntKind.i32.bits)) ||| BitVec.ofInt IntKind.i32.bits w).toNat : Int) = (b.2.1 : Int) := by
            intro w hw
            have hi4 : i = 0 ∨ i = 1 ∨ i = 2 ∨ i = 3 := by omega
            have hn : n * 16 < 2 ^ 31 := by rcases hi4 with rfl | rfl | rfl | rfl <;> simp at q4 <;> omega
            refine ⟨4 - (i + 1), (i + 1, n * 16 + v, y.up), by omega, ⟨c3, k2.trans b3, hlt, ?_, by dsimp only; omega, by dsimp only; rw [show 3 - i = 4 - (i + 1) by omega], rfl⟩, rfl, ?_⟩
            · dsimp only
              rcases hi4 with rfl | rfl | rfl | rfl <;> simp at q4 ⊢ <;> omega
            · rw [hw]; exact or_i32_4 n v hn hh
          refine br (fun d1 => ?_) (fun d1 => ?_)
          · rw [e2] at d1
            conv => whnf
            refine ⟨by decide, ?_⟩
            conv => whnf
            obtain ⟨m', b, u1, u2, u3, u4⟩ := nx (IntKind.i32.wrap (IntKind.i32.wrap (c.toNat : Int) - 87)) (by rw [e2, wrap_i32 (by omega) (by omega), hc1, if_pos (by omega)]; omega)
            refine ⟨m', b, u1, u2, ⟨rfl, rfl, by rw [u4], ?_, trivial⟩⟩
            rw [u3, wrap_i64 (by omega) (by omega)]; rfl
          · rw [e2] at d1
            conv => whnf
            refine br (fun d2 => ?_) (fun d2 => ?_)
            · rw [e2] at d2
              conv => whnf
              refine ⟨by decide, ?_⟩
              conv => whnf
              obtain ⟨m', b, u1, u2, u3, u4⟩ := nx (IntKind.i32.wrap (IntKind.i32.wrap (c.toNat : Int) - 55)) (by rw [e2, wrap_i32 (by omega) (by omega), hc1, if_neg (by omega), if_pos (by omega)]; omega)
              refine ⟨m', b, u1, u2, ⟨rfl, rfl, by rw [u4], ?_, trivial⟩⟩
              rw [u3, wrap_i64 (by omega) (by omega)]; rfl
            · rw [e2] at d2
              conv => whnf
              refine ⟨by decide, ?_⟩
              conv => whnf
              obtain ⟨m', b, u1, u2, u3, u4⟩ := nx (IntKind.i32.wrap (IntKind.i32.wrap (c.toNat : Int) - 48)) (by rw [e2, wrap_i32 (by omega) (by omega), hc1, if_neg (by omega), if_neg (by omega)]; omega)
              refine ⟨m', b, u1, u2, ⟨rfl, rfl, by rw [u4], ?_, trivial⟩⟩
              rw [u3, wrap_i64 (by omega) (by omega)]; rfl
    · have h1 : ¬ i = 1 := by omega
      conv => whnf
      have hset : setOf false i n = hexes := by unfold setOf; rw [if_neg (by simp), if_neg (by simp), if_neg (by omega)]
      refine CallQ.mono (must hexes y S2 (by omega) q3 k1) ?_
      rintro r S3 ⟨rfl, c3, b3⟩
      have n3 := b3.next
      have hst : unitS bs false (3 - i + 1) i n y = if mayB bs (setOf false i n) y = true then unitS bs false (3 - i) (i + 1) (n * 16 + hexv (bs.getD y.at_ 0)) (mustS bs (setOf false i n) y) else (0, mustS bs (setOf false i n) y) := rfl
      rw [q5, show 4 - i = 3 - i + 1 by omega, hst, hset]
      have hb := hex_in false i n (bs.getD y.at_ 0)
      rw [hset] at hb
      cases hm : mayB bs hexes y
      · conv => whnf
        rw [if_neg (by simp)]
        exact ⟨rfl, c3, k2.trans b3⟩
      · have hlt := may_lt hm
        have hhb : hasB hexes (bs.getD y.at_ 0) = true := by
          have := hm
          unfold mayB at this
          rw [getd hlt] at this
          simpa using (Bool.and_eq_true _ _ ▸ this).2
        have hcl := (bs.getD y.at_ 0).toNat_lt
        have hg := getd hlt
        have hh := hb hhb
        rw [if_pos rfl]
        rw [must_up hm] at c3 ⊢
        have hx1 : ∀ c : UInt8, hexv c = if 97 ≤ c.toNat then c.toNat - 87 else if 65 ≤ c.toNat then c.toNat - 55 else c.toNat - 48 := fun _ => rfl
        have hx2 := hex_lo false i n (bs.getD y.at_ 0)
        rw [hset] at hx2
        have hx3 := hx2 hhb
        clear hx2 hb hhb hm hst
        generalize bs.getD y.at_ 0 = c at *
        have hc1 := hx1 c
        generalize hexv c = v at *
        conv => whnf
        refine ⟨[0, 1, 2, 3, 4, 5, 6, 7, 8, 9, 10, 11, 12], [], by kernel_rfl, by kernel_rfl, by kernel_rfl, ?_⟩
        conv => whnf
        refine ⟨_, c3, ?_⟩
        conv => whnf
        refine ⟨_, c3, ?_⟩
        conv => whnf
        have e1 : IntKind.i64.wrap (((y.at_ + 1 : Nat) : Int) - 1) = (y.at_ : Int) := by rw [wrap_i64 (by omega) (by omega)]; omega
        refine ⟨by show 0 ≤ IntKind.i64.wrap (((y.at_ + 1 : Nat) : Int) - 1); rw [e1]; omega, u8 c, (by show (bs.map u8)[(IntKind.i64.wrap (((y.at_ + 1 : Nat) : Int) - 1)).toNat]? = _; rw [e1, Int.toNat_natCast, List.getElem?_map, hg]; rfl), rfl, ?_⟩
        conv => whnf
        have e2 : IntKind.i32.wrap (c.toNat : Int) = (c.toNat : Int) := wrap_i32 (by omega) (by omega)
        have nx : ∀ w : Int, w = (v : Int) → ∃ (m' : Nat) (b : Nat × Nat × Lx), m' < m ∧ (S3.cells p = some (b.2.2.cs (.lst (bs.map u8) t)) ∧ B1 p S S3 ∧ b.2.2.at_ ≤ bs.length ∧ b.2.1 < 16 ^ b.1 ∧ b.1 ≤ 4 ∧ unitS bs false (3 - i) (i + 1) (n * 16 + v) y.up = unitS bs false (4 - b.1) b.1 b.2.1 b.2.2 ∧ m' = 4 - b.1) ∧ b.1 = i + 1 ∧ IntKind.i32.wrap ((BitVec.ofInt IntKind.i32.bits (IntKind.i32.wrap ((n : Int) * 2 ^ min (4 : Int).toNat IntKind.i32.bits)) ||| BitVec.ofInt IntKind.i32.bits w).toNat : Int) = (b.2.1 : Int) := by
          intro w hw
          have hi4 : i = 0 ∨ i = 1 ∨ i = 2 ∨ i = 3 := by omega
          have hn : n * 16 < 2 ^ 31 := by rcases hi4 with rfl | rfl | rfl | rfl <;> simp at q4 <;> omega
          refine ⟨4 - (i + 1), (i + 1, n * 16 + v, y.up), by omega, ⟨c3, k2.trans b3, hlt, ?_, by dsimp only; omega, by dsimp only; rw [show 3 - i = 4 - (i + 1) by omega], rfl⟩, rfl, ?_⟩
          · dsimp only
            rcases hi4 with rfl | rfl | rfl | rfl <;> simp at q4 ⊢ <;> omega
          · rw [hw]; exact or_i32_4 n v hn hh
        refine br (fun d1 => ?_) (fun d1 => ?_)
        · rw [e2] at d1
          conv => whnf
          refine ⟨by decide, ?_⟩
          conv => whnf
          obtain ⟨m', b, u1, u2, u3, u4⟩ := nx (IntKind.i32.wrap (IntKind.i32.wrap (c.toNat : Int) - 87)) (by rw [e2, wrap_i32 (by omega) (by omega), hc1, if_pos (by omega)]; omega)
          refine ⟨m', b, u1, u2, ⟨rfl, rfl, by rw [u4], ?_, trivial⟩⟩
          rw [u3, wrap_i64 (by omega) (by omega)]; rfl
        · rw [e2] at d1
          conv => whnf
          refine br (fun d2 => ?_) (fun d2 => ?_)
          · rw [e2] at d2
            conv => whnf
            refine ⟨by decide, ?_⟩
            conv => whnf
            obtain ⟨m', b, u1, u2, u3, u4⟩ := nx (IntKind.i32.wrap (IntKind.i32.wrap (c.toNat : Int) - 55)) (by rw [e2, wrap_i32 (by omega) (by omega), hc1, if_neg (by omega), if_pos (by omega)]; omega)
            refine ⟨m', b, u1, u2, ⟨rfl, rfl, by rw [u4], ?_, trivial⟩⟩
            rw [u3, wrap_i64 (by omega) (by omega)]; rfl
          · rw [e2] at d2
            conv => whnf
            refine ⟨by decide, ?_⟩
            conv => whnf
            obtain ⟨m', b, u1, u2, u3, u4⟩ := nx (IntKind.i32.wrap (IntKind.i32.wrap (c.toNat : Int) - 48)) (by rw [e2, wrap_i32 (by omega) (by omega), hc1, if_neg (by omega), if_neg (by omega)]; omega)
            refine ⟨m', b, u1, u2, ⟨rfl, rfl, by rw [u4], ?_, trivial⟩⟩
            rw [u3, wrap_i64 (by omega) (by omega)]; rfl
  · conv => whnf
    refine brEq (fun h1 => ?_) (fun h1 => ?_)
    · have h1 : i = 0 := by omega
      conv => whnf
      have hset : setOf true i n = setD := by unfold setOf; rw [if_pos ⟨rfl, h1⟩]
      refine CallQ.mono (must setD y S2 (by omega) q3 k1) ?_
      rintro r S3 ⟨rfl, c3, b3⟩
      have n3 := b3.next
      have hst : unitS bs true (3 - i + 1) i n y = if mayB bs (setOf true i n) y = true then unitS bs true (3 - i) (i + 1) (n * 16 + hexv (bs.getD y.at_ 0)) (mustS bs (setOf true i n) y) else (0, mustS bs (setOf true i n) y) := rfl
      rw [q5, show 4 - i = 3 - i + 1 by omega, hst, hset]
      have hb := hex_in true i n (bs.getD y.at_ 0)
      rw [hset] at hb
      cases hm : mayB bs setD y
      · conv => whnf
        rw [if_neg (by simp)]
        exact ⟨rfl, c3, k2.trans b3⟩
      · have hlt := may_lt hm
        have hhb : hasB setD (bs.getD y.at_ 0) = true := by
          have := hm
          unfold mayB at this
          rw [getd hlt] at this
          simpa using (Bool.and_eq_true _ _ ▸ this).2
        have hcl := (bs.getD y.at_ 0).toNat_lt
        have hg := getd hlt
        have hh := hb hhb
        rw [if_pos rfl]
        rw [must_up hm] at c3 ⊢
        have hx1 : ∀ c : UInt8, hexv c = if 97 ≤ c.toNat then c.toNat - 87 else if 65 ≤ c.toNat then c.toNat - 55 else c.toNat - 48 := fun _ => rfl
        have hx2 := hex_lo true i n (bs.getD y.at_ 0)
        rw [hset] at hx2
        have hx3 := hx2 hhb
        clear hx2 hb hhb hm hst
        generalize bs.getD y.at_ 0 = c at *
        have hc1 := hx1 c
        generalize hexv c = v at *
        conv => whnf
        refine ⟨[0, 1, 2, 3, 4, 5, 6, 7, 8, 9, 10, 11, 12], [], by kernel_rfl, by kernel_rfl, by kernel_rfl, ?_⟩
        conv => whnf
        refine ⟨_, c3, ?_⟩
        conv => whnf
        refine ⟨_, c3, ?_⟩
        conv => whnf
        have e1 : IntKind.i64.wrap (((y.at_ + 1 : Nat) : Int) - 1) = (y.at_ : Int) := by rw [wrap_i64 (by omega) (by omega)]; omega
        refine ⟨by show 0 ≤ IntKind.i64.wrap (((y.at_ + 1 : Nat) : Int) - 1); rw [e1]; omega, u8 c, (by show (bs.map u8)[(IntKind.i64.wrap (((y.at_ + 1 : Nat) : Int) - 1)).toNat]? = _; rw [e1, Int.toNat_natCast, List.getElem?_map, hg]; rfl), rfl, ?_⟩
        conv => whnf
        have e2 : IntKind.i32.wrap (c.toNat : Int) = (c.toNat : Int) := wrap_i32 (by omega) (by omega)
        have nx : ∀ w : Int, w = (v : Int) → ∃ (m' : Nat) (b : Nat × Nat × Lx), m' < m ∧ (S3.cells p = some (b.2.2.cs (.lst (bs.map u8) t)) ∧ B1 p S S3 ∧ b.2.2.at_ ≤ bs.length ∧ b.2.1 < 16 ^ b.1 ∧ b.1 ≤ 4 ∧ unitS bs true (3 - i) (i + 1) (n * 16 + v) y.up = unitS bs true (4 - b.1) b.1 b.2.1 b.2.2 ∧ m' = 4 - b.1) ∧ b.1 = i + 1 ∧ IntKind.i32.wrap ((BitVec.ofInt IntKind.i32.bits (IntKind.i32.wrap ((n : Int) * 2 ^ min (4 : Int).toNat IntKind.i32.bits)) ||| BitVec.ofInt IntKind.i32.bits w).toNat : Int) = (b.2.1 : Int) := by
          intro w hw
          have hi4 : i = 0 ∨ i = 1 ∨ i = 2 ∨ i = 3 := by omega
          have hn : n * 16 < 2 ^ 31 := by rcases hi4 with rfl | rfl | rfl | rfl <;> simp at q4 <;> omega
          refine ⟨4 - (i + 1), (i + 1, n * 16 + v, y.up), by omega, ⟨c3, k2.trans b3, hlt, ?_, by dsimp only; omega, by dsimp only; rw [show 3 - i = 4 - (i + 1) by omega], rfl⟩, rfl, ?_⟩
          · dsimp only
            rcases hi4 with rfl | rfl | rfl | rfl <;> simp at q4 ⊢ <;> omega
          · rw [hw]; exact or_i32_4 n v hn hh
        refine br (fun d1 => ?_) (fun d1 => ?_)
        · rw [e2] at d1
          conv => whnf
          refine ⟨by decide, ?_⟩
          conv => whnf
          obtain ⟨m', b, u1, u2, u3, u4⟩ := nx (IntKind.i32.wrap (IntKind.i32.wrap (c.toNat : Int) - 87)) (by rw [e2, wrap_i32 (by omega) (by omega), hc1, if_pos (by omega)]; omega)
          refine ⟨m', b, u1, u2, ⟨rfl, rfl, by rw [u4], ?_, trivial⟩⟩
          rw [u3, wrap_i64 (by omega) (by omega)]; rfl
        · rw [e2] at d1
          conv => whnf
          refine br (fun d2 => ?_) (fun d2 => ?_)
          · rw [e2] at d2
            conv => whnf
            refine ⟨by decide, ?_⟩
            conv => whnf
            obtain ⟨m', b, u1, u2, u3, u4⟩ := nx (IntKind.i32.wrap (IntKind.i32.wrap (c.toNat : Int) - 55)) (by rw [e2, wrap_i32 (by omega) (by omega), hc1, if_neg (by omega), if_pos (by omega)]; omega)
            refine ⟨m', b, u1, u2, ⟨rfl, rfl, by rw [u4], ?_, trivial⟩⟩
            rw [u3, wrap_i64 (by omega) (by omega)]; rfl
          · rw [e2] at d2
            conv => whnf
            refine ⟨by decide, ?_⟩
            conv => whnf
            obtain ⟨m', b, u1, u2, u3, u4⟩ := nx (IntKind.i32.wrap (IntKind.i32.wrap (c.toNat : Int) - 48)) (by rw [e2, wrap_i32 (by omega) (by omega), hc1, if_neg (by omega), if_neg (by omega)]; omega)
            refine ⟨m', b, u1, u2, ⟨rfl, rfl, by rw [u4], ?_, trivial⟩⟩
            rw [u3, wrap_i64 (by omega) (by omega)]; rfl
    have h1 : ¬ i = 0 := by omega
    conv => whnf
    refine brEq (fun h2 => ?_) (fun h2 => ?_)
    · have h2 : i = 1 := by omega
      conv => whnf
      have hset : setOf true i n = setC := by unfold setOf; rw [if_neg (by omega), if_pos ⟨rfl, h2⟩]
      refine CallQ.mono (must setC y S2 (by omega) q3 k1) ?_
      rintro r S3 ⟨rfl, c3, b3⟩
      have n3 := b3.next
      have hst : unitS bs true (3 - i + 1) i n y = if mayB bs (setOf true i n) y = true then unitS bs true (3 - i) (i + 1) (n * 16 + hexv (bs.getD y.at_ 0)) (mustS bs (setOf true i n) y) else (0, mustS bs (setOf true i n) y) := rfl
      rw [q5, show 4 - i = 3 - i + 1 by omega, hst, hset]
      have hb := hex_in true i n (bs.getD y.at_ 0)
      rw [hset] at hb
      cases hm : mayB bs setC y
      · conv => whnf
        rw [if_neg (by simp)]
        exact ⟨rfl, c3, k2.trans b3⟩
      · have hlt := may_lt hm
        have hhb : hasB setC (bs.getD y.at_ 0) = true := by
          have := hm
          unfold mayB at this
          rw [getd hlt] at this
          simpa using (Bool.and_eq_true _ _ ▸ this).2
        have hcl := (bs.getD y.at_ 0).toNat_lt
        have hg := getd hlt
        have hh := hb hhb
        rw [if_pos rfl]
        rw [must_up hm] at c3 ⊢
        have hx1 : ∀ c : UInt8, hexv c = if 97 ≤ c.toNat then c.toNat - 87 else if 65 ≤ c.toNat then c.toNat - 55 else c.toNat - 48 := fun _ => rfl
        have hx2 := hex_lo true i n (bs.getD y.at_ 0)
        rw [hset] at hx2
        have hx3 := hx2 hhb
        clear hx2 hb hhb hm hst
        generalize bs.getD y.at_ 0 = c at *
        have hc1 := hx1 c
        generalize hexv c = v at *
        conv => whnf
        refine ⟨[0, 1, 2, 3, 4, 5, 6, 7, 8, 9, 10, 11, 12], [], by kernel_rfl, by kernel_rfl, by kernel_rfl, ?_⟩
        conv => whnf
        refine ⟨_, c3, ?_⟩
        conv => whnf
        refine ⟨_, c3, ?_⟩
        conv => whnf
        have e1 : IntKind.i64.wrap (((y.at_ + 1 : Nat) : Int) - 1) = (y.at_ : Int) := by rw [wrap_i64 (by omega) (by omega)]; omega
        refine ⟨by show 0 ≤ IntKind.i64.wrap (((y.at_ + 1 : Nat) : Int) - 1); rw [e1]; omega, u8 c, (by show (bs.map u8)[(IntKind.i64.wrap (((y.at_ + 1 : Nat) : Int) - 1)).toNat]? = _; rw [e1, Int.toNat_natCast, List.getElem?_map, hg]; rfl), rfl, ?_⟩
        conv => whnf
        have e2 : IntKind.i32.wrap (c.toNat : Int) = (c.toNat : Int) := wrap_i32 (by omega) (by omega)
        have nx : ∀ w : Int, w = (v : Int) → ∃ (m' : Nat) (b : Nat × Nat × Lx), m' < m ∧ (S3.cells p = some (b.2.2.cs (.lst (bs.map u8) t)) ∧ B1 p S S3 ∧ b.2.2.at_ ≤ bs.length ∧ b.2.1 < 16 ^ b.1 ∧ b.1 ≤ 4 ∧ unitS bs true (3 - i) (i + 1) (n * 16 + v) y.up = unitS bs true (4 - b.1) b.1 b.2.1 b.2.2 ∧ m' = 4 - b.1) ∧ b.1 = i + 1 ∧ IntKind.i32.wrap ((BitVec.ofInt IntKind.i32.bits (IntKind.i32.wrap ((n : Int) * 2 ^ min (4 : Int).toNat IntKind.i32.bits)) ||| BitVec.ofInt IntKind.i32.bits w).toNat : Int) = (b.2.1 : Int) := by
          intro w hw
          have hi4 : i = 0 ∨ i = 1 ∨ i = 2 ∨ i = 3 := by omega
          have hn : n * 16 < 2 ^ 31 := by rcases hi4 with rfl | rfl | rfl | rfl <;> simp at q4 <;> omega
          refine ⟨4 - (i + 1), (i + 1, n * 16 + v, y.up), by omega, ⟨c3, k2.trans b3, hlt, ?_, by dsimp only; omega, by dsimp only; rw [show 3 - i = 4 - (i + 1) by omega], rfl⟩, rfl, ?_⟩
          · dsimp only
            rcases hi4 with rfl | rfl | rfl | rfl <;> simp at q4 ⊢ <;> omega
          · rw [hw]; exact or_i32_4 n v hn hh
        refine br (fun d1 => ?_) (fun d1 => ?_)
        · rw [e2] at d1
          conv => whnf
          refine ⟨by decide, ?_⟩
          conv => whnf
          obtain ⟨m', b, u1, u2, u3, u4⟩ := nx (IntKind.i32.wrap (IntKind.i32.wrap (c.toNat : Int) - 87)) (by rw [e2, wrap_i32 (by omega) (by omega), hc1, if_pos (by omega)]; omega)
          refine ⟨m', b, u1, u2, ⟨rfl, rfl, by rw [u4], ?_, trivial⟩⟩
          rw [u3, wrap_i64 (by omega) (by omega)]; rfl
        · rw [e2] at d1
          conv => whnf
          refine br (fun d2 => ?_) (fun d2 => ?_)
          · rw [e2] at d2
            conv => whnf
            refine ⟨by decide, ?_⟩
            conv => whnf
            obtain ⟨m', b, u1, u2, u3, u4⟩ := nx (IntKind.i32.wrap (IntKind.i32.wrap (c.toNat : Int) - 55)) (by rw [e2, wrap_i32 (by omega) (by omega), hc1, if_neg (by omega), if_pos (by omega)]; omega)
            refine ⟨m', b, u1, u2, ⟨rfl, rfl, by rw [u4], ?_, trivial⟩⟩
            rw [u3, wrap_i64 (by omega) (by omega)]; rfl
          · rw [e2] at d2
            conv => whnf
            refine ⟨by decide, ?_⟩
            conv => whnf
            obtain ⟨m', b, u1, u2, u3, u4⟩ := nx (IntKind.i32.wrap (IntKind.i32.wrap (c.toNat : Int) - 48)) (by rw [e2, wrap_i32 (by omega) (by omega), hc1, if_neg (by omega), if_neg (by omega)]; omega)
            refine ⟨m', b, u1, u2, ⟨rfl, rfl, by rw [u4], ?_, trivial⟩⟩
            rw [u3, wrap_i64 (by omega) (by omega)]; rfl
    · have h2 : ¬ i = 1 := by omega
      conv => whnf
      refine brEq (fun h3 => absurd h3 (by omega)) (fun _ => ?_)
      conv => whnf
      have hset : setOf true i n = hexes := by unfold setOf; rw [if_neg (by omega), if_neg (by omega), if_neg (by omega)]
      refine CallQ.mono (must hexes y S2 (by omega) q3 k1) ?_
      rintro r S3 ⟨rfl, c3, b3⟩
      have n3 := b3.next
      have hst : unitS bs true (3 - i + 1) i n y = if mayB bs (setOf true i n) y = true then unitS bs true (3 - i) (i + 1) (n * 16 + hexv (bs.getD y.at_ 0)) (mustS bs (setOf true i n) y) else (0, mustS bs (setOf true i n) y) := rfl
      rw [q5, show 4 - i = 3 - i + 1 by omega, hst, hset]
      have hb := hex_in true i n (bs.getD y.at_ 0)
      rw [hset] at hb
      cases hm : mayB bs hexes y
      · conv => whnf
        rw [if_neg (by simp)]
        exact ⟨rfl, c3, k2.trans b3⟩
      · have hlt := may_lt hm
        have hhb : hasB hexes (bs.getD y.at_ 0) = true := by
          have := hm
          unfold mayB at this
          rw [getd hlt] at this
          simpa using (Bool.and_eq_true _ _ ▸ this).2
        have hcl := (bs.getD y.at_ 0).toNat_lt
        have hg := getd hlt
        have hh := hb hhb
        rw [if_pos rfl]
        rw [must_up hm] at c3 ⊢
        have hx1 : ∀ c : UInt8, hexv c = if 97 ≤ c.toNat then c.toNat - 87 else if 65 ≤ c.toNat then c.toNat - 55 else c.toNat - 48 := fun _ => rfl
        have hx2 := hex_lo true i n (bs.getD y.at_ 0)
        rw [hset] at hx2
        have hx3 := hx2 hhb
        clear hx2 hb hhb hm hst
        generalize bs.getD y.at_ 0 = c at *
        have hc1 := hx1 c
        generalize hexv c = v at *
        conv => whnf
        refine ⟨[0, 1, 2, 3, 4, 5, 6, 7, 8, 9, 10, 11, 12], [], by kernel_rfl, by kernel_rfl, by kernel_rfl, ?_⟩
        conv => whnf
        refine ⟨_, c3, ?_⟩
        conv => whnf
        refine ⟨_, c3, ?_⟩
        conv => whnf
        have e1 : IntKind.i64.wrap (((y.at_ + 1 : Nat) : Int) - 1) = (y.at_ : Int) := by rw [wrap_i64 (by omega) (by omega)]; omega
        refine ⟨by show 0 ≤ IntKind.i64.wrap (((y.at_ + 1 : Nat) : Int) - 1); rw [e1]; omega, u8 c, (by show (bs.map u8)[(IntKind.i64.wrap (((y.at_ + 1 : Nat) : Int) - 1)).toNat]? = _; rw [e1, Int.toNat_natCast, List.getElem?_map, hg]; rfl), rfl, ?_⟩
        conv => whnf
        have e2 : IntKind.i32.wrap (c.toNat : Int) = (c.toNat : Int) := wrap_i32 (by omega) (by omega)
        have nx : ∀ w : Int, w = (v : Int) → ∃ (m' : Nat) (b : Nat × Nat × Lx), m' < m ∧ (S3.cells p = some (b.2.2.cs (.lst (bs.map u8) t)) ∧ B1 p S S3 ∧ b.2.2.at_ ≤ bs.length ∧ b.2.1 < 16 ^ b.1 ∧ b.1 ≤ 4 ∧ unitS bs true (3 - i) (i + 1) (n * 16 + v) y.up = unitS bs true (4 - b.1) b.1 b.2.1 b.2.2 ∧ m' = 4 - b.1) ∧ b.1 = i + 1 ∧ IntKind.i32.wrap ((BitVec.ofInt IntKind.i32.bits (IntKind.i32.wrap ((n : Int) * 2 ^ min (4 : Int).toNat IntKind.i32.bits)) ||| BitVec.ofInt IntKind.i32.bits w).toNat : Int) = (b.2.1 : Int) := by
          intro w hw
          have hi4 : i = 0 ∨ i = 1 ∨ i = 2 ∨ i = 3 := by omega
          have hn : n * 16 < 2 ^ 31 := by rcases hi4 with rfl | rfl | rfl | rfl <;> simp at q4 <;> omega
          refine ⟨4 - (i + 1), (i + 1, n * 16 + v, y.up), by omega, ⟨c3, k2.trans b3, hlt, ?_, by dsimp only; omega, by dsimp only; rw [show 3 - i = 4 - (i + 1) by omega], rfl⟩, rfl, ?_⟩
          · dsimp only
            rcases hi4 with rfl | rfl | rfl | rfl <;> simp at q4 ⊢ <;> omega
          · rw [hw]; exact or_i32_4 n v hn hh
        refine br (fun d1 => ?_) (fun d1 => ?_)
        · rw [e2] at d1
          conv => whnf
          refine ⟨by decide, ?_⟩
          conv => whnf
          obtain ⟨m', b, u1, u2, u3, u4⟩ := nx (IntKind.i32.wrap (IntKind.i32.wrap (c.toNat : Int) - 87)) (by rw [e2, wrap_i32 (by omega) (by omega), hc1, if_pos (by omega)]; omega)
          refine ⟨m', b, u1, u2, ⟨rfl, rfl, by rw [u4], ?_, trivial⟩⟩
          rw [u3, wrap_i64 (by omega) (by omega)]; rfl
        · rw [e2] at d1
          conv => whnf
          refine br (fun d2 => ?_) (fun d2 => ?_)
          · rw [e2] at d2
            conv => whnf
            refine ⟨by decide, ?_⟩
            conv => whnf
            obtain ⟨m', b, u1, u2, u3, u4⟩ := nx (IntKind.i32.wrap (IntKind.i32.wrap (c.toNat : Int) - 55)) (by rw [e2, wrap_i32 (by omega) (by omega), hc1, if_neg (by omega), if_pos (by omega)]; omega)
            refine ⟨m', b, u1, u2, ⟨rfl, rfl, by rw [u4], ?_, trivial⟩⟩
            rw [u3, wrap_i64 (by omega) (by omega)]; rfl
          · rw [e2] at d2
            conv => whnf
            refine ⟨by decide, ?_⟩
            conv => whnf
            obtain ⟨m', b, u1, u2, u3, u4⟩ := nx (IntKind.i32.wrap (IntKind.i32.wrap (c.toNat : Int) - 48)) (by rw [e2, wrap_i32 (by omega) (by omega), hc1, if_neg (by omega), if_neg (by omega)]; omega)
            refine ⟨m', b, u1, u2, ⟨rfl, rfl, by rw [u4], ?_, trivial⟩⟩
            rw [u3, wrap_i64 (by omega) (by omega)]; rfl
end Go.Proofs.Ytfphpjinimfhfaa
