import Derived.Test.YtfphpjinimfhfaaVMJ8
namespace Go.Proofs.Ytfphpjinimfhfaa
open Go.Proofs.Ytfphpjinimfhfaa.VM Go.RowKit
set_option maxRecDepth 100000
set_option linter.unusedVariables false
set_option maxHeartbeats 2000000
/-- A lexer's place, and its first fault. -/
structure Lx where
  at_ : Nat
  w : Int
  f : Int
def Lx.cs (x : Lx) (b : AV) : List AV := [b, .int .i64 x.at_, .int .i64 x.w, .int .i64 x.f]
def Lx.well (x : Lx) : Bool := x.w == 0 && (x.f == 0 && true)
/-- All but one stay. -/
structure B1 (p : Nat) (S S1 : St) : Prop where
  next : S.next ≤ S1.next
  mem : ∀ j, j < S.next → j ≠ p → S1.mem j = S.mem j
theorem B1.refl (p : Nat) (S : St) : B1 p S S := ⟨Nat.le_refl _, fun _ _ _ => rfl⟩
theorem B1.trans {p : Nat} {S S1 S2 : St} (h : B1 p S S1) (k : B1 p S1 S2) : B1 p S S2 := ⟨Nat.le_trans h.next k.next, fun j hj hp => (k.mem j (by have := h.next; omega) hp).trans (h.mem j hj hp)⟩
theorem B1.set {p : Nat} {S S1 : St} (h : B1 p S S1) (x : Option Blk) : B1 p S (S1.set p x) := ⟨h.next, fun j hj hp => mem_set_ne (h.mem j hj hp) hp⟩
theorem B1.of {p : Nat} {S S1 : St} (h : Keep S S1) : B1 p S S1 := ⟨h.next, fun j hj _ => h.mem j hj⟩
theorem B1.new {p : Nat} {S S1 : St} (h : B1 p S S1) (x : Blk) : B1 p S (S1.new x) := ⟨Nat.le_succ_of_le h.next, fun j hj hp => mem_new_ne (h.mem j hj hp) (by have := h.next; omega)⟩
theorem B1.setN {p : Nat} {S S1 : St} (h : B1 p S S1) (n : Nat) (x : Option Blk) (hn : S.next ≤ n) : B1 p S (S1.set n x) := ⟨h.next, fun j hj hp => mem_set_ne (h.mem j hj hp) (by omega)⟩
theorem B1.keep {p : Nat} {S S1 : St} (h : B1 p S S1) {b : Nat} (hb : b ≤ p) (hs : b ≤ S.next) : Low b S S1 := ⟨h.next, fun j hj => h.mem j (by omega) (by omega)⟩
theorem B1.cells {p : Nat} {S S1 : St} (h : B1 p S S1) {j : Nat} (hj : j < S.next) (hp : j ≠ p) : S1.cells j = S.cells j := by unfold St.cells; rw [h.mem j hj hp]

def wrongS (n : Nat) (x : Lx) : Lx := if x.well = false then x else if n ≤ x.at_ then { x with w := 3, f := n } else { x with w := 5, f := x.at_ }
def hasB (set : List UInt8) (c : UInt8) : Bool := decide (0 ≤ Lib.indexByte set c)
def mayB (bs : List UInt8) (set : List UInt8) (x : Lx) : Bool := x.well && (match bs[x.at_]? with | some c => hasB set c | none => false)
def mayS (bs : List UInt8) (set : List UInt8) (x : Lx) : Lx := if mayB bs set x = true then { x with at_ := x.at_ + 1 } else x
def mustS (bs : List UInt8) (set : List UInt8) (x : Lx) : Lx := if mayB bs set x = true then { x with at_ := x.at_ + 1 } else wrongS bs.length x

theorem getd {l : List UInt8} {i : Nat} (h : i < l.length) : l[i]? = some (l.getD i 0) := by simp [List.getD, h]
theorem t25 (h : Bool) (p : Nat) (x : Lx) (b : AV) (S : St) (hc : S.cells p = some (x.cs b)) :
    CallQ Try.prog (JC h) 25 [.ptr p 0] S fun r S1 => S1 = S ∧ r = .bool x.well := by
  refine CallQ.of rfl (by kernel_rfl : Try.prog.funcs[25]? = some Try.f25) rfl (by decide) ?_
  conv => whnf
  refine ⟨_, hc, ?_⟩
  conv => whnf
  rw [eqFault]
  refine brB (fun hw => ?_) (fun hw => ?_)
  · conv => whnf
    exact ⟨rfl, by show AV.bool true = .bool x.well; unfold Lx.well; rw [hw]⟩
  · conv => whnf
    exact ⟨rfl, by show AV.bool false = .bool x.well; unfold Lx.well; rw [hw]⟩

theorem t38 (h : Bool) (p : Nat) (x : Lx) (bs : List UInt8) (t : Tip) (hat : x.at_ ≤ bs.length) (S : St) (hc : S.cells p = some (x.cs (.lst (bs.map u8) t))) :
    CallQ Try.prog (JC h) 38 [.ptr p 0] S fun r S1 => S1.cells p = some ((wrongS bs.length x).cs (.lst (bs.map u8) t)) ∧ B1 p S S1 := by
  have hw := t25 h p x _ S hc
  obtain ⟨at_, w, f⟩ := x
  have e1 : wrongS bs.length ⟨at_, w, f⟩ = if Lx.well ⟨at_, w, f⟩ = false then ⟨at_, w, f⟩ else if bs.length ≤ at_ then ⟨at_, 3, bs.length⟩ else ⟨at_, 5, at_⟩ := rfl
  rw [e1]
  generalize Lx.well ⟨at_, w, f⟩ = wl at *
  refine CallQ.of rfl (by kernel_rfl : Try.prog.funcs[38]? = some Try.f38) rfl (by decide) ?_
  conv => whnf
  refine CallQ.mono hw ?_
  rintro r S1 ⟨rfl, rfl⟩
  cases wl
  · conv => whnf
    exact ⟨hc, .refl _ _⟩
  conv => whnf
  refine ⟨_, hc, ?_⟩
  conv => whnf
  refine ⟨_, _, hc, if_pos ⟨rfl, rfl, Nat.le_of_ble_eq_true rfl⟩, ?_⟩
  conv => whnf
  refine ⟨[0, 1, 2, 3, 4, 5, 6, 7, 8, 9], [], by kernel_rfl, by kernel_rfl, by kernel_rfl, ?_⟩
  conv => whnf
  refine ⟨_, cells_set _ _ _, ?_⟩
  conv => whnf
  refine ⟨_, cells_set _ _ _, ?_⟩
  conv => whnf
  refine br (fun hle => ?_) (fun hle => ?_)
  · have hle : bs.length ≤ at_ := by simp at hle; omega
    conv => whnf
    refine ⟨_, cells_set _ _ _, ?_⟩
    conv => whnf
    refine ⟨_, _, cells_set _ _ _, if_pos ⟨rfl, rfl, Nat.le_of_ble_eq_true rfl⟩, ?_⟩
    conv => whnf
    refine ⟨?_, ((B1.refl _ _).set _).set _⟩
    rw [cells_set, if_neg (by simp), if_pos hle]
    simp [Lx.cs, setsA, AV.cells]
  · have hle : ¬ bs.length ≤ at_ := by simp at hle; omega
    conv => whnf
    refine ⟨?_, (B1.refl _ _).set _⟩
    rw [cells_set, if_neg (by simp), if_neg hle]
    rfl

theorem t34 (h : Bool) (p : Nat) (x : Lx) (bs : List UInt8) (t : Tip) (S : St) (hc : S.cells p = some (x.cs (.lst (bs.map u8) t))) :
    CallQ Try.prog (JC h) 34 [.ptr p 0] S fun r S1 => S1 = S ∧ r = u8 (bs.getD x.at_ 0) := by
  obtain ⟨at_, w, f⟩ := x
  refine CallQ.of rfl (by kernel_rfl : Try.prog.funcs[34]? = some Try.f34) rfl (by decide) ?_
  conv => whnf
  refine ⟨[0, 1, 2, 3, 4, 5, 6, 7, 8, 9], [], by kernel_rfl, by kernel_rfl, by kernel_rfl, ?_⟩
  conv => whnf
  refine ⟨_, hc, ?_⟩
  conv => whnf
  refine ⟨_, hc, ?_⟩
  conv => whnf
  refine br (fun hle => ?_) (fun hle => ?_)
  · have hle : bs.length ≤ at_ := by simp at hle; omega
    conv => whnf
    refine ⟨rfl, ?_⟩
    dsimp only
    rw [show bs.getD at_ 0 = 0 by simp [List.getD, List.getElem?_eq_none hle]]
    rfl
  · have hle : at_ < bs.length := by simp at hle; omega
    conv => whnf
    refine ⟨[0, 1, 2, 3, 4, 5, 6, 7, 8, 9, 10], [], by kernel_rfl, by kernel_rfl, by kernel_rfl, ?_⟩
    conv => whnf
    refine ⟨_, hc, ?_⟩
    conv => whnf
    refine ⟨_, hc, ?_⟩
    conv => whnf
    refine ⟨by omega, u8 (bs.getD at_ 0), (by rw [Int.toNat_natCast, List.getElem?_map, getd hle]; rfl), rfl, ?_⟩
    conv => whnf
    exact ⟨rfl, rfl⟩

theorem t23 (h : Bool) (set : List UInt8) (p : Nat) (x : Lx) (bs : List UInt8) (t : Tip) (hl : bs.length ≤ 2 ^ 47) (S : St) (hc : S.cells p = some (x.cs (.lst (bs.map u8) t))) :
    CallQ Try.prog (JC h) 23 [.ptr p 0, .str set] S fun r S1 => r = .bool (mayB bs set x) ∧ S1.cells p = some ((mayS bs set x).cs (.lst (bs.map u8) t)) ∧ B1 p S S1 := by
  have hw := t25 h p x _ S hc
  obtain ⟨at_, w, f⟩ := x
  have e1 : mayB bs set ⟨at_, w, f⟩ = (Lx.well ⟨at_, w, f⟩ && (match bs[at_]? with | some c => hasB set c | none => false)) := rfl
  have e2 : mayS bs set ⟨at_, w, f⟩ = if mayB bs set ⟨at_, w, f⟩ = true then ⟨at_ + 1, w, f⟩ else ⟨at_, w, f⟩ := rfl
  rw [e2, e1]
  clear e1 e2
  generalize Lx.well ⟨at_, w, f⟩ = wl at *
  refine CallQ.of rfl (by kernel_rfl : Try.prog.funcs[23]? = some Try.f23) rfl (by decide) ?_
  conv => whnf
  refine ⟨[0, 1, 2, 3, 4, 5, 6, 7, 8, 9, 10, 11, 12, 13, 14, 15, 16, 17, 18, 19, 20, 21, 22, 23, 24, 25, 26, 27, 28, 29], [], by kernel_rfl, by kernel_rfl, by kernel_rfl, ?_⟩
  conv => whnf
  refine CallQ.mono hw ?_
  rintro r S1 ⟨rfl, rfl⟩
  cases wl
  · conv => whnf
    exact ⟨rfl, hc, .refl _ _⟩
  conv => whnf
  refine ⟨_, hc, ?_⟩
  conv => whnf
  refine ⟨_, hc, ?_⟩
  conv => whnf
  refine br (fun hle => ?_) (fun hle => ?_)
  · have hle : bs.length ≤ at_ := by simp at hle; omega
    conv => whnf
    rw [List.getElem?_eq_none hle]
    exact ⟨rfl, hc, .refl _ _⟩
  have hle : at_ < bs.length := by simp at hle; omega
  have hg := getd hle
  rw [hg]
  generalize bs.getD at_ 0 = c at *
  have hh : hasB set c = decide (0 ≤ Lib.indexByte set c) := rfl
  conv => whnf
  refine ⟨_, hc, ?_⟩
  conv => whnf
  refine ⟨_, hc, ?_⟩
  conv => whnf
  refine ⟨by omega, u8 c, (by rw [Int.toNat_natCast, List.getElem?_map]; exact congrArg (Option.map u8) hg), rfl, ?_⟩
  conv => whnf
  refine CallQ.intr (g := idxByteG) rfl rfl ?_
  rw [toU8]
  conv => whnf
  refine br (fun hn => ?_) (fun hn => ?_)
  · conv => whnf
    have hb : hasB set c = false := by rw [hh]; exact decide_eq_false (by omega)
    simp only [hb, Bool.and_false, Bool.false_eq_true, if_false]
    exact ⟨rfl, hc, .refl _ _⟩
  · conv => whnf
    have hb : hasB set c = true := by rw [hh]; exact decide_eq_true (by omega)
    refine ⟨_, hc, ?_⟩
    conv => whnf
    refine ⟨_, _, hc, if_pos ⟨rfl, rfl, Nat.le_of_ble_eq_true rfl⟩, ?_⟩
    conv => whnf
    simp only [hb, Bool.and_true, if_true]
    refine ⟨rfl, ?_, (B1.refl _ _).set _⟩
    rw [cells_set]
    show some [_, AV.int .i64 (IntKind.i64.wrap ((at_ : Int) + 1)), _, _] = _
    rw [wrap_i64 (by omega) (by omega)]
    rfl
theorem may_lt {bs set : List UInt8} {x : Lx} (h : mayB bs set x = true) : x.at_ < bs.length := by
  unfold mayB at h
  cases hx : bs[x.at_]? with
  | none => rw [hx] at h; simp at h
  | some c => exact (List.getElem?_eq_some_iff.1 hx).1
theorem may_le {bs set : List UInt8} {x : Lx} (h : x.at_ ≤ bs.length) : (mayS bs set x).at_ ≤ bs.length := by
  unfold mayS
  by_cases hm : mayB bs set x = true
  · rw [if_pos hm]; exact may_lt hm
  · rw [if_neg hm]; exact h
theorem wrong_at (n : Nat) (x : Lx) : (wrongS n x).at_ = x.at_ := by
  unfold wrongS
  split
  · rfl
  · split <;> rfl
theorem must_le {bs set : List UInt8} {x : Lx} (h : x.at_ ≤ bs.length) : (mustS bs set x).at_ ≤ bs.length := by
  have := may_le (set := set) h
  unfold mustS
  unfold mayS at this
  split
  · rename_i h2; rw [if_pos h2] at this; exact this
  · rw [wrong_at]; exact h

theorem t37 (h : Bool) (set : List UInt8) (p : Nat) (x : Lx) (bs : List UInt8) (t : Tip) (hl : bs.length ≤ 2 ^ 47) (hat : x.at_ ≤ bs.length) (S : St) (hp : p < S.next) (hc : S.cells p = some (x.cs (.lst (bs.map u8) t))) :
    CallQ Try.prog (JC h) 37 [.ptr p 0, .str set] S fun r S1 => r = .bool (mayB bs set x) ∧ S1.cells p = some ((mustS bs set x).cs (.lst (bs.map u8) t)) ∧ B1 p S S1 := by
  have h1 := t23 h set p x bs t hl S hc
  have h2 := t38 h p x bs t hat
  have e1 : mayS bs set x = if mayB bs set x = true then { x with at_ := x.at_ + 1 } else x := rfl
  have e2 : mustS bs set x = if mayB bs set x = true then { x with at_ := x.at_ + 1 } else wrongS bs.length x := rfl
  rw [e1] at h1
  rw [e2]
  generalize mayB bs set x = mb at *
  refine CallQ.of rfl (by kernel_rfl : Try.prog.funcs[37]? = some Try.f37) rfl (by decide) ?_
  conv => whnf
  refine CallQ.mono h1 ?_
  rintro r S1 ⟨rfl, c1, b1⟩
  cases mb
  · conv => whnf
    refine CallQ.mono (h2 S1 c1) ?_
    rintro r S2 ⟨c2, b2⟩
    conv => whnf
    exact ⟨rfl, c2, b1.trans b2⟩
  · conv => whnf
    exact ⟨rfl, c1, b1⟩
end Go.Proofs.Ytfphpjinimfhfaa
