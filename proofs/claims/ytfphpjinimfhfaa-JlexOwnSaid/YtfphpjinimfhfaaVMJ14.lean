import Derived.Test.YtfphpjinimfhfaaVMJ13
namespace Go.Proofs.Ytfphpjinimfhfaa
open Go.Proofs.Ytfphpjinimfhfaa.VM Go.RowKit
set_option maxRecDepth 100000
set_option linter.unusedVariables false
set_option maxHeartbeats 2000000
def Lx.up (x : Lx) : Lx := { x with at_ := x.at_ + 1 }
theorem may_up {bs set : List UInt8} {x : Lx} (h : mayB bs set x = true) : mayS bs set x = x.up := by unfold mayS; rw [if_pos h]; rfl
theorem may_no {bs set : List UInt8} {x : Lx} (h : mayB bs set x = false) : mayS bs set x = x := by unfold mayS; rw [h]; rfl
theorem must_up {bs set : List UInt8} {x : Lx} (h : mayB bs set x = true) : mustS bs set x = x.up := by unfold mustS; rw [if_pos h]; rfl
theorem must_no {bs set : List UInt8} {x : Lx} (h : mayB bs set x = false) : mustS bs set x = wrongS bs.length x := by unfold mustS; rw [h]; rfl
/-- As many as there are. -/
def skipS (bs set : List UInt8) : Nat → Lx → Lx
  | 0, x => x
  | n + 1, x => if mayB bs set x = true then skipS bs set n x.up else x
def manyS (bs set : List UInt8) (x : Lx) : Lx := skipS bs set (bs.length - x.at_) x
theorem many_up {bs set : List UInt8} {x : Lx} (h : mayB bs set x = true) : manyS bs set x = manyS bs set x.up := by
  have := may_lt h
  unfold manyS
  obtain ⟨k, hk⟩ : ∃ k, bs.length - x.at_ = k + 1 := ⟨bs.length - x.at_ - 1, by omega⟩
  rw [hk, skipS, if_pos h]
  congr 1
  show k = bs.length - (x.at_ + 1)
  omega
theorem many_no {bs set : List UInt8} {x : Lx} (h : mayB bs set x = false) : manyS bs set x = x := by
  unfold manyS
  cases bs.length - x.at_ with
  | zero => rfl
  | succ n => rw [skipS, h]; rfl
theorem skip_le {bs set : List UInt8} : ∀ (n : Nat) {x : Lx}, x.at_ ≤ bs.length → (skipS bs set n x).at_ ≤ bs.length
  | 0, x, h => h
  | n + 1, x, h => by
    unfold skipS
    by_cases hm : mayB bs set x = true
    · rw [if_pos hm]; exact skip_le n (may_lt hm)
    · rw [if_neg hm]; exact h
theorem many_le {bs set : List UInt8} {x : Lx} (h : x.at_ ≤ bs.length) : (manyS bs set x).at_ ≤ bs.length := skip_le _ h
def digs : List UInt8 := [48, 49, 50, 51, 52, 53, 54, 55, 56, 57]
def num1 (bs : List UInt8) (x : Lx) : Lx := let x := mayS bs [45] x; if mayB bs [48] x = true then mayS bs [48] x else if mayB bs digs x = true then manyS bs digs (mustS bs digs x) else mustS bs digs x
def num2 (bs : List UInt8) (x : Lx) : Lx := if mayB bs [46] x = true then manyS bs digs (mustS bs digs (mayS bs [46] x)) else x
def num3 (bs : List UInt8) (x : Lx) : Lx := if mayB bs [101, 69] x = true then manyS bs digs (mustS bs digs (mayS bs [43, 45] (mayS bs [101, 69] x))) else x
/-- A number. -/
def numS (bs : List UInt8) (x : Lx) : Lx := num3 bs (num2 bs (num1 bs x))

theorem t35 (h : Bool) (p : Nat) (x : Lx) (bs : List UInt8) (t : Tip) (hl : bs.length ≤ 2 ^ 47) (hat : x.at_ ≤ bs.length) (S : St) (hp : p < S.next) (hc : S.cells p = some (x.cs (.lst (bs.map u8) t))) :
    CallQ Try.prog (JC h) 35 [.ptr p 0] S fun r S1 => S1.cells p = some ((numS bs x).cs (.lst (bs.map u8) t)) ∧ B1 p S S1 := by
  have may := fun set x S hc => t23 h set p x bs t hl S hc
  have must := fun set x S hp hat hc => t37 h set p x bs t hl hat S hp hc
  refine CallQ.ofQ rfl (by kernel_rfl : Try.prog.funcs[35]? = some Try.f35) rfl (by decide) ?_
  refine CodeQ.seq (CodeQ.wp ?_)
  conv => whnf
  refine CallQ.mono (may [45] x S hc) ?_
  rintro r S1 ⟨-, c1, b1⟩
  have a1 := may_le (set := [45]) hat
  have n1 := b1.next
  have e1 : num1 bs x = if mayB bs [48] (mayS bs [45] x) = true then mayS bs [48] (mayS bs [45] x) else if mayB bs digs (mayS bs [45] x) = true then manyS bs digs (mustS bs digs (mayS bs [45] x)) else mustS bs digs (mayS bs [45] x) := rfl
  have e0 : numS bs x = num3 bs (num2 bs (num1 bs x)) := rfl
  rw [e0]
  clear e0
  generalize mayS bs [45] x = y at *
  conv => whnf
  refine CodeQ.cut (fun (u : Unit) => pat 27 [(0, .ptr p 0)]) (fun _ S2 => S2.cells p = some ((num1 bs x).cs (.lst (bs.map u8) t)) ∧ B1 p S S2) (CodeQ.wp ?_) ?_
  · rw [e1]
    conv => whnf
    refine CallQ.mono (may [48] y S1 c1) ?_
    rintro r S2 ⟨rfl, c2, b2⟩
    have n2 := b2.next
    cases hm : mayB bs [48] y
    · rw [may_no hm] at c2
      conv => whnf
      refine CallQ.mono (must digs y S2 (by omega) a1 c2) ?_
      rintro r S3 ⟨rfl, c3, b3⟩
      have a3 := must_le (set := digs) a1
      cases hm2 : mayB bs digs y
      · conv => whnf
        exact ⟨(), ⟨c3, (b1.trans b2).trans b3⟩, ⟨rfl, trivial⟩⟩
      · conv => whnf
        refine CodeQ.loop (fun (yy : Lx) => pat 27 [(0, .ptr p 0)]) (fun m yy S9 => S9.cells p = some (yy.cs (.lst (bs.map u8) t)) ∧ B1 p S S9 ∧ yy.at_ ≤ bs.length ∧ m = bs.length - yy.at_ ∧ manyS bs digs (mustS bs digs y) = manyS bs digs yy) ?_ _ (mustS bs digs y) _ _ ⟨c3, (b1.trans b2).trans b3, a3, rfl, rfl⟩ ⟨rfl, trivial⟩
        rintro m yy S9 d ⟨k1, k2, k3, k4, k5⟩
        conv => whnf
        refine CallQ.mono (may digs yy S9 k1) ?_
        rintro r S10 ⟨rfl, j1, j2⟩
        cases hm9 : mayB bs digs yy
        · rw [may_no hm9] at j1
          rw [many_no hm9] at k5
          conv => whnf
          exact ⟨(), ⟨by rw [k5]; exact j1, k2.trans j2⟩, ⟨rfl, trivial⟩⟩
        · rw [may_up hm9] at j1
          rw [many_up hm9] at k5
          have := may_lt hm9
          conv => whnf
          exact ⟨_, yy.up, (by show bs.length - (yy.at_ + 1) < m; omega), ⟨j1, k2.trans j2, this, rfl, k5⟩, ⟨rfl, trivial⟩⟩
    · conv => whnf
      exact ⟨(), ⟨c2, b1.trans b2⟩, ⟨rfl, trivial⟩⟩
  have a2 : (num1 bs x).at_ ≤ bs.length := by
    rw [e1]
    repeat' split
    · exact may_le a1
    · exact many_le (must_le a1)
    · exact must_le a1
  generalize num1 bs x = z at *
  clear e1 c1 b1 a1 n1
  rintro ⟨⟩ d S1 ⟨c1, b1⟩
  have n1 := b1.next
  refine CodeQ.cut (fun (u : Unit) => pat 27 [(0, .ptr p 0)]) (fun _ S2 => S2.cells p = some ((num2 bs z).cs (.lst (bs.map u8) t)) ∧ B1 p S S2) (CodeQ.wp ?_) ?_
  · have e1 : num2 bs z = if mayB bs [46] z = true then manyS bs digs (mustS bs digs (mayS bs [46] z)) else z := rfl
    rw [e1]
    conv => whnf
    refine CallQ.mono (may [46] z S1 c1) ?_
    rintro r S2 ⟨rfl, c2, b2⟩
    have n2 := b2.next
    cases hm : mayB bs [46] z
    · rw [may_no hm] at c2
      conv => whnf
      exact ⟨(), ⟨c2, b1.trans b2⟩, ⟨rfl, trivial⟩⟩
    · have a3 := may_le (set := [46]) a2
      conv => whnf
      refine CallQ.mono (must digs _ S2 (by omega) a3 c2) ?_
      rintro r S3 ⟨rfl, c3, b3⟩
      have a4 := must_le (set := digs) a3
      conv => whnf
      refine CodeQ.loop (fun (yy : Lx) => pat 27 [(0, .ptr p 0)]) (fun m yy S9 => S9.cells p = some (yy.cs (.lst (bs.map u8) t)) ∧ B1 p S S9 ∧ yy.at_ ≤ bs.length ∧ m = bs.length - yy.at_ ∧ manyS bs digs (mustS bs digs (mayS bs [46] z)) = manyS bs digs yy) ?_ _ (mustS bs digs (mayS bs [46] z)) _ _ ⟨c3, (b1.trans b2).trans b3, a4, rfl, rfl⟩ ⟨rfl, trivial⟩
      rintro m yy S9 d ⟨k1, k2, k3, k4, k5⟩
      conv => whnf
      refine CallQ.mono (may digs yy S9 k1) ?_
      rintro r S10 ⟨rfl, j1, j2⟩
      cases hm9 : mayB bs digs yy
      · rw [may_no hm9] at j1
        rw [many_no hm9] at k5
        conv => whnf
        exact ⟨(), ⟨by rw [k5]; exact j1, k2.trans j2⟩, ⟨rfl, trivial⟩⟩
      · rw [may_up hm9] at j1
        rw [many_up hm9] at k5
        have := may_lt hm9
        conv => whnf
        exact ⟨_, yy.up, (by show bs.length - (yy.at_ + 1) < m; omega), ⟨j1, k2.trans j2, this, rfl, k5⟩, ⟨rfl, trivial⟩⟩
  have a3 : (num2 bs z).at_ ≤ bs.length := by
    unfold num2
    split
    · exact many_le (must_le (may_le a2))
    · exact a2
  generalize num2 bs z = z at *
  clear c1 b1 a2 n1
  rintro ⟨⟩ d S1 ⟨c1, b1⟩
  have n1 := b1.next
  refine CodeQ.wp ?_
  have e1 : num3 bs z = if mayB bs [101, 69] z = true then manyS bs digs (mustS bs digs (mayS bs [43, 45] (mayS bs [101, 69] z))) else z := rfl
  rw [e1]
  conv => whnf
  refine CallQ.mono (may [101, 69] z S1 c1) ?_
  rintro r S2 ⟨rfl, c2, b2⟩
  have n2 := b2.next
  cases hm : mayB bs [101, 69] z
  · rw [may_no hm] at c2
    conv => whnf
    exact ⟨c2, b1.trans b2⟩
  · have a4 := may_le (set := [101, 69]) a3
    conv => whnf
    refine CallQ.mono (may [43, 45] _ S2 c2) ?_
    rintro r S3 ⟨rfl, c3, b3⟩
    have n3 := b3.next
    have a5 := may_le (set := [43, 45]) a4
    conv => whnf
    refine CallQ.mono (must digs _ S3 (by omega) a5 c3) ?_
    rintro r S4 ⟨rfl, c4, b4⟩
    have a6 := must_le (set := digs) a5
    conv => whnf
    refine CodeQ.loop (fun (yy : Lx) => pat 27 [(0, .ptr p 0)]) (fun m yy S9 => S9.cells p = some (yy.cs (.lst (bs.map u8) t)) ∧ B1 p S S9 ∧ yy.at_ ≤ bs.length ∧ m = bs.length - yy.at_ ∧ manyS bs digs (mustS bs digs (mayS bs [43, 45] (mayS bs [101, 69] z))) = manyS bs digs yy) ?_ _ (mustS bs digs (mayS bs [43, 45] (mayS bs [101, 69] z))) _ _ ⟨c4, ((b1.trans b2).trans b3).trans b4, a6, rfl, rfl⟩ ⟨rfl, trivial⟩
    rintro m yy S9 d ⟨k1, k2, k3, k4, k5⟩
    conv => whnf
    refine CallQ.mono (may digs yy S9 k1) ?_
    rintro r S10 ⟨rfl, j1, j2⟩
    cases hm9 : mayB bs digs yy
    · rw [may_no hm9] at j1
      rw [many_no hm9] at k5
      conv => whnf
      exact ⟨by rw [if_pos rfl, k5]; exact j1, k2.trans j2⟩
    · rw [may_up hm9] at j1
      rw [many_up hm9] at k5
      have := may_lt hm9
      conv => whnf
      exact ⟨_, yy.up, (by show bs.length - (yy.at_ + 1) < m; omega), ⟨j1, k2.trans j2, this, rfl, k5⟩, ⟨rfl, trivial⟩⟩
end Go.Proofs.Ytfphpjinimfhfaa
