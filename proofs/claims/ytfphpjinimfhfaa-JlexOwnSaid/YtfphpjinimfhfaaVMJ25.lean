import Derived.Test.YtfphpjinimfhfaaVMJ23
namespace Go.Proofs.Ytfphpjinimfhfaa
open Go.Proofs.Ytfphpjinimfhfaa.VM Go.RowKit
set_option maxRecDepth 100000
set_option linter.unusedVariables false
def GapsAt (bs : List UInt8) (p q : Nat) : Prop := ∀ i, p ≤ i → i < q → hasB gaps (bs.getD i 0) = true
/-- Tokens in order, and between them only gaps. -/
def Chain (bs : List UInt8) : Nat → List Tk → Nat → Prop
  | p, [], e => p = e
  | p, t :: l, e => p ≤ t.fr ∧ t.fr < t.to ∧ t.to ≤ bs.length ∧ 1 ≤ t.k ∧ t.k ≤ 11 ∧ GapsAt bs p t.fr ∧ Chain bs t.to l e
theorem Chain.snoc {bs : List UInt8} {t : Tk} : ∀ {l : List Tk} {p e : Nat}, Chain bs p l e → e ≤ t.fr → t.fr < t.to → t.to ≤ bs.length → 1 ≤ t.k → t.k ≤ 11 → GapsAt bs e t.fr → Chain bs p (l ++ [t]) t.to
  | [], p, e, h, a, b, c, d, f, g => by cases h; exact ⟨a, b, c, d, f, g, rfl⟩
  | _ :: _, p, e, ⟨h1, h2, h3, h4, h5, h6, h7⟩, a, b, c, d, f, g => ⟨h1, h2, h3, h4, h5, h6, h7.snoc a b c d f g⟩
theorem may_has {bs set : List UInt8} {x : Lx} (h : mayB bs set x = true) : hasB set (bs.getD x.at_ 0) = true := by
  have hl := may_lt h
  unfold mayB at h
  rw [getd hl] at h
  simpa using (Bool.and_eq_true _ _ ▸ h).2
theorem many_gap {bs set : List UInt8} : ∀ (m : Nat) {x : Lx}, bs.length - x.at_ = m → ∀ i, x.at_ ≤ i → i < (manyS bs set x).at_ → hasB set (bs.getD i 0) = true
  | m, x, hm, i, h1, h2 => by
    rw [many_unf] at h2
    split at h2
    · rename_i q
      have := may_lt q
      by_cases he : i = x.at_
      · rw [he]; exact may_has q
      · exact many_gap (m - 1) (x := x.up) (by show bs.length - (x.at_ + 1) = _; omega) i (by show x.at_ + 1 ≤ i; omega) h2
    · omega
theorem idx_signs (c : UInt8) : Lib.indexByte signs c < 6 := all_u8' (p := fun c => Lib.indexByte signs c < 6) (by decide +kernel) c
theorem tok_kind {bs : List UInt8} {x : Lx} (h : (tokS bs x).1.well = true) : 1 ≤ (tokS bs x).2.1 ∧ (tokS bs x).2.1 ≤ 11 := by
  unfold tokS at h ⊢
  split at h
  · rename_i q; rw [if_pos q]
    have h1 := may_has q
    have h2 := idx_signs (bs.getD x.at_ 0)
    unfold hasB at h1
    have h1 := of_decide_eq_true h1
    dsimp only
    omega
  rename_i q; rw [if_neg q]
  split at h
  · rename_i q; rw [if_pos q]; exact ⟨by dsimp only; omega, by dsimp only; omega⟩
  rename_i q; rw [if_neg q]
  split at h
  · rename_i q; rw [if_pos q]
    split at h
    · rename_i q; rw [if_pos q]; exact ⟨by dsimp only; omega, by dsimp only; omega⟩
    · rename_i q; rw [if_neg q]; exact absurd h q
  rename_i q; rw [if_neg q]
  split at h
  · rename_i q; rw [if_pos q]; exact ⟨by dsimp only; omega, by dsimp only; omega⟩
  rename_i q; rw [if_neg q]
  split at h
  · rename_i q; rw [if_pos q]; exact ⟨by dsimp only; omega, by dsimp only; omega⟩
  rename_i q; rw [if_neg q]
  split at h
  · rename_i q; rw [if_pos q]; exact ⟨by dsimp only; omega, by dsimp only; omega⟩
  · rw [wrong_bad] at h; cases h
theorem lexL_chain {bs : List UInt8} : ∀ (n : Nat) (x : Lx) (l : List Tk), Ok bs x → x.well = true → bs.length - x.at_ + 1 ≤ n → Chain bs 0 l x.at_ →
    ∃ e, Chain bs 0 (lexL bs n x l).2 e ∧ e ≤ bs.length ∧ ((lexL bs n x l).1.well = true → GapsAt bs e bs.length) ∧ ((lexL bs n x l).1.well = false → (e : Int) ≤ (lexL bs n x l).1.f ∧ (lexL bs n x l).1.f ≤ bs.length)
  | 0, x, l, h, hw, hn, hc => absurd hn (by omega)
  | n + 1, x, l, h, hw, hn, hc => by
    have h1 := gd_many' (set := gaps) h
    have h1o : Ok bs (manyS bs gaps x) := h1.ok
    have hw1 : (manyS bs gaps x).well = true := by rw [many_well]; exact hw
    have hg1 := many_ge (bs := bs) (set := gaps) (x := x)
    have hgap := @many_gap bs gaps _ x rfl
    rw [lexL_step]
    clear h1
    generalize manyS bs gaps x = y at *
    have hy := fr_well hw1
    have h2 := gd_tok h1o hw1
    have hgt := @tok_gt bs y
    have hk := @tok_kind bs y
    have h2o : Ok bs (tokS bs y).1 := h2.ok
    have hs2 : y.fr ≤ (tokS bs y).1.fr := h2.ge
    clear h2
    generalize tokS bs y = z at *
    by_cases he : y.at_ = bs.length
    · rw [if_pos he]
      refine ⟨x.at_, hc, h.at_, fun _ i a b => hgap i a (by omega), fun q => ?_⟩
      have q : y.well = false := q
      rw [hw1] at q; cases q
    rw [if_neg he]
    have hyl := h1o.at_
    cases hz : z.1.well
    · rw [if_pos rfl]
      have hx := fr_bad hz
      have := h2o.fr
      exact ⟨x.at_, hc, h.at_, fun q => absurd (show z.1.well = true from q) (by rw [hz]; decide), fun _ => ⟨by show (x.at_ : Int) ≤ z.1.f; omega, by show z.1.f ≤ _; omega⟩⟩
    rw [if_neg (by decide)]
    have hgt := hgt hz
    have hk := hk hz
    exact lexL_chain n z.1 (l ++ [⟨z.2.1, y.at_, z.1.at_, z.2.2⟩]) h2o hz (by omega) (hc.snoc (t := ⟨z.2.1, y.at_, z.1.at_, z.2.2⟩) hg1 hgt h2o.at_ hk.1 hk.2 hgap)
theorem lex_chain (bs : List UInt8) : ∃ e, Chain bs 0 (lexS bs).2 e ∧ e ≤ bs.length ∧ ((lexS bs).1.well = true → GapsAt bs e bs.length) ∧ ((lexS bs).1.well = false → (e : Int) ≤ (lexS bs).1.f ∧ (lexS bs).1.f ≤ bs.length) :=
  lexL_chain (bs.length + 1) ⟨0, 0, 0⟩ [] ⟨Nat.zero_le _, by show (0 : Int) ≤ bs.length; omega⟩ rfl (by omega) rfl
theorem gap_all (c : UInt8) : hasB gaps c = decide (c.toNat = 32 ∨ c.toNat = 9 ∨ c.toNat = 10 ∨ c.toNat = 13) := all_u8' (p := fun c => hasB gaps c = decide (c.toNat = 32 ∨ c.toNat = 9 ∨ c.toNat = 10 ∨ c.toNat = 13)) (by decide +kernel) c
theorem t12 (c : UInt8) (S : St) (hc : hasB gaps c = true) : CallQ Try.prog (JC false) 12 [u8 c] S fun r S1 => S1 = S ∧ r = .bool true := by
  rw [gap_all] at hc
  have hc := of_decide_eq_true hc
  refine CallQ.of rfl (by kernel_rfl : Try.prog.funcs[12]? = some Try.f12) rfl (by decide) ?_
  conv => whnf
  refine brEq (fun h1 => ?_) (fun h1 => ?_)
  · conv => whnf
    exact ⟨rfl, rfl⟩
  conv => whnf
  refine brEq (fun h2 => ?_) (fun h2 => ?_)
  · conv => whnf
    exact ⟨rfl, rfl⟩
  conv => whnf
  refine brEq (fun h3 => ?_) (fun h3 => ?_)
  · conv => whnf
    exact ⟨rfl, rfl⟩
  conv => whnf
  refine brEq (fun h4 => ?_) (fun h4 => ?_)
  · conv => whnf
    exact ⟨rfl, rfl⟩
  exact absurd hc (by omega)
end Go.Proofs.Ytfphpjinimfhfaa
