import Derived.Test.YtiknkngdfdmkbaaDoorVML18
/-! The plain law of losses: what is built is read, and the other way round. -/
namespace Go.Proofs.YtiknkngdfdmkbaaDoor
open Go.Proofs.YtiknkngdfdmkbaaDoor.VM
set_option linter.unusedVariables false
set_option maxRecDepth 100000

theorem or128 (m : Nat) : (UInt8.ofNat m ||| 128).toNat = 128 + m % 128 := by
  have h : ∀ y : Fin 256, (y.val ||| 128) = 128 + y.val % 128 := by decide
  have h2 : (m % 256 ||| 128) = 128 + m % 256 % 128 := h ⟨m % 256, Nat.mod_lt _ (by decide)⟩
  rw [UInt8.toNat_or, UInt8.toNat_ofNat']
  show (m % 256 ||| 128) = _
  rw [h2]
  omega
theorem grp_zero : grp 0 = [] := by unfold grp; simp
theorem grp_pos {m : Nat} (h : m ≠ 0) : grp m = (UInt8.ofNat m ||| 128) :: grp (m / 128) := by conv => lhs; unfold grp
                                                                                               rw [dif_neg h]
theorem grp_nil {m : Nat} (h : (grp m).length = 0) : m = 0 := by
  by_cases h0 : m = 0
  · exact h0
  · rw [grp_pos h0] at h; simp at h

theorem rd_grp : ∀ (m : Nat), m < 2 ^ 57 → ∀ l : List UInt8, rdS ((grp m).reverse ++ l) 0 0 = rdS l (grp m).length m := by
  intro m
  induction m using Nat.strongRecOn with
  | _ m ih =>
    intro hm l
    by_cases h0 : m = 0
    · subst h0; rw [grp_zero]; rfl
    · rw [grp_pos h0, List.reverse_cons, List.append_assoc, ih (m / 128) (by omega) (by omega)]
      have hlen := grp_len 8 (m / 128) (by omega)
      show rdS ((UInt8.ofNat m ||| 128) :: l) _ _ = _
      conv => lhs; unfold rdS
      rw [or128]
      rw [if_neg, if_neg (by omega)]
      · congr 1
        omega
      · rintro (⟨h1, h2⟩ | ⟨h1, h2⟩ | h1)
        · have := grp_nil h1; omega
        · omega
        · omega
theorem rd_cur {n : Nat} (hn : n < 2 ^ 64) (l : List UInt8) : rdS (curShort n ++ l) 0 0 = .ok (n, l) := by
  unfold curShort
  rw [List.reverse_cons, List.append_assoc, rd_grp _ (by omega)]
  show rdS (UInt8.ofNat (n % 128) :: l) _ _ = _
  have e : (UInt8.ofNat (n % 128)).toNat = n % 128 := by rw [UInt8.toNat_ofNat']; omega
  unfold rdS
  rw [e, if_neg (by omega), if_pos (by omega)]
  congr 2
  omega
/-- Proper beginnings. -/
def Pre (p l : List UInt8) : Prop := ∃ q, q ≠ [] ∧ p ++ q = l
theorem Pre.split {p a b : List UInt8} (h : Pre p (a ++ b)) : Pre p a ∨ ∃ p', p = a ++ p' ∧ Pre p' b := by
  obtain ⟨q, hq, e⟩ := h
  rcases List.append_eq_append_iff.1 e with ⟨c, h1, h2⟩ | ⟨c, h1, h2⟩
  · by_cases hc : c = []
    · subst hc
      exact .inr ⟨[], by simpa using h1.symm, q, hq, by simpa using h2⟩
    · exact .inl ⟨c, hc, h1.symm⟩
  · exact .inr ⟨c, h1, q, hq, h2.symm⟩
theorem rd_pre_grp : ∀ (m : Nat), m < 2 ^ 57 → ∀ p q : List UInt8, p ++ q = (grp m).reverse → rdS p 0 0 = .error (3, 0) := by
  intro m
  induction m using Nat.strongRecOn with
  | _ m ih =>
    intro hm p q e
    by_cases h0 : m = 0
    · subst h0
      rw [grp_zero] at e
      have : p = [] := (List.append_eq_nil_iff.1 e).1
      subst this; rfl
    · by_cases hq : q = []
      · subst hq
        rw [List.append_nil] at e
        have := rd_grp m hm []
        rw [List.append_nil, ← e] at this
        rw [this]; rfl
      · rw [grp_pos h0, List.reverse_cons] at e
        rcases Pre.split ⟨q, hq, e⟩ with ⟨q', _, e'⟩ | ⟨p', e1, q', hq', e2⟩
        · exact ih (m / 128) (by omega) (by omega) p q' e'
        · have : p' = [] := by
            cases p' with
            | nil => rfl
            | cons a p' =>
              have := congrArg List.length e2
              have h1 : q'.length ≠ 0 := fun h => hq' (List.length_eq_zero_iff.1 h)
              simp only [List.length_append, List.length_cons, List.length_nil] at this; omega
          subst this
          rw [List.append_nil] at e1
          exact ih (m / 128) (by omega) (by omega) p [] (by simpa using e1)
theorem rd_pre {n : Nat} (hn : n < 2 ^ 64) {p : List UInt8} (h : Pre p (curShort n)) : rdS p 0 0 = .error (3, 0) := by
  unfold curShort at h
  rw [List.reverse_cons] at h
  rcases h.split with ⟨q, _, e⟩ | ⟨p', e1, q', hq', e2⟩
  · exact rd_pre_grp (n / 128) (by omega) p q e
  · have : p' = [] := by
      cases p' with
      | nil => rfl
      | cons a p' =>
        have := congrArg List.length e2
        have h1 : q'.length ≠ 0 := fun h => hq' (List.length_eq_zero_iff.1 h)
        simp only [List.length_append, List.length_cons, List.length_nil] at this; omega
    subst this
    rw [List.append_nil] at e1
    exact rd_pre_grp (n / 128) (by omega) p [] (by simpa using e1)
theorem rd_inv : ∀ (l : List UInt8) (i acc n : Nat) (r : List UInt8), i = (grp acc).length → rdS l i acc = .ok (n, r) → (grp acc).reverse ++ l = curShort n ++ r ∧ n < 2 ^ 64
  | [], i, acc, n, r, hi, h => by simp [rdS] at h
  | x :: l, i, acc, n, r, hi, h => by
    have hx := x.toNat_lt
    unfold rdS at h
    split at h
    · cases h
    · rename_i hbad
      split at h
      · rename_i hx8
        cases h
        refine ⟨?_, by omega⟩
        have e1 : (acc * 128 + x.toNat) % 128 = x.toNat := by omega
        have e2 : (acc * 128 + x.toNat) / 128 = acc := by omega
        unfold curShort
        rw [e1, e2, List.reverse_cons, List.append_assoc]
        simp
      · rename_i hx8
        have hne : acc * 128 + x.toNat % 128 ≠ 0 := by
          intro h0
          have h1 : acc = 0 := by omega
          apply hbad
          left
          refine ⟨by rw [hi, h1, grp_zero]; rfl, by omega⟩
        have e2 : (acc * 128 + x.toNat % 128) / 128 = acc := by omega
        have eg : grp (acc * 128 + x.toNat % 128) = x :: grp acc := by
          rw [grp_pos hne, e2]
          congr 1
          apply UInt8.toNat_inj.1
          rw [or128]; omega
        have := rd_inv l (i + 1) _ n r (by rw [eg]; simp [hi]) h
        rw [eg] at this
        exact ⟨by rw [← this.1]; simp, this.2⟩
theorem rd_back {l r : List UInt8} {n : Nat} (h : rdS l 0 0 = .ok (n, r)) : l = curShort n ++ r ∧ n < 2 ^ 64 := by
  have := rd_inv l 0 0 n r (by rw [grp_zero]; rfl) h
  rw [grp_zero] at this
  exact this
end Go.Proofs.YtiknkngdfdmkbaaDoor
