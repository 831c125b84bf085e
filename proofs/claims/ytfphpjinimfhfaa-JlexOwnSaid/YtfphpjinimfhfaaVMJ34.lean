import Derived.Test.YtfphpjinimfhfaaVMJ28
namespace Go.Proofs.Ytfphpjinimfhfaa
open Go.Proofs.Ytfphpjinimfhfaa.VM Go.RowKit
set_option maxRecDepth 100000
set_option linter.unusedVariables false
set_option linter.unusedSimpArgs false
/-! The document's lexer, in plain words: numbers and words. -/
abbrev L0 (i : Nat) : Lx := ⟨i, 0, 0⟩
def isB (bs : List UInt8) (i : Nat) (c : UInt8) : Bool := match bs[i]? with | some d => d == c | none => false
def dg (c : UInt8) : Bool := decide (48 ≤ c.toNat ∧ c.toNat ≤ 57)
def dgAt (bs : List UInt8) (i : Nat) : Bool := match bs[i]? with | some d => dg d | none => false
theorem L0_well (i : Nat) : (L0 i).well = true := rfl
theorem may_is (bs : List UInt8) (i : Nat) (c : UInt8) : mayB bs [c] (L0 i) = isB bs i c := by
  unfold mayB isB
  rw [L0_well]
  show (true && _) = _
  rw [Bool.true_and]
  show (match bs[i]? with | some d => hasB [c] d | none => false) = _
  cases bs[i]? with
  | none => rfl
  | some d => show hasB [c] d = (d == c); rw [has_one]; by_cases h : d = c <;> simp [h]
theorem has_digs (c : UInt8) : hasB digs c = dg c := all_u8' (p := fun c => hasB digs c = dg c) (by decide +kernel) c
theorem may_digs (bs : List UInt8) (i : Nat) : mayB bs digs (L0 i) = dgAt bs i := by
  unfold mayB dgAt
  rw [L0_well]
  show (true && _) = _
  rw [Bool.true_and]
  show (match bs[i]? with | some d => hasB digs d | none => false) = _
  cases bs[i]? with
  | none => rfl
  | some d => exact has_digs d
theorem has_two (a b c : UInt8) : hasB [a, b] c = (c == a || c == b) := by
  have : Lib.indexByte [a, b] c = if a = c then 0 else if b = c then 1 else -1 := by
    by_cases h1 : a = c <;> by_cases h2 : b = c <;> simp [Lib.indexByte, h1, h2]
  unfold hasB
  rw [this]
  by_cases h1 : a = c
  · subst h1; simp
  · by_cases h2 : b = c
    · subst h2; simp [h1]
    · have h1' : ¬ c = a := fun h => h1 h.symm
      have h2' : ¬ c = b := fun h => h2 h.symm
      simp [h1, h2, h1', h2']
theorem may_two (bs : List UInt8) (i : Nat) (a b : UInt8) : mayB bs [a, b] (L0 i) = (isB bs i a || isB bs i b) := by
  unfold mayB isB
  rw [L0_well]
  show (true && _) = _
  rw [Bool.true_and]
  show (match bs[i]? with | some d => hasB [a, b] d | none => false) = _
  cases bs[i]? with
  | none => rfl
  | some d => exact has_two a b d
def manyF (bs : List UInt8) : Nat → Nat → Nat
  | 0, i => i
  | n + 1, i => if dgAt bs i = true then manyF bs n (i + 1) else i
def manyR (bs : List UInt8) (i : Nat) : Nat := manyF bs (bs.length - i) i
theorem skip_eq (bs : List UInt8) : ∀ (n i : Nat), skipS bs digs n (L0 i) = L0 (manyF bs n i)
  | 0, i => rfl
  | n + 1, i => by
    unfold skipS manyF
    rw [may_digs]
    by_cases h : dgAt bs i = true
    · rw [if_pos h, if_pos h]; exact skip_eq bs n (i + 1)
    · rw [if_neg h, if_neg h]
theorem many_eq (bs : List UInt8) (i : Nat) : manyS bs digs (L0 i) = L0 (manyR bs i) := skip_eq bs _ i
theorem manyF_ge (bs : List UInt8) : ∀ (n i : Nat), i ≤ manyF bs n i
  | 0, i => Nat.le_refl _
  | n + 1, i => by
    unfold manyF
    split
    · exact Nat.le_trans (Nat.le_succ i) (manyF_ge bs n (i + 1))
    · exact Nat.le_refl _
theorem many_step (bs : List UInt8) (i : Nat) : manyR bs i = if dgAt bs i = true then manyR bs (i + 1) else i := by
  have h := many_eq bs i
  cases hd : dgAt bs i
  · rw [many_no (by rw [may_digs]; exact hd)] at h
    have : i = manyR bs i := congrArg Lx.at_ h
    rw [if_neg (by simp), ← this]
  · rw [many_up (by rw [may_digs]; exact hd)] at h
    have h2 := many_eq bs (i + 1)
    have : manyR bs (i + 1) = manyR bs i := congrArg Lx.at_ (h2.symm.trans h)
    rw [if_pos rfl, this]
theorem many_self (bs : List UInt8) (i : Nat) : manyR bs i = i ↔ dgAt bs i = false := by
  rw [many_step]
  cases hd : dgAt bs i
  · simp
  · have := manyF_ge bs (bs.length - (i + 1)) (i + 1)
    simp only [if_true, reduceCtorEq, iff_false]
    unfold manyR
    omega
/-- The place behind a number, or where it goes wrong. -/
def expR (bs : List UInt8) (i : Nat) : Except Nat Nat :=
  if (isB bs i 101 || isB bs i 69) = true then
    let a := if (isB bs (i + 1) 43 || isB bs (i + 1) 45) = true then i + 1 + 1 else i + 1
    if manyR bs a = a then .error a else .ok (manyR bs a)
  else .ok i
def numR (bs : List UInt8) (i : Nat) : Except Nat Nat :=
  let a := if isB bs i 45 = true then i + 1 else i
  let n1 := if isB bs a 48 = true then a + 1 else manyR bs a
  if n1 = a then .error a
  else if isB bs n1 46 = true then (if manyR bs (n1 + 1) = n1 + 1 then .error (n1 + 1) else expR bs (manyR bs (n1 + 1)))
  else expR bs n1
/-- The lexer behind it. -/
def exL (bs : List UInt8) : Except Nat Nat → Lx
  | .ok i => L0 i
  | .error i => wrongS bs.length (L0 i)
theorem num3_eq (bs : List UInt8) (i : Nat) : num3 bs (L0 i) = exL bs (expR bs i) := by
  unfold num3 expR
  rw [may_two]
  by_cases h : (isB bs i 101 || isB bs i 69) = true
  · rw [if_pos h, if_pos h, may_up (set := [101, 69]) (x := L0 i) (by rw [may_two]; exact h)]
    have e1 : mayS bs [43, 45] (L0 i).up = L0 (if (isB bs (i + 1) 43 || isB bs (i + 1) 45) = true then i + 1 + 1 else i + 1) := by
      by_cases h2 : (isB bs (i + 1) 43 || isB bs (i + 1) 45) = true
      · rw [if_pos h2]; exact may_up (x := L0 (i + 1)) (by rw [may_two]; exact h2)
      · rw [if_neg h2]; exact may_no (x := L0 (i + 1)) (by rw [may_two]; simpa using h2)
    rw [e1]
    generalize (if (isB bs (i + 1) 43 || isB bs (i + 1) 45) = true then i + 1 + 1 else i + 1) = a
    dsimp only
    cases hd : dgAt bs a
    · rw [must_no (by rw [may_digs]; exact hd), if_pos ((many_self bs a).2 hd), many_no (may_bad wrong_bad)]
      rfl
    · have hne : ¬ manyR bs a = a := fun q => by have := (many_self bs a).1 q; rw [hd] at this; cases this
      rw [must_up (by rw [may_digs]; exact hd), if_neg hne]
      show manyS bs digs (L0 (a + 1)) = L0 (manyR bs a)
      rw [many_eq, many_step bs a, if_pos hd]
  · rw [if_neg h, if_neg h]; rfl
theorem num_eq (bs : List UInt8) (i : Nat) : numS bs (L0 i) = exL bs (numR bs i) := by
  unfold numS numR
  have e1 : mayS bs [45] (L0 i) = L0 (if isB bs i 45 = true then i + 1 else i) := by
    by_cases h2 : isB bs i 45 = true
    · rw [if_pos h2]; exact may_up (by rw [may_is]; exact h2)
    · rw [if_neg h2]; exact may_no (by rw [may_is]; simpa using h2)
  unfold num1
  rw [e1]
  generalize (if isB bs i 45 = true then i + 1 else i) = a
  dsimp only
  rw [may_is, may_digs]
  have two : ∀ n1, num3 bs (num2 bs (L0 n1)) = exL bs (if isB bs n1 46 = true then (if manyR bs (n1 + 1) = n1 + 1 then .error (n1 + 1) else expR bs (manyR bs (n1 + 1))) else expR bs n1) := by
    intro n1
    unfold num2
    rw [may_is]
    by_cases h : isB bs n1 46 = true
    · rw [if_pos h, if_pos h, may_up (by rw [may_is]; exact h)]
      show num3 bs (manyS bs digs (mustS bs digs (L0 (n1 + 1)))) = _
      cases hd : dgAt bs (n1 + 1)
      · rw [must_no (by rw [may_digs]; exact hd), if_pos ((many_self bs _).2 hd), many_no (may_bad wrong_bad), num3_bad wrong_bad]
        rfl
      · have hne : ¬ manyR bs (n1 + 1) = n1 + 1 := fun q => by have := (many_self bs _).1 q; rw [hd] at this; cases this
        rw [must_up (by rw [may_digs]; exact hd), if_neg hne]
        show num3 bs (manyS bs digs (L0 (n1 + 1 + 1))) = _
        rw [many_eq, num3_eq, many_step bs (n1 + 1), if_pos hd]
    · rw [if_neg h, if_neg h, num3_eq]
  by_cases h0 : isB bs a 48 = true
  · rw [if_pos h0, if_pos h0, may_up (by rw [may_is]; exact h0), if_neg (by omega)]
    exact two (a + 1)
  · rw [if_neg h0, if_neg h0]
    cases hd : dgAt bs a
    · rw [if_neg (by simp), must_no (by rw [may_digs]; exact hd), if_pos ((many_self bs a).2 hd), num2_bad wrong_bad, num3_bad wrong_bad]
      rfl
    · have hne : ¬ manyR bs a = a := fun q => by have := (many_self bs _).1 q; rw [hd] at this; cases this
      rw [if_pos rfl, must_up (by rw [may_digs]; exact hd), if_neg hne]
      show num3 bs (num2 bs (manyS bs digs (L0 (a + 1)))) = _
      rw [many_eq, ← (show manyR bs a = manyR bs (a + 1) by rw [many_step bs a, if_pos hd])]
      exact two _
/-- A word. -/
def wordR (bs : List UInt8) : List UInt8 → Nat → Except Nat Nat
  | [], i => .ok i
  | c :: w, i => if isB bs i c = true then wordR bs w (i + 1) else .error i
theorem word_bad (bs : List UInt8) : ∀ (w : List UInt8) {x : Lx}, x.well = false → wordS bs w x = x
  | [], x, h => rfl
  | c :: w, x, h => by
    show wordS bs w (mustS bs [c] x) = x
    have : mustS bs [c] x = x := by rw [must_no (may_bad h)]; unfold wrongS; rw [if_pos h]
    rw [this]
    exact word_bad bs w h
theorem word_eq (bs : List UInt8) : ∀ (w : List UInt8) (i : Nat), wordS bs w (L0 i) = exL bs (wordR bs w i)
  | [], i => rfl
  | c :: w, i => by
    show wordS bs w (mustS bs [c] (L0 i)) = _
    unfold wordR
    by_cases h : isB bs i c = true
    · rw [if_pos h, must_up (by rw [may_is]; exact h)]
      exact word_eq bs w (i + 1)
    · rw [if_neg h, must_no (by rw [may_is]; simpa using h)]
      exact word_bad bs w wrong_bad
end Go.Proofs.Ytfphpjinimfhfaa
namespace Go.Proofs.Ytfphpjinimfhfaa
open Go.Proofs.Ytfphpjinimfhfaa.VM Go.RowKit
set_option maxRecDepth 100000
set_option linter.unusedVariables false
set_option linter.unusedSimpArgs false
/-! Escapes and strings, in the document's plain words. -/
/-- Digits of base 16: the number, or where it goes wrong. -/
def unitR (bs : List UInt8) (low : Bool) : Nat → Nat → Nat → Nat → Except Nat Nat
  | 0, _, n, _ => .ok n
  | k + 1, j, n, i => match bs[i]? with
    | none => .error i
    | some c => if hasB (setOf low j n) c = true then unitR bs low k (j + 1) (n * 16 + hexv c) (i + 1) else .error i
theorem may_some {bs set : List UInt8} {i : Nat} {c : UInt8} (h : bs[i]? = some c) : mayB bs set (L0 i) = hasB set c := by
  unfold mayB
  rw [L0_well]
  show (true && match bs[i]? with | some d => hasB set d | none => false) = _
  rw [h, Bool.true_and]
theorem may_none {bs set : List UInt8} {i : Nat} (h : bs[i]? = none) : mayB bs set (L0 i) = false := by
  unfold mayB
  rw [L0_well]
  show (true && match bs[i]? with | some d => hasB set d | none => false) = _
  rw [h, Bool.true_and]
theorem getD_some {bs : List UInt8} {i : Nat} {c : UInt8} (h : bs[i]? = some c) : bs.getD i 0 = c := by rw [List.getD_eq_getElem?_getD, h]; rfl
theorem unit_eq (bs : List UInt8) (low : Bool) : ∀ (k j n i : Nat), unitS bs low k j n (L0 i) = match unitR bs low k j n i with
    | .ok m => (m, L0 (i + k))
    | .error e => (0, wrongS bs.length (L0 e))
  | 0, j, n, i => rfl
  | k + 1, j, n, i => by
    unfold unitS unitR
    cases hc : bs[i]? with
    | none => rw [if_neg (by rw [may_none hc]; simp), must_no (may_none hc)]
    | some c =>
      dsimp only
      rw [may_some hc]
      by_cases h : hasB (setOf low j n) c = true
      · rw [if_pos h, if_pos h, must_up (by rw [may_some hc]; exact h), getD_some hc]
        show unitS bs low k (j + 1) (n * 16 + hexv c) (L0 (i + 1)) = _
        rw [unit_eq bs low k (j + 1) (n * 16 + hexv c) (i + 1)]
        cases unitR bs low k (j + 1) (n * 16 + hexv c) (i + 1) with
        | ok m => show (m, L0 (i + 1 + k)) = (m, L0 (i + (k + 1))); rw [show i + 1 + k = i + (k + 1) by omega]
        | error e => rfl
      · rw [if_neg h, if_neg h, must_no (by rw [may_some hc]; simpa using h)]
/-- What stands behind a backslash: its character and the place behind it, or where it goes wrong. -/
def escR (bs : List UInt8) (i : Nat) : Except Nat (Int × Nat) := match bs[i]? with
  | none => .error i
  | some c =>
    if 0 ≤ Lib.indexByte escF c then .ok (((escT.getD (Lib.indexByte escF c).toNat 0).toNat : Nat), i + 1)
    else if c ≠ 117 then .error i
    else match unitR bs false 4 0 0 (i + 1) with
      | .error e => .error e
      | .ok n =>
        if n / 1024 ≠ 54 then .ok ((n : Nat), i + 5)
        else if isB bs (i + 5) 92 = false then .error (i + 5)
        else if isB bs (i + 6) 117 = false then .error (i + 6)
        else match unitR bs true 4 0 0 (i + 7) with
          | .error e => .error e
          | .ok m => .ok (65536 + ((n : Int) - 55296) * 1024 + m - 56320, i + 11)
theorem esc_set (c : UInt8) : hasB escFu c = (decide (0 ≤ Lib.indexByte escF c) || c == 117) := all_u8' (p := fun c => hasB escFu c = (decide (0 ≤ Lib.indexByte escF c) || c == 117)) (by decide +kernel) c
theorem esc_eq (bs : List UInt8) (i : Nat) : (∃ n j, escR bs i = .ok (n, j) ∧ escS bs (L0 i) = (n, L0 j)) ∨ ∃ e, escR bs i = .error e ∧ (escS bs (L0 i)).2 = wrongS bs.length (L0 e) := by
  unfold escR escS
  cases hc : bs[i]? with
  | none => exact .inr ⟨i, rfl, by rw [if_neg (by rw [may_none hc]; simp), must_no (may_none hc)]⟩
  | some c =>
    dsimp only
    rw [may_some hc, esc_set, getD_some hc]
    have k1 : (decide (0 ≤ Lib.indexByte escF c) || c == 117) = true ↔ (0 ≤ Lib.indexByte escF c ∨ c = 117) := by simp
    by_cases h1 : 0 ≤ Lib.indexByte escF c
    · rw [if_pos h1, if_pos (k1.2 (.inl h1)), if_pos h1]
      exact .inl ⟨_, _, rfl, rfl⟩
    by_cases h2 : c = 117
    · rw [if_neg h1, if_neg (show ¬ c ≠ 117 from fun q => q h2), if_pos (k1.2 (.inr h2)), if_neg h1]
      have hu := unit_eq bs false 4 0 0 (i + 1)
      rw [show (L0 i).up = L0 (i + 1) from rfl, hu]
      cases unitR bs false 4 0 0 (i + 1) with
      | error e => exact .inr ⟨e, rfl, by dsimp only; rw [if_neg (by decide)]⟩
      | ok n =>
        dsimp only
        by_cases h3 : n / 1024 = 54
        · rw [if_neg (show ¬ n / 1024 ≠ 54 from fun q => q h3), if_pos h3, may_is, show i + 1 + 4 = i + 5 by omega]
          cases h4 : isB bs (i + 5) 92
          · rw [if_pos rfl, if_neg (by simp), must_no (by rw [may_is]; exact h4)]
            exact .inr ⟨_, rfl, rfl⟩
          · rw [if_neg (by simp), if_pos rfl]
            rw [show (L0 (i + 5)).up = L0 (i + 6) from rfl, may_is]
            cases h5 : isB bs (i + 6) 117
            · rw [if_pos rfl, if_neg (by simp), must_no (by rw [may_is]; exact h5)]
              exact .inr ⟨_, rfl, rfl⟩
            · rw [if_neg (by simp), if_pos rfl]
              have hv := unit_eq bs true 4 0 0 (i + 7)
              rw [show (L0 (i + 6)).up = L0 (i + 7) from rfl, hv]
              cases unitR bs true 4 0 0 (i + 7) with
              | error e => exact .inr ⟨e, rfl, rfl⟩
              | ok m => exact .inl ⟨_, _, rfl, rfl⟩
        · rw [if_pos (show n / 1024 ≠ 54 from h3), if_neg h3]
          exact .inl ⟨_, _, rfl, rfl⟩
    · rw [if_neg h1, if_pos (show c ≠ 117 from h2), if_neg (fun q => ((k1.1 q).elim h1 h2)), must_no (by rw [may_some hc, esc_set]; simp [h1, h2])]
      exact .inr ⟨_, rfl, rfl⟩
end Go.Proofs.Ytfphpjinimfhfaa
namespace Go.Proofs.Ytfphpjinimfhfaa
open Go.Proofs.Ytfphpjinimfhfaa.VM Go.RowKit
set_option maxRecDepth 100000
set_option linter.unusedVariables false
set_option linter.unusedSimpArgs false
/-! Strings, tokens and texts, in the document's plain words. -/
/-- The fault at a place that may not be what it is. -/
def faultN (n e : Nat) : Int × Int := if n ≤ e then (3, n) else (5, e)
theorem wrong_fault (n e : Nat) : (wrongS n (L0 e)).w = (faultN n e).1 ∧ (wrongS n (L0 e)).f = (faultN n e).2 := by
  unfold wrongS faultN
  rw [if_neg (by simp [L0_well])]
  split <;> exact ⟨rfl, rfl⟩
theorem enc_take {bs : List UInt8} (hl : bs ≠ []) (h : (oneS (ib bs)).2.2 < 0) : encU (oneS (ib bs)).1.toNat = bs.take (oneS (ib bs)).2.1.toNat := by
  have hb := ib_byt bs
  have hl' : ib bs ≠ [] := by cases bs with | nil => exact absurd rfl hl | cons => simp [ib]
  obtain ⟨g1, g2, g3, g4, g5, g6⟩ := one_good hb h
  have henc := enc_one hb hl' h
  have hz : ((oneS (ib bs)).1.toNat : Int) = (oneS (ib bs)).1 := by omega
  unfold encU
  rw [hz, henc, ← ib_take]
  exact map_back _
theorem escR_gt {bs : List UInt8} {i : Nat} {n : Int} {j : Nat} (h : escR bs i = .ok (n, j)) : i < j := by
  unfold escR at h
  repeat' split at h
  all_goals first
    | cases h; done
    | (cases h; omega)
/-- A string behind its sign: the text and the place behind it, or the fault. -/
def textR (bs : List UInt8) : Nat → Nat → List UInt8 → Except (Int × Int) (List UInt8 × Nat)
  | 0, _, _ => .error (0, 0)
  | k + 1, i, out => match bs[i]? with
    | none => .error (faultN bs.length i)
    | some c =>
      if c = 34 then .ok (out, i + 1)
      else if c.toNat < 32 then .error (faultN bs.length i)
      else if c = 92 then match escR bs (i + 1) with
        | .error e => .error (faultN bs.length e)
        | .ok r => textR bs k r.2 (out ++ encU r.1.toNat)
      else if (oneS ((ib bs).drop i)).2.1 = 0 then .error (if (i : Int) + (oneS ((ib bs).drop i)).2.2 = bs.length then (3, bs.length) else (6, i + (oneS ((ib bs).drop i)).2.2))
      else textR bs k (i + (oneS ((ib bs).drop i)).2.1.toNat) (out ++ (bs.drop i).take (oneS ((ib bs).drop i)).2.1.toNat)
/-- The lexer's own answer is that. -/
def TxE (r : Lx × List UInt8) : Except (Int × Int) (List UInt8 × Nat) → Prop
  | .ok q => r = (L0 q.2, q.1)
  | .error f => r.1.well = false ∧ r.1.w = f.1 ∧ r.1.f = f.2
theorem text_eq (bs : List UInt8) : ∀ (k i : Nat) (out : List UInt8), bs.length - i < k → TxE (textL bs k (L0 i) out) (textR bs k i out)
  | 0, i, out, h => by omega
  | k + 1, i, out, h => by
    rw [textL_step, if_neg (by simp [L0_well])]
    unfold textR
    cases hc : bs[i]? with
    | none =>
      dsimp only
      rw [may_none hc, if_neg (by simp), if_pos (by rw [List.getD_eq_getElem?_getD, hc]; decide), textL_bad wrong_bad]
      exact ⟨wrong_bad, (wrong_fault _ _).1, (wrong_fault _ _).2⟩
    | some c =>
      have hlt : i < bs.length := by
        rcases Nat.lt_or_ge i bs.length with q | q
        · exact q
        · rw [List.getElem?_eq_none q] at hc; cases hc
      dsimp only
      rw [may_some hc, may_some hc, has_one, has_one, getD_some hc]
      by_cases h1 : c = 34
      · rw [if_pos (by simp [h1]), if_pos h1]; rfl
      rw [if_neg (by simp [h1]), if_neg h1]
      by_cases h2 : c.toNat < 32
      · rw [if_pos h2, if_pos h2, textL_bad wrong_bad]
        exact ⟨wrong_bad, (wrong_fault _ _).1, (wrong_fault _ _).2⟩
      rw [if_neg h2, if_neg h2]
      by_cases h3 : c = 92
      · rw [if_pos (by simp [h3]), if_pos h3]
        rw [show (L0 i).up = L0 (i + 1) from rfl]
        rcases esc_eq bs (i + 1) with ⟨n, j, e1, e2⟩ | ⟨e, e1, e2⟩
        · rw [e1, e2]
          dsimp only
          rw [if_pos (show (L0 j).well = true from rfl)]
          have := escR_gt e1
          exact text_eq bs k j _ (by omega)
        · rw [e1, e2, textL_bad wrong_bad]
          exact ⟨wrong_bad, (wrong_fault _ _).1, (wrong_fault _ _).2⟩
      rw [if_neg (by simp [h3]), if_neg h3]
      have hne : bs.drop i ≠ [] := by intro q; have := congrArg List.length q; simp at this; omega
      rw [← ib_drop]
      by_cases hg : (oneS (ib (bs.drop i))).2.2 < 0
      · obtain ⟨g1, g2, g3, g4, _, _⟩ := one_good (ib_byt (bs.drop i)) hg
        rw [if_neg (by omega), if_neg (by omega), enc_take hne hg]
        exact text_eq bs k _ _ (by omega)
      · obtain ⟨b1, b2, b3⟩ := one_bad hg
        have hlen : (ib (bs.drop i)).length = bs.length - i := by rw [ib_len]; simp
        rw [if_pos b2, if_pos b2]
        generalize (oneS (ib (bs.drop i))).2.2 = z at *
        obtain ⟨m, rfl⟩ : ∃ m : Nat, z = m := ⟨z.toNat, by omega⟩
        have hw : (badU bs.length (L0 (i + m))).well = false ∧ (badU bs.length (L0 (i + m))).w = (if bs.length ≤ i + m then 3 else 6) ∧ (badU bs.length (L0 (i + m))).f = (if bs.length ≤ i + m then (bs.length : Int) else ((i + m : Nat) : Int)) := by
          obtain ⟨w1, w2⟩ := wrong_fault bs.length (i + m)
          unfold badU
          unfold faultN at w1 w2
          by_cases q : bs.length ≤ i + m
          · rw [if_pos q] at w1 w2
            rw [if_neg (by rw [w1]; show ¬ (3 : Int) = 5; decide), if_pos q, if_pos q]
            exact ⟨wrong_bad, w1, w2⟩
          · rw [if_neg q] at w1 w2
            rw [if_pos w1, if_neg q, if_neg q]
            exact ⟨rfl, rfl, w2⟩
        show TxE (textL bs k (badU bs.length (L0 (i + (m : Int).toNat))) out) _
        rw [Int.toNat_natCast, textL_bad hw.1]
        refine ⟨hw.1, ?_, ?_⟩
        · rw [hw.2.1]
          by_cases q : bs.length ≤ i + m
          · rw [if_pos q, if_pos (by omega)]
          · rw [if_neg q, if_neg (by omega)]
        · rw [hw.2.2]
          by_cases q : bs.length ≤ i + m
          · rw [if_pos q, if_pos (by omega)]
          · rw [if_neg q, if_neg (by omega)]; show ((i + m : Nat) : Int) = (i : Int) + (m : Int); omega
end Go.Proofs.Ytfphpjinimfhfaa
namespace Go.Proofs.Ytfphpjinimfhfaa
open Go.Proofs.Ytfphpjinimfhfaa.VM Go.RowKit
set_option maxRecDepth 100000
set_option linter.unusedVariables false
set_option linter.unusedSimpArgs false
/-- A token that begins with c, or the fault. -/
def tokR (bs : List UInt8) (i : Nat) (c : UInt8) : Except (Int × Int) Tk :=
  if hasB signs c = true then .ok ⟨Lib.indexByte signs c + 1, i, i + 1, []⟩
  else if c = 34 then (match textR bs (bs.length + 2) (i + 1) [] with | .error f => .error f | .ok q => .ok ⟨7, i, q.2, q.1⟩)
  else if c = 45 ∨ dg c = true then (match numR bs i with | .error e => .error (faultN bs.length e) | .ok j => .ok ⟨8, i, j, (bs.take j).drop i⟩)
  else if c = 116 then (match wordR bs wtrue i with | .error e => .error (faultN bs.length e) | .ok j => .ok ⟨9, i, j, []⟩)
  else if c = 102 then (match wordR bs wfalse i with | .error e => .error (faultN bs.length e) | .ok j => .ok ⟨10, i, j, []⟩)
  else if c = 110 then (match wordR bs wnull i with | .error e => .error (faultN bs.length e) | .ok j => .ok ⟨11, i, j, []⟩)
  else .error (faultN bs.length i)
def TkE (i : Nat) (r : Lx × Int × List UInt8) : Except (Int × Int) Tk → Prop
  | .ok t => r = (L0 t.to, t.k, t.s) ∧ t.fr = i
  | .error f => r.1.well = false ∧ r.1.w = f.1 ∧ r.1.f = f.2
theorem tok_eq (bs : List UInt8) (i : Nat) (c : UInt8) (hc : bs[i]? = some c) : TkE i (tokS bs (L0 i)) (tokR bs i c) := by
  have hlt : i < bs.length := by
    rcases Nat.lt_or_ge i bs.length with q | q
    · exact q
    · rw [List.getElem?_eq_none q] at hc; cases hc
  have hex : ∀ (e : Except Nat Nat) (k : Int) (s : Nat → List UInt8) (p : Lx × Int × List UInt8), p.1 = exL bs e → (∀ j, e = .ok j → p = (L0 j, k, s j)) → TkE i p (match e with | .error e => .error (faultN bs.length e) | .ok j => .ok ⟨k, i, j, s j⟩) := by
    intro e k s p h1 h2
    cases e with
    | ok j => exact ⟨h2 j rfl, rfl⟩
    | error e => exact ⟨by rw [h1]; exact wrong_bad, by rw [h1]; exact (wrong_fault _ _).1, by rw [h1]; exact (wrong_fault _ _).2⟩
  unfold tokS tokR
  rw [may_some hc, show (L0 i).at_ = i from rfl, getD_some hc]
  by_cases h1 : hasB signs c = true
  · rw [if_pos h1, if_pos h1]; exact ⟨rfl, rfl⟩
  rw [if_neg h1, if_neg h1]
  by_cases h2 : c = 34
  · rw [if_pos h2, if_pos h2]
    have ht : textS bs (L0 i) = textL bs (bs.length + 2) (L0 (i + 1)) [] := by
      unfold textS
      rw [must_up (by rw [may_some hc, has_one]; simp [h2])]; rfl
    have := text_eq bs (bs.length + 2) (i + 1) [] (by omega)
    rw [ht]
    cases hr : textR bs (bs.length + 2) (i + 1) [] with
    | ok q =>
      rw [hr] at this
      have e : textL bs (bs.length + 2) (L0 (i + 1)) [] = (L0 q.2, q.1) := this
      rw [e]
      exact ⟨rfl, rfl⟩
    | error f =>
      rw [hr] at this
      exact this
  rw [if_neg h2, if_neg h2]
  have hd : 0 ≤ Lib.indexByte digs c ↔ dg c = true := by
    have := has_digs c
    unfold hasB at this
    rw [← this]; simp
  by_cases h3 : c = 45 ∨ dg c = true
  · rw [if_pos (show c = 45 ∨ 0 ≤ Lib.indexByte digs c from h3.imp_right hd.2), if_pos h3]
    have hn := num_eq bs i
    refine hex (numR bs i) 8 (fun j => (bs.take j).drop i) _ ?_ ?_
    · split <;> exact hn
    · intro j hj
      rw [hj] at hn
      have hn : numS bs (L0 i) = L0 j := hn
      rw [hn, if_pos (show (L0 j).well = true from rfl)]
  rw [if_neg (show ¬ (c = 45 ∨ 0 ≤ Lib.indexByte digs c) from fun q => h3 (q.imp_right hd.1)), if_neg h3]
  by_cases h4 : c = 116
  · rw [if_pos h4, if_pos h4]
    have hw := word_eq bs wtrue i
    exact hex (wordR bs wtrue i) 9 (fun _ => []) _ hw (fun j hj => by rw [hw, hj]; rfl)
  rw [if_neg h4, if_neg h4]
  by_cases h5 : c = 102
  · rw [if_pos h5, if_pos h5]
    have hw := word_eq bs wfalse i
    exact hex (wordR bs wfalse i) 10 (fun _ => []) _ hw (fun j hj => by rw [hw, hj]; rfl)
  rw [if_neg h5, if_neg h5]
  by_cases h6 : c = 110
  · rw [if_pos h6, if_pos h6]
    have hw := word_eq bs wnull i
    exact hex (wordR bs wnull i) 11 (fun _ => []) _ hw (fun j hj => by rw [hw, hj]; rfl)
  rw [if_neg h6, if_neg h6]
  exact ⟨wrong_bad, (wrong_fault _ _).1, (wrong_fault _ _).2⟩
theorem textR_le (bs : List UInt8) : ∀ (k i : Nat) (out : List UInt8) (q : List UInt8 × Nat), i ≤ bs.length → textR bs k i out = .ok q → q.2 ≤ bs.length
  | 0, i, out, q, h, hq => by cases hq
  | k + 1, i, out, q, h, hq => by
    unfold textR at hq
    cases hc : bs[i]? with
    | none => rw [hc] at hq; cases hq
    | some c =>
      have hlt : i < bs.length := by
        rcases Nat.lt_or_ge i bs.length with p | p
        · exact p
        · rw [List.getElem?_eq_none p] at hc; cases hc
      rw [hc] at hq
      dsimp only at hq
      split at hq
      · cases hq; exact hlt
      split at hq
      · cases hq
      split at hq
      · rcases esc_eq bs (i + 1) with ⟨n, j, e1, e2⟩ | ⟨e, e1, e2⟩
        · rw [e1] at hq
          have := esc_le (bs := bs) (x := L0 (i + 1)) hlt
          rw [e2] at this
          exact textR_le bs k j _ q this hq
        · rw [e1] at hq; cases hq
      split at hq
      · cases hq
      · rename_i h0
        refine textR_le bs k _ _ q ?_ hq
        rw [← ib_drop] at h0 ⊢
        by_cases hg : (oneS (ib (bs.drop i))).2.2 < 0
        · obtain ⟨_, _, _, g4, _, _⟩ := one_good (ib_byt (bs.drop i)) hg
          have hlen : (ib (bs.drop i)).length = bs.length - i := by rw [ib_len]; simp
          omega
        · exact absurd (one_bad hg).2.1 h0
theorem tokR_le {bs : List UInt8} {i : Nat} {c : UInt8} {t : Tk} (hi : i < bs.length) (h : tokR bs i c = .ok t) : t.to ≤ bs.length := by
  have hn := num_le (bs := bs) (x := L0 i) (Nat.le_of_lt hi)
  have hw := fun w => fold_le (bs := bs) w (x := L0 i) (Nat.le_of_lt hi)
  have he : ∀ (e : Except Nat Nat) (j : Nat), (exL bs e).at_ ≤ bs.length → e = .ok j → j ≤ bs.length := fun e j h1 h2 => by rw [h2] at h1; exact h1
  have hw' : ∀ w j, wordR bs w i = .ok j → j ≤ bs.length := fun w j hj => he _ j (by rw [← word_eq]; exact hw w) hj
  unfold tokR at h
  split at h
  · cases h; exact hi
  split at h
  · cases hq : textR bs (bs.length + 2) (i + 1) [] with
    | error f => rw [hq] at h; cases h
    | ok q => rw [hq] at h; cases h; exact textR_le bs _ _ _ q hi hq
  split at h
  · cases hq : numR bs i with
    | error f => rw [hq] at h; cases h
    | ok j => rw [hq] at h; cases h; exact he _ j (by rw [← num_eq]; exact hn) hq
  split at h
  · cases hq : wordR bs wtrue i with
    | error f => rw [hq] at h; cases h
    | ok j => rw [hq] at h; cases h; exact hw' _ j hq
  split at h
  · cases hq : wordR bs wfalse i with
    | error f => rw [hq] at h; cases h
    | ok j => rw [hq] at h; cases h; exact hw' _ j hq
  split at h
  · cases hq : wordR bs wnull i with
    | error f => rw [hq] at h; cases h
    | ok j => rw [hq] at h; cases h; exact hw' _ j hq
  · cases h
/-- A byte that may stand between tokens. -/
def gapB (c : UInt8) : Bool := c == 32 || c == 9 || c == 10 || c == 13
theorem has_gaps (c : UInt8) : hasB gaps c = gapB c := all_u8' (p := fun c => hasB gaps c = gapB c) (by decide +kernel) c
/-- The tokens, and the fault. -/
def lexR (bs : List UInt8) : Nat → Nat → List Tk → List Tk × Int × Int
  | 0, _, out => (out, 0, 0)
  | k + 1, i, out => match bs[i]? with
    | none => (out, 0, 0)
    | some c => if gapB c = true then lexR bs k (i + 1) out else match tokR bs i c with
      | .error f => (out, f)
      | .ok t => lexR bs k t.to (out ++ [t])
theorem lexL_gap (bs : List UInt8) (k i : Nat) (out : List Tk) (h : mayB bs gaps (L0 i) = true) : lexL bs (k + 1) (L0 i) out = lexL bs (k + 1) (L0 (i + 1)) out := by
  rw [lexL_step, lexL_step, many_up h]; rfl
theorem lex_eq (bs : List UInt8) : ∀ (k i : Nat) (out : List Tk) (k2 : Nat), i ≤ bs.length → bs.length - i < k → bs.length - i < k2 →
    (lexL bs k2 (L0 i) out).2 = (lexR bs k i out).1 ∧ (lexL bs k2 (L0 i) out).1.w = (lexR bs k i out).2.1 ∧ (lexL bs k2 (L0 i) out).1.f = (lexR bs k i out).2.2
  | 0, i, out, k2, _, h, _ => by omega
  | k + 1, i, out, k2, hi, h, h2 => by
    obtain ⟨m, rfl⟩ : ∃ m, k2 = m + 1 := ⟨k2 - 1, by omega⟩
    cases hc : bs[i]? with
    | none =>
      have hlt : ¬ i < bs.length := fun q => by rw [List.getElem?_eq_getElem q] at hc; cases hc
      have hr : lexR bs (k + 1) i out = (out, 0, 0) := by unfold lexR; rw [hc]
      rw [hr, lexL_step, many_no (may_none hc), if_pos (by show i = bs.length; omega)]
      exact ⟨rfl, rfl, rfl⟩
    | some c =>
      have hlt : i < bs.length := by
        rcases Nat.lt_or_ge i bs.length with q | q
        · exact q
        · rw [List.getElem?_eq_none q] at hc; cases hc
      have hr : lexR bs (k + 1) i out = if gapB c = true then lexR bs k (i + 1) out else match tokR bs i c with
          | .error f => (out, f)
          | .ok t => lexR bs k t.to (out ++ [t]) := by conv => lhs; unfold lexR; rw [hc]
      rw [hr]
      by_cases hg : gapB c = true
      · rw [if_pos hg, lexL_gap bs m i out (by rw [may_some hc, has_gaps]; exact hg)]
        exact lex_eq bs k (i + 1) out (m + 1) (by omega) (by omega) (by omega)
      rw [if_neg hg, lexL_step, many_no (by rw [may_some hc, has_gaps]; simpa using hg), if_neg (by show ¬ i = bs.length; omega)]
      have ht := tok_eq bs i c hc
      have htg := @tok_gt bs (L0 i)
      cases hr2 : tokR bs i c with
      | error f =>
        rw [hr2] at ht
        obtain ⟨a1, a2, a3⟩ := ht
        rw [if_pos a1]
        exact ⟨rfl, a2, a3⟩
      | ok t =>
        rw [hr2] at ht
        obtain ⟨a1, a2⟩ := ht
        rw [a1] at htg ⊢
        have : i < t.to := htg rfl
        have : t.to ≤ bs.length := tokR_le hlt hr2
        rw [if_neg (by simp [L0_well])]
        have := lex_eq bs k t.to (out ++ [t]) m (by omega) (by omega) (by omega)
        have e : (⟨t.k, i, t.to, t.s⟩ : Tk) = t := by rw [← a2]
        show (lexL bs m (L0 t.to) (out ++ [⟨t.k, i, t.to, t.s⟩])).2 = _ ∧ _
        rw [e]
        exact this
/-- The document's lexer is the program's. -/
theorem lexR_eq (bs : List UInt8) : lexR bs (bs.length + 1) 0 [] = ((lexS bs).2, (lexS bs).1.w, (lexS bs).1.f) := by
  obtain ⟨h1, h2, h3⟩ := lex_eq bs (bs.length + 1) 0 [] (bs.length + 1) (by omega) (by omega) (by omega)
  show _ = ((lexL bs (bs.length + 1) (L0 0) []).2, _, _)
  rw [h1]
  show _ = (_, (lexL bs (bs.length + 1) (L0 0) []).1.w, (lexL bs (bs.length + 1) (L0 0) []).1.f)
  rw [h2, h3]
end Go.Proofs.Ytfphpjinimfhfaa
