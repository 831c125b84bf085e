import Derived.Test.YtnbjhgaaollhcaaDoorVMReg2
/-! Regions that draw their order: every order comes to the same. -/
namespace Go.Proofs.YtnbjhgaaollhcaaDoor.VM
set_option linter.unusedSimpArgs false
set_option linter.unusedVariables false
open Go.RowKit

/-- What is fixed of the order, by places. -/
structure Stat (ops : Array Oper) (N : Nat) (l : Nat → Nat) : Prop where
  size : N = ops.size
  lt : ∀ p, p < N → l p < ops.size
  inj : ∀ p q, p < N → q < N → l p = l q → p = q
  surj : ∀ i, i < ops.size → ∃ p, p < N ∧ l p = i
  anc_lt : ∀ p q, p < N → q < N → anc ops (l p) (l q) = true → p < q
  eff : ∀ p q, q < N → p < q → opAt ops isEff (l p) = true → opAt ops isEff (l q) = true → anc ops (l p) (l q) = true
  new : ∀ p q, q < N → p < q → opAt ops isNew (l p) = true → opAt ops isEff (l q) = true → anc ops (l p) (l q) = true
  read : ∀ p q, q < N → p < q → opAt ops isEff (l p) = true → opAt ops isRead (l q) = true → anc ops (l p) (l q) = true
  apart : ∀ p q x y, p < N → q < N → p ≠ q → anc ops (l p) (l q) = false → anc ops (l q) (l p) = false → ops[l p]? = some x → ops[l q]? = some y → x.apart ops y = true
  dst : ∀ p q x y d, p < N → q < N → p ≠ q → ops[l p]? = some x → ops[l q]? = some y → x.dst = some d → y.dst ≠ some d
  again : ∀ p q r x y d, p < N → q < N → r < N → opAt ops isRead (l p) = true → opAt ops isEff (l q) = true → loose ops (l p) (l q) = true → ops[l p]? = some x → ops[l r]? = some y → y.dst = some d → anc ops (l r) (l p) = false → d ∉ x.looksAt ops
  after : ∀ (i : Nat) (x : Oper), ops[i]? = some x → ∀ e ∈ x.after.toList, Region.binds .any e = true → e.on < ops.size
  cls : ∀ p, p < N → opAt ops isEff (l p) = true ∨ opAt ops isNew (l p) = true ∨ opAt ops isRead (l p) = true ∨ opAt ops isPure (l p) = true

theorem nodup_dst : ∀ (l : List Oper), (l.filterMap (·.dst)).Nodup → ∀ (i j : Nat) (x y : Oper) (d : Tmp), i ≠ j → l[i]? = some x → l[j]? = some y → x.dst = some d → y.dst ≠ some d
  | [], _, i, j, x, y, d, _, hx, _, _ => by simp at hx
  | o :: l, h, i, j, x, y, d, hij, hx, hy, hd => by
    intro hd'
    cases i with
    | zero =>
      simp only [List.getElem?_cons_zero, Option.some.injEq] at hx
      subst hx
      cases j with
      | zero => exact hij rfl
      | succ j =>
        rw [List.filterMap_cons_some hd] at h
        have := List.nodup_cons.1 h
        exact this.1 (List.mem_filterMap.2 ⟨y, List.mem_of_getElem? hy, hd'⟩)
    | succ i =>
      cases j with
      | zero =>
        simp only [List.getElem?_cons_zero, Option.some.injEq] at hy
        subst hy
        rw [List.filterMap_cons_some hd'] at h
        have := List.nodup_cons.1 h
        exact this.1 (List.mem_filterMap.2 ⟨x, List.mem_of_getElem? hx, hd⟩)
      | succ j =>
        have h2 : (l.filterMap (·.dst)).Nodup := by
          cases ho : o.dst with
          | none => rwa [List.filterMap_cons_none ho] at h
          | some e => rw [List.filterMap_cons_some ho] at h; exact (List.nodup_cons.1 h).2
        exact nodup_dst l h2 i j x y d (by omega) hx hy hd hd'

theorem stat_of {ops : Array Oper} (h : regOk ops = true) : Stat ops (canon ops).length (fun p => (canon ops).getD p 0) := by
  unfold regOk at h
  simp only [Bool.and_eq_true, decide_eq_true_eq, List.all_eq_true, List.mem_range] at h
  obtain ⟨⟨⟨⟨⟨⟨⟨⟨⟨⟨h1, h2⟩, h3⟩, h3'⟩, h4⟩, h5⟩, h6⟩, h7⟩, h8⟩, h10⟩, h9⟩ := h
  generalize canon ops = L at *
  have hmem : ∀ i, i < ops.size → i ∈ L := fun i hi => by simpa using h3 i hi
  have hlt : ∀ i ∈ L, i < ops.size := h3'
  have hget : ∀ p (hp : p < L.length), L.getD p 0 = L[p] := fun p hp => by simp [List.getD, hp]
  have hidx : ∀ p (hp : p < L.length), L.idxOf (L.getD p 0) = p := by
    intro p hp
    rw [hget p hp]
    exact List.Nodup.idxOf_getElem h2 p hp
  have hl : ∀ p, p < L.length → L.getD p 0 < ops.size := fun p hp => by rw [hget p hp]; exact hlt _ (List.getElem_mem hp)
  have hinj : ∀ p q, p < L.length → q < L.length → L.getD p 0 = L.getD q 0 → p = q := fun p q hp hq e => by rw [← hidx p hp, ← hidx q hq, e]
  have hlta : ∀ p q, p < L.length → q < L.length → anc ops (L.getD p 0) (L.getD q 0) = true → p < q := by
    intro p q hp hq ha
    have := h5 _ (hl q hq) _ (hl p hp)
    simp only [Bool.or_eq_true, Bool.not_eq_true', decide_eq_true_eq] at this
    rcases this with this | this
    · rw [ha] at this; cases this
    · rwa [hidx p hp, hidx q hq] at this
  have h6' : ∀ e j, e < L.length → j < L.length → opAt ops isEff (L.getD e 0) = true →
      (opAt ops isEff (L.getD j 0) = true → j = e ∨ anc ops (L.getD j 0) (L.getD e 0) = true ∨ anc ops (L.getD e 0) (L.getD j 0) = true) ∧
      (opAt ops isNew (L.getD j 0) = true → e < j ∨ anc ops (L.getD j 0) (L.getD e 0) = true) ∧
      (opAt ops isRead (L.getD j 0) = true → loose ops (L.getD j 0) (L.getD e 0) = true → j < e) := by
    intro e j he hj hE
    have := h6 _ (hl e he)
    simp only [Bool.or_eq_true, Bool.not_eq_true', List.all_eq_true, List.mem_range] at this
    rcases this with this | this
    · rw [hE] at this; cases this
    · have := this _ (hl j hj)
      simp only [Bool.and_eq_true, Bool.or_eq_true, Bool.not_eq_true', decide_eq_true_eq, beq_iff_eq, hidx e he, hidx j hj] at this
      obtain ⟨⟨k1, k2⟩, k3⟩ := this
      refine ⟨fun h => ?_, fun h => ?_, fun h h' => ?_⟩
      · rcases k1 with ((k | k) | k) | k
        · rw [h] at k; cases k
        · exact .inl (hinj _ _ hj he k)
        · exact .inr (.inl k)
        · exact .inr (.inr k)
      · rcases k2 with (k | k) | k
        · rw [h] at k; cases k
        · exact .inl k
        · exact .inr k
      · rcases k3 with k | k
        · rw [h, h'] at k; cases k
        · exact k
  refine ⟨h1, hl, hinj, fun i hi => ?_, hlta, fun p q hq hpq hp1 hq1 => ?_, fun p q hq hpq hp1 hq1 => ?_, fun p q hq hpq hp1 hq1 => ?_, fun p q x y hp hq hne a1 a2 hx hy => ?_, fun p q x y d hp hq hne hx hy hd => ?_, fun p q r x y d hp hq hr k1 k2 k3 hx hy hd ha => ?_, fun i x hx e he hb => ?_, fun p hp => ?_⟩
  · obtain ⟨p, hp, e⟩ := List.getElem_of_mem (hmem i hi)
    exact ⟨p, hp, by rw [hget p hp]; exact e⟩
  · have hp : p < L.length := by omega
    rcases (h6' q p hq hp hq1).1 hp1 with h | h | h
    · omega
    · exact h
    · have := hlta _ _ hq hp h; omega
  · have hp : p < L.length := by omega
    rcases (h6' q p hq hp hq1).2.1 hp1 with h | h
    · omega
    · exact h
  · have hp : p < L.length := by omega
    have h3 := (h6' p q hp hq hp1).2.2 hq1
    cases ha : anc ops (L.getD p 0) (L.getD q 0) with
    | true => rfl
    | false =>
      exfalso
      have hb : anc ops (L.getD q 0) (L.getD p 0) = false := by
        cases hb : anc ops (L.getD q 0) (L.getD p 0) with
        | false => rfl
        | true => have := hlta _ _ hq hp hb; omega
      have hne : L.getD q 0 ≠ L.getD p 0 := fun e => by have := hinj _ _ hq hp e; omega
      have := h3 (by unfold loose; simp only [ha, hb, Bool.not_false, Bool.and_true, bne_iff_ne]; exact hne)
      omega
  · have := h7 _ (hl p hp) _ (hl q hq)
    have hne' : L.getD p 0 ≠ L.getD q 0 := fun e => hne (hinj _ _ hp hq e)
    have hlo : loose ops (L.getD p 0) (L.getD q 0) = true := by unfold loose; simp only [a1, a2, Bool.not_false, Bool.and_true, bne_iff_ne]; exact hne'
    rw [hlo, hx, hy] at this
    simpa using this
  · exact nodup_dst ops.toList (by simpa using h8) _ _ x y d (fun e => hne (hinj _ _ hp hq e)) (by simpa using hx) (by simpa using hy) hd
  · have := h9 _ (hl p hp) _ (hl q hq)
    rw [k1, k2, k3] at this
    simp only [Bool.and_self, Bool.not_true, Bool.false_or, List.all_eq_true, List.mem_range] at this
    have := this _ (hl r hr)
    rw [ha, hx, hy] at this
    simp only [Bool.false_or, hd, Bool.not_eq_true'] at this
    simpa using this
  · have := h10 i (Array.getElem?_eq_some_iff.1 hx).1
    rw [hx] at this
    simp only [List.all_eq_true, Bool.or_eq_true, Bool.not_eq_true', decide_eq_true_eq] at this
    rcases this e he with h | h
    · rw [hb] at h; cases h
    · exact h
  · have := h4 _ (hl p hp)
    simp only [Bool.or_eq_true] at this
    rcases this with ((h | h) | h) | h
    · exact .inl h
    · exact .inr (.inl h)
    · exact .inr (.inr (.inl h))
    · exact .inr (.inr (.inr h))
end Go.Proofs.YtnbjhgaaollhcaaDoor.VM
