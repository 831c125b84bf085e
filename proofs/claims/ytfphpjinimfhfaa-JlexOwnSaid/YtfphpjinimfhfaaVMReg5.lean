import Derived.Test.YtfphpjinimfhfaaVMReg4
/-! Regions that draw their order: one step, whichever comes. -/
namespace Go.Proofs.Ytfphpjinimfhfaa.VM
set_option linter.unusedSimpArgs false
set_option linter.unusedVariables false
set_option linter.unusedSectionVars false
open Go.RowKit
variable [Glob]

theorem GE.same {G G' : Gh} {x : Nat} (h : GE G G' x x) (a b : Nat) : GE G G' a b := ⟨h.io, h.M, h.sz, fun n _ => h.new n (by omega)⟩
theorem GE.widen {G0 G G' : Gh} {lo hi a b : Nat} (h : GE G0 G lo hi) (k : GE G G' a b) (h1 : lo ≤ a) (h2 : b ≤ hi) : GE G0 G' lo hi :=
  ⟨fun n p hp => k.io n p (h.io n p hp), fun b o v hp => k.M b o v (h.M b o v hp), fun b m hp => k.sz b m (h.sz b m hp), fun n hn => by rw [k.new n (by omega), h.new n hn]⟩

section
variable {P : Program} {C : Cfg} {cf : CF} {f : FuncId} {ops : Array Oper} {stab : Nat → List Nat} {N n : Nat} {l : Nat → Nat} {o : Nat → Oper} {e : Nat → List AV} {s : Nat → St} {v : Nat → AV} {wn : Nat → Bool}

theorem hist_e (hS : Stat ops N l) (hnN : n ≤ N) (hH : Hist P C cf f ops stab n l o e s v wn) : ∀ p, p ≤ n → e p = ovl n o v (e 0) (fun q => decide (q < p))
  | 0, _ => (ovl_none _ (fun p _ => by simp)).symm
  | p + 1, h => by
    rw [hH.env p (by omega), hist_e hS hnN hH p (by omega)]
    rw [← ovl_put (n := n) (o := o) (v := v) _ p (by omega) (by simp) (fun q hq hne d hd => hS.dst p q (o p) (o q) d (by omega) (by omega) (Ne.symm hne) (hH.op p (by omega)) (hH.op q hq) hd)]
    congr 1
    funext q
    unfold updX
    by_cases e : q = p
    · subst e; simp
    · rw [if_neg e]
      have : (q < p) ↔ (q < p + 1) := by omega
      simp [this]

theorem ctx_eq (hS : Stat ops N l) (hnN : n ≤ N) (hH : Hist P C cf f ops stab n l o e s v wn) {X : Nat → Bool} (hXn : ∀ q, X q = true → q < n) (hcl : ∀ q r, q < N → r < N → X q = true → anc ops (l r) (l q) = true → X r = true)
    {p : Nat} (hp : p < N) (hpn : p ≤ n) (hop : ops[l p]? = some (o p)) (hX : X p = false) (hanc : ∀ q, q < N → anc ops (l q) (l p) = true → X q = true) :
    ∀ t ∈ (o p).looksAt ops, (e p).getD t .undef = (ovl n o v (e 0) X).getD t .undef := by
  intro t ht
  rw [hist_e hS hnN hH p hpn]
  refine ovl_eq_at t (fun q hq hd => ?_)
  have hqN : q < N := by omega
  cases h1 : anc ops (l q) (l p) with
  | true =>
    rw [hanc q hqN h1]
    simpa using hS.anc_lt q p hqN hp h1
  | false =>
    cases h2 : anc ops (l p) (l q) with
    | true =>
      have hlt := hS.anc_lt p q hp hqN h2
      have : X q = false := by
        cases hq' : X q with
        | false => rfl
        | true => rw [hcl q p hqN hp hq' h2] at hX; cases hX
      rw [this]
      simp; omega
    | false =>
      by_cases e : q = p
      · subst e; rw [hX]; simp
      · exfalso
        have := hS.apart q p (o q) (o p) hqN hp e h1 h2 (hH.op q hq) hop
        exact (Oper.apart_spec this).1 t hd ht

theorem ev_eq (hS : Stat ops N l) (hnN : n ≤ N) (hH : Hist P C cf f ops stab n l o e s v wn) {X : Nat → Bool} {p : Nat} (h : ∀ t ∈ (o p).looksAt ops, (e p).getD t .undef = (ovl n o v (e 0) X).getD t .undef) :
    ∀ x ∈ (o p).op.operands.toList, evA (e p) x = evA (ovl n o v (e 0) X) x := by
  intro x hx
  cases x with
  | tmp t => exact h t (List.mem_append_left _ (List.mem_filterMap.2 ⟨.tmp t, hx, rfl⟩))
  | const v => rfl
  | func g => rfl
  | global g => rfl

theorem wanted_eq {ops : Array Oper} {e1 e2 : List AV} {q : Oper} (hl : e1.length = e2.length) (h : ∀ t ∈ q.looksAt ops, e1.getD t .undef = e2.getD t .undef) : wantedA ops e1 q = wantedA ops e2 q := by
  unfold wantedA
  cases hg : q.guard with
  | none => rfl
  | some jw =>
    obtain ⟨j, want⟩ := jw
    simp only
    cases hj : ops[j]? with
    | none => rfl
    | some r =>
      simp only
      cases hd : r.dst with
      | none => rfl
      | some d =>
        simp only
        have := h d (List.mem_append_right _ (by simp [hg, hj, hd]))
        have e : e1[d]? = e2[d]? := by
          by_cases hlt : d < e1.length
          · have hlt2 : d < e2.length := hl ▸ hlt
            rw [List.getElem?_eq_getElem hlt, List.getElem?_eq_getElem hlt2]
            simpa [List.getD, hlt, hlt2] using this
          · rw [List.getElem?_eq_none (Nat.le_of_not_lt hlt), List.getElem?_eq_none (hl ▸ Nat.le_of_not_lt hlt)]
        rw [e]

theorem e_len (hH : Hist P C cf f ops stab n l o e s v wn) : ∀ p, p ≤ n → (e p).length = (e 0).length
  | 0, _ => rfl
  | p + 1, h => by
    rw [hH.env p (by omega), ← e_len hH p (by omega)]
    unfold putA
    split <;> simp

theorem next_le (hn : CFN cf) (hH : Hist P C cf f ops stab n l o e s v wn) (p : Nat) (hp : p < n) : (s p).next ≤ (s (p + 1)).next := by
  cases hw : wn p with
  | true => exact opA_next hn (hH.run p hp hw)
  | false => rw [(hH.skip p hp hw).2]; exact Nat.le_refl _
theorem next_mono (hn : CFN cf) (hH : Hist P C cf f ops stab n l o e s v wn) (a c : Nat) (hac : a ≤ c) (hcn : c ≤ n) : (s a).next ≤ (s c).next := by
  induction c with
  | zero => rw [show a = 0 by omega]; exact Nat.le_refl _
  | succ c ih =>
    by_cases e : a = c + 1
    · subst e; exact Nat.le_refl _
    · exact Nat.le_trans (ih (by omega) (by omega)) (next_le hn hH c (by omega))

theorem opAt_eq {p : Op → Bool} {i : Nat} {q : Oper} (h : ops[i]? = some q) : opAt ops p i = p q.op := by simp [opAt, h]

/-- What writes nothing makes at most one block. -/
theorem quiet_step (hS : Stat ops N l) (hnN : n ≤ N) (hH : Hist P C cf f ops stab n l o e s v wn) (p : Nat) (hp : p < n) (he : opAt ops isEff (l p) = false) : s (p + 1) = s p ∨ (opAt ops isNew (l p) = true ∧ ∃ b, s (p + 1) = (s p).new b) := by
  cases hw : wn p with
  | false => exact .inl (hH.skip p hp hw).2
  | true =>
    have hr := hH.run p hp hw
    have ho := hH.op p hp
    rcases hS.cls p (by omega) with h | h | h | h
    · rw [he] at h; cases h
    · rw [opAt_eq ho] at h
      rcases (new_indep h hr).2 with ⟨h1, _⟩ | ⟨b, h1, _⟩
      · exact .inl h1
      · exact .inr ⟨by rw [opAt_eq ho]; exact h, b, h1⟩
    · rw [opAt_eq ho] at h; exact .inl (read_supp h hr).1
    · rw [opAt_eq ho] at h; exact .inl (pure_indep h hr).1

abbrev newAt (ops : Array Oper) (l : Nat → Nat) : Nat → Bool := fun p => opAt ops isNew (l p)

theorem glue (hn : CFN cf) (hS : Stat ops N l) (hnN : n ≤ N) (hH : Hist P C cf f ops stab n l o e s v wn) {X : Nat → Bool} {F : Nat → Option Blk} (m : Nat) (hwf : Wf (s m)) : ∀ (k : Nat), m + k ≤ n →
    (∀ q, m ≤ q → q < m + k → opAt ops isEff (l q) = false ∧ (opAt ops isNew (l q) = true → X q = true)) →
    ov (s m).mem (fl s (newAt ops l) X F (n - m) m) = ov (s (m + k)).mem (fl s (newAt ops l) X F (n - (m + k)) (m + k)) ∧ Wf (s (m + k)) ∧ Grow (s m) (s (m + k))
  | 0, _, _ => ⟨rfl, hwf, Grow.refl hwf⟩
  | k + 1, hk, h => by
    obtain ⟨h1, h2, h3⟩ := glue hn hS hnN hH (F := F) m hwf k (by omega) (fun q a b => h q a (by omega))
    rw [h1]
    have hq := h (m + k) (by omega) (by omega)
    have hlen : n - (m + k) = (n - (m + (k + 1))) + 1 := by omega
    rw [hlen]
    show ov (s (m + k)).mem (fl s (newAt ops l) X F ((n - (m + (k + 1))) + 1) (m + k)) = ov (s (m + k + 1)).mem (fl s (newAt ops l) X F (n - (m + (k + 1))) (m + k + 1)) ∧ Wf (s (m + k + 1)) ∧ Grow (s m) (s (m + k + 1))
    rcases quiet_step hS hnN hH (m + k) (by omega) hq.1 with h4 | ⟨h4, b, h5⟩
    · have hb : blkAt s (newAt ops l) (m + k) = none := by
        unfold blkAt
        rw [if_neg (by rw [h4]; omega)]
      refine ⟨?_, by rw [h4]; exact h2, by rw [h4]; exact h3⟩
      rw [fl, hb, h4]
      simp
    · have hb : blkAt s (newAt ops l) (m + k) = some b := by
        unfold blkAt
        rw [if_pos ⟨h4, by rw [h5]; rfl⟩, h5]
        simp [St.new, upd]
      refine ⟨?_, by rw [h5]; exact (grow_new h2 b).wf, by rw [h5]; exact h3.trans (grow_new h2 b)⟩
      rw [fl, hb, if_pos (hq.2 h4), h5]
      funext x
      by_cases e : x = (s (m + k)).next
      · subst e
        simp [ov, upd, St.new, h2 _ (Nat.le_refl _)]
      · simp [ov, upd, St.new, e]
end
end Go.Proofs.Ytfphpjinimfhfaa.VM
