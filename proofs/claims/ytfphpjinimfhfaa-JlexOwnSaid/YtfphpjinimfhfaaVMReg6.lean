import Derived.Test.YtfphpjinimfhfaaVMReg5
/-! Regions that draw their order: the state behind any operations done so far. -/
namespace Go.Proofs.Ytfphpjinimfhfaa.VM
set_option linter.unusedSimpArgs false
set_option linter.unusedVariables false
set_option linter.unusedSectionVars false
open Go.RowKit
variable [Glob]
section
variable {P : Program} {C : Cfg} {cf : CF} {f : FuncId} {ops : Array Oper} {N n : Nat} {l : Nat → Nat} {o : Nat → Oper} {e : Nat → List AV} {s : Nat → St} {v : Nat → AV} {wn : Nat → Bool} {w0 : World} {F : Nat → Option Blk} {G0 : Gh} {a0 : Act}

structure Inv (ops : Array Oper) (N n : Nat) (l : Nat → Nat) (o : Nat → Oper) (e : Nat → List AV) (s : Nat → St) (v : Nat → AV) (w0 : World) (F : Nat → Option Blk) (G0 : Gh) (a0 : Act) (X : Nat → Bool) (m : Nat) (G : Gh) (a : Act) (w : World) : Prop where
  m_le : m ≤ n
  xn : ∀ p, X p = true → p < n
  closed : ∀ q r, q < N → r < N → X q = true → anc ops (l r) (l q) = true → X r = true
  eff_lt : ∀ p, p < m → opAt ops isEff (l p) = true → X p = true
  eff_ge : ∀ p, m ≤ p → p < n → opAt ops isEff (l p) = true → X p = false
  m_eff : m = 0 ∨ ∃ p, m = p + 1 ∧ opAt ops isEff (l p) = true ∧ X p = true
  er : ER G (ovl n o v (e 0) X) a.tmps
  sr : SR w0 G (ov (s m).mem (fl s (newAt ops l) X F (n - m) m)) w
  ge : GE G0 G (s 0).next (s n).next
  fresh : ∀ p, p < n → X p = false → ∀ k, (s p).next ≤ k → k < (s (p + 1)).next → G.io k = none
  wf : ∀ q, q ≤ m → Wf (s q)
  grow : Grow (s 0) (s m)
  dfr : a.defers = a0.defers

variable (hcf : CFS P cf) (hn : CFN cf) (hS : Stat ops N l) (hnN : n ≤ N) (hH : Hist P C cf f ops (stabOf ops) n l o e s v wn)
include hn hS hnN hH

/-- One more place is done. -/
theorem Inv.adv {X : Nat → Bool} {m : Nat} {G : Gh} {a : Act} {w : World} (hI : Inv ops N n l o e s v w0 F G0 a0 X m G a w) {p : Nat} (hp : p < n) (hX : X p = false) (hanc : ∀ q, q < N → anc ops (l q) (l p) = true → X q = true)
    {m' : Nat} {G' : Gh} {a' : Act} {w' : World} (hg : GE G G' (s p).next (s (p + 1)).next) (her : ER G' (ovl n o v (e 0) (updX X p)) a'.tmps) (hsr : SR w0 G' (ov (s m').mem (fl s (newAt ops l) (updX X p) F (n - m') m')) w') (hd : a'.defers = a.defers)
    (hm : (m' = m ∧ opAt ops isEff (l p) = false) ∨ (m' = p + 1 ∧ opAt ops isEff (l p) = true)) (hwf : ∀ q, q ≤ m' → Wf (s q)) (hgr : Grow (s 0) (s m')) : Inv ops N n l o e s v w0 F G0 a0 (updX X p) m' G' a' w' := by
  have hup : ∀ q, q ≠ p → updX X p q = X q := fun q h => by unfold updX; rw [if_neg h]
  have hself : updX X p p = true := by simp [updX]
  have hkeep : ∀ q, X q = true → updX X p q = true := fun q h => by unfold updX; split; rfl; exact h
  refine ⟨?_, fun q hq => ?_, fun q r hq hr hXq ha => ?_, fun q hq he => ?_, fun q hq hqn he => ?_, ?_, her, hsr, ?_, fun q hq hXq k h1 h2 => ?_, hwf, hgr, hd.trans hI.dfr⟩
  · rcases hm with ⟨rfl, _⟩ | ⟨rfl, _⟩
    · exact hI.m_le
    · omega
  · by_cases h : q = p
    · rw [h]; exact hp
    · rw [hup q h] at hq; exact hI.xn q hq
  · by_cases h : q = p
    · subst h; exact hkeep r (hanc r hr ha)
    · rw [hup q h] at hXq; exact hkeep r (hI.closed q r hq hr hXq ha)
  · rcases hm with ⟨rfl, _⟩ | ⟨rfl, h2⟩
    · exact hkeep q (hI.eff_lt q hq he)
    · by_cases h : q = p
      · rw [h]; exact hself
      · exact hkeep q (hanc q (by omega) (hS.eff q p (by omega) (by omega) he h2))
  · rcases hm with ⟨rfl, h2⟩ | ⟨rfl, h2⟩
    · have : q ≠ p := by rintro rfl; rw [he] at h2; cases h2
      rw [hup q this]; exact hI.eff_ge q hq hqn he
    · rw [hup q (by omega)]
      cases hXq : X q with
      | false => rfl
      | true =>
        have := hI.closed q p (by omega) (by omega) hXq (hS.eff p q (by omega) (by omega) h2 he)
        rw [hX] at this; cases this
  · rcases hm with ⟨rfl, _⟩ | ⟨rfl, h2⟩
    · rcases hI.m_eff with h | ⟨q, h1, h2, h3⟩
      · exact .inl h
      · exact .inr ⟨q, h1, h2, hkeep q h3⟩
    · exact .inr ⟨p, rfl, h2, hself⟩
  · exact hI.ge.widen hg (next_mono hn hH 0 p (by omega) (by omega)) (next_mono hn hH (p + 1) n (by omega) (Nat.le_refl _))
  · have hne : q ≠ p := by rintro rfl; rw [hself] at hXq; cases hXq
    rw [hup q hne] at hXq
    have hout : k < (s p).next ∨ (s (p + 1)).next ≤ k := by
      rcases Nat.lt_or_gt_of_ne hne with h | h
      · have := next_mono hn hH (q + 1) p (by omega) (by omega); omega
      · have := next_mono hn hH (p + 1) q (by omega) (by omega); omega
    rw [hg.new k hout]
    exact hI.fresh q hq hXq k h1 h2

/-- All that was made before an operation that writes is there. -/
theorem Inv.before {X : Nat → Bool} {m : Nat} {G : Gh} {a : Act} {w : World} (hI : Inv ops N n l o e s v w0 F G0 a0 X m G a w) {p : Nat} (hp : p ≤ n) (hpN : p < N) (hX : X p = false) (hanc : ∀ q, q < N → anc ops (l q) (l p) = true → X q = true) (hE : opAt ops isEff (l p) = true) :
    m ≤ p ∧ ov (s m).mem (fl s (newAt ops l) X F (n - m) m) = ov (s p).mem (fl s (newAt ops l) X F (n - p) p) ∧ (∀ q, q ≤ p → Wf (s q)) ∧ Grow (s 0) (s p) := by
  have hmp : m ≤ p := by
    rcases hI.m_eff with h | ⟨q, h1, h2, h3⟩
    · omega
    · rcases Nat.lt_or_ge p m with h | h
      · exfalso
        by_cases e : p = q
        · subst e; rw [hX] at h3; cases h3
        · have hqn := hI.xn q h3
          have := hI.closed q p (by omega) hpN h3 (hS.eff p q (by omega) (by omega) hE h2)
          rw [hX] at this; cases this
      · exact h
  have all : ∀ q, m ≤ q → q < p → opAt ops isEff (l q) = false ∧ (opAt ops isNew (l q) = true → X q = true) := fun q h1 h2 => by
    have hq : q < N := by omega
    refine ⟨?_, fun hnew => hanc q hq (hS.new q p hpN (by omega) hnew hE)⟩
    cases he : opAt ops isEff (l q) with
    | false => rfl
    | true =>
      have h3 := hI.eff_ge q h1 (by omega) he
      rw [hanc q hq (hS.eff q p hpN (by omega) he hE)] at h3; cases h3
  have := glue hn hS hnN hH (X := X) (F := F) m (hI.wf m (Nat.le_refl _)) (p - m) (by omega) (fun q h1 h2 => all q h1 (by omega))
  rw [show m + (p - m) = p by omega] at this
  refine ⟨hmp, this.1, fun q hq => ?_, hI.grow.trans this.2.2⟩
  by_cases hqm : q ≤ m
  · exact hI.wf q hqm
  · have := (glue hn hS hnN hH (X := X) (F := F) m (hI.wf m (Nat.le_refl _)) (q - m) (by omega) (fun r h1 h2 => all r h1 (by omega))).2.1
    rwa [show m + (q - m) = q by omega] at this

/-- A reading finds what it found. -/
theorem Inv.read {X : Nat → Bool} {m : Nat} {G : Gh} {a : Act} {w : World} (hI : Inv ops N n l o e s v w0 F G0 a0 X m G a w) {p : Nat} (hp : p < n) (hX : X p = false) (hanc : ∀ q, q < N → anc ops (l q) (l p) = true → X q = true) (hr : opAt ops isRead (l p) = true) (hwp : wn p = true) :
    ∃ S1, opA P C cf f (e p) S1 (o p) = some (.ret (v p), S1) ∧ ∀ x, readName (ovl n o v (e 0) X) (o p).op = some x → ov (s m).mem (fl s (newAt ops l) X F (n - m) m) x = S1.mem x := by
  have hop := hH.op p hp
  have hpN : p < N := by omega
  have hctx := ctx_eq hS hnN hH hI.xn hI.closed hpN (by omega) hop hX hanc
  have hev := ev_eq hS hnN hH hctx
  have hrun := hH.run p hp hwp
  have hr' := hr
  rw [opAt_eq hop] at hr'
  have hname : readName (ovl n o v (e 0) X) (o p).op = readName (e p) (o p).op := by
    generalize hq : o p = q at hev ⊢
    obtain ⟨dst, op, type, pos, after, guard⟩ := q
    cases op <;> first | rfl | (simp only [readName]; rw [hev _ (by simp [Op.operands])])
  have k1 := (read_supp hr' hrun).1
  rcases Nat.lt_or_ge p m with hlt | hge
  · -- what was written since did not touch it
    have key : ∀ k, p + 1 + k ≤ m → opA P C cf f (e p) (s (p + 1 + k)) (o p) = some (.ret (v p), s (p + 1 + k)) := by
      intro k
      induction k with
      | zero => intro _; rw [k1] at hrun ⊢; simpa [k1] using hrun
      | succ k ih =>
        intro hk
        have ih := ih (by omega)
        have hsup := (read_supp hr' ih).2.2
        generalize hq : p + 1 + k = q at ih hsup
        rw [show p + 1 + (k + 1) = q + 1 by omega]
        have hqm : q < m := by omega
        have hqn : q < n := by have := hI.m_le; omega
        cases he : opAt ops isEff (l q) with
        | false =>
          rcases quiet_step hS hnN hH q hqn he with h4 | ⟨h4, b, h5⟩
          · rw [h4]; exact ih
          · refine hsup _ (fun x hx => ?_)
            obtain ⟨b', hb'⟩ := read_known hr' ih x hx
            have hxl : x < (s q).next := by
              rcases Nat.lt_or_ge x (s q).next with h | h
              · exact h
              · rw [hI.wf q (by omega) x h] at hb'; cases hb'
            rw [h5]
            simp only [St.new, upd]
            rw [if_neg (by omega)]
        | true =>
          cases hwq : wn q with
          | false => rw [(hH.skip q hqn hwq).2]; exact ih
          | true =>
            have hXq := hI.eff_lt q hqm he
            have hl : loose ops (l p) (l q) = true := by
              unfold loose
              have h1 : anc ops (l p) (l q) = false := by
                cases h : anc ops (l p) (l q) with
                | false => rfl
                | true => rw [hI.closed q p (by omega) hpN hXq h] at hX; cases hX
              have h2 : anc ops (l q) (l p) = false := by
                cases h : anc ops (l q) (l p) with
                | false => rfl
                | true => have := hS.anc_lt q p (by omega) hpN h; omega
              have h3 : l p ≠ l q := fun h => by have := hS.inj p q hpN (by omega) h; omega
              simp [h1, h2, h3]
            obtain ⟨q', hq', hst⟩ := hH.stab q hqn hwq (l p) (by
              unfold stabOf
              rw [if_pos he]
              simp only [List.mem_filter, List.mem_range, Bool.and_eq_true]
              exact ⟨hS.lt p hpN, hr, hl⟩)
            rw [hop] at hq'
            cases hq'
            have hlook : ∀ t ∈ (o p).looksAt ops, (e q).getD t .undef = (e p).getD t .undef := by
              intro t ht
              rw [hist_e hS hnN hH q (by omega), hist_e hS hnN hH p (by omega)]
              refine ovl_eq_at t (fun r hr1 hd => ?_)
              by_cases h1 : r < p
              · have : r < q := by omega
                simp [h1, this]
              · by_cases h2 : r < q
                · exfalso
                  refine hS.again p q r (o p) (o r) t hpN (by omega) (by omega) hr he hl hop (hH.op r hr1) hd ?_ ht
                  cases h : anc ops (l r) (l p) with
                  | false => rfl
                  | true => have := hS.anc_lt r p (by omega) hpN h; omega
                · simp [h1, h2]
            have hev2 : ∀ x ∈ (o p).op.operands.toList, evA (e q) x = evA (e p) x := by
              intro x hx
              cases x with
              | tmp t => exact hlook t (List.mem_append_left _ (List.mem_filterMap.2 ⟨.tmp t, hx, rfl⟩))
              | const v => rfl
              | func g => rfl
              | global g => rfl
            have hw2 : wantedA ops (e q) (o p) = some true := by
              rw [wanted_eq (by rw [e_len hH q (by omega), e_len hH p (by omega)]) hlook, hH.want p hp, hwp]
            rcases hst with h | ⟨d, u, S2, _, h1, h2, h3⟩
            · rw [hw2] at h; cases h
            · rw [opA_congr hev2] at h3
              obtain ⟨h4, -, -⟩ := read_supp hr' h3
              subst h4
              obtain ⟨hdl, h5⟩ := List.getElem?_eq_some_iff.1 h2
              have hdl' : d < (e 0).length := by rw [e_len hH q (by omega)] at hdl; exact hdl
              have h6 : (e q).getD d .undef = v p := by
                rw [hist_e hS hnN hH q (by omega), ovl_at _ d hdl']
                rw [find_only (p := p) _ (List.mem_range.2 hp) (by simp [h1]; omega) (fun r hr hf => by
                  simp only [Bool.and_eq_true, decide_eq_true_eq] at hf
                  exact Classical.byContradiction fun hne => hS.dst p r (o p) (o r) d hpN (by have := List.mem_range.1 hr; omega) (Ne.symm hne) hop (hH.op r (List.mem_range.1 hr)) h1 hf.2)]
              have h7 : (e q).getD d .undef = u := by simp [List.getD, h2]
              rw [← h6, h7]; exact h3
    have := key (m - (p + 1)) (by omega)
    rw [show p + 1 + (m - (p + 1)) = m by omega] at this
    refine ⟨s m, this, fun x hx => ?_⟩
    rw [hname] at hx
    obtain ⟨b, hb⟩ := read_known hr' this x hx
    rw [ov_some hb, hb]
  · refine ⟨s p, by rw [k1] at hrun; exact hrun, fun x hx => ?_⟩
    have hx' := hx
    rw [hname] at hx'
    obtain ⟨b, hb⟩ := read_known hr' hrun x hx'
    have hquiet : ∀ q, m ≤ q → q < p → opAt ops isEff (l q) = false := by
      intro q h1 h2
      cases he : opAt ops isEff (l q) with
      | false => rfl
      | true =>
        have h3 := hI.eff_ge q h1 (by omega) he
        rw [hanc q (by omega) (hS.read q p hpN h2 he hr)] at h3; cases h3
    have key : ∀ k, m + k ≤ p → ∀ b, (s (m + k)).mem x = some b → (s m).mem x = some b ∨ ∃ r, m ≤ r ∧ r < m + k ∧ x = (s r).next ∧ (s (r + 1)).next = (s r).next + 1 ∧ newAt ops l r = true ∧ blkAt s (newAt ops l) r = some b := by
      intro k
      induction k with
      | zero => intro _ b hb; exact .inl hb
      | succ k ih =>
        intro hk b hb
        rcases quiet_step hS hnN hH (m + k) (by omega) (hquiet (m + k) (by omega) (by omega)) with h4 | ⟨h4, b', h5⟩
        · rw [show m + (k + 1) = m + k + 1 by omega, h4] at hb
          rcases ih (by omega) b hb with h | ⟨r, h1, h2, h3⟩
          · exact .inl h
          · exact .inr ⟨r, h1, by omega, h3⟩
        · rw [show m + (k + 1) = m + k + 1 by omega, h5] at hb
          simp only [St.new, upd] at hb
          by_cases hxe : x = (s (m + k)).next
          · rw [if_pos hxe] at hb
            refine .inr ⟨m + k, by omega, by omega, hxe, by rw [h5]; rfl, h4, ?_⟩
            unfold blkAt
            rw [if_pos ⟨h4, by rw [h5]; rfl⟩, h5]
            simp [St.new, upd, hb]
          · rw [if_neg hxe] at hb
            rcases ih (by omega) b hb with h | ⟨r, h1, h2, h3⟩
            · exact .inl h
            · exact .inr ⟨r, h1, by omega, h3⟩
    rw [hb]
    rcases key (p - m) (by omega) b (by rw [show m + (p - m) = p by omega]; exact hb) with h | ⟨r, h1, h2, h3, h4, h5, h6⟩
    · exact ov_some h
    · have hmem : (s m).mem x = none := hI.wf m (Nat.le_refl _) x (by rw [h3]; exact next_mono hn hH m r h1 (by omega))
      unfold ov
      rw [hmem]
      simp only
      cases hXr : X r with
      | true => rw [h3]; exact fl_get (next_le hn hH) h6 hXr _ _ h1 (by omega) (by omega)
      | false =>
        exfalso
        have hf := hI.fresh r (by omega) hXr x (by omega) (by omega)
        have : ∃ q, G.io x = some q := by
          generalize hq : o p = q at hx
          obtain ⟨dst, op, type, pos, after, guard⟩ := q
          have nm : ∀ y : Operand, nameOf (evA (ovl n o v (e 0) X) y) = some x → ∃ q, G.io x = some q := by
            intro y hy
            have hv := hI.er.ev y
            generalize evA (ovl n o v (e 0) X) y = z at hy hv
            generalize a.eval y = c at hv
            cases hv <;> simp only [nameOf, Option.some.injEq] at hy <;> first | (cases hy; done) | (subst hy; exact ⟨_, by assumption⟩)
          cases op <;> simp only [readName] at hx <;> first | (cases hx; done) | exact nm _ hx
        obtain ⟨q, hq⟩ := this
        rw [hf] at hq; cases hq

include hcf

theorem Inv.step {X : Nat → Bool} {m : Nat} {G : Gh} {a : Act} {w : World} (hFO : FO (s 0) F (s n).next) (hI : Inv ops N n l o e s v w0 F G0 a0 X m G a w) {p : Nat} (hp : p < n) (hX : X p = false) (hanc : ∀ q, q < N → anc ops (l q) (l p) = true → X q = true)
    {K : Act → World → Prop} {Q : Exit → Act → World → Prop} (hK : ∀ m' G' a' w', Inv ops N n l o e s v w0 F G0 a0 (updX X p) m' G' a' w' → K a' w') : wpOp P ops Q (l p) K a w := by
  have hop := hH.op p hp
  have hpN : p < N := by omega
  have hctx := ctx_eq hS hnN hH hI.xn hI.closed hpN (by omega) hop hX hanc
  have hlen : (e p).length = (ovl n o v (e 0) X).length := by rw [e_len hH p (by omega), ovl_len]
  have hwant : wantedA ops (ovl n o v (e 0) X) (o p) = some (wn p) := by rw [← wanted_eq hlen hctx]; exact hH.want p hp
  have hev := ev_eq hS hnN hH hctx
  have hw := wanted_sim hI.er hwant
  have hput := ovl_put (n := n) (o := o) (v := v) (e0 := e 0) X p hp hX (fun q hq hne d hd => hS.dst p q (o p) (o q) d hpN (by omega) (Ne.symm hne) hop (hH.op q hq) hd)
  have hdef : ∀ c, (a.put (o p).dst c).defers = a.defers := fun c => by cases (o p).dst <;> rfl
  unfold wpOp
  rw [hop]
  simp only
  rw [hw]
  cases hwp : wn p with
  | false =>
    simp only [Bool.false_eq_true, if_false]
    obtain ⟨hv, hs⟩ := hH.skip p hp hwp
    have her : ER G (ovl n o v (e 0) (updX X p)) (a.put (o p).dst Go.undef).tmps := by
      rw [hput, hv]
      exact hI.er.put _ (.tuple [] #[] rfl (fun i hi => by simp at hi))
    have hb : blkAt s (newAt ops l) p = none := by unfold blkAt; rw [if_neg (by rw [hs]; omega)]
    cases hE : opAt ops isEff (l p) with
    | false => exact hK m G _ w (hI.adv hn hS hnN hH hp hX hanc (GE.refl _ _ _) her (by rw [fl_none hb]; exact hI.sr) (hdef _) (.inl ⟨rfl, hE⟩) hI.wf hI.grow)
    | true =>
      obtain ⟨_, h1, h2, h3⟩ := hI.before hn hS hnN hH (by omega) hpN hX hanc hE
      refine hK (p + 1) G _ w (hI.adv hn hS hnN hH hp hX hanc (GE.refl _ _ _) her ?_ (hdef _) (.inr ⟨rfl, hE⟩) (fun q hq => by
        by_cases hqp : q ≤ p
        · exact h2 q hqp
        · rw [show q = p + 1 by omega, hs]; exact h2 p (Nat.le_refl _)) (by rw [hs]; exact h3))
      have := hI.sr
      rw [h1] at this
      rw [show n - p = (n - (p + 1)) + 1 by omega] at this
      rw [fl_none hb, hs]
      rw [fl, hX] at this
      simpa using this
  | true =>
    simp only [if_true]
    refine .inl ?_
    have hrun := hH.run p hp hwp
    have hcongr : ∀ S2, opA P C cf f (e p) S2 (o p) = opA P C cf f (ovl n o v (e 0) X) S2 (o p) := fun S2 => opA_congr hev
    -- everything as a frame
    have hfr : ∀ (nx : Nat), FO ⟨nx, fun _ => none⟩ (ov (s m).mem (fl s (newAt ops l) X F (n - m) m)) nx := fun nx x b hb => ⟨rfl, by simp only; omega⟩
    have hov : ov (fun _ => none) (ov (s m).mem (fl s (newAt ops l) X F (n - m) m)) = ov (s m).mem (fl s (newAt ops l) X F (n - m) m) := rfl
    cases hE : opAt ops isEff (l p) with
    | true =>
      obtain ⟨hmp, h1, h2, h3⟩ := hI.before hn hS hnN hH (by omega) hpN hX hanc hE
      have hsr := hI.sr
      rw [h1, show n - p = (n - (p + 1)) + 1 by omega, fl, hX] at hsr
      simp only [Bool.false_eq_true, if_false] at hsr
      rw [hcongr] at hrun
      have hFO' : FO (s p) (fl s (newAt ops l) X F (n - (p + 1)) (p + 1)) (s (p + 1)).next := by
        intro x b hb
        rcases fl_some _ _ hb with h | ⟨q, q1, q2, _, q3, q4⟩
        · obtain ⟨k1, k2⟩ := hFO x b h
          rcases k2 with k2 | k2
          · exact ⟨h3.old x k2 k1, .inl (by have := h3.next; omega)⟩
          · have := next_mono hn hH (p + 1) n (by omega) (Nat.le_refl _)
            have := next_le hn hH p hp
            exact ⟨h3.free x (by omega), .inr (by omega)⟩
        · have := next_mono hn hH (p + 1) q q1 (by omega)
          have := next_le hn hH p hp
          exact ⟨h2 p (Nat.le_refl _) x (by omega), .inr (by omega)⟩
      refine op_sim hcf hI.er hsr (h2 p (Nat.le_refl _)) hrun hFO' (fun k k1 k2 => hI.fresh p hp hX k k1 k2) (fun c w' G' hv hg hs1 hgr => ?_)
      refine hK (p + 1) G' _ w' (hI.adv hn hS hnN hH hp hX hanc hg (by rw [hput]; exact (hI.er.mono hg).put _ hv) ?_ (hdef _) (.inr ⟨rfl, hE⟩) (fun q hq => by
        by_cases hqp : q ≤ p
        · exact h2 q hqp
        · rw [show q = p + 1 by omega]; exact hgr.wf) (h3.trans hgr))
      rw [fl_congr (Y := X) _ _ (fun q q1 q2 => by unfold updX; rw [if_neg (by omega)])]
      exact hs1
    | false =>
      rcases hS.cls p hpN with h | h | h | h
      · rw [hE] at h; cases h
      · -- it makes a block
        have h' := h
        rw [opAt_eq hop] at h'
        rcases (new_indep h' hrun).2 with ⟨k1, k2⟩ | ⟨b, k1, k2⟩
        · have hrun' := k2 ⟨(s p).next, fun _ => none⟩ rfl
          rw [hcongr] at hrun'
          have hb : blkAt s (newAt ops l) p = none := by unfold blkAt; rw [if_neg (by rw [k1]; omega)]
          refine op_sim hcf hI.er (S := ⟨(s p).next, fun _ => none⟩) (F := ov (s m).mem (fl s (newAt ops l) X F (n - m) m)) (by rw [hov]; exact hI.sr) (fun _ _ => rfl) hrun' (hfr _) (fun k q1 q2 => by simp only at q1 q2; omega) (fun c w' G' hv hg hs1 hgr => ?_)
          exact hK m G' _ w' (hI.adv hn hS hnN hH hp hX hanc (hg.same _ _) (by rw [hput]; exact (hI.er.mono hg).put _ hv) (by rw [fl_none hb]; exact hs1) (hdef _) (.inl ⟨rfl, hE⟩) hI.wf hI.grow)
        · have hrun' := k2 ⟨(s p).next, fun _ => none⟩ rfl
          rw [hcongr] at hrun'
          have hb : blkAt s (newAt ops l) p = some b := by
            unfold blkAt
            rw [if_pos ⟨h, by rw [k1]; rfl⟩, k1]
            simp [St.new, upd]
          have hnx : (s (p + 1)).next = (s p).next + 1 := by rw [k1]; rfl
          have hmp : m ≤ p := by
            rcases hI.m_eff with h0 | ⟨q, h1, h2, h3⟩
            · omega
            · rcases Nat.lt_or_ge p m with hlt | hge
              · exfalso
                have hne : p ≠ q := by rintro rfl; rw [hX] at h3; cases h3
                have hqn := hI.xn q h3
                have := hI.closed q p (by omega) hpN h3 (hS.new p q (by omega) (by omega) h h2)
                rw [hX] at this; cases this
              · exact hge
          have hmem : (s m).mem (s p).next = none := hI.wf m (Nat.le_refl _) _ (next_mono hn hH m p hmp (by omega))
          have hflnone : fl s (newAt ops l) X F (n - m) m (s p).next = none := by
            cases hfl : fl s (newAt ops l) X F (n - m) m (s p).next with
            | none => rfl
            | some x =>
              exfalso
              rcases fl_some _ _ hfl with hF | ⟨q, q1, q2, q5, q3, q4⟩
              · have k3 := (hFO _ _ hF).2
                have k4 := next_mono hn hH 0 p (by omega) (by omega)
                have k5 := next_mono hn hH (p + 1) n (by omega) (Nat.le_refl _)
                omega
              · have hne : q ≠ p := by rintro rfl; rw [hX] at q5; cases q5
                have hbq := blk_next q3
                rcases Nat.lt_or_gt_of_ne hne with hlt | hgt
                · have := next_mono hn hH (q + 1) p (by omega) (by omega); omega
                · have := next_mono hn hH (p + 1) q (by omega) (by omega); omega
          have hFO' : FO ⟨(s p).next, fun _ => none⟩ (ov (s m).mem (fl s (newAt ops l) X F (n - m) m)) (St.new ⟨(s p).next, fun _ => none⟩ b).next := by
            intro x b' hb'
            refine ⟨rfl, ?_⟩
            show x < (s p).next ∨ (s p).next + 1 ≤ x
            by_cases hx : x = (s p).next
            · subst hx
              simp [ov, hmem, hflnone] at hb'
            · omega
          refine op_sim hcf hI.er (S := ⟨(s p).next, fun _ => none⟩) (F := ov (s m).mem (fl s (newAt ops l) X F (n - m) m)) (by rw [hov]; exact hI.sr) (fun _ _ => rfl) hrun' hFO' (fun k q1 q2 => hI.fresh p hp hX k q1 (by rw [hnx]; exact q2)) (fun c w' G' hv hg hs1 hgr => ?_)
          refine hK m G' _ w' (hI.adv hn hS hnN hH hp hX hanc (by rw [hnx]; exact hg) (by rw [hput]; exact (hI.er.mono hg).put _ hv) ?_ (hdef _) (.inl ⟨rfl, hE⟩) hI.wf hI.grow)
          rw [fl_insert (next_le hn hH) hb hX hp _ _ hmp (by omega) (by omega)]
          have heq : ov (St.new ⟨(s p).next, fun _ => none⟩ b).mem (ov (s m).mem (fl s (newAt ops l) X F (n - m) m)) = ov (s m).mem (upd (fl s (newAt ops l) X F (n - m) m) (s p).next (some b)) := by
            funext x
            by_cases hx : x = (s p).next
            · subst hx; simp [ov, St.new, upd, hmem]
            · simp [ov, St.new, upd, hx]
          rw [← heq]; exact hs1
      · -- it reads
        have h' := h
        rw [opAt_eq hop] at h'
        obtain ⟨k1, _, k2⟩ := read_supp h' hrun
        have hb : blkAt s (newAt ops l) p = none := by unfold blkAt; rw [if_neg (by rw [k1]; omega)]
        obtain ⟨S1, hr1, hsup⟩ := hI.read hn hS hnN hH hp hX hanc h hwp
        rw [hcongr] at hr1
        have hr1' := (read_supp h' hr1).2.2
        let nm := readName (ovl n o v (e 0) X) (o p).op
        let R := ov (s m).mem (fl s (newAt ops l) X F (n - m) m)
        let S2 : St := ⟨match nm with | some x => x + 1 | none => 0, fun x => if nm = some x then S1.mem x else none⟩
        let F2 : Nat → Option Blk := fun x => if nm = some x then none else R x
        have hov2 : ov S2.mem F2 = R := by
          funext x
          by_cases hx : nm = some x
          · have h1 := hsup x hx
            obtain ⟨b, hb'⟩ := read_known h' hr1 x hx
            simp only [ov, S2, F2, if_pos hx, hb']
            rw [hb'] at h1; exact h1.symm
          · simp only [ov, S2, F2, if_neg hx]
        have hrun2 := hr1' S2 (fun x hx => by simp only [S2]; rw [if_pos hx])
        have hwf2 : Wf S2 := by
          intro x hx
          simp only [S2] at hx ⊢
          rw [if_neg]
          intro hnx
          rw [hnx] at hx
          simp only at hx; omega
        refine op_sim hcf hI.er (S := S2) (F := F2) (by rw [hov2]; exact hI.sr) hwf2 hrun2 (fun x b hb' => ?_) (fun k q1 q2 => absurd (Nat.lt_of_le_of_lt q1 q2) (Nat.lt_irrefl _)) (fun c w' G' hv hg hs1 hgr => ?_)
        · refine ⟨?_, by omega⟩
          simp only [F2] at hb'
          by_cases hx : nm = some x
          · rw [if_pos hx] at hb'; cases hb'
          · simp only [S2]; rw [if_neg hx]
        · exact hK m G' _ w' (hI.adv hn hS hnN hH hp hX hanc (hg.same _ _) (by rw [hput]; exact (hI.er.mono hg).put _ hv) (by rw [fl_none hb]; rw [hov2] at hs1; exact hs1) (hdef _) (.inl ⟨rfl, hE⟩) hI.wf hI.grow)
      · -- it looks at its operands alone
        have h' := h
        rw [opAt_eq hop] at h'
        obtain ⟨k1, _, k2⟩ := pure_indep h' hrun
        have hrun' := k2 ⟨(s p).next, fun _ => none⟩
        rw [hcongr] at hrun'
        have hb : blkAt s (newAt ops l) p = none := by unfold blkAt; rw [if_neg (by rw [k1]; omega)]
        refine op_sim hcf hI.er (S := ⟨(s p).next, fun _ => none⟩) (F := ov (s m).mem (fl s (newAt ops l) X F (n - m) m)) (by rw [hov]; exact hI.sr) (fun _ _ => rfl) hrun' (hfr _) (fun k q1 q2 => by simp only at q1 q2; omega) (fun c w' G' hv hg hs1 hgr => ?_)
        exact hK m G' _ w' (hI.adv hn hS hnN hH hp hX hanc (hg.same _ _) (by rw [hput]; exact (hI.er.mono hg).put _ hv) (by rw [fl_none hb]; exact hs1) (hdef _) (.inl ⟨rfl, hE⟩) hI.wf hI.grow)
end
end Go.Proofs.Ytfphpjinimfhfaa.VM
