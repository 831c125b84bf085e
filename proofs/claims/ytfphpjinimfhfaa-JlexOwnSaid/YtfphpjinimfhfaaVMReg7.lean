import Derived.Test.YtfphpjinimfhfaaVMReg6
/-! Regions that draw their order: all orders come to the same. -/
namespace Go.Proofs.Ytfphpjinimfhfaa.VM
set_option linter.unusedSimpArgs false
set_option linter.unusedVariables false
set_option linter.unusedSectionVars false
open Go.RowKit
variable [Glob]

theorem listed_ne {listed : Array Bool} {i j : Nat} (d : Bool) (h : i ≠ j) : (listed.setIfInBounds i true).getD j d = listed.getD j d := by
  simp only [Array.getD_eq_getD_getElem?]; rw [Array.getElem?_setIfInBounds_ne h]
theorem listed_self {listed : Array Bool} {i : Nat} (d : Bool) (h : i < listed.size) : (listed.setIfInBounds i true).getD i d = true := by
  simp [Array.getD_eq_getD_getElem?, h]
theorem listed_d {listed : Array Bool} {i : Nat} (h : i < listed.size) (a b : Bool) : listed.getD i a = listed.getD i b := by
  simp [Array.getD_eq_getD_getElem?, h]

/-- How many are still to be done. -/
def left (listed : Array Bool) (N : Nat) : Nat := (List.range N).countP (fun i => !listed.getD i true)

theorem left_set {listed : Array Bool} {N i : Nat} (hi : i < N) (hs : N ≤ listed.size) (h : listed.getD i true = false) : left (listed.setIfInBounds i true) N + 1 ≤ left listed N := by
  unfold left
  have key : ∀ (L : List Nat), L.Nodup → i ∈ L → L.countP (fun j => !(listed.setIfInBounds i true).getD j true) + 1 ≤ L.countP (fun j => !listed.getD j true) := by
    have same : ∀ (L : List Nat), i ∉ L → L.countP (fun j => !(listed.setIfInBounds i true).getD j true) = L.countP (fun j => !listed.getD j true) := by
      intro L hL
      refine List.countP_congr (fun j hj => ?_)
      rw [listed_ne true (by rintro rfl; exact hL hj)]
    intro L
    induction L with
    | nil => intro _ h; cases h
    | cons x L ih =>
      intro hn hm
      obtain ⟨h1, h2⟩ := List.nodup_cons.1 hn
      rw [List.countP_cons, List.countP_cons]
      by_cases e : x = i
      · subst e
        rw [same L h1, listed_self true (by omega), h]
        simp
      · rw [listed_ne true (Ne.symm e)]
        have := ih h2 (by rcases List.mem_cons.1 hm with h | h; exact absurd h.symm e; exact h)
        omega
  exact key _ List.nodup_range (List.mem_range.2 hi)

section
variable {P : Program} {C : Cfg} {cf : CF} {f : FuncId} {ops : Array Oper} {N n : Nat} {l : Nat → Nat} {o : Nat → Oper} {e : Nat → List AV} {s : Nat → St} {v : Nat → AV} {wn : Nat → Bool} {w0 : World} {F : Nat → Option Blk} {G0 : Gh} {a0 : Act}
variable (hcf : CFS P cf) (hn : CFN cf) (hS : Stat ops N l) (hnN : n ≤ N) (hH : Hist P C cf f ops (stabOf ops) n l o e s v wn)

def doneX (n : Nat) (l : Nat → Nat) (listed : Array Bool) : Nat → Bool := fun p => decide (p < n) && listed.getD (l p) false

include hcf hn hS hnN hH
theorem any_sim {Q : Exit → Act → World → Prop} (hFO : FO (s 0) F (s n).next)
    (hfin : n = N → ∀ X m G a w, (∀ p, p < N → X p = true) → Inv ops N n l o e s v w0 F G0 a0 X m G a w → Q .normal a w)
    (hpan : n < N → (∀ p, n < p → p < N → anc ops (l n) (l p) = true) ∧ ∀ X m G a w K, Inv ops N n l o e s v w0 F G0 a0 X m G a w → X n = false → (∀ q, q < N → anc ops (l q) (l n) = true → X q = true) → wpOp P ops Q (l n) K a w) :
    ∀ (fuel : Nat) (listed : Array Bool) (m : Nat) (G : Gh) (a : Act) (w : World), listed.size = ops.size → left listed ops.size ≤ fuel → (∀ p, n ≤ p → p < N → listed.getD (l p) false = false) → Inv ops N n l o e s v w0 F G0 a0 (doneX n l listed) m G a w → wpAny P .any ops Q fuel listed a w := by
  have hdone : ∀ (listed : Array Bool) (m : Nat) (G : Gh) (a : Act) (w : World), listed.size = ops.size → (∀ p, n ≤ p → p < N → listed.getD (l p) false = false) → Inv ops N n l o e s v w0 F G0 a0 (doneX n l listed) m G a w → Region.ready .any ops listed = [] → Q .normal a w := by
    intro listed m G a w hsz hlate hI hr
    have hall : ∀ p, p < N → listed.getD (l p) false = true := by
      intro p
      induction p using Nat.strongRecOn with
      | _ p ih =>
        intro hp
        cases hl : listed.getD (l p) false with
        | true => rfl
        | false =>
          exfalso
          have hlt := hS.lt p hp
          have hmem : l p ∈ Region.ready .any ops listed := by
            refine mem_ready.2 ⟨by rw [listed_d (by omega) true false]; exact hl, ops[l p], by simp [hlt], fun ed he hb => ?_⟩
            have hop : ops[l p]? = some ops[l p] := by simp [hlt]
            obtain ⟨q, hq, e1⟩ := hS.surj _ (hS.after _ _ hop ed (by simpa using he) hb)
            have ha : anc ops (l q) (l p) = true := (anc_spec hop (l q)).2 ⟨ed, by simpa using he, hb, .inl e1.symm⟩
            rw [← e1]
            exact ih q (hS.anc_lt q p hq hp ha) hq
          rw [hr] at hmem; cases hmem
    have hnn : n = N := by
      rcases Nat.lt_or_ge n N with h | h
      · have := hlate n (Nat.le_refl _) h
        rw [hall n h] at this; cases this
      · omega
    exact hfin hnn _ m G a w (fun p hp => by simp [doneX, hall p hp]; omega) hI
  have hready : ∀ (listed : Array Bool) (m : Nat) (G : Gh) (a : Act) (w : World), listed.size = ops.size → (∀ p, n ≤ p → p < N → listed.getD (l p) false = false) → Inv ops N n l o e s v w0 F G0 a0 (doneX n l listed) m G a w → ∀ i ∈ Region.ready .any ops listed,
      ∃ p, p ≤ n ∧ p < N ∧ l p = i ∧ listed.getD i true = false ∧ doneX n l listed p = false ∧ ∀ q, q < N → anc ops (l q) (l p) = true → doneX n l listed q = true := by
    intro listed m G a w hsz hlate hI i hi
    obtain ⟨h0, oi, hoi, hall⟩ := mem_ready.1 hi
    have hlt := (Array.getElem?_eq_some_iff.1 hoi).1
    obtain ⟨p, hp, e1⟩ := hS.surj i hlt
    have hlf : listed.getD (l p) false = false := by rw [e1, listed_d (by omega) false true]; exact h0
    have hbef : ∀ q, q < N → listed.getD (l q) false = true → q < n := fun q hq h => by
      rcases Nat.lt_or_ge q n with h' | h'
      · exact h'
      · rw [hlate q h' hq] at h; cases h
    have hanc : ∀ q, q < N → anc ops (l q) (l p) = true → doneX n l listed q = true := by
      intro q hq ha
      rw [e1] at ha
      obtain ⟨ed, he, hb, h⟩ := (anc_spec hoi (l q)).1 ha
      have h1 := hall ed (by simpa using he) hb
      rcases h with h | ⟨_, h⟩
      · rw [h] at h1
        simp [doneX, h1, hbef q hq h1]
      · obtain ⟨r, hr, e2⟩ := hS.surj _ (hS.after _ _ hoi ed he hb)
        rw [← e2] at h1 h
        exact hI.closed r q hr hq (by simp [doneX, h1, hbef r hr h1]) h
    refine ⟨p, ?_, hp, e1, h0, by simp [doneX, hlf], hanc⟩
    rcases Nat.lt_or_ge n p with h | h
    · have := hanc n (by omega) ((hpan (by omega)).1 p h hp)
      simp [doneX] at this
    · exact h
  intro fuel
  induction fuel with
  | zero =>
    intro listed m G a w hsz hc hlate hI
    have hr : Region.ready .any ops listed = [] := by
      cases hr : Region.ready .any ops listed with
      | nil => rfl
      | cons i t =>
        exfalso
        have hi : i ∈ Region.ready .any ops listed := by rw [hr]; exact List.mem_cons_self
        obtain ⟨p, h1, h2, h3, h4, _⟩ := hready listed m G a w hsz hlate hI i hi
        have := left_set (N := ops.size) (by rw [← h3]; exact hS.lt p h2) (by omega) h4
        omega
    exact ⟨hr, hdone listed m G a w hsz hlate hI hr⟩
  | succ fuel ih =>
    intro listed m G a w hsz hc hlate hI
    refine ⟨hdone listed m G a w hsz hlate hI, fun i hi => ?_⟩
    obtain ⟨p, h1, h2, h3, h4, h5, h6⟩ := hready listed m G a w hsz hlate hI i hi
    subst h3
    rcases Nat.lt_or_ge p n with h | h
    · refine hI.step hcf hn hS hnN hH hFO h h5 h6 (fun m' G' a' w' hI' => ?_)
      have hls := left_set (N := ops.size) (hS.lt p h2) (by omega) h4
      refine ih _ m' G' a' w' (by simpa using hsz) (by omega) (fun q hq1 hq2 => ?_) ?_
      · rw [listed_ne false (fun e1 => by have := hS.inj p q h2 hq2 e1; omega)]
        exact hlate q hq1 hq2
      · have : doneX n l (listed.setIfInBounds (l p) true) = updX (doneX n l listed) p := by
          funext q
          unfold doneX updX
          by_cases e1 : q = p
          · subst e1
            rw [listed_self false (by rw [hsz]; exact hS.lt q h2)]
            simp [h]
          · rw [if_neg e1]
            by_cases hq : q < n
            · rw [listed_ne false (fun e2 => e1 (hS.inj q p (by omega) h2 e2.symm))]
            · simp [hq]
        rw [this]; exact hI'
    · have : p = n := by omega
      subst this
      exact (hpan h2).2 _ m G a w _ hI h5 h6
end

section
variable {P : Program} {C : Cfg} {cf : CF} {f : FuncId}

theorem fl_not {s : Nat → St} {new X : Nat → Bool} {F : Nat → Option Blk} (h : ∀ p, X p = false) : ∀ (k p : Nat), fl s new X F k p = F
  | 0, _ => rfl
  | k + 1, p => by unfold fl; rw [h p, fl_not h k (p + 1)]; simp

/-- What is owed for regions that draw their order. -/
theorem reg_sim (hm : P.follows .mixedOrders = true) (hcf : CFS P cf) (hn : CFN cf) : RegS P C cf f := by
  intro w0 F id ops Q env S a w G out env' S' hok h he hs hwf hFO hFN hp
  have hS := stat_of hok
  refine wp_region_any hm ?_
  have hs' : SR w0 G (ov S.mem F) { w with drawn := w.drawn + 1 } := hs.drawn _
  generalize hL : canon ops = L at *
  generalize hw1 : ({ w with drawn := w.drawn + 1 } : World) = w1 at *
  -- the start
  have start : ∀ (n : Nat) (o : Nat → Oper) (e : Nat → List AV) (s : Nat → St) (v : Nat → AV) (wn : Nat → Bool), Hist P C cf f ops (stabOf ops) n (fun p => L.getD p 0) o e s v wn → n ≤ L.length → e 0 = env → s 0 = S → (s n).next ≤ S'.next →
      Inv ops L.length n (fun p => L.getD p 0) o e s v w0 F G a (doneX n (fun p => L.getD p 0) (Array.replicate ops.size false)) 0 G a w1 := by
    intro n o e s v wn hH hnL e0 e1 e2
    have hX : ∀ p, doneX n (fun p => L.getD p 0) (Array.replicate ops.size false) p = false := by
      intro p
      simp only [doneX, Array.getD_eq_getD_getElem?, Array.getElem?_replicate]
      split <;> simp
    refine ⟨Nat.zero_le _, fun p h => ?_, fun q r _ _ h => ?_, fun p h => by omega, fun p _ _ _ => hX p, .inl rfl, ?_, ?_, GE.refl _ _ _, fun p hp _ k h1 h2 => ?_, fun q hq => ?_, ?_, rfl⟩
    · rw [hX] at h; cases h
    · rw [hX] at h; cases h
    · rw [ovl_none _ (fun p _ => hX p), e0]; exact he
    · rw [fl_not hX, e1]; exact hs'
    · refine hFN k ?_ ?_
      · have := next_mono hn hH 0 p (by omega) (by omega); rw [e1] at this; omega
      · have := next_mono hn hH (p + 1) n (by omega) (Nat.le_refl _); omega
    · rw [show q = 0 by omega, e1]; exact hwf
    · rw [e1]; exact Grow.refl hwf
  have hleft : left (Array.replicate ops.size false) ops.size ≤ ops.size := by
    unfold left
    exact Nat.le_trans List.countP_le_length (by simp)
  have hrep : ∀ (i : Nat), (Array.replicate ops.size false).getD i false = false := by
    intro i
    simp only [Array.getD_eq_getD_getElem?, Array.getElem?_replicate]
    split <;> rfl
  rcases hist_of L h with ⟨rfl, o, e, s, v, wn, hH, q1, q2, q3, q4⟩ | ⟨pv, n, o, e, s, v, wn, rfl, hnL, hH, q1, q2, q3, q5, q6, q7, q8⟩
  · refine any_sim hcf hn hS (Nat.le_refl _) hH (F := F) (by rw [q2, q4]; exact hFO) (fun _ X m G' a' w' hX hI => ?_) (fun hlt => by omega) ops.size _ 0 G a w1 (by simp) hleft (fun p _ _ => hrep _) (start _ o e s v wn hH (Nat.le_refl _) q1 q2 (by rw [q4]; exact Nat.le_refl _))
    have hmN := hI.m_le
    have hg := glue hn hS (Nat.le_refl _) hH (X := X) (F := F) m (hI.wf m (Nat.le_refl _)) (L.length - m) (by omega) (fun q h1 h2 => by
      refine ⟨?_, fun _ => hX q (by omega)⟩
      cases hE : opAt ops isEff (L.getD q 0) with
      | false => rfl
      | true => have := hI.eff_ge q h1 (by omega) hE; rw [hX q (by omega)] at this; cases this)
    rw [show m + (L.length - m) = L.length by omega, Nat.sub_self] at hg
    obtain ⟨g1, g2, g3⟩ := hg
    have hsr := hI.sr
    rw [g1] at hsr
    refine hp a' w' G' (fun _ => ?_) (by rw [← q2, ← q4]; exact hI.ge) (by rw [← q4]; exact hsr) (by rw [← q2, ← q4]; exact hI.grow.trans g3) hI.dfr
    have := hI.er
    rw [← q3, hist_e hS (Nat.le_refl _) hH _ (Nat.le_refl _)]
    have hov : ovl L.length o v (e 0) X = ovl L.length o v (e 0) (fun q => decide (q < L.length)) := by
      refine List.ext_getElem (by simp [ovl_len]) (fun t h1 h2 => ?_)
      have := ovl_eq_at (n := L.length) (o := o) (v := v) (e0 := e 0) (X := X) (Y := fun q => decide (q < L.length)) t (fun p hp _ => by rw [hX p hp]; simp [hp])
      simpa [List.getD, h1, h2] using this
    rw [← hov]; exact this
  · have hle : (s n).next ≤ S'.next := opA_next hn q7
    refine any_sim hcf hn hS (by omega) hH (F := F) (by rw [q2]; exact hFO.less hle) (fun hlt => by omega) (fun _ => ⟨q8, fun X m G' a' w' K hI hX hanc => ?_⟩) ops.size _ 0 G a w1 (by simp) hleft (fun p _ _ => hrep _) (start _ o e s v wn hH (by omega) q1 q2 hle)
    have hnN : n < L.length := hnL
    have hE : opAt ops isEff (L.getD n 0) = true := by
      rcases hS.cls n hnN with h | h | h | h
      · exact h
      · rw [opAt_eq q5] at h; obtain ⟨⟨_, h1⟩, _⟩ := new_indep h q7; cases h1
      · rw [opAt_eq q5] at h; obtain ⟨_, ⟨_, h1⟩, _⟩ := read_supp h q7; cases h1
      · rw [opAt_eq q5] at h; obtain ⟨_, ⟨_, h1⟩, _⟩ := pure_indep h q7; cases h1
    obtain ⟨hmp, h1, h2, h3⟩ := hI.before hn hS (by omega) hH (Nat.le_refl _) hnN hX hanc hE
    rw [Nat.sub_self] at h1
    have hctx := ctx_eq hS (by omega) hH hI.xn hI.closed hnN (Nat.le_refl _) q5 hX hanc
    have hlen : (e n).length = (ovl n o v (e 0) X).length := by rw [e_len hH n (Nat.le_refl _), ovl_len]
    have hw := wanted_sim hI.er (by rw [← wanted_eq hlen hctx]; exact q6)
    have hev := ev_eq hS (by omega) hH hctx
    have hsr := hI.sr
    rw [h1] at hsr
    unfold wpOp
    rw [q5]
    simp only
    rw [hw]
    simp only [if_true]
    rw [opA_congr hev] at q7
    have hFOn : FO (s n) F S'.next := by
      intro x b hb
      obtain ⟨k1, k2⟩ := hFO x b hb
      rcases k2 with k2 | k2
      · rw [← q2] at k1 k2
        exact ⟨h3.old x k2 k1, .inl (by have := h3.next; omega)⟩
      · exact ⟨h2 n (Nat.le_refl _) x (by omega), .inr k2⟩
    have hFNn : FN G' (s n).next S'.next := by
      intro k k1 k2
      rw [hI.ge.new k (.inr k1)]
      exact hFN k (by have := h3.next; rw [q2] at this; omega) k2
    refine .inl (op_sim hcf hI.er hsr (h2 n (Nat.le_refl _)) q7 hFOn hFNn (fun c w'' G'' hv hg hs1 hgr => ?_))
    have hge := hI.ge
    rw [q2] at hge
    rw [q2] at h3
    exact hp a' w'' G'' (fun h => h.elim) (hge.trans hg h3.next hle) hs1 (h3.trans hgr) hI.dfr c hv
end
end Go.Proofs.Ytfphpjinimfhfaa.VM

namespace Go.Proofs.Ytfphpjinimfhfaa.VM
/-- THE MACHINE OF VALUES IS SOUND: in every order. -/
theorem sound [Glob] {P : Program} {C : Cfg} (hm : P.follows .mixedOrders = true) (hintr : IntrOK P C) (k : Nat) (hhook : HookS P C := by intro _ _ h; cases (show none = some _ from h)) : CFS P (callA P C k) :=
  (callA_sound hintr hhook (fun _ _ hcf hn => reg_sim hm hcf hn) k).1
end Go.Proofs.Ytfphpjinimfhfaa.VM
