import Derived.Test.YtmkmakokgfigoaaDoorVMReg7
import Derived.LoopNIn
import Derived.OrdersIn
/-! The machine's soundness in a round of a range over a function: VMCode and VMReg7 told by 'wpIn'. Printed by genin.py. -/
namespace Go.Proofs.YtmkmakokgfigoaaDoor.VM
set_option linter.unusedSimpArgs false
set_option linter.unusedVariables false
set_option linter.unusedSectionVars false
open Go.RowKit
variable [Glob]
/-- Every function; a round's frame, or none. -/
def FW (r : Option Nat) : Fence := { Fence.wide with round := r }
section
variable {P : Program} {C : Cfg} {cf : CF} {f : FuncId} {w0 w : World} {G : Gh} {F : Nat → Option Blk} {S S' : St} {r : Option Nat}
theorem opA_defer {env : List AV} {o : Oper} {x : Res × St} (h : opA P C cf f env S o = some x) : ∀ c, o.op ≠ .defer c := by
  intro c hc
  simp [opA, hc] at h
theorem rowsIn_wide {row : String} {args : Array Value} {R : Value → World → Prop} {n : Nat} (h : Rows P row args w R) : RowsIn (FW r) n P row args w R :=
  fun c cs _ => let ⟨v, w', h1, h2⟩ := h c cs; ⟨v, w', h1, stepsIn_wide.2 h2⟩
theorem callsIn_any {g : FuncId} {args : Array Value} {R : Ending → World → Prop} {n : Nat} (h : Calls P g args w R) : CallsIn (FW r) n P g args w R := (callsIn_wide (n := n)).2 h
theorem op_in {o : Oper} {a : Act} {K : Act → World → Prop} {Q : Exit → Act → World → Prop} {n : Nat} (hd : ∀ c, o.op ≠ .defer c) (h : o.wp P a w K Q) : o.wpIn (FW r) n P a w K Q := by
  unfold Oper.wpIn
  refine ⟨fun _ _ => trivial, ?_⟩
  rw [Oper.semAt_eq _ _ _ hd]
  unfold Oper.wp at h
  generalize (execOp a.eval o).run P w = x at *
  cases x with
  | ok y w' =>
    cases y with
    | enter g args =>
      simp only [Oper.upon, Oper.uponIn] at h ⊢
      refine ⟨(fun q => by cases q), CallsIn.mono (callsIn_any h) ?_⟩
      intro e w'' he
      cases e <;> exact he
    | row rw args =>
      simp only [Oper.upon, Oper.uponIn] at h ⊢
      exact ⟨(fun q => by cases q), (rowsIn_wide h).mono (fun _ _ he => he)⟩
    | value v => exact h
    | skip => exact h
    | defer d => exact h
    | _ => exact h.elim
  | halt x w' => cases x <;> simp only [Oper.upon, Oper.uponIn] at h ⊢ <;> exact h
theorem wpOp_in {ops : Array Oper} {Q : Exit → Act → World → Prop} (hQ : ¬ LetsOut Q) (hd : ∀ (i : Nat) o, ops[i]? = some o → ∀ c, o.op ≠ .defer c) {i : Nat} {K : Act → World → Prop} {a : Act} {n : Nat} (h : wpOp P ops Q i K a w) : wpOpIn (FW r) n P ops Q i K a w := by
  unfold wpOp at h
  unfold wpOpIn
  split
  · rename_i q; rw [q] at h; exact h
  · rename_i o ho
    rw [ho] at h
    simp only at h
    split
    · rename_i hw
      rw [if_pos hw] at h
      rcases h with h | ⟨_, h⟩
      · exact op_in (hd i o ho) h
      · exact absurd h hQ
    · rename_i hw
      rw [if_neg hw] at h
      exact ⟨fun _ _ => trivial, h⟩
theorem wpAny_in {ops : Array Oper} {md : Region.Mode} {Q : Exit → Act → World → Prop} (hQ : ¬ LetsOut Q) (hd : ∀ (i : Nat) o, ops[i]? = some o → ∀ c, o.op ≠ .defer c) {n : Nat} : ∀ (fuel : Nat) (listed : Array Bool) (a : Act) (w : World), wpAny P md ops Q fuel listed a w → wpAnyIn (FW r) n P md ops Q fuel listed a w
  | 0, _, _, _, h => h
  | fuel + 1, _, _, _, h => ⟨h.1, fun i hi => wpOp_in hQ hd (wpOp_mono (fun a' w' h' => wpAny_in hQ hd fuel _ a' w' h') (h.2 i hi))⟩
theorem seq_simIn (hcf : CFS P cf) (hn : CFN cf) {ops : Array Oper} {Q : Exit → Act → World → Prop} : ∀ (l : List Nat) {env : List AV} {S : St} {a : Act} {w : World} {G : Gh} {out : Out} {env' : List AV} {S' : St},
    opsA P C cf f ops (fun _ => []) (fun _ _ => true) l env S = some (out, env', S') → ER G env a.tmps → SR w0 G (ov S.mem F) w → Wf S → FO S F S'.next → FN G S.next S'.next → CodePost w0 F G S S' env' a Q out → wpOpsIn (FW r) 0 P ops Q l a w
  | [], env, S, a, w, G, out, env', S', h, he, hs, hwf, hFO, hFN, hp => by
    cases h
    exact hp a w G (fun _ => he) (GE.refl _ _ _) hs (Grow.refl hwf) rfl
  | i :: rest, env, S, a, w, G, out, env', S', h, he, hs, hwf, hFO, hFN, hp => by
    unfold opsA at h
    unfold wpOpsIn
    split at h
    · cases h
    · rename_i o ho
      rw [ho]
      simp only
      obtain ⟨b, hb, h⟩ := Option.bind_eq_some_iff.1 h
      have hw := wanted_sim he hb
      rw [hw]
      split at h
      · rename_i hbt
        subst hbt
        simp only [if_true]
        replace h := Option.bind_eq_some_iff.1 h; obtain ⟨q, hq, h⟩ := h
        obtain ⟨res, S1⟩ := q
        simp only at h
        have hnx := opA_next hn hq
        refine op_in (opA_defer hq) ?_
        split at h
        · rename_i v
          simp only [List.all_nil, if_true] at h
          have hle := opsA_next hn rest h
          simp only at hle
          refine op_sim hcf he hs hwf hq (hFO.less hle) (hFN.less hle) (fun c w1 G1 hv hg hs1 hgr => ?_)
          have he1 := (he.mono hg).put o.dst hv
          refine seq_simIn hcf hn rest h he1 hs1 hgr.wf (hFO.step hgr hle) (hFN.step hg hnx) (fun a' w' G' k1 k2 k3 k4 k5 => ?_)
          refine hp a' w' G' k1 (hg.trans k2 hnx hle) k3 (hgr.trans k4) (k5.trans ?_)
          cases o.dst <;> rfl
        · rename_i v
          split at h
          · cases h
            exact op_sim hcf he hs hwf hq hFO hFN (fun c w1 G1 hv hg hs1 hgr => hp a w1 G1 (fun _ => he.mono hg) hg hs1 hgr rfl c hv)
          · cases h
      · rename_i hbt
        have : b = false := by cases b <;> simp_all
        subst this
        simp only [Bool.false_eq_true, if_false]
        refine ⟨fun _ _ => trivial, ?_⟩
        refine seq_simIn hcf hn rest h (he.put o.dst (.tuple [] #[] rfl (fun i hi => by simp at hi))) hs hwf hFO hFN (fun a' w' G' k1 k2 k3 k4 k5 => hp a' w' G' k1 k2 k3 k4 (k5.trans (by cases o.dst <;> rfl)))

/-- What is owed for regions that draw their order. -/
theorem reg_simIn (hm : P.follows .mixedOrders = true) (hcf : CFS P cf) (hn : CFN cf) (w0 : World) (F : Nat → Option Blk) (id : Nat) (ops : Array Oper) (Q : Exit → Act → World → Prop) (env : List AV) (S : St) (a : Act) (w : World) (G : Gh) (out : Out) (env' : List AV) (S' : St) (hok : regOk ops = true)
    (h : opsA P C cf f ops (stabOf ops) (anc ops) (canon ops) env S = some (out, env', S')) (he : ER G env a.tmps) (hs : SR w0 G (ov S.mem F) w) (hwf : Wf S) (hFO : FO S F S'.next) (hFN : FN G S.next S'.next) (hQ : ¬ LetsOut Q) (hp : CodePost w0 F G S S' env' a Q out) : (Code.region id ops true).wpIn (FW r) 0 P Q a w := by
  have hS := stat_of hok
  refine wpIn_region_any hm ?_
  have hd : ∀ (i : Nat) o, ops[i]? = some o → ∀ c, o.op ≠ .defer c := by
    intro i o ho c hc
    obtain ⟨p, hp, e⟩ := hS.surj i (Array.getElem?_eq_some_iff.1 ho).1
    have hcls := hS.cls p hp
    rw [e] at hcls
    simp only [opAt, ho, hc, isEff, isNew, isRead, isPure] at hcls
    simp at hcls
  refine wpAny_in hQ hd _ _ _ _ ?_
  have hs' : SR w0 G (ov S.mem F) { w with drawn := w.drawn + 1 } := hs.drawn _
  generalize hL : canon ops = L at *
  generalize hw1 : ({ w with drawn := w.drawn + 1 } : World) = w1 at *
  -- the start
  have start : ∀ (n : Nat) (o : Nat → Oper) (e : Nat → List AV) (s : Nat → St) (v : Nat → AV) (wn : Nat → Bool), Hist P C cf f ops (stabOf ops) n (fun p => L.getD p 0) o e s v wn → n ≤ L.length → e 0 = env → s 0 = S → (s n).next ≤ S'.next →
      Inv ops L.length n (fun p => L.getD p 0) o e s v w0 F G a (doneX n (fun p => L.getD p 0) (Array.replicate ops.size false)) 0 G a w1 := by
    intro n o e s v wn hH hnL e0 e1 e2
    have hX : ∀ p, doneX n (fun p => L.getD p 0) (Array.replicate ops.size false) p = false := by
      intro p
      simp only [doneX, Array.getD_eq_getD_getElem?, Array.getElem?_replicate]
      split <;> simp
    refine ⟨Nat.zero_le _, fun p h => ?_, fun q r _ _ h => ?_, fun p h => by omega, fun p _ _ _ => hX p, .inl rfl, ?_, ?_, GE.refl _ _ _, fun p hp _ k h1 h2 => ?_, fun q hq => ?_, ?_, rfl⟩
    · rw [hX] at h; cases h
    · rw [hX] at h; cases h
    · rw [ovl_none _ (fun p _ => hX p), e0]; exact he
    · rw [fl_not hX, e1]; exact hs'
    · refine hFN k ?_ ?_
      · have := next_mono hn hH 0 p (by omega) (by omega); rw [e1] at this; omega
      · have := next_mono hn hH (p + 1) n (by omega) (Nat.le_refl _); omega
    · rw [show q = 0 by omega, e1]; exact hwf
    · rw [e1]; exact Grow.refl hwf
  have hleft : left (Array.replicate ops.size false) ops.size ≤ ops.size := by
    unfold left
    exact Nat.le_trans List.countP_le_length (by simp)
  have hrep : ∀ (i : Nat), (Array.replicate ops.size false).getD i false = false := by
    intro i
    simp only [Array.getD_eq_getD_getElem?, Array.getElem?_replicate]
    split <;> rfl
  rcases hist_of L h with ⟨rfl, o, e, s, v, wn, hH, q1, q2, q3, q4⟩ | ⟨pv, n, o, e, s, v, wn, rfl, hnL, hH, q1, q2, q3, q5, q6, q7, q8⟩
  · refine any_sim hcf hn hS (Nat.le_refl _) hH (F := F) (by rw [q2, q4]; exact hFO) (fun _ X m G' a' w' hX hI => ?_) (fun hlt => by omega) ops.size _ 0 G a w1 (by simp) hleft (fun p _ _ => hrep _) (start _ o e s v wn hH (Nat.le_refl _) q1 q2 (by rw [q4]; exact Nat.le_refl _))
    have hmN := hI.m_le
    have hg := glue hn hS (Nat.le_refl _) hH (X := X) (F := F) m (hI.wf m (Nat.le_refl _)) (L.length - m) (by omega) (fun q h1 h2 => by
      refine ⟨?_, fun _ => hX q (by omega)⟩
      cases hE : opAt ops isEff (L.getD q 0) with
      | false => rfl
      | true => have := hI.eff_ge q h1 (by omega) hE; rw [hX q (by omega)] at this; cases this)
    rw [show m + (L.length - m) = L.length by omega, Nat.sub_self] at hg
    obtain ⟨g1, g2, g3⟩ := hg
    have hsr := hI.sr
    rw [g1] at hsr
    refine hp a' w' G' (fun _ => ?_) (by rw [← q2, ← q4]; exact hI.ge) (by rw [← q4]; exact hsr) (by rw [← q2, ← q4]; exact hI.grow.trans g3) hI.dfr
    have := hI.er
    rw [← q3, hist_e hS (Nat.le_refl _) hH _ (Nat.le_refl _)]
    have hov : ovl L.length o v (e 0) X = ovl L.length o v (e 0) (fun q => decide (q < L.length)) := by
      refine List.ext_getElem (by simp [ovl_len]) (fun t h1 h2 => ?_)
      have := ovl_eq_at (n := L.length) (o := o) (v := v) (e0 := e 0) (X := X) (Y := fun q => decide (q < L.length)) t (fun p hp _ => by rw [hX p hp]; simp [hp])
      simpa [List.getD, h1, h2] using this
    rw [← hov]; exact this
  · have hle : (s n).next ≤ S'.next := opA_next hn q7
    refine any_sim hcf hn hS (by omega) hH (F := F) (by rw [q2]; exact hFO.less hle) (fun hlt => by omega) (fun _ => ⟨q8, fun X m G' a' w' K hI hX hanc => ?_⟩) ops.size _ 0 G a w1 (by simp) hleft (fun p _ _ => hrep _) (start _ o e s v wn hH (by omega) q1 q2 hle)
    have hnN : n < L.length := hnL
    have hE : opAt ops isEff (L.getD n 0) = true := by
      rcases hS.cls n hnN with h | h | h | h
      · exact h
      · rw [opAt_eq q5] at h; obtain ⟨⟨_, h1⟩, _⟩ := new_indep h q7; cases h1
      · rw [opAt_eq q5] at h; obtain ⟨_, ⟨_, h1⟩, _⟩ := read_supp h q7; cases h1
      · rw [opAt_eq q5] at h; obtain ⟨_, ⟨_, h1⟩, _⟩ := pure_indep h q7; cases h1
    obtain ⟨hmp, h1, h2, h3⟩ := hI.before hn hS (by omega) hH (Nat.le_refl _) hnN hX hanc hE
    rw [Nat.sub_self] at h1
    have hctx := ctx_eq hS (by omega) hH hI.xn hI.closed hnN (Nat.le_refl _) q5 hX hanc
    have hlen : (e n).length = (ovl n o v (e 0) X).length := by rw [e_len hH n (Nat.le_refl _), ovl_len]
    have hw := wanted_sim hI.er (by rw [← wanted_eq hlen hctx]; exact q6)
    have hev := ev_eq hS (by omega) hH hctx
    have hsr := hI.sr
    rw [h1] at hsr
    unfold wpOp
    rw [q5]
    simp only
    rw [hw]
    simp only [if_true]
    rw [opA_congr hev] at q7
    have hFOn : FO (s n) F S'.next := by
      intro x b hb
      obtain ⟨k1, k2⟩ := hFO x b hb
      rcases k2 with k2 | k2
      · rw [← q2] at k1 k2
        exact ⟨h3.old x k2 k1, .inl (by have := h3.next; omega)⟩
      · exact ⟨h2 n (Nat.le_refl _) x (by omega), .inr k2⟩
    have hFNn : FN G' (s n).next S'.next := by
      intro k k1 k2
      rw [hI.ge.new k (.inr k1)]
      exact hFN k (by have := h3.next; rw [q2] at this; omega) k2
    refine .inl (op_sim hcf hI.er hsr (h2 n (Nat.le_refl _)) q7 hFOn hFNn (fun c w'' G'' hv hg hs1 hgr => ?_))
    have hge := hI.ge
    rw [q2] at hge
    rw [q2] at h3
    exact hp a' w'' G'' (fun h => h.elim) (hge.trans hg h3.next hle) hs1 (h3.trans hgr) hI.dfr c hv
theorem code_simIn (hm : P.follows .mixedOrders = true) (hcf : CFS P cf) (hn : CFN cf) (k : Nat) : ∀ (c : Code) {env : List AV} {S : St} {a : Act} {w : World} {G : Gh} {out : Out} {env' : List AV} {S' : St} {Q : Exit → Act → World → Prop},
    codeA P C cf f k c env S = some (out, env', S') → ER G env a.tmps → SR w0 G (ov S.mem F) w → Wf S → FO S F S'.next → FN G S.next S'.next → ¬ LetsOut Q → CodePost w0 F G S S' env' a Q out → c.wpIn (FW r) 0 P Q a w
  | .skip, env, S, a, w, G, out, env', S', Q, h, he, hs, hwf, hFO, hFN, hQ, hp => by
    cases h; exact wpIn_skip (hp a w G (fun _ => he) (GE.refl _ _ _) hs (Grow.refl hwf) rfl)
  | .label l, env, S, a, w, G, out, env', S', Q, h, he, hs, hwf, hFO, hFN, hQ, hp => by
    cases h; exact wpIn_label (hp a w G (fun _ => he) (GE.refl _ _ _) hs (Grow.refl hwf) rfl)
  | .region id ops draw, env, S, a, w, G, out, env', S', Q, h, he, hs, hwf, hFO, hFN, hQ, hp => by
    unfold codeA at h
    split at h
    · rename_i hd
      subst hd
      split at h
      · rename_i hok
        exact reg_simIn hm hcf hn w0 F id ops Q env S a w G out env' S' hok h he hs hwf hFO hFN hQ hp
      · cases h
    · rename_i hd
      have : draw = false := by cases draw <;> simp_all
      subst this
      exact wpIn_region (seq_simIn hcf hn _ h he hs hwf hFO hFN hp)
  | .seq x y, env, S, a, w, G, out, env', S', Q, h, he, hs, hwf, hFO, hFN, hQ, hp => by
    unfold codeA at h
    obtain ⟨⟨o1, e1, S1⟩, hq, h⟩ := Option.bind_eq_some_iff.1 h
    have hnx := codeA_next hn k x hq
    simp only at hnx
    refine wpIn_seq ?_
    cases o1 with
    | normal =>
      simp only at h
      have hle := codeA_next hn k y h
      simp only at hle
      refine code_simIn hm hcf hn k x hq he hs hwf (hFO.less hle) (hFN.less hle) hQ (fun a1 w1 G1 k1 k2 k3 k4 k5 => ?_)
      refine code_simIn hm hcf hn k y h (k1 trivial) k3 k4.wf (hFO.step k4 hle) (hFN.step k2 hnx) hQ (fun a' w' G' j1 j2 j3 j4 j5 => hp a' w' G' j1 (k2.trans j2 hnx hle) j3 (k4.trans j4) (j5.trans k5))
    | exit id => cases h; exact code_simIn hm hcf hn k x hq he hs hwf hFO hFN hQ (hp.thenSeq (by simp))
    | ret => cases h; exact code_simIn hm hcf hn k x hq he hs hwf hFO hFN hQ (hp.thenSeq (by simp))
    | panic v => cases h; exact code_simIn hm hcf hn k x hq he hs hwf hFO hFN hQ (hp.thenSeq (by simp))
  | .cond c x y, env, S, a, w, G, out, env', S', Q, h, he, hs, hwf, hFO, hFN, hQ, hp => by
    unfold codeA at h
    have hc := he.ev c
    split at h
    · rename_i hb
      rw [hb] at hc
      generalize hcv : a.eval c = cv at hc
      cases hc
      exact wpIn_cond_true hcv (code_simIn hm hcf hn k x h he hs hwf hFO hFN hQ hp)
    · rename_i hb
      rw [hb] at hc
      generalize hcv : a.eval c = cv at hc
      cases hc
      exact wpIn_cond_false hcv (code_simIn hm hcf hn k y h he hs hwf hFO hFN hQ hp)
    · cases h
  | .block id b, env, S, a, w, G, out, env', S', Q, h, he, hs, hwf, hFO, hFN, hQ, hp => by
    unfold codeA at h
    obtain ⟨⟨o1, e1, S1⟩, hq, h⟩ := Option.map_eq_some_iff.1 h
    refine wpIn_block ?_
    cases o1 with
    | normal =>
      cases h
      exact code_simIn hm hcf hn k b hq he hs hwf hFO hFN hQ (fun a' w' G' k1 k2 k3 k4 k5 => hp a' w' G' k1 k2 k3 k4 k5)
    | exit j =>
      by_cases e : j = id
      · simp only [e, if_true] at h
        cases h
        subst e
        exact code_simIn hm hcf hn k b hq he hs hwf hFO hFN hQ (fun a' w' G' k1 k2 k3 k4 k5 => by
          have := hp a' w' G' k1 k2 k3 k4 k5
          show (if j = j then _ else _)
          rw [if_pos rfl]; exact this)
      · simp only [e, if_false] at h
        cases h
        exact code_simIn hm hcf hn k b hq he hs hwf hFO hFN hQ (fun a' w' G' k1 k2 k3 k4 k5 => by
          have := hp a' w' G' k1 k2 k3 k4 k5
          show (if j = id then _ else _)
          rw [if_neg e]; exact this)
    | ret =>
      cases h
      exact code_simIn hm hcf hn k b hq he hs hwf hFO hFN hQ (fun a' w' G' k1 k2 k3 k4 k5 => hp a' w' G' k1 k2 k3 k4 k5)
    | panic v =>
      cases h
      exact code_simIn hm hcf hn k b hq he hs hwf hFO hFN hQ (fun a' w' G' k1 k2 k3 k4 k5 => hp a' w' G' k1 k2 k3 k4 k5)
  | .loop b, env, S, a, w, G, out, env', S', Q, h, he, hs, hwf, hFO, hFN, hQ, hp => by
    unfold codeA at h
    -- round by round
    have key : ∀ (n : Nat) {env : List AV} {S : St} {a : Act} {w : World} {G : Gh}, loopN (codeA P C cf f k b) id n env S = some (out, env', S') → ER G env a.tmps → SR w0 G (ov S.mem F) w → Wf S → FO S F S'.next → FN G S.next S'.next → CodePost w0 F G S S' env' a Q out →
        Code.roundsIn (FW r) 0 P b Q n a w := by
      intro n
      induction n with
      | zero => intro env S a w G h; cases h
      | succ n ih =>
        intro env S a w G h he hs hwf hFO hFN hp
        unfold loopN at h
        obtain ⟨⟨o1, e1, S1⟩, hq, h⟩ := Option.bind_eq_some_iff.1 h
        have hnx := codeA_next hn k b hq
        simp only at hnx
        rw [roundsIn_succ]
        cases o1 with
        | normal =>
          simp only at h
          have hle : S1.next ≤ S'.next := loopN_next (fun e S r hr => codeA_next hn k b hr) n h
          refine code_simIn hm hcf hn k b hq he hs hwf (hFO.less hle) (hFN.less hle) hQ (fun a1 w1 G1 k1 k2 k3 k4 k5 => ?_)
          exact ih h (k1 trivial) k3 k4.wf (hFO.step k4 hle) (hFN.step k2 hnx) (fun a' w' G' j1 j2 j3 j4 j5 => hp a' w' G' j1 (k2.trans j2 hnx hle) j3 (k4.trans j4) (j5.trans k5))
        | exit id => cases h; exact code_simIn hm hcf hn k b hq he hs hwf hFO hFN hQ (hp.thenSeq (by simp))
        | ret => cases h; exact code_simIn hm hcf hn k b hq he hs hwf hFO hFN hQ (hp.thenSeq (by simp))
        | panic v => cases h; exact code_simIn hm hcf hn k b hq he hs hwf hFO hFN hQ (hp.thenSeq (by simp))
    exact wpIn_loop_rounds k (key k h he hs hwf hFO hFN hp)
  | .exit id, env, S, a, w, G, out, env', S', Q, h, he, hs, hwf, hFO, hFN, hQ, hp => by
    cases h; exact wpIn_exit (hp a w G (fun _ => he) (GE.refl _ _ _) hs (Grow.refl hwf) rfl)
  | .ret, env, S, a, w, G, out, env', S', Q, h, he, hs, hwf, hFO, hFN, hQ, hp => by
    cases h; exact wpIn_ret (hp a w G (fun _ => he) (GE.refl _ _ _) hs (Grow.refl hwf) rfl)
  | .rangeFunc .., _, _, _, _, _, _, _, _, _, h, _, _, _, _, _, _, _ => by cases h
  | .scope _, _, _, _, _, _, _, _, _, _, h, _, _, _, _, _, _, _ => by cases h
  | .goto _, _, _, _, _, _, _, _, _, _, h, _, _, _, _, _, _, _ => by cases h
  | .refuse _, _, _, _, _, _, _, _, _, _, h, _, _, _, _, _, _, _ => by cases h
end
end Go.Proofs.YtmkmakokgfigoaaDoor.VM
