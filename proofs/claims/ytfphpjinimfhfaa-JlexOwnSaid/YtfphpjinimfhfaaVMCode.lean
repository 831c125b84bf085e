import Derived.Test.YtfphpjinimfhfaaVMSeq
import Derived.LoopN
/-! Code and calls: the model's run agrees with 'codeA' and 'callA'. -/
namespace Go.Proofs.Ytfphpjinimfhfaa.VM
set_option linter.unusedSimpArgs false
set_option linter.unusedVariables false
set_option linter.unusedSectionVars false
open Go.RowKit
variable [Glob]
section
variable {P : Program} {C : Cfg} {cf : CF} {f : FuncId} {w0 w : World} {G : Gh} {F : Nat → Option Blk} {S S' : St}

def OutR (Q : Exit → Act → World → Prop) (G' : Gh) (a' : Act) (w' : World) : Out → Prop
  | .normal => Q .normal a' w'
  | .exit id => Q (.exit id) a' w'
  | .ret => Q .ret a' w'
  | .panic v => ∀ c, VR G' v c → Q (.panic [{ v := c, recovered := false }]) a' w'

/-- It is no panic. -/
def Out.calm : Out → Prop
  | .panic _ => False
  | _ => True

def CodePost (w0 : World) (F : Nat → Option Blk) (G : Gh) (S S' : St) (env' : List AV) (a : Act) (Q : Exit → Act → World → Prop) (out : Out) : Prop :=
  ∀ a' w' G', (out.calm → ER G' env' a'.tmps) → GE G G' S.next S'.next → SR w0 G' (ov S'.mem F) w' → Grow S S' → a'.defers = a.defers → OutR Q G' a' w' out

theorem wanted_sim {ops : Array Oper} {env : List AV} {a : Act} {o : Oper} {b : Bool} (he : ER G env a.tmps) (h : wantedA ops env o = some b) : Region.wanted o (yielded ops a.tmps) = b := by
  unfold wantedA at h
  unfold Region.wanted
  split at h
  · rename_i hg; cases h; rw [hg]
  · rename_i j want hg
    rw [hg]
    simp only
    split at h
    · rename_i q hq
      split at h
      · rename_i d hd
        have hy : yielded ops a.tmps j = match a.tmps[d]? with | some (.bool b) => some b | _ => none := by
          unfold yielded
          simp only [hq, Option.bind_some, hd]
          rfl
        rw [hy]
        split at h
        · rename_i b' hb
          cases h
          obtain ⟨hlt, hb⟩ := List.getElem?_eq_some_iff.1 hb
          have := he.at_ d hlt
          rw [hb, arr_getD] at this
          have hlt2 : d < a.tmps.size := by rw [← he.len]; exact hlt
          rw [Array.getElem?_eq_getElem hlt2, Option.getD_some] at this
          rw [Array.getElem?_eq_getElem hlt2]
          generalize a.tmps[d] = u at this
          cases this
          cases b' <;> cases want <;> rfl
        · rename_i hb
          cases h
          obtain ⟨hlt, hb⟩ := List.getElem?_eq_some_iff.1 hb
          have := he.at_ d hlt
          rw [hb, arr_getD] at this
          have hlt2 : d < a.tmps.size := by rw [← he.len]; exact hlt
          rw [Array.getElem?_eq_getElem hlt2, Option.getD_some] at this
          rw [Array.getElem?_eq_getElem hlt2]
          generalize a.tmps[d] = u at this
          cases this
          cases want <;> rfl
        · cases h
      · cases h
    · cases h

theorem FO.step {S1 : St} {hi : Nat} (h : FO S F hi) (g : Grow S S1) (hle : S1.next ≤ hi) : FO S1 F hi := by
  intro n b hn
  obtain ⟨h1, h2⟩ := h n b hn
  rcases h2 with h2 | h2
  · exact ⟨g.old n h2 h1, .inl (by have := g.next; omega)⟩
  · exact ⟨g.free n (by omega), .inr h2⟩
theorem FO.less {hi hi' : Nat} (h : FO S F hi) (hle : hi' ≤ hi) : FO S F hi' := fun n b hn => ⟨(h n b hn).1, by have := (h n b hn).2; omega⟩
theorem FN.less {lo hi hi' : Nat} (h : FN G lo hi) (hle : hi' ≤ hi) : FN G lo hi' := fun n h1 h2 => h n h1 (by omega)
theorem FN.step {G' : Gh} {lo mid hi : Nat} (h : FN G lo hi) (g : GE G G' lo mid) (hlm : lo ≤ mid) : FN G' mid hi := fun n h1 h2 => by rw [g.new n (.inr h1)]; exact h n (by omega) h2

theorem seq_sim (hcf : CFS P cf) (hn : CFN cf) {ops : Array Oper} {Q : Exit → Act → World → Prop} : ∀ (l : List Nat) {env : List AV} {S : St} {a : Act} {w : World} {G : Gh} {out : Out} {env' : List AV} {S' : St},
    opsA P C cf f ops (fun _ => []) (fun _ _ => true) l env S = some (out, env', S') → ER G env a.tmps → SR w0 G (ov S.mem F) w → Wf S → FO S F S'.next → FN G S.next S'.next → CodePost w0 F G S S' env' a Q out → wpOps P ops Q l a w
  | [], env, S, a, w, G, out, env', S', h, he, hs, hwf, hFO, hFN, hp => by
    cases h
    exact hp a w G (fun _ => he) (GE.refl _ _ _) hs (Grow.refl hwf) rfl
  | i :: rest, env, S, a, w, G, out, env', S', h, he, hs, hwf, hFO, hFN, hp => by
    unfold opsA at h
    unfold wpOps
    split at h
    · cases h
    · rename_i o ho
      rw [ho]
      simp only
      obtain ⟨b, hb, h⟩ := Option.bind_eq_some_iff.1 h
      have hw := wanted_sim he hb
      rw [hw]
      split at h
      · rename_i hbt
        subst hbt
        simp only [if_true]
        replace h := Option.bind_eq_some_iff.1 h; obtain ⟨q, hq, h⟩ := h
        obtain ⟨res, S1⟩ := q
        simp only at h
        have hnx := opA_next hn hq
        refine .inl ?_
        split at h
        · rename_i v
          simp only [List.all_nil, if_true] at h
          have hle := opsA_next hn rest h
          simp only at hle
          refine op_sim hcf he hs hwf hq (hFO.less hle) (hFN.less hle) (fun c w1 G1 hv hg hs1 hgr => ?_)
          have he1 := (he.mono hg).put o.dst hv
          refine seq_sim hcf hn rest h he1 hs1 hgr.wf (hFO.step hgr hle) (hFN.step hg hnx) (fun a' w' G' k1 k2 k3 k4 k5 => ?_)
          refine hp a' w' G' k1 (hg.trans k2 hnx hle) k3 (hgr.trans k4) (k5.trans ?_)
          cases o.dst <;> rfl
        · rename_i v
          split at h
          · cases h
            exact op_sim hcf he hs hwf hq hFO hFN (fun c w1 G1 hv hg hs1 hgr => hp a w1 G1 (fun _ => he.mono hg) hg hs1 hgr rfl c hv)
          · cases h
      · rename_i hbt
        have : b = false := by cases b <;> simp_all
        subst this
        simp only [Bool.false_eq_true, if_false]
        refine seq_sim hcf hn rest h (he.put o.dst (.tuple [] #[] rfl (fun i hi => by simp at hi))) hs hwf hFO hFN (fun a' w' G' k1 k2 k3 k4 k5 => hp a' w' G' k1 k2 k3 k4 (k5.trans (by cases o.dst <;> rfl)))

/-- What is owed for regions that draw their order. -/
def RegS (P : Program) (C : Cfg) (cf : CF) (f : FuncId) : Prop :=
  ∀ (w0 : World) (F : Nat → Option Blk) (id : Nat) (ops : Array Oper) (Q : Exit → Act → World → Prop) (env : List AV) (S : St) (a : Act) (w : World) (G : Gh) (out : Out) (env' : List AV) (S' : St), regOk ops = true →
    opsA P C cf f ops (stabOf ops) (anc ops) (canon ops) env S = some (out, env', S') → ER G env a.tmps → SR w0 G (ov S.mem F) w → Wf S → FO S F S'.next → FN G S.next S'.next → CodePost w0 F G S S' env' a Q out → (Code.region id ops true).wp P Q a w

theorem CodePost.thenSeq {Q : Exit → Act → World → Prop} {next : Act → World → Prop} {env' : List AV} {a : Act} {out : Out} (hne : out ≠ .normal) (hp : CodePost w0 F G S S' env' a Q out) : CodePost w0 F G S S' env' a (Exit.then next Q) out := by
  intro a' w' G' k1 k2 k3 k4 k5
  have := hp a' w' G' k1 k2 k3 k4 k5
  cases out with
  | normal => exact absurd rfl hne
  | exit id => exact this
  | ret => exact this
  | panic v => exact this

theorem code_sim (hcf : CFS P cf) (hn : CFN cf) (hreg : RegS P C cf f) (k : Nat) : ∀ (c : Code) {env : List AV} {S : St} {a : Act} {w : World} {G : Gh} {out : Out} {env' : List AV} {S' : St} {Q : Exit → Act → World → Prop},
    codeA P C cf f k c env S = some (out, env', S') → ER G env a.tmps → SR w0 G (ov S.mem F) w → Wf S → FO S F S'.next → FN G S.next S'.next → CodePost w0 F G S S' env' a Q out → c.wp P Q a w
  | .skip, env, S, a, w, G, out, env', S', Q, h, he, hs, hwf, hFO, hFN, hp => by
    cases h; exact wp_skip (hp a w G (fun _ => he) (GE.refl _ _ _) hs (Grow.refl hwf) rfl)
  | .label l, env, S, a, w, G, out, env', S', Q, h, he, hs, hwf, hFO, hFN, hp => by
    cases h; exact wp_label (hp a w G (fun _ => he) (GE.refl _ _ _) hs (Grow.refl hwf) rfl)
  | .region id ops draw, env, S, a, w, G, out, env', S', Q, h, he, hs, hwf, hFO, hFN, hp => by
    unfold codeA at h
    split at h
    · rename_i hd
      subst hd
      split at h
      · rename_i hok
        exact hreg w0 F id ops Q env S a w G out env' S' hok h he hs hwf hFO hFN hp
      · cases h
    · rename_i hd
      have : draw = false := by cases draw <;> simp_all
      subst this
      exact wp_region (seq_sim hcf hn _ h he hs hwf hFO hFN hp)
  | .seq x y, env, S, a, w, G, out, env', S', Q, h, he, hs, hwf, hFO, hFN, hp => by
    unfold codeA at h
    obtain ⟨⟨o1, e1, S1⟩, hq, h⟩ := Option.bind_eq_some_iff.1 h
    have hnx := codeA_next hn k x hq
    simp only at hnx
    refine wp_seq ?_
    cases o1 with
    | normal =>
      simp only at h
      have hle := codeA_next hn k y h
      simp only at hle
      refine code_sim hcf hn hreg k x hq he hs hwf (hFO.less hle) (hFN.less hle) (fun a1 w1 G1 k1 k2 k3 k4 k5 => ?_)
      refine code_sim hcf hn hreg k y h (k1 trivial) k3 k4.wf (hFO.step k4 hle) (hFN.step k2 hnx) (fun a' w' G' j1 j2 j3 j4 j5 => hp a' w' G' j1 (k2.trans j2 hnx hle) j3 (k4.trans j4) (j5.trans k5))
    | exit id => cases h; exact code_sim hcf hn hreg k x hq he hs hwf hFO hFN (hp.thenSeq (by simp))
    | ret => cases h; exact code_sim hcf hn hreg k x hq he hs hwf hFO hFN (hp.thenSeq (by simp))
    | panic v => cases h; exact code_sim hcf hn hreg k x hq he hs hwf hFO hFN (hp.thenSeq (by simp))
  | .cond c x y, env, S, a, w, G, out, env', S', Q, h, he, hs, hwf, hFO, hFN, hp => by
    unfold codeA at h
    have hc := he.ev c
    split at h
    · rename_i hb
      rw [hb] at hc
      generalize hcv : a.eval c = cv at hc
      cases hc
      exact wp_cond_true hcv (code_sim hcf hn hreg k x h he hs hwf hFO hFN hp)
    · rename_i hb
      rw [hb] at hc
      generalize hcv : a.eval c = cv at hc
      cases hc
      exact wp_cond_false hcv (code_sim hcf hn hreg k y h he hs hwf hFO hFN hp)
    · cases h
  | .block id b, env, S, a, w, G, out, env', S', Q, h, he, hs, hwf, hFO, hFN, hp => by
    unfold codeA at h
    obtain ⟨⟨o1, e1, S1⟩, hq, h⟩ := Option.map_eq_some_iff.1 h
    refine wp_block ?_
    cases o1 with
    | normal =>
      cases h
      exact code_sim hcf hn hreg k b hq he hs hwf hFO hFN (fun a' w' G' k1 k2 k3 k4 k5 => hp a' w' G' k1 k2 k3 k4 k5)
    | exit j =>
      by_cases e : j = id
      · simp only [e, if_true] at h
        cases h
        subst e
        exact code_sim hcf hn hreg k b hq he hs hwf hFO hFN (fun a' w' G' k1 k2 k3 k4 k5 => by
          have := hp a' w' G' k1 k2 k3 k4 k5
          show (if j = j then _ else _)
          rw [if_pos rfl]; exact this)
      · simp only [e, if_false] at h
        cases h
        exact code_sim hcf hn hreg k b hq he hs hwf hFO hFN (fun a' w' G' k1 k2 k3 k4 k5 => by
          have := hp a' w' G' k1 k2 k3 k4 k5
          show (if j = id then _ else _)
          rw [if_neg e]; exact this)
    | ret =>
      cases h
      exact code_sim hcf hn hreg k b hq he hs hwf hFO hFN (fun a' w' G' k1 k2 k3 k4 k5 => hp a' w' G' k1 k2 k3 k4 k5)
    | panic v =>
      cases h
      exact code_sim hcf hn hreg k b hq he hs hwf hFO hFN (fun a' w' G' k1 k2 k3 k4 k5 => hp a' w' G' k1 k2 k3 k4 k5)
  | .loop b, env, S, a, w, G, out, env', S', Q, h, he, hs, hwf, hFO, hFN, hp => by
    unfold codeA at h
    -- round by round
    have key : ∀ (n : Nat) {env : List AV} {S : St} {a : Act} {w : World} {G : Gh}, loopN (codeA P C cf f k b) id n env S = some (out, env', S') → ER G env a.tmps → SR w0 G (ov S.mem F) w → Wf S → FO S F S'.next → FN G S.next S'.next → CodePost w0 F G S S' env' a Q out →
        Code.rounds P b Q n a w := by
      intro n
      induction n with
      | zero => intro env S a w G h; cases h
      | succ n ih =>
        intro env S a w G h he hs hwf hFO hFN hp
        unfold loopN at h
        obtain ⟨⟨o1, e1, S1⟩, hq, h⟩ := Option.bind_eq_some_iff.1 h
        have hnx := codeA_next hn k b hq
        simp only at hnx
        rw [rounds_succ]
        cases o1 with
        | normal =>
          simp only at h
          have hle : S1.next ≤ S'.next := loopN_next (fun e S r hr => codeA_next hn k b hr) n h
          refine code_sim hcf hn hreg k b hq he hs hwf (hFO.less hle) (hFN.less hle) (fun a1 w1 G1 k1 k2 k3 k4 k5 => ?_)
          exact ih h (k1 trivial) k3 k4.wf (hFO.step k4 hle) (hFN.step k2 hnx) (fun a' w' G' j1 j2 j3 j4 j5 => hp a' w' G' j1 (k2.trans j2 hnx hle) j3 (k4.trans j4) (j5.trans k5))
        | exit id => cases h; exact code_sim hcf hn hreg k b hq he hs hwf hFO hFN (hp.thenSeq (by simp))
        | ret => cases h; exact code_sim hcf hn hreg k b hq he hs hwf hFO hFN (hp.thenSeq (by simp))
        | panic v => cases h; exact code_sim hcf hn hreg k b hq he hs hwf hFO hFN (hp.thenSeq (by simp))
    exact wp_loop_rounds k (key k h he hs hwf hFO hFN hp)
  | .exit id, env, S, a, w, G, out, env', S', Q, h, he, hs, hwf, hFO, hFN, hp => by
    cases h; exact wp_exit (hp a w G (fun _ => he) (GE.refl _ _ _) hs (Grow.refl hwf) rfl)
  | .ret, env, S, a, w, G, out, env', S', Q, h, he, hs, hwf, hFO, hFN, hp => by
    cases h; exact wp_ret (hp a w G (fun _ => he) (GE.refl _ _ _) hs (Grow.refl hwf) rfl)
  | .rangeFunc .., _, _, _, _, _, _, _, _, _, h, _, _, _, _, _, _ => by cases h
  | .scope _, _, _, _, _, _, _, _, _, _, h, _, _, _, _, _, _ => by cases h
  | .goto _, _, _, _, _, _, _, _, _, _, h, _, _, _, _, _, _ => by cases h
  | .refuse _, _, _, _, _, _, _, _, _, _, h, _, _, _, _, _, _ => by cases h
end
end Go.Proofs.Ytfphpjinimfhfaa.VM
