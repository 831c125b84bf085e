import Derived.Test.YtfphpjinimfhfaaVMReg7
/-! What the machine of values answers, without its fuel. -/
namespace Go.Proofs.Ytfphpjinimfhfaa.VM
set_option linter.unusedSimpArgs false
set_option linter.unusedVariables false
set_option linter.unusedSectionVars false
open Go.RowKit
variable [Glob]
section
variable {P : Program} {C : Cfg} {cf cf' : CF} {f : FuncId}

def CFle (cf cf' : CF) : Prop := ∀ g a S r, cf g a S = some r → cf' g a S = some r

theorem opA_mono (h : CFle cf cf') {env : List AV} {S : St} {o : Oper} {r : Res × St} (hr : opA P C cf f env S o = some r) : opA P C cf' f env S o = some r := by
  obtain ⟨dst, op, type, pos, after, guard⟩ := o
  cases op
  case call c =>
    simp only [opA] at hr ⊢
    unfold callOpA at hr ⊢
    split at hr
    · exact hr
    · cases hr
    · split at hr
      · exact h _ _ _ _ hr
      · cases hr
  case next it b => cases b <;> exact hr
  all_goals exact hr

theorem opsA_mono (h : CFle cf cf') {ops : Array Oper} {stab : Nat → List Nat} {pan : Nat → Nat → Bool} : ∀ (l : List Nat) {env : List AV} {S : St} {r : Out × List AV × St}, opsA P C cf f ops stab pan l env S = some r → opsA P C cf' f ops stab pan l env S = some r
  | [], env, S, r, hr => hr
  | i :: rest, env, S, r, hr => by
    unfold opsA at hr ⊢
    split at hr
    · cases hr
    · rename_i o ho
      obtain ⟨b, hb, hr⟩ := Option.bind_eq_some_iff.1 hr
      refine Option.bind_eq_some_iff.2 ⟨b, hb, ?_⟩
      split at hr
      · rename_i hbt
        rw [if_pos hbt]
        replace hr := Option.bind_eq_some_iff.1 hr
        obtain ⟨⟨res, S1⟩, hq, hr⟩ := hr
        refine Option.bind_eq_some_iff.2 ⟨_, opA_mono h hq, ?_⟩
        simp only at hr ⊢
        split at hr
        · split at hr
          · rename_i hst
            rw [if_pos]
            · exact opsA_mono h rest hr
            · refine List.all_eq_true.2 (fun j hj => ?_)
              have h1 := List.all_eq_true.1 hst j hj
              split at h1
              · rename_i q hq'
                split at h1
                · first | rfl | (rename_i hw; rw [hw])
                · split at h1
                  · rename_i u S2 u' ho' hu
                    rw [opA_mono h ho']; simp only [hu]; exact h1
                  · cases h1
                · cases h1
              · cases h1
          · cases hr
        · split at hr
          · rename_i hp; rw [if_pos hp]; exact hr
          · cases hr
      · rename_i hbt
        rw [if_neg hbt]
        exact opsA_mono h rest hr

theorem loopN_mono {α : Type} {body body' : List AV → St → Option (Out × α)} {go : α → List AV × St} (h : ∀ e S r, body e S = some r → body' e S = some r) : ∀ (n n' : Nat) {e : List AV} {S : St} {r : Out × α}, n ≤ n' → loopN body go n e S = some r → loopN body' go n' e S = some r
  | 0, _, _, _, _, _, hr => by cases hr
  | n + 1, 0, _, _, _, hk, _ => by omega
  | n + 1, n' + 1, e, S, r, hk, hr => by
    unfold loopN at hr ⊢
    obtain ⟨q, hq, hr⟩ := Option.bind_eq_some_iff.1 hr
    refine Option.bind_eq_some_iff.2 ⟨q, h _ _ _ hq, ?_⟩
    split at hr
    · exact loopN_mono h n n' (by omega) hr
    · exact hr

theorem codeA_mono (h : CFle cf cf') {k k' : Nat} (hk : k ≤ k') : ∀ (c : Code) {env : List AV} {S : St} {r : Out × List AV × St}, codeA P C cf f k c env S = some r → codeA P C cf' f k' c env S = some r
  | .skip, env, S, r, hr => hr
  | .label _, env, S, r, hr => hr
  | .region _ ops draw, env, S, r, hr => by
    unfold codeA at hr ⊢
    split at hr
    · rename_i hd
      rw [if_pos hd]
      split at hr
      · rename_i ho; rw [if_pos ho]; exact opsA_mono h _ hr
      · cases hr
    · rename_i hd
      rw [if_neg hd]; exact opsA_mono h _ hr
  | .seq a b, env, S, r, hr => by
    unfold codeA at hr ⊢
    obtain ⟨q, hq, hr⟩ := Option.bind_eq_some_iff.1 hr
    refine Option.bind_eq_some_iff.2 ⟨q, codeA_mono h hk a hq, ?_⟩
    split at hr
    · exact codeA_mono h hk b hr
    · exact hr
  | .cond c a b, env, S, r, hr => by
    unfold codeA at hr ⊢
    split at hr
    · exact codeA_mono h hk a hr
    · exact codeA_mono h hk b hr
    · cases hr
  | .block id b, env, S, r, hr => by
    unfold codeA at hr ⊢
    obtain ⟨q, hq, hr⟩ := Option.map_eq_some_iff.1 hr
    exact Option.map_eq_some_iff.2 ⟨q, codeA_mono h hk b hq, hr⟩
  | .loop b, env, S, r, hr => by
    unfold codeA at hr ⊢
    exact loopN_mono (fun e S r hr => codeA_mono h hk b hr) k k' hk hr
  | .exit _, env, S, r, hr => hr
  | .ret, env, S, r, hr => hr
  | .rangeFunc .., env, S, r, hr => by cases hr
  | .scope _, env, S, r, hr => by cases hr
  | .goto _, env, S, r, hr => by cases hr
  | .refuse _, env, S, r, hr => by cases hr

theorem Script.mono (h : CFle cf cf') : ∀ (s : Script) {r : Res × St}, s.run cf = some r → s.run cf' = some r
  | .done _, r, hr => hr
  | .call g a S k, r, hr => by
    unfold Script.run at hr ⊢
    obtain ⟨q, hq, hr⟩ := Option.bind_eq_some_iff.1 hr
    exact Option.bind_eq_some_iff.2 ⟨q, h _ _ _ _ hq, Script.mono h (k q.1 q.2) hr⟩
theorem callA_mono1 : ∀ k, CFle (callA P C k) (callA P C (k + 1))
  | 0 => fun g a S r h => by cases h
  | k + 1 => fun g a S r h => by
    unfold callA at h ⊢
    split at h
    · rename_i gg hg; first | (rw [hg]; exact h) | exact h
    · split at h
      · exact Script.mono (callA_mono1 k) _ h
      obtain ⟨p, hp, h⟩ := Option.bind_eq_some_iff.1 h
      refine Option.bind_eq_some_iff.2 ⟨p, hp, ?_⟩
      split at h
      · cases h
      · rename_i fn hf
        split at h
        · cases h
        · rename_i c hb
          split at h
          · cases h
          · rename_i hname
            obtain ⟨q, hq, h⟩ := Option.bind_eq_some_iff.1 h
            have := codeA_mono (callA_mono1 k) (Nat.le_succ k) c hq
            rw [if_neg hname]
            exact Option.bind_eq_some_iff.2 ⟨q, this, h⟩

theorem callA_mono {k k' : Nat} (hk : k ≤ k') : CFle (callA P C k) (callA P C k') := by
  induction k' with
  | zero => rw [show k = 0 by omega]; exact fun g a S r h => h
  | succ k' ih =>
    by_cases e : k = k' + 1
    · rw [e]; exact fun g a S r h => h
    · exact fun g a S r h => callA_mono1 k' g a S r (ih (by omega) g a S r h)
end

mutual
theorem AV.eqb_refl : ∀ a : AV, AV.eqb a a = true
  | .undef => rfl
  | .bool _ => by simp [AV.eqb]
  | .int _ _ => by simp [AV.eqb]
  | .str _ => by simp [AV.eqb]
  | .nul => rfl
  | .ptr _ _ => by simp [AV.eqb]
  | .cptr cs _ => by simp [AV.eqb, AV.eqbL_refl cs]
  | .nils => rfl
  | .lst xs _ => by simp [AV.eqb, AV.eqbL_refl xs]
  | .hnd _ _ _ _ => by simp [AV.eqb]
  | .func _ xs ys => by simp [AV.eqb, AV.eqbL_refl xs, AV.eqbL_refl ys]
  | .nilFunc => rfl
  | .iface _ v => by simp [AV.eqb, AV.eqb_refl v]
  | .nilIface => rfl
  | .agg xs => by simp [AV.eqb, AV.eqbL_refl xs]
  | .tuple xs => by simp [AV.eqb, AV.eqbL_refl xs]
  | .iter _ => by simp [AV.eqb]
theorem AV.eqbL_refl : ∀ l : List AV, AV.eqbL l l = true
  | [] => rfl
  | a :: l => by simp [AV.eqbL, AV.eqb_refl a, AV.eqbL_refl l]
end

section
variable (P : Program) (C : Cfg) (f : FuncId)
def CallE (f : FuncId) (args : List AV) (S : St) (r : Res) (S' : St) : Prop := ∃ k, callA P C k f args S = some (r, S')
def OpE (e : List AV) (S : St) (o : Oper) (r : Res) (S' : St) : Prop := ∃ k, opA P C (callA P C k) f e S o = some (r, S')
def OpsE (ops : Array Oper) (stab : Nat → List Nat) (pan : Nat → Nat → Bool) (l : List Nat) (e : List AV) (S : St) (out : Out) (e' : List AV) (S' : St) : Prop := ∃ k, opsA P C (callA P C k) f ops stab pan l e S = some (out, e', S')
def CodeE (c : Code) (e : List AV) (S : St) (out : Out) (e' : List AV) (S' : St) : Prop := ∃ k, codeA P C (callA P C k) f k c e S = some (out, e', S')
end

section
variable {P : Program} {C : Cfg} {f : FuncId} {e e' e1 : List AV} {S S' S1 : St} {out : Out}

theorem CodeE.seq {a b : Code} (h : CodeE P C f a e S .normal e1 S1) (k : CodeE P C f b e1 S1 out e' S') : CodeE P C f (.seq a b) e S out e' S' := by
  obtain ⟨k1, h⟩ := h
  obtain ⟨k2, k⟩ := k
  refine ⟨max k1 k2, ?_⟩
  unfold codeA
  rw [codeA_mono (callA_mono (Nat.le_max_left k1 k2)) (Nat.le_max_left k1 k2) a h]
  exact codeA_mono (callA_mono (Nat.le_max_right k1 k2)) (Nat.le_max_right k1 k2) b k
theorem CodeE.seqOut {a b : Code} (h : CodeE P C f a e S out e' S') (hne : out ≠ .normal) : CodeE P C f (.seq a b) e S out e' S' := by
  obtain ⟨k1, h⟩ := h
  refine ⟨k1, ?_⟩
  unfold codeA
  rw [h]
  cases out <;> first | rfl | exact absurd rfl hne
theorem CodeE.condT {c : Operand} {a b : Code} (hc : evA e c = .bool true) (h : CodeE P C f a e S out e' S') : CodeE P C f (.cond c a b) e S out e' S' := by
  obtain ⟨k1, h⟩ := h
  exact ⟨k1, by unfold codeA; rw [hc]; exact h⟩
theorem CodeE.condF {c : Operand} {a b : Code} (hc : evA e c = .bool false) (h : CodeE P C f b e S out e' S') : CodeE P C f (.cond c a b) e S out e' S' := by
  obtain ⟨k1, h⟩ := h
  exact ⟨k1, by unfold codeA; rw [hc]; exact h⟩
theorem CodeE.cond {c : Operand} {a b : Code} {p : Bool} (hc : evA e c = .bool p) (h1 : p = true → CodeE P C f a e S out e' S') (h2 : p = false → CodeE P C f b e S out e' S') : CodeE P C f (.cond c a b) e S out e' S' := by
  cases p
  · exact .condF hc (h2 rfl)
  · exact .condT hc (h1 rfl)
theorem CodeE.block {id : Nat} {b : Code} (h : CodeE P C f b e S out e' S') (hne : ∀ j, out ≠ .exit j) : CodeE P C f (.block id b) e S out e' S' := by
  obtain ⟨k1, h⟩ := h
  refine ⟨k1, ?_⟩
  unfold codeA
  rw [h]
  cases out <;> first | rfl | exact absurd rfl (hne _)
theorem CodeE.blockHere {id : Nat} {b : Code} (h : CodeE P C f b e S (.exit id) e' S') : CodeE P C f (.block id b) e S .normal e' S' := by
  obtain ⟨k1, h⟩ := h
  exact ⟨k1, by unfold codeA; rw [h]; simp⟩
theorem CodeE.blockOut {id j : Nat} {b : Code} (h : CodeE P C f b e S (.exit j) e' S') (hne : j ≠ id) : CodeE P C f (.block id b) e S (.exit j) e' S' := by
  obtain ⟨k1, h⟩ := h
  exact ⟨k1, by unfold codeA; rw [h]; simp [hne]⟩
theorem CodeE.skip : CodeE P C f .skip e S .normal e S := ⟨0, rfl⟩
theorem CodeE.label {l : Nat} : CodeE P C f (.label l) e S .normal e S := ⟨0, rfl⟩
theorem CodeE.exit {id : Nat} : CodeE P C f (.exit id) e S (.exit id) e S := ⟨0, rfl⟩
theorem CodeE.ret : CodeE P C f .ret e S .ret e S := ⟨0, rfl⟩
theorem CodeE.loop {b : Code} (h : CodeE P C f b e S .normal e1 S1) (k : CodeE P C f (.loop b) e1 S1 out e' S') : CodeE P C f (.loop b) e S out e' S' := by
  obtain ⟨k1, h⟩ := h
  obtain ⟨k2, k⟩ := k
  refine ⟨max k1 k2 + 1, ?_⟩
  unfold codeA at k ⊢
  unfold loopN
  have h1 : k1 ≤ max k1 k2 + 1 := by omega
  have h2 : k2 ≤ max k1 k2 + 1 := by omega
  rw [codeA_mono (callA_mono h1) h1 b h]
  exact loopN_mono (fun e S r hr => codeA_mono (callA_mono h2) h2 b hr) k2 _ (by omega) k
theorem CodeE.loopOut {b : Code} (h : CodeE P C f b e S out e' S') (hne : out ≠ .normal) : CodeE P C f (.loop b) e S out e' S' := by
  obtain ⟨k1, h⟩ := h
  refine ⟨k1 + 1, ?_⟩
  unfold codeA
  unfold loopN
  have h1 : k1 ≤ k1 + 1 := by omega
  rw [codeA_mono (callA_mono h1) h1 b h]
  cases out <;> first | rfl | exact absurd rfl hne
theorem CodeE.plain {id : Nat} {ops : Array Oper} (h : OpsE P C f ops (fun _ => []) (fun _ _ => true) (List.range ops.size) e S out e' S') : CodeE P C f (.region id ops false) e S out e' S' := by
  obtain ⟨k, h⟩ := h
  exact ⟨k, by unfold codeA; simpa using h⟩
theorem CodeE.drawn {id : Nat} {ops : Array Oper} {l : List Nat} (hr : regOk ops = true) (hl : canon ops = l) (h : OpsE P C f ops (stabOf ops) (anc ops) l e S out e' S') : CodeE P C f (.region id ops true) e S out e' S' := by
  obtain ⟨k, h⟩ := h
  exact ⟨k, by unfold codeA; rw [hr, hl]; simpa using h⟩

section
variable {ops : Array Oper} {stab : Nat → List Nat} {pan : Nat → Nat → Bool} {i : Nat} {l : List Nat} {o : Oper} {v : AV}
theorem OpsE.nil : OpsE P C f ops stab pan [] e S .normal e S := ⟨0, rfl⟩
theorem OpsE.cons (h1 : ops[i]? = some o) (h2 : wantedA ops e o = some true) (h4 : stab i = []) (h3 : OpE P C f e S o (.ret v) S1) (h5 : OpsE P C f ops stab pan l (putA e o.dst v) S1 out e' S') : OpsE P C f ops stab pan (i :: l) e S out e' S' := by
  obtain ⟨k1, h3⟩ := h3
  obtain ⟨k2, h5⟩ := h5
  refine ⟨max k1 k2, ?_⟩
  unfold opsA
  rw [h1]
  simp only [h2, Option.bind_some, if_true, h4, List.all_nil]
  rw [opA_mono (callA_mono (Nat.le_max_left k1 k2)) h3]
  simp only [Option.bind_some]
  exact opsA_mono (callA_mono (Nat.le_max_right k1 k2)) l h5
theorem OpsE.consS (h1 : ops[i]? = some o) (h2 : wantedA ops e o = some true) (h4 : ∀ r ∈ stab i, StabOk P C (fun _ _ _ => none) f ops e S1 r) (h3 : OpE P C f e S o (.ret v) S1) (h5 : OpsE P C f ops stab pan l (putA e o.dst v) S1 out e' S') : OpsE P C f ops stab pan (i :: l) e S out e' S' := by
  obtain ⟨k1, h3⟩ := h3
  obtain ⟨k2, h5⟩ := h5
  refine ⟨max k1 k2, ?_⟩
  unfold opsA
  rw [h1]
  simp only [h2, Option.bind_some, if_true]
  rw [opA_mono (callA_mono (Nat.le_max_left k1 k2)) h3]
  simp only [Option.bind_some]
  rw [if_pos]
  · exact opsA_mono (callA_mono (Nat.le_max_right k1 k2)) l h5
  · refine List.all_eq_true.2 (fun r hr => ?_)
    obtain ⟨q, hq, h⟩ := h4 r hr
    simp only [hq]
    rcases h with h | ⟨d, u, S2, hw, hd, hu, ho⟩
    · rw [h]
    · have ho' := opA_mono (cf' := callA P C (max k1 k2)) (fun _ _ _ _ h => by cases h) ho
      simp only [hw, hd, ho', hu]
      exact AV.eqb_refl u
theorem OpsE.panic (h1 : ops[i]? = some o) (h2 : wantedA ops e o = some true) (h3 : OpE P C f e S o (.panic v) S1) (h4 : l.all (pan i) = true) : OpsE P C f ops stab pan (i :: l) e S (.panic v) e S1 := by
  obtain ⟨k1, h3⟩ := h3
  refine ⟨k1, ?_⟩
  unfold opsA
  rw [h1]
  simp only [h2, Option.bind_some, if_true, h3]
  rw [if_pos h4]
theorem OpE.panicOp {x : Operand} {t : TypeId} (ho : o.op = .panic x) (hx : evA e x = .iface t v) : OpE P C f e S o (.panic (.iface t v)) S := ⟨0, by unfold opA; rw [ho]; simp only [hx]⟩
theorem OpsE.skip (h1 : ops[i]? = some o) (h2 : wantedA ops e o = some false) (h5 : OpsE P C f ops stab pan l (putA e o.dst (.tuple [])) S out e' S') : OpsE P C f ops stab pan (i :: l) e S out e' S' := by
  obtain ⟨k2, h5⟩ := h5
  refine ⟨k2, ?_⟩
  unfold opsA
  rw [h1]
  simp only [h2, Option.bind_some]
  exact h5
theorem OpE.of (h : opA P C (fun _ _ _ => none) f e S o = some (.ret v, S1)) : OpE P C f e S o (.ret v) S1 := ⟨0, by
  have : callA P C 0 = fun _ _ _ => none := by funext a b c; rfl
  rw [this]; exact h⟩
theorem OpE.call {c : Call} {g : FuncId} {first captured : List AV} {res : Res} (ho : o.op = .call c) {x : Operand} (hc : c.callee = .value x) (hx : evA e x = .func (.func g) first captured) {args : List AV} (ha : first ++ c.args.toList.map (evA e) ++ captured = args) (h : CallE P C g args S res S1) : OpE P C f e S o res S1 := by
  obtain ⟨k, h⟩ := h
  refine ⟨k, ?_⟩
  unfold opA
  rw [ho]
  simp only [callOpA, hc, hx, ha]
  exact h
end

/-- A function that is told otherwise. -/
def Cfg.told (C : Cfg) (f : FuncId) : Option Unit := match C.intr f with
  | some _ => some ()
  | none => match C.hook f with
    | some _ => some ()
    | none => match C.fza f with
      | true => some ()
      | false => none
theorem Cfg.told_none (h : C.told f = none) : C.intr f = none ∧ C.hook f = none ∧ ∀ args S, preA C f args S = some (args, S) := by
  unfold Cfg.told at h
  split at h
  · cases h
  · rename_i h1
    split at h
    · cases h
    · rename_i h2
      split at h
      · cases h
      · rename_i h3; exact ⟨h1, h2, fun args S => by unfold preA; rw [h3]; rfl⟩
theorem CallE.of {fn : Func} {c : Code} {args : List AV} {v : AV} (hi : C.told f = none) (hf : P.funcs[f]? = some fn) (hb : fn.body = some c) (hn : fn.name ≠ "runtime.NumGoroutine") (ho : out = .normal ∨ out = .ret)
    (h : CodeE P C f c (args ++ List.replicate (fn.ntmps - args.length) (.tuple [])) S out e' S') (hr : resultsA P fn e' S' = some v) {u : AV} {S2 : St} (hp : postA C f v S' = some (u, S2)) : CallE P C f args S (.ret u) S2 := by
  obtain ⟨k, h⟩ := h
  refine ⟨k + 1, ?_⟩
  obtain ⟨hi1, hi2, hi3⟩ := Cfg.told_none hi
  unfold callA
  rw [hi1]
  simp only [hi2, hi3, Option.bind_some, hf, hb]
  rw [if_neg hn, h]
  rcases ho with rfl | rfl <;> simp [hr, hp]
/-- .. that takes over what is handed to it. -/
theorem CallE.ofZ {fn : Func} {c : Code} {args args' : List AV} {S0 : St} {v : AV} (hi1 : C.intr f = none) (hi2 : C.hook f = none) (hz : C.fza f = true) (hm : mapS (frzA (S.next + 4)) args S = some (args', S0)) (hf : P.funcs[f]? = some fn) (hb : fn.body = some c) (hn : fn.name ≠ "runtime.NumGoroutine") (ho : out = .normal ∨ out = .ret)
    (h : CodeE P C f c (args' ++ List.replicate (fn.ntmps - args'.length) (.tuple [])) S0 out e' S') (hr : resultsA P fn e' S' = some v) {u : AV} {S2 : St} (hp : postA C f v S' = some (u, S2)) : CallE P C f args S (.ret u) S2 := by
  obtain ⟨k, h⟩ := h
  refine ⟨k + 1, ?_⟩
  have hi3 : preA C f args S = some (args', S0) := by unfold preA; rw [if_pos hz, hm]
  unfold callA
  rw [hi1]
  simp only [hi2, hi3, Option.bind_some, hf, hb]
  rw [if_neg hn, h]
  rcases ho with rfl | rfl <;> simp [hr, hp]
theorem CallE.panic {fn : Func} {c : Code} {args : List AV} {v : AV} (hi : C.told f = none) (hf : P.funcs[f]? = some fn) (hb : fn.body = some c) (hn : fn.name ≠ "runtime.NumGoroutine")
    (h : CodeE P C f c (args ++ List.replicate (fn.ntmps - args.length) (.tuple [])) S (.panic v) e' S') : CallE P C f args S (.panic v) S' := by
  obtain ⟨k, h⟩ := h
  refine ⟨k + 1, ?_⟩
  obtain ⟨hi1, hi2, hi3⟩ := Cfg.told_none hi
  unfold callA
  rw [hi1]
  simp only [hi2, hi3, Option.bind_some, hf, hb]
  rw [if_neg hn, h]
  rfl
/-- What a hook comes to. -/
def ScriptE (P : Program) (C : Cfg) (s : Script) (r : Res) (S' : St) : Prop := ∃ k, s.run (callA P C k) = some (r, S')
theorem ScriptE.done {r : Res} {S' : St} : ScriptE P C (.done (some (r, S'))) r S' := ⟨0, rfl⟩
theorem ScriptE.call {g : FuncId} {a : List AV} {S S1 S' : St} {r1 r : Res} {k : Res → St → Script} (h : CallE P C g a S r1 S1) (h2 : ScriptE P C (k r1 S1) r S') : ScriptE P C (.call g a S k) r S' := by
  obtain ⟨n1, h⟩ := h
  obtain ⟨n2, h2⟩ := h2
  refine ⟨max n1 n2, ?_⟩
  unfold Script.run
  rw [callA_mono (Nat.le_max_left n1 n2) _ _ _ _ h]
  exact Script.mono (callA_mono (Nat.le_max_right n1 n2)) _ h2
theorem CallE.hook {args : List AV} {r : Res} {H : List AV → St → Script} (hi : C.intr f = none) (hh : C.hook f = some H) (h : ScriptE P C (H args S) r S') : CallE P C f args S r S' := by
  obtain ⟨k, h⟩ := h
  exact ⟨k + 1, by unfold callA; rw [hi]; simp only [hh]; exact h⟩
theorem CallE.intr {g : List AV → St → Option (AV × St)} {args : List AV} {v : AV} (hi : C.intr f = some g) (h : g args S = some (v, S')) : CallE P C f args S (.ret v) S' :=
  ⟨1, by unfold callA; rw [hi]; simp [h]⟩
end

/-- What was there stays there. -/
structure Keep (S S' : St) : Prop where
  next : S.next ≤ S'.next
  mem : ∀ n, n < S.next → S'.mem n = S.mem n
theorem Keep.refl (S : St) : Keep S S := ⟨Nat.le_refl _, fun _ _ => rfl⟩
theorem Keep.trans {S S1 S2 : St} (h : Keep S S1) (k : Keep S1 S2) : Keep S S2 := ⟨Nat.le_trans h.next k.next, fun n hn => by rw [k.mem n (by have := h.next; omega), h.mem n hn]⟩
theorem Keep.new {S S1 : St} (h : Keep S S1) (b : Blk) : Keep S (S1.new b) := ⟨by show S.next ≤ S1.next + 1; have := h.next; omega, fun n hn => by
  show upd S1.mem S1.next _ n = _
  unfold upd
  rw [if_neg (by have := h.next; omega), h.mem n hn]⟩
theorem Keep.set {S S1 : St} (h : Keep S S1) (n : Nat) (b : Option Blk) (hn : S.next ≤ n) : Keep S (S1.set n b) := ⟨h.next, fun m hm => by
  show upd S1.mem n _ m = _
  unfold upd
  rw [if_neg (by omega), h.mem m hm]⟩
end Go.Proofs.Ytfphpjinimfhfaa.VM
