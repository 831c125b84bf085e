import Derived.Test.YtfphpjinimfhfaaVMOps6
/-! One operation. -/
namespace Go.Proofs.Ytfphpjinimfhfaa.VM
set_option linter.unusedSimpArgs false
set_option linter.unusedVariables false
set_option linter.unusedSectionVars false
open Go.RowKit
variable [Glob]
section
variable {P : Program} {C : Cfg} {cf : CF} {f : FuncId} {w0 w : World} {G : Gh} {F : Nat → Option Blk} {S S' : St}

/-- A call, of Go code or of a function without a body. -/
def CallsX (P : Program) (f : FuncId) (args : Array Value) (w : World) (R : Ending → World → Prop) : Prop :=
  ((callFunc f args).run P w = .ok (.enter f args) w ∧ Calls P f args w R) ∨ ∃ c w', (callFunc f args).run P w = .ok (.value c) w' ∧ R (.returned c) w'

def ResR (G : Gh) : Res → Ending → Prop
  | .ret v, e => ∃ c, e = .returned c ∧ VR G v c
  | .panic v, e => ∃ c, e = .panicked [{ v := c, recovered := false }] ∧ VR G v c

def CallS (P : Program) (f : FuncId) (args : List AV) (S : St) (res : Res) (S' : St) : Prop :=
  ∀ (w0 : World) (G : Gh) (F : Nat → Option Blk) (w : World) (cargs : Array Value), (∀ k, VR G (Glob.gl k) (.pointer (some ⟨k, 0, none⟩))) → VRs G args cargs.toList → SR w0 G (ov S.mem F) w → Wf S → FO S F S'.next → FN G S.next S'.next →
    CallsX P f cargs w fun e w' => ∃ G', GE G G' S.next S'.next ∧ SR w0 G' (ov S'.mem F) w' ∧ Grow S S' ∧ ResR G' res e

def CFS (P : Program) (cf : CF) : Prop := ∀ f args S res S', cf f args S = some (res, S') → CallS P f args S res S'

/-- The frame's temporaries. -/
structure ER (G : Gh) (env : List AV) (tmps : Array Value) : Prop where
  len : env.length = tmps.size
  at_ : ∀ i (h : i < env.length), VR G env[i] (tmps.getD i Go.undef)
  gl : ∀ k, VR G (Glob.gl k) (.pointer (some ⟨k, 0, none⟩))

theorem ER.mono {G G' : Gh} {lo hi : Nat} (g : GE G G' lo hi) {env : List AV} {tmps : Array Value} (h : ER G env tmps) : ER G' env tmps := ⟨h.len, fun i hi => (h.at_ i hi).mono g, fun k => (h.gl k).mono g⟩

theorem ER.put {env : List AV} {a : Act} (h : ER G env a.tmps) (d : Option Tmp) {v : AV} {c : Value} (hv : VR G v c) : ER G (putA env d v) (a.put d c).tmps := by
  cases d with
  | none => exact h
  | some d =>
    have := Cells.set (G := G) (xs := env) (cs := a.tmps) ⟨h.len, h.at_⟩ d hv
    exact ⟨this.len, this.at_, h.gl⟩

theorem ER.ev {env : List AV} {a : Act} (h : ER G env a.tmps) (x : Operand) : VR G (evA env x) (a.eval x) := by
  cases x with
  | tmp t =>
    show VR G (env.getD t .undef) (a.tmps.getD t Go.undef)
    by_cases hlt : t < env.length
    · simp only [List.getD, List.getElem?_eq_getElem hlt, Option.getD_some]
      exact h.at_ t hlt
    · rw [show env.getD t .undef = .undef by simp [List.getD, hlt]]
      exact .undef _
  | const v => exact VR_ofValue G v
  | func g => exact .func _ _ _ _ _ rfl rfl (fun i hi => by simp at hi) (fun i hi => by simp at hi)
  | global g => exact h.gl g

theorem ER.evs {env : List AV} {a : Act} (h : ER G env a.tmps) : ∀ xs : List Operand, VRs G (xs.map (evA env)) (xs.map a.eval)
  | [] => .nil
  | x :: xs => .cons (h.ev x) (ER.evs h xs)

theorem VRs.append : ∀ {xs ys : List AV} {cs ds : List Value}, VRs G xs cs → VRs G ys ds → VRs G (xs ++ ys) (cs ++ ds)
  | _, _, _, _, .nil, h => h
  | _, _, _, _, .cons h t, k => .cons h (VRs.append t k)

theorem VRs.of_at : ∀ {xs : List AV} {cs : List Value}, xs.length = cs.length → (∀ i (h : i < xs.length), VR G xs[i] (cs.getD i Go.undef)) → VRs G xs cs
  | [], [], _, _ => .nil
  | x :: xs, c :: cs, hl, h => .cons (h 0 (by simp)) (VRs.of_at (by simpa using hl) (fun i hi => h (i + 1) (by simpa using hi)))

theorem VRs.of_arr {xs : List AV} {cs : Array Value} (hl : xs.length = cs.size) (h : ∀ i (hi : i < xs.length), VR G xs[i] (cs.getD i Go.undef)) : VRs G xs cs.toList :=
  VRs.of_at (by simpa using hl) (fun i hi => by
    have := h i hi
    rw [arr_getD] at this
    simpa [List.getD] using this)

theorem VRs.len : ∀ {xs : List AV} {cs : List Value}, VRs G xs cs → xs.length = cs.length
  | _, _, .nil => rfl
  | _, _, .cons _ t => by simp [VRs.len t]
theorem VRs.at_ : ∀ {xs : List AV} {cs : List Value}, VRs G xs cs → ∀ i (h : i < xs.length), VR G xs[i] (cs.getD i Go.undef)
  | _, _, .cons h t, 0, _ => h
  | _, _, .cons h t, i + 1, hi => VRs.at_ t i (by simpa using hi)

/-- What one operation leaves. -/
def OpPost (w0 : World) (F : Nat → Option Blk) (G : Gh) (S S' : St) (o : Oper) (a : Act) (K : Act → World → Prop) (Q : Exit → Act → World → Prop) : Res → Prop
  | .ret v => ∀ c w' G', VR G' v c → GE G G' S.next S'.next → SR w0 G' (ov S'.mem F) w' → Grow S S' → K (a.put o.dst c) w'
  | .panic v => ∀ c w' G', VR G' v c → GE G G' S.next S'.next → SR w0 G' (ov S'.mem F) w' → Grow S S' → Q (.panic [{ v := c, recovered := false }]) a w'

theorem op_value {o : Oper} {a : Act} {K : Act → World → Prop} {Q : Exit → Act → World → Prop} {v : AV} {s : Sem Value} (he : execOp a.eval o = do pure (.value (← s))) (hg : GoodV w0 F G S S' v (s.run P w))
    (hp : OpPost w0 F G S S' o a K Q (.ret v)) : o.wp P a w K Q := by
  obtain ⟨c, w', G', h1, h2, h3, h4, h5⟩ := hg
  unfold Oper.wp
  rw [he]
  simp only [Sem.run_bind, h1, Result.andThen_ok, Sem.run_pure, Oper.upon]
  exact hp c w' G' h2 h3 h4 h5
theorem op_pure {o : Oper} {a : Act} {K : Act → World → Prop} {Q : Exit → Act → World → Prop} {v : AV} {c : Value} (he : (execOp a.eval o).run P w = .ok (.value c) w) (hv : VR G v c) (h : SR w0 G (ov S.mem F) w) (hwf : Wf S)
    (hp : OpPost w0 F G S S o a K Q (.ret v)) : o.wp P a w K Q := by
  unfold Oper.wp
  rw [he]
  exact hp c w G hv (GE.refl _ _ _) h (Grow.refl hwf)

theorem retA_some {r : AV × St} {res : Res} {S' : St} (h : retA r = some (res, S')) : res = .ret r.1 ∧ S' = r.2 := by
  unfold retA at h; cases h; exact ⟨rfl, rfl⟩

theorem op_call {o : Oper} {a : Act} {K : Act → World → Prop} {Q : Exit → Act → World → Prop} {g : FuncId} {args : List AV} {cargs : Array Value} {res : Res} (hcf : CFS P cf) (hc : cf g args S = some (res, S')) (hv : VRs G args cargs.toList) (hgl : ∀ k, VR G (Glob.gl k) (.pointer (some ⟨k, 0, none⟩)))
    (he : (execOp a.eval o).run P w = (callFunc g cargs).run P w) (h : SR w0 G (ov S.mem F) w) (hwf : Wf S) (hFO : FO S F S'.next) (hFN : FN G S.next S'.next) (hp : OpPost w0 F G S S' o a K Q res) : o.wp P a w K Q := by
  unfold Oper.wp
  rw [he]
  rcases hcf g args S res S' hc w0 G F w cargs hgl hv h hwf hFO hFN with ⟨h1, h2⟩ | ⟨c, w', h1, G', h3, h4, h5, h6⟩
  · rw [h1]
    simp only [Oper.upon]
    refine h2.mono (fun e w' h3 => ?_)
    obtain ⟨G', h3, h4, h5, h6⟩ := h3
    cases res with
    | ret v => obtain ⟨c, rfl, hv⟩ := h6; exact hp c w' G' hv h3 h4 h5
    | panic v => obtain ⟨c, rfl, hv⟩ := h6; exact hp c w' G' hv h3 h4 h5
  · rw [h1]
    cases res with
    | ret v => obtain ⟨c', e, hv⟩ := h6; cases e; exact hp c w' G' hv h3 h4 h5
    | panic v => obtain ⟨c', e, hv⟩ := h6; cases e

theorem op_call_value {o : Oper} {a : Act} {env : List AV} (he : ER G env a.tmps) {c : Call} (ho : o.op = .call c) {g : Operand} (hcal : c.callee = .value g) {gf : FuncId} {first captured : List AV} (hg : evA env g = .func (.func gf) first captured) :
    ∃ cargs : Array Value, VRs G (first ++ c.args.toList.map (evA env) ++ captured) cargs.toList ∧ (execOp a.eval o).run P w = (callFunc gf cargs).run P w := by
  have hv := he.ev g
  rw [hg] at hv
  generalize hgv : a.eval g = gv at hv
  cases hv with
  | func _ _ _ cs ds hx hy h1 h2 =>
    refine ⟨cs ++ c.args.map a.eval ++ ds, ?_, ?_⟩
    · simp only [Array.toList_append, Array.toList_map]
      exact VRs.append (VRs.append (VRs.of_arr hx h1) (he.evs _)) (VRs.of_arr hy h2)
    · unfold execOp
      rw [ho]
      simp only [Sem.run_bind]
      unfold resolve
      rw [hcal]
      simp only [hgv, Deferred.ofValue, Sem.run_pure, Result.andThen_ok, invoke]
end
end Go.Proofs.Ytfphpjinimfhfaa.VM
