import Derived.Test.YtfphpjinimfhfaaVMOps7
/-! Every operation. -/
namespace Go.Proofs.Ytfphpjinimfhfaa.VM
set_option linter.unusedSimpArgs false
set_option linter.unusedVariables false
set_option linter.unusedSectionVars false
open Go.RowKit
variable [Glob]
section
variable {P : Program} {C : Cfg} {cf : CF} {f : FuncId} {w0 w : World} {G : Gh} {F : Nat → Option Blk} {S S' : St}

theorem ER.or {env : List AV} {a : Act} (h : ER G env a.tmps) (x : Option Operand) : OR G (x.map (evA env)) (x.map a.eval) := by
  cases x with
  | none => exact trivial
  | some x => exact h.ev x

theorem ER.parts {env : List AV} {a : Act} (h : ER G env a.tmps) (ps : Array (Nat × Operand)) :
    (ps.toList.map fun p => (p.1, evA env p.2)).map (·.1) = (ps.map fun (p : Nat × Operand) => (p.1, a.eval p.2)).toList.map (·.1) ∧
    VRs G ((ps.toList.map fun p => (p.1, evA env p.2)).map (·.2)) ((ps.map fun (p : Nat × Operand) => (p.1, a.eval p.2)).toList.map (·.2)) := by
  refine ⟨by simp [Function.comp_def], ?_⟩
  have := h.evs (ps.toList.map (·.2))
  simpa [Function.comp_def] using this

theorem exec_builtin {o : Oper} {a : Act} {c : Call} (ho : o.op = .call c) {b : Builtin} (hc : c.callee = .builtin b) : ∃ cs, execOp a.eval o = Go.builtin b c.argTypes o.type cs (c.args.map a.eval) := by
  refine ⟨c.args.map fun | .const _ => true | _ => false, ?_⟩
  simp only [execOp, ho]
  unfold resolve
  rw [hc]
  rfl

theorem und_fun {t : TypeId} {o : Option TypeDesc} (h : P.underlying t = o) : P.underlying t = o := h

theorem builtin_sim {o : Oper} {a : Act} {K : Act → World → Prop} {Q : Exit → Act → World → Prop} {res : Res} (h : SR w0 G (ov S.mem F) w) (hwf : Wf S) {b : Builtin} {tys : Array TypeId} {args : List AV} {cl : List Value} (hargs : VRs G args cl) {cs : Array Bool}
    (hex : execOp a.eval o = Go.builtin b tys o.type cs cl.toArray) (hop : builtinA P C f b tys args S = some (res, S')) (hFO : FO S F S'.next) (hFN : FN G S.next S'.next) (hp : OpPost w0 F G S S' o a K Q res) : o.wp P a w K Q := by
  unfold builtinA at hop
  split at hop
  · rename_i x
    cases hargs with
    | cons h1 t1 => cases t1 with
      | nil =>
        replace hop := Option.bind_eq_some_iff.1 hop; obtain ⟨t, ht, hop⟩ := hop
        split at hop
        · rename_i s hu
          obtain ⟨rfl, rfl⟩ := retA_some hop
          cases h1
          refine op_value (s := Builtin.len_ tys o.type #[_]) (by rw [hex]; rfl) (.quiet h hwf (c := .int .i64 s.length) ?_ (.int _ _)) hp
          simp [Builtin.len_, ht, und_run hu, size_mk, goInt]
        · cases hop
        · rename_i e hu hns
          replace hop := Option.bind_eq_some_iff.1 hop; obtain ⟨n, hn, hop⟩ := hop
          obtain ⟨rfl, rfl⟩ := retA_some hop
          refine op_value (s := Builtin.len_ tys o.type #[_]) (by rw [hex]; rfl) (.quiet h hwf (c := .int .i64 n) ?_ (.int _ _)) hp
          have hlen : ∀ (a : Option Addr) (m cp : Nat), (Builtin.len_ tys o.type #[.slice a m cp]).run P w = .ok (.int .i64 m) w := by
            intro a m cp
            simp [Builtin.len_, ht, und_run hu, goInt]
          cases h1 <;> simp [lenA] at hn
          · rename_i s'; exact absurd rfl (hns s')
          all_goals (subst hn; exact hlen _ _ _)
        · cases hop
  · rename_i x
    cases hargs with
    | cons h1 t1 => cases t1 with
      | nil =>
        replace hop := Option.bind_eq_some_iff.1 hop; obtain ⟨t, ht, hop⟩ := hop
        split at hop
        · rename_i e hu
          obtain ⟨rfl, rfl⟩ := retA_some hop
          cases h1
          refine op_value (s := Builtin.cap_ tys o.type #[_]) (by rw [hex]; rfl) (.quiet h hwf (c := .int .i64 0) ?_ (.int _ _)) hp
          simp [Builtin.cap_, ht, und_run hu, goInt]
        · rename_i e xs hu
          obtain ⟨rfl, rfl⟩ := retA_some hop
          cases h1 with
          | elst _ a cap hte =>
            obtain rfl : cap = 0 := by
              rcases hte with e | ⟨_, e⟩
              · cases e
              · exact e
            refine op_value (s := Builtin.cap_ tys o.type #[_]) (by rw [hex]; rfl) (.quiet h hwf (c := .int .i64 0) ?_ (.int _ _)) hp
            simp [Builtin.cap_, ht, und_run hu, goInt]
          | lst _ _ b o' cap s' val hc hs' hm hv htip =>
            obtain rfl : cap = xs.length := htip
            refine op_value (s := Builtin.cap_ tys o.type #[_]) (by rw [hex]; rfl) (.quiet h hwf (c := .int .i64 xs.length) ?_ (.int _ _)) hp
            simp [Builtin.cap_, ht, und_run hu, goInt]
        · cases hop
  · rename_i x y
    obtain ⟨r, hv, hop⟩ := Option.bind_eq_some_iff.1 hop
    obtain ⟨rfl, rfl⟩ := retA_some hop
    cases hargs with
    | cons h1 t1 => cases t1 with
      | cons h2 t2 => cases t2 with
        | nil =>
          obtain ⟨t, u, htu⟩ : ∃ t u, tys.toList = [t, u] := by
            unfold appendA at hv
            split at hv
            · exact ⟨_, _, by assumption⟩
            · cases hv
          rw [htu] at hv
          have htu' : tys = #[t, u] := by rw [← htu]
          subst htu'
          exact op_value (s := Builtin.append_ #[t, u] o.type #[_, _]) (by rw [hex]; rfl) (sim_append C f h hwf h1 h2 hv hFO hFN o.type) hp
  · rename_i x y
    obtain ⟨r, hv, hop⟩ := Option.bind_eq_some_iff.1 hop
    obtain ⟨rfl, rfl⟩ := retA_some hop
    cases hargs with
    | cons h1 t1 => cases t1 with
      | cons h2 t2 => cases t2 with
        | nil =>
          obtain ⟨t, u, htu⟩ : ∃ t u, tys.toList = [t, u] := by
            unfold copyA at hv
            split at hv
            · exact ⟨_, _, by assumption⟩
            · cases hv
          rw [htu] at hv
          have htu' : tys = #[t, u] := by rw [← htu]
          subst htu'
          exact op_value (s := Builtin.copy_ #[t, u] o.type #[_, _]) (by rw [hex]; rfl) (sim_copy h hwf h1 h2 hv o.type) hp
  · obtain ⟨v, hv, hop⟩ := Option.bind_eq_some_iff.1 hop
    obtain ⟨rfl, rfl⟩ := retA_some hop
    unfold mnA at hv
    split at hv
    · cases hv
    · cases hargs with
      | cons h1 t1 =>
        obtain ⟨d, e1, e2⟩ := mn_run (P := P) (w := w) _ _ _ _ _ h1 t1 hv
        refine op_value (s := Builtin.min_ tys o.type _) (by rw [hex]; rfl) ?_ hp
        exact .quiet h hwf (c := d) e1 e2
  · obtain ⟨v, hv, hop⟩ := Option.bind_eq_some_iff.1 hop
    obtain ⟨rfl, rfl⟩ := retA_some hop
    unfold mxA at hv
    split at hv
    · cases hv
    · cases hargs with
      | cons h1 t1 =>
        obtain ⟨d, e1, e2⟩ := mx_run (P := P) (w := w) _ _ _ _ _ h1 t1 hv
        refine op_value (s := Builtin.max_ tys o.type _) (by rw [hex]; rfl) ?_ hp
        exact .quiet h hwf (c := d) e1 e2
  · cases hop

theorem call_sim {o : Oper} {a : Act} {env : List AV} {K : Act → World → Prop} {Q : Exit → Act → World → Prop} {res : Res} (hcf : CFS P cf) (he : ER G env a.tmps) (h : SR w0 G (ov S.mem F) w) (hwf : Wf S) {c : Call} (ho : o.op = .call c)
    (hop : callOpA P C cf f env S c = some (res, S')) (hFO : FO S F S'.next) (hFN : FN G S.next S'.next) (hp : OpPost w0 F G S S' o a K Q res) : o.wp P a w K Q := by
  unfold callOpA at hop
  split at hop
  · rename_i b hc
    obtain ⟨cs, hex⟩ := exec_builtin (a := a) ho hc
    have harr : (c.args.map a.eval) = (c.args.toList.map a.eval).toArray := by apply Array.ext'; simp
    rw [harr] at hex
    exact builtin_sim h hwf (he.evs c.args.toList) hex hop hFO hFN hp
  · cases hop
  · rename_i g hc
    split at hop
    · rename_i gf first captured hg
      obtain ⟨cargs, hv, hex⟩ := op_call_value (P := P) (w := w) he ho hc hg
      exact op_call hcf hop hv he.gl hex h hwf hFO hFN hp
    · cases hop

end
end Go.Proofs.Ytfphpjinimfhfaa.VM
