import Derived.Test.YtfphpjinimfhfaaVMWp
namespace Go.Proofs.Ytfphpjinimfhfaa.VM
variable [Glob] {P : Program} {C : Cfg} {f : FuncId}

/-! ### cuts: what is known of the temporaries between two pieces of code -/
theorem CallQ.ofQ {fn : Func} {c : Code} {args : List AV} {S : St} {Q : AV → St → Prop} (hi : C.told f = none) (hf : P.funcs[f]? = some fn) (hb : fn.body = some c) (hn : fn.name ≠ "runtime.NumGoroutine")
    (h : forceL (args ++ List.replicate (fn.ntmps - args.length) (.tuple [])) fun e => CodeQ P C f c e S (retQ P C f fn Q)) : CallQ P C f args S Q := by
  have h := forceL_iff.1 h
  unfold CodeQ at h
  obtain ⟨out, e', S', h1, h2⟩ := h
  unfold CallQ
  cases out with
  | normal => obtain ⟨v, u, S1, hv, hp, hq⟩ := retQ_sound h2; exact ⟨_, S1, .of hi hf hb hn (.inl rfl) h1 hv hp, hq⟩
  | ret => obtain ⟨v, u, S1, hv, hp, hq⟩ := retQ_sound h2; exact ⟨_, S1, .of hi hf hb hn (.inr rfl) h1 hv hp, hq⟩
  | exit j => exact h2.elim
  | panic v => exact h2.elim
theorem CodeQ.wp {c : Code} {e : List AV} {S : St} {Q : Out → List AV → St → Prop} (h : wpF P C f c e S Q) : CodeQ P C f c e S Q := by
  unfold CodeQ
  exact wpF_sound c h
def nextQ (P : Program) (C : Cfg) (f : FuncId) (b : Code) (Q : Out → List AV → St → Prop) : Out → List AV → St → Prop := fun out e1 S1 => match out with
  | .normal => CodeQ P C f b e1 S1 Q
  | o => Q o e1 S1
theorem CodeQ.seq {a b : Code} {e : List AV} {S : St} {Q : Out → List AV → St → Prop} (h : CodeQ P C f a e S (nextQ P C f b Q)) : CodeQ P C f (.seq a b) e S Q := by
  unfold CodeQ at h ⊢
  obtain ⟨out, e1, S1, h1, h2⟩ := h
  cases out with
  | normal =>
    change CodeQ P C f b e1 S1 Q at h2
    unfold CodeQ at h2
    obtain ⟨out, e2, S2, h3, h4⟩ := h2
    exact ⟨_, _, _, .seq h1 h3, h4⟩
  | ret => exact ⟨_, _, _, .seqOut h1 (by simp), h2⟩
  | exit j => exact ⟨_, _, _, .seqOut h1 (by simp), h2⟩
  | panic v => exact ⟨_, _, _, .seqOut h1 (by simp), h2⟩
/-- Between 'a' and 'b' this much is known. -/
def cutQ {β : Type} (p : β → List (Option AV)) (I : β → St → Prop) (Q : Out → List AV → St → Prop) : Out → List AV → St → Prop := fun out e1 S1 => match out with
  | .normal => ∃ b, I b S1 ∧ Fits e1 (p b)
  | o => Q o e1 S1
theorem CodeQ.cut {β : Type} (p : β → List (Option AV)) (I : β → St → Prop) {a b : Code} {e : List AV} {S : St} {Q : Out → List AV → St → Prop}
    (h1 : CodeQ P C f a e S (cutQ p I Q))
    (h2 : ∀ x d S1, I x S1 → fillF (p x) d 0 fun e => CodeQ P C f b e S1 Q) : CodeQ P C f (.seq a b) e S Q := by
  refine CodeQ.seq ?_
  unfold CodeQ at h1 ⊢
  obtain ⟨out, e1, S1, q1, q2⟩ := h1
  refine ⟨out, e1, S1, q1, ?_⟩
  cases out with
  | normal =>
    obtain ⟨x, hI, hf⟩ := q2
    exact fill_of_fits 0 (fun j => e1.getD j .undef) hf (fun j _ => by simp) (h2 x _ S1 hI)
  | ret => exact q2
  | exit j => exact q2
  | panic v => exact q2
end Go.Proofs.Ytfphpjinimfhfaa.VM
