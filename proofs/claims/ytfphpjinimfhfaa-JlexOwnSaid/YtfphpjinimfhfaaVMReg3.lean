import Derived.Test.YtfphpjinimfhfaaVMCall
/-! What operations hang on. -/
namespace Go.Proofs.Ytfphpjinimfhfaa.VM
set_option linter.unusedSimpArgs false
set_option linter.unusedVariables false
set_option linter.unusedSectionVars false
open Go.RowKit
variable [Glob]
section
variable {P : Program} {C : Cfg} {cf : CF} {f : FuncId}

theorem map_ev {env env' : List AV} {l : List Operand} (h : ∀ x ∈ l, evA env x = evA env' x) : l.map (evA env) = l.map (evA env') := List.map_congr_left h

theorem opA_congr {env env' : List AV} {S : St} {o : Oper} (h : ∀ x ∈ o.op.operands.toList, evA env x = evA env' x) : opA P C cf f env S o = opA P C cf f env' S o := by
  obtain ⟨dst, op, type, pos, after, guard⟩ := o
  have pairs : ∀ ps : Array (Nat × Operand), (∀ x ∈ ps.toList.map (·.2), evA env x = evA env' x) → (ps.toList.map fun p => (p.1, evA env p.2)) = (ps.toList.map fun p => (p.1, evA env' p.2)) := by
    intro ps hp
    refine List.map_congr_left (fun p hm => ?_)
    rw [hp p.2 (List.mem_map.2 ⟨p, hm, rfl⟩)]
  cases op <;> simp only [Op.operands] at h <;> simp only [opA]
  case build t ps => rw [pairs ps (by simpa using h)]
  case buildSlice t n ps => rw [pairs ps (by simpa using h)]
  case makeFunc fn xs ys =>
    rw [map_ev (l := xs.toList) (fun x hx => h x (by simp at hx ⊢; exact .inl hx)), map_ev (l := ys.toList) (fun x hx => h x (by simp at hx ⊢; exact .inr hx))]
  case slice t x lo hi mx =>
    have h1 : ∀ y : Option Operand, (∀ z ∈ y.toArray.toList, evA env z = evA env' z) → y.map (evA env) = y.map (evA env') := by
      intro y hy
      cases y with
      | none => rfl
      | some y => simp [hy y (by simp)]
    rw [h x (by simp), h1 lo (fun z hz => h z (by simp at hz ⊢; simp [hz])), h1 hi (fun z hz => h z (by simp at hz ⊢; simp [hz])), h1 mx (fun z hz => h z (by simp at hz ⊢; simp [hz]))]
  case call c =>
    have ha : c.args.toList.map (evA env) = c.args.toList.map (evA env') := map_ev (fun x hx => h x (by simp [Call.operands]; exact .inr (by simpa using hx)))
    unfold callOpA
    rw [ha]
    cases hc : c.callee with
    | value g =>
      have : evA env g = evA env' g := h g (by simp [Call.operands, hc])
      simp only [this]
    | invoke r m => rfl
    | builtin b => rfl
  case next it b => cases b <;> simp_all
  all_goals first | rfl | (simp_all; done)

/-- An operation that looks at its operands alone. -/
theorem pure_indep {env : List AV} {S S' : St} {o : Oper} {res : Res} (hp : isPure o.op = true) (h : opA P C cf f env S o = some (res, S')) : S' = S ∧ (∃ v, res = .ret v) ∧ ∀ S2, opA P C cf f env S2 o = some (res, S2) := by
  obtain ⟨dst, op, type, pos, after, guard⟩ := o
  cases op <;> simp only [isPure] at hp <;> first | (cases hp; done) | skip
  case call c =>
    obtain ⟨callee, args, tys⟩ := c
    cases callee with
    | value g => simp at hp
    | invoke r m => simp at hp
    | builtin b =>
      simp only [opA, callOpA] at h ⊢
      unfold builtinA at h
      split at h
      · rename_i x hx
        obtain ⟨t, ht, h⟩ := Option.bind_eq_some_iff.1 h
        simp only [builtinA, hx, ht, Option.bind_some]
        split at h
        · rename_i s hu
          obtain ⟨rfl, rfl⟩ := retA_some h
          exact ⟨rfl, ⟨_, rfl⟩, fun S2 => by simp only [hu]; rfl⟩
        · cases h
        · rename_i e hu hns
          replace h := Option.bind_eq_some_iff.1 h; obtain ⟨n, hn, h⟩ := h
          obtain ⟨rfl, rfl⟩ := retA_some h
          refine ⟨rfl, ⟨_, rfl⟩, fun S2 => ?_⟩
          rw [hn]; rfl
        · cases h
      · simp at hp
      · simp at hp
      · simp at hp
      · rename_i args' hx
        obtain ⟨v, hv, h⟩ := Option.bind_eq_some_iff.1 h
        obtain ⟨rfl, rfl⟩ := retA_some h
        exact ⟨rfl, ⟨_, rfl⟩, fun S2 => by simp only [builtinA, hv]; rfl⟩
      · rename_i args' hx
        obtain ⟨v, hv, h⟩ := Option.bind_eq_some_iff.1 h
        obtain ⟨rfl, rfl⟩ := retA_some h
        exact ⟨rfl, ⟨_, rfl⟩, fun S2 => by simp only [builtinA, hv]; rfl⟩
      · cases h
  case pick c a b =>
    simp only [opA] at h ⊢
    split at h
    · rename_i b' hb
      obtain ⟨rfl, rfl⟩ := retA_some h
      exact ⟨rfl, ⟨_, rfl⟩, fun S2 => by simp only [hb]; rfl⟩
    · cases h
  case nilCheck x =>
    simp only [opA] at h ⊢
    split at h
    · rename_i hb; obtain ⟨rfl, rfl⟩ := retA_some h; exact ⟨rfl, ⟨_, rfl⟩, fun S2 => by simp only [hb]; rfl⟩
    · rename_i hb; obtain ⟨rfl, rfl⟩ := retA_some h; exact ⟨rfl, ⟨_, rfl⟩, fun S2 => by simp only [hb]; rfl⟩
    · rename_i hb; obtain ⟨rfl, rfl⟩ := retA_some h; exact ⟨rfl, ⟨_, rfl⟩, fun S2 => by simp only [hb]; rfl⟩
    · cases h
  case makeInterface t x =>
    simp only [opA] at h ⊢
    split at h
    · cases h
    · rename_i d hd hu
      obtain ⟨rfl, rfl⟩ := retA_some h
      refine ⟨rfl, ⟨_, rfl⟩, fun S2 => ?_⟩
      cases d <;> simp_all [retA]
    · cases h
  case extract t i =>
    simp only [opA] at h ⊢
    split at h
    · rename_i vs hb
      obtain ⟨v, hv, h⟩ := Option.bind_eq_some_iff.1 h
      obtain ⟨rfl, rfl⟩ := retA_some h
      exact ⟨rfl, ⟨_, rfl⟩, fun S2 => by simp only [hb, hv]; rfl⟩
    · cases h
  all_goals
    simp only [opA] at h ⊢
    first
      | (obtain ⟨rfl, rfl⟩ := retA_some h; exact ⟨rfl, ⟨_, rfl⟩, fun S2 => rfl⟩)
      | (obtain ⟨v, hv, h⟩ := Option.bind_eq_some_iff.1 h; obtain ⟨rfl, rfl⟩ := retA_some h; exact ⟨rfl, ⟨_, rfl⟩, fun S2 => by simp only [hv]; rfl⟩)

/-- An operation that makes a block: by the next name alone. -/
theorem new_indep {env : List AV} {S S' : St} {o : Oper} {res : Res} (hp : isNew o.op = true) (h : opA P C cf f env S o = some (res, S')) :
    (∃ v, res = .ret v) ∧ ((S' = S ∧ ∀ S2, S2.next = S.next → opA P C cf f env S2 o = some (res, S2)) ∨ ∃ b, S' = S.new b ∧ ∀ S2, S2.next = S.next → opA P C cf f env S2 o = some (res, S2.new b)) := by
  obtain ⟨dst, op, type, pos, after, guard⟩ := o
  cases op <;> simp only [isNew] at hp <;> first | (cases hp; done) | skip
  case alloc t =>
    simp only [opA] at h ⊢
    obtain ⟨z, hz, h⟩ := Option.bind_eq_some_iff.1 h
    obtain ⟨rfl, rfl⟩ := retA_some h
    exact ⟨⟨_, rfl⟩, .inr ⟨_, rfl, fun S2 hS => by simp only [hz, Option.bind_some, hS]; rfl⟩⟩
  case box t x =>
    simp only [opA] at h ⊢
    split at h
    · cases h
    · cases h
    · rename_i h1 h2
      split at h
      · rename_i hro
        obtain ⟨rfl, rfl⟩ := retA_some h
        refine ⟨⟨_, rfl⟩, .inl ⟨rfl, fun S2 hS => ?_⟩⟩
        generalize evA env x = v at h1 h2
        cases v <;> simp_all [retA]
      · rename_i hro
        obtain ⟨rfl, rfl⟩ := retA_some h
        refine ⟨⟨_, rfl⟩, .inr ⟨_, rfl, fun S2 hS => ?_⟩⟩
        generalize evA env x = v at h1 h2
        cases v <;> simp_all [retA]
  case buildSlice t len ps =>
    simp only [opA] at h ⊢
    obtain ⟨r, hr, h⟩ := Option.bind_eq_some_iff.1 h
    obtain ⟨rfl, rfl⟩ := retA_some h
    refine ⟨⟨_, rfl⟩, ?_⟩
    unfold buildSliceA at hr ⊢
    obtain ⟨e, he, hr⟩ := Option.bind_eq_some_iff.1 hr
    obtain ⟨s, hs, hr⟩ := Option.bind_eq_some_iff.1 hr
    obtain ⟨ag, hg, hr⟩ := Option.bind_eq_some_iff.1 hr
    obtain ⟨z, hz, hr⟩ := Option.bind_eq_some_iff.1 hr
    split at hr
    case isFalse => cases hr
    rename_i hif
    obtain ⟨cs, hcs, hr⟩ := Option.bind_eq_some_iff.1 hr
    split at hr
    · rename_i hh
      cases hr
      exact .inr ⟨_, rfl, fun S2 hS => by simp only [he, hs, hg, hz, hcs, Option.bind_some, if_pos hif, if_pos hh, hS]; rfl⟩
    · rename_i hh
      split at hr
      · rename_i hk
        cases hr
        exact .inl ⟨rfl, fun S2 hS => by simp only [he, hs, hg, hz, hcs, Option.bind_some, if_pos hif, if_neg hh, if_pos hk]; rfl⟩
      · cases hr
  case makeSlice t l c =>
    simp only [opA] at h ⊢
    obtain ⟨r, hr, h⟩ := Option.bind_eq_some_iff.1 h
    obtain ⟨rfl, rfl⟩ := retA_some h
    refine ⟨⟨_, rfl⟩, ?_⟩
    unfold makeSliceA at hr ⊢
    split at hr
    case h_2 => cases hr
    rename_i k l' k' c' hl hc
    obtain ⟨e, he, hr⟩ := Option.bind_eq_some_iff.1 hr
    obtain ⟨s, hs, hr⟩ := Option.bind_eq_some_iff.1 hr
    obtain ⟨by_, hg, hr⟩ := Option.bind_eq_some_iff.1 hr
    obtain ⟨z, hz, hr⟩ := Option.bind_eq_some_iff.1 hr
    split at hr
    case isFalse => cases hr
    rename_i hif
    cases hr
    exact .inr ⟨_, rfl, fun S2 hS => by simp only [hl, hc, he, hs, hg, hz, Option.bind_some, if_pos hif, hS]; rfl⟩
  case range t x =>
    simp only [opA] at h ⊢
    split at h
    · rename_i s hu hx
      obtain ⟨rfl, rfl⟩ := retA_some h
      exact ⟨⟨_, rfl⟩, .inr ⟨_, rfl, fun S2 hS => by simp only [hu, hx, hS]; rfl⟩⟩
    · cases h

/-- The names that a reading looks at. -/
def nameOf : AV → Option Nat
  | .ptr n _ => some n
  | .hnd n _ _ _ => some n
  | _ => none
def readName (env : List AV) : Op → Option Nat
  | .load _ x => nameOf (evA env x)
  | .convert _ _ x => nameOf (evA env x)
  | _ => none

theorem cells_congr {S S2 : St} {n : Nat} (h : S2.mem n = S.mem n) : S2.cells n = S.cells n := by unfold St.cells; rw [h]

theorem read_supp {env : List AV} {S S' : St} {o : Oper} {res : Res} (hp : isRead o.op = true) (h : opA P C cf f env S o = some (res, S')) :
    S' = S ∧ (∃ v, res = .ret v) ∧ ∀ S2, (∀ n, readName env o.op = some n → S2.mem n = S.mem n) → opA P C cf f env S2 o = some (res, S2) := by
  obtain ⟨dst, op, type, pos, after, guard⟩ := o
  cases op <;> simp only [isRead] at hp <;> first | (cases hp; done) | skip
  case load t x =>
    simp only [opA, readName] at h ⊢
    obtain ⟨v, hv, h⟩ := Option.bind_eq_some_iff.1 h
    obtain ⟨e1, e2⟩ := retA_some h
    subst e1
    refine ⟨e2, ⟨_, rfl⟩, fun S2 h2 => ?_⟩
    have : loadA P S2 t (evA env x) = loadA P S t (evA env x) := by
      generalize evA env x = y at h2
      unfold loadA
      cases szA P t with
      | none => rfl
      | some s =>
        cases isAggA P t with
        | none => rfl
        | some ag =>
          cases y with
          | ptr n off => simp only [cells_congr (h2 n rfl)]
          | _ => rfl
    rw [this, hv]; rfl
  case convert s d x =>
    have hsd : s ≠ d := by simpa using hp
    simp only [opA, readName, if_neg hsd] at h ⊢
    obtain ⟨v, hv, h⟩ := Option.bind_eq_some_iff.1 h
    obtain ⟨e1, e2⟩ := retA_some h
    subst e1
    refine ⟨e2, ⟨_, rfl⟩, fun S2 h2 => ?_⟩
    have : convertA P S2 s d (evA env x) = convertA P S s d (evA env x) := by
      generalize evA env x = y at h2
      have hc : ∀ n, nameOf y = some n → S2.cells n = S.cells n := fun n hn => cells_congr (h2 n hn)
      unfold convertA
      split
      · rfl
      · rfl
      · rfl
      · split <;> rfl
      · split
        · rfl
        · rfl
        · rw [hc _ rfl]
        · rfl
      · rfl
    rw [this, hv]; rfl

theorem read_known {env : List AV} {S S' : St} {o : Oper} {res : Res} (hp : isRead o.op = true) (h : opA P C cf f env S o = some (res, S')) (n : Nat) (hn : readName env o.op = some n) : ∃ b, S.mem n = some b := by
  cases hm : S.mem n with
  | some b => exact ⟨b, rfl⟩
  | none =>
    exfalso
    have hc : S.cells n = none := by simp [St.cells, hm]
    obtain ⟨dst, op, type, pos, after, guard⟩ := o
    cases op <;> simp only [isRead] at hp <;> first | (cases hp; done) | skip
    case load t x =>
      simp only [opA, readName] at h hn
      obtain ⟨v, hv, h⟩ := Option.bind_eq_some_iff.1 h
      generalize evA env x = y at hv hn
      cases y <;> simp only [nameOf, Option.some.injEq] at hn <;> first | (cases hn; done) | skip
      · subst hn
        simp only [loadA, hc] at hv
        split at hv <;> simp_all
      · simp [loadA] at hv
    case convert s d x =>
      have hsd : s ≠ d := by simpa using hp
      simp only [opA, readName, if_neg hsd] at h hn
      obtain ⟨v, hv, h⟩ := Option.bind_eq_some_iff.1 h
      generalize evA env x = y at hv hn
      cases y <;> simp only [nameOf, Option.some.injEq] at hn <;> first | (cases hn; done) | skip
      all_goals
        subst hn
        unfold convertA at hv
        (try simp only [hc] at hv)
        (repeat' split at hv) <;> simp_all
end
end Go.Proofs.Ytfphpjinimfhfaa.VM
/-! Regions that draw their order: what was run in one order, and what is fixed of the order. -/
namespace Go.Proofs.Ytfphpjinimfhfaa.VM
set_option linter.unusedSimpArgs false
set_option linter.unusedVariables false
set_option linter.unusedSectionVars false
open Go.RowKit
variable [Glob]

mutual
theorem AV.eqb_eq : ∀ (a b : AV), AV.eqb a b = true → a = b
  | .undef, b, h => by cases b <;> simp_all [AV.eqb]
  | .bool x, b, h => by cases b <;> simp_all [AV.eqb]
  | .int k n, b, h => by cases b <;> simp_all [AV.eqb]
  | .str s, b, h => by cases b <;> simp_all [AV.eqb]
  | .nul, b, h => by cases b <;> simp_all [AV.eqb]
  | .ptr n o, b, h => by cases b <;> simp_all [AV.eqb]
  | .cptr cs o, b, h => by
    cases b <;> simp [AV.eqb] at h
    rw [AV.eqbL_eq _ _ h.1, h.2]
  | .nils, b, h => by cases b <;> simp_all [AV.eqb]
  | .lst xs t, b, h => by
    cases b <;> simp [AV.eqb] at h
    rw [AV.eqbL_eq _ _ h.1, h.2]
  | .hnd a1 a2 a3 a4, b, h => by cases b <;> simp_all [AV.eqb]
  | .func fn xs ys, b, h => by
    cases b <;> simp [AV.eqb] at h
    rw [AV.eqbL_eq _ _ h.1.2, AV.eqbL_eq _ _ h.2, h.1.1]
  | .nilFunc, b, h => by cases b <;> simp_all [AV.eqb]
  | .iface t v, b, h => by
    cases b <;> simp [AV.eqb] at h
    rw [AV.eqb_eq _ _ h.2, h.1]
  | .nilIface, b, h => by cases b <;> simp_all [AV.eqb]
  | .agg xs, b, h => by
    cases b <;> simp [AV.eqb] at h
    rw [AV.eqbL_eq _ _ h]
  | .tuple xs, b, h => by
    cases b <;> simp [AV.eqb] at h
    rw [AV.eqbL_eq _ _ h]
  | .iter n, b, h => by cases b <;> simp_all [AV.eqb]
theorem AV.eqbL_eq : ∀ (a b : List AV), AV.eqbL a b = true → a = b
  | [], [], _ => rfl
  | [], _ :: _, h => by simp [AV.eqbL] at h
  | _ :: _, [], h => by simp [AV.eqbL] at h
  | a :: l, b :: m, h => by
    simp [AV.eqbL] at h
    rw [AV.eqb_eq _ _ h.1, AV.eqbL_eq _ _ h.2]
end

section
variable {P : Program} {C : Cfg} {cf : CF} {f : FuncId}

def StabOk (P : Program) (C : Cfg) (cf : CF) (f : FuncId) (ops : Array Oper) (env : List AV) (S' : St) (r : Nat) : Prop :=
  ∃ q, ops[r]? = some q ∧ (wantedA ops env q = some false ∨ ∃ d u S2, wantedA ops env q = some true ∧ q.dst = some d ∧ env[d]? = some u ∧ opA P C cf f env S' q = some (.ret u, S2))

structure Hist (P : Program) (C : Cfg) (cf : CF) (f : FuncId) (ops : Array Oper) (stab : Nat → List Nat) (n : Nat) (l : Nat → Nat) (o : Nat → Oper) (e : Nat → List AV) (s : Nat → St) (v : Nat → AV) (wn : Nat → Bool) : Prop where
  op : ∀ p, p < n → ops[l p]? = some (o p)
  want : ∀ p, p < n → wantedA ops (e p) (o p) = some (wn p)
  run : ∀ p, p < n → wn p = true → opA P C cf f (e p) (s p) (o p) = some (.ret (v p), s (p + 1))
  skip : ∀ p, p < n → wn p = false → v p = .tuple [] ∧ s (p + 1) = s p
  env : ∀ p, p < n → e (p + 1) = putA (e p) (o p).dst (v p)
  stab : ∀ p, p < n → wn p = true → ∀ r ∈ stab (l p), StabOk P C cf f ops (e p) (s (p + 1)) r

theorem stab_of {ops : Array Oper} {env : List AV} {S' : St} {rs : List Nat} (h : rs.all (fun j => match ops[j]? with
                  | some q => (match wantedA ops env q, q.dst with
                    | some false, _ => true
                    | some true, some d => (match opA P C cf f env S' q, env[d]? with
                      | some (.ret u, _), some u' => AV.eqb u u'
                      | _, _ => false)
                    | _, _ => false)
                  | none => false) = true) : ∀ r ∈ rs, StabOk P C cf f ops env S' r := by
  intro r hr
  have h1 := List.all_eq_true.1 h r hr
  split at h1
  · rename_i q hq
    refine ⟨q, hq, ?_⟩
    split at h1
    · rename_i hw; exact .inl hw
    · rename_i d hw hd
      split at h1
      · rename_i u S2 u' ho hu
        rw [← AV.eqb_eq _ _ h1] at hu
        exact .inr ⟨d, u, S2, hw, hd, hu, ho⟩
      · cases h1
    · cases h1
  · cases h1

def cons0 {α : Type} (x : α) (g : Nat → α) : Nat → α
  | 0 => x
  | p + 1 => g p

theorem Hist.cons {ops : Array Oper} {stab : Nat → List Nat} {n : Nat} {i : Nat} {L : List Nat} {o : Nat → Oper} {e : Nat → List AV} {s : Nat → St} {v : Nat → AV} {wn : Nat → Bool} (h : Hist P C cf f ops stab n (fun p => L.getD p 0) o e s v wn)
    {o0 : Oper} {e0 : List AV} {s0 : St} {v0 : AV} {w0 : Bool} (h1 : ops[i]? = some o0) (h2 : wantedA ops e0 o0 = some w0) (h3 : w0 = true → opA P C cf f e0 s0 o0 = some (.ret v0, s 0)) (h4 : w0 = false → v0 = .tuple [] ∧ s 0 = s0)
    (h5 : e 0 = putA e0 o0.dst v0) (h6 : w0 = true → ∀ r ∈ stab i, StabOk P C cf f ops e0 (s 0) r) :
    Hist P C cf f ops stab (n + 1) (fun p => (i :: L).getD p 0) (cons0 o0 o) (cons0 e0 e) (cons0 s0 s) (cons0 v0 v) (cons0 w0 wn) := by
  refine ⟨fun p hp => ?_, fun p hp => ?_, fun p hp => ?_, fun p hp => ?_, fun p hp => ?_, fun p hp => ?_⟩ <;> cases p with
  | zero => first | exact h1 | exact h2 | exact h3 | exact h4 | exact h5 | exact h6
  | succ p => first | exact h.op p (by omega) | exact h.want p (by omega) | exact h.run p (by omega) | exact h.skip p (by omega) | exact h.env p (by omega) | exact h.stab p (by omega)

theorem hist_of {ops : Array Oper} {stab : Nat → List Nat} {pan : Nat → Nat → Bool} : ∀ (L : List Nat) {env : List AV} {S : St} {out : Out} {env' : List AV} {S' : St}, opsA P C cf f ops stab pan L env S = some (out, env', S') →
    (out = .normal ∧ ∃ o e s v wn, Hist P C cf f ops stab L.length (fun p => L.getD p 0) o e s v wn ∧ e 0 = env ∧ s 0 = S ∧ e L.length = env' ∧ s L.length = S') ∨
    (∃ pv n o e s v wn, out = .panic pv ∧ n < L.length ∧ Hist P C cf f ops stab n (fun p => L.getD p 0) o e s v wn ∧ e 0 = env ∧ s 0 = S ∧ e n = env' ∧ ops[L.getD n 0]? = some (o n) ∧ wantedA ops (e n) (o n) = some true ∧
      opA P C cf f (e n) (s n) (o n) = some (.panic pv, S') ∧ ∀ p, n < p → p < L.length → pan (L.getD n 0) (L.getD p 0) = true)
  | [], env, S, out, env', S', h => by
    cases h
    exact .inl ⟨rfl, fun _ => default, fun _ => env, fun _ => S, fun _ => .undef, fun _ => true, ⟨fun p hp => by simp at hp, fun p hp => by simp at hp, fun p hp => by simp at hp, fun p hp => by simp at hp, fun p hp => by simp at hp, fun p hp => by simp at hp⟩, rfl, rfl, rfl, rfl⟩
  | i :: rest, env, S, out, env', S', h => by
    unfold opsA at h
    split at h
    · cases h
    · rename_i o0 ho
      obtain ⟨b, hb, h⟩ := Option.bind_eq_some_iff.1 h
      -- what follows, with this operation ahead
      have go : ∀ (v0 : AV) (S1 : St), opsA P C cf f ops stab pan rest (putA env o0.dst v0) S1 = some (out, env', S') → (b = true → opA P C cf f env S o0 = some (.ret v0, S1)) → (b = false → v0 = .tuple [] ∧ S1 = S) → (b = true → ∀ r ∈ stab i, StabOk P C cf f ops env S1 r) →
          (out = .normal ∧ ∃ o e s v wn, Hist P C cf f ops stab (i :: rest).length (fun p => (i :: rest).getD p 0) o e s v wn ∧ e 0 = env ∧ s 0 = S ∧ e (i :: rest).length = env' ∧ s (i :: rest).length = S') ∨
          (∃ pv n o e s v wn, out = .panic pv ∧ n < (i :: rest).length ∧ Hist P C cf f ops stab n (fun p => (i :: rest).getD p 0) o e s v wn ∧ e 0 = env ∧ s 0 = S ∧ e n = env' ∧ ops[(i :: rest).getD n 0]? = some (o n) ∧ wantedA ops (e n) (o n) = some true ∧
            opA P C cf f (e n) (s n) (o n) = some (.panic pv, S') ∧ ∀ p, n < p → p < (i :: rest).length → pan ((i :: rest).getD n 0) ((i :: rest).getD p 0) = true) := by
        intro v0 S1 h1 h3 h4 h6
        rcases hist_of rest h1 with ⟨e1, o, e, s, v, wn, hh, q1, q2, q3, q4⟩ | ⟨pv, n, o, e, s, v, wn, e1, hn, hh, q1, q2, q3, q4, q5, q6, q7⟩
        · exact .inl ⟨e1, _, _, _, _, _, hh.cons ho hb (by rw [q2]; exact h3) (by rw [q2]; exact h4) q1 (by rw [q2]; exact h6), rfl, rfl, q3, q4⟩
        · exact .inr ⟨pv, n + 1, _, _, _, _, _, e1, by simp; omega, hh.cons ho hb (by rw [q2]; exact h3) (by rw [q2]; exact h4) q1 (by rw [q2]; exact h6), rfl, rfl, q3, q4, q5, q6, fun p h1 h2 => by
            cases p with
            | zero => omega
            | succ p => exact q7 p (by omega) (by simp at h2; omega)⟩
      split at h
      · rename_i hbt
        subst hbt
        replace h := Option.bind_eq_some_iff.1 h; obtain ⟨⟨res, S1⟩, hq, h⟩ := h
        simp only at h
        split at h
        · rename_i v0
          split at h
          · rename_i hst
            exact go v0 S1 h (fun _ => hq) (fun h => by cases h) (fun _ => stab_of hst)
          · cases h
        · rename_i pv
          split at h
          · rename_i hpan
            cases h
            refine .inr ⟨pv, 0, fun _ => o0, fun _ => env, fun _ => S, fun _ => .undef, fun _ => true, rfl, by simp, ⟨fun p hp => by omega, fun p hp => by omega, fun p hp => by omega, fun p hp => by omega, fun p hp => by omega, fun p hp => by omega⟩, rfl, rfl, rfl, ho, hb, hq, fun p h1 h2 => ?_⟩
            cases p with
            | zero => omega
            | succ p =>
              have h3 : p < rest.length := by simp at h2; omega
              have := List.all_eq_true.1 hpan rest[p] (List.getElem_mem h3)
              simpa [List.getD, h3] using this
          · cases h
      · rename_i hbt
        have hbf : b = false := by cases b <;> simp_all
        exact go (.tuple []) S h (fun h => by simp_all) (fun _ => ⟨rfl, rfl⟩) (fun h => by simp_all)
end

/-! ### the edges -/
def befStep (acc : Array Nat) (o : Oper) : Array Nat := acc.push (o.after.foldl (fun s e => if Region.binds .any e then s ||| 2 ^ e.on ||| acc.getD e.on 0 else s) 0)
theorem before_list (ops : Array Oper) : Region.before ops = ops.toList.foldl befStep #[] := by
  unfold Region.before
  rw [← Array.foldl_toList]
  rfl
theorem bef_size : ∀ (l : List Oper) (acc : Array Nat), (l.foldl befStep acc).size = acc.size + l.length
  | [], acc => by simp
  | o :: l, acc => by rw [List.foldl_cons, bef_size l]; simp [befStep]; omega
theorem bef_keep : ∀ (l : List Oper) (acc : Array Nat) (k : Nat), k < acc.size → (l.foldl befStep acc).getD k 0 = acc.getD k 0
  | [], acc, k, _ => rfl
  | o :: l, acc, k, h => by
    rw [List.foldl_cons, bef_keep l _ k (by simp [befStep]; omega)]
    have h2 : k < acc.size + 1 := by omega
    simp [befStep, Array.getD, h, h2, Array.getElem_push]
theorem edge_fold (acc : Array Nat) (i : Nat) : ∀ (es : List Edge) (s : Nat), (es.foldl (fun s e => if Region.binds .any e then s ||| 2 ^ e.on ||| acc.getD e.on 0 else s) s).testBit i = true ↔
    s.testBit i = true ∨ ∃ e ∈ es, Region.binds .any e = true ∧ (e.on = i ∨ (acc.getD e.on 0).testBit i = true)
  | [], s => by simp
  | e :: es, s => by
    rw [List.foldl_cons, edge_fold acc i es]
    by_cases hb : Region.binds .any e = true
    · simp only [hb, if_true, Nat.testBit_or, Bool.or_eq_true, Nat.testBit_two_pow, decide_eq_true_eq, List.mem_cons, exists_eq_or_imp, true_and]
      constructor
      · rintro (((h | h) | h) | h)
        · exact .inl h
        · exact .inr (.inl (.inl h))
        · exact .inr (.inl (.inr h))
        · exact .inr (.inr h)
      · rintro (h | (h | h) | h)
        · exact .inl (.inl (.inl h))
        · exact .inl (.inl (.inr h))
        · exact .inl (.inr h)
        · exact .inr h
    · have hb' : Region.binds .any e = false := by simpa using hb
      simp [hb']

theorem anc_spec {ops : Array Oper} {j : Nat} {o : Oper} (hj : ops[j]? = some o) (i : Nat) : anc ops i j = true ↔ ∃ e ∈ o.after.toList, Region.binds .any e = true ∧ (e.on = i ∨ (e.on < j ∧ anc ops i e.on = true)) := by
  have hlt : j < ops.toList.length := by have := (Array.getElem?_eq_some_iff.1 hj).1; simpa using this
  have hlt' : j < ops.size := (Array.getElem?_eq_some_iff.1 hj).1
  have hsplit : ops.toList = ops.toList.take j ++ o :: ops.toList.drop (j + 1) := by
    rw [← List.take_append_drop j ops.toList]
    congr 1
    · simp
    · rw [List.take_append_drop, List.drop_eq_getElem_cons hlt]
      congr 1
      have := Array.getElem?_toList (xs := ops) (i := j)
      rw [hj, List.getElem?_eq_getElem hlt] at this
      exact Option.some.inj this
  have hB : ∀ k, k < j → (Region.before ops).getD k 0 = ((ops.toList.take j).foldl befStep #[]).getD k 0 := by
    intro k hk
    rw [before_list]
    conv => lhs; rw [hsplit]
    rw [List.foldl_append, bef_keep _ _ k (by rw [bef_size]; simp; omega)]
  have hsz : ((ops.toList.take j).foldl befStep #[]).size = j := by rw [bef_size]; simp; omega
  have hJ : (Region.before ops).getD j 0 = o.after.foldl (fun s e => if Region.binds .any e then s ||| 2 ^ e.on ||| ((ops.toList.take j).foldl befStep #[]).getD e.on 0 else s) 0 := by
    rw [before_list]
    conv => lhs; rw [hsplit]
    rw [List.foldl_append, List.foldl_cons, bef_keep _ _ j (by simp [befStep, hsz])]
    simp [befStep, Array.getD, hsz, Array.getElem_push]
  unfold anc
  rw [hJ, ← Array.foldl_toList, edge_fold]
  simp only [Nat.zero_testBit, Bool.false_eq_true, false_or]
  constructor
  · rintro ⟨e, he, hb, h⟩
    refine ⟨e, he, hb, ?_⟩
    rcases h with h | h
    · exact .inl h
    · by_cases hk : e.on < j
      · exact .inr ⟨hk, by rw [hB _ hk]; exact h⟩
      · exfalso
        have : ((ops.toList.take j).foldl befStep #[]).getD e.on 0 = 0 := by simp [Array.getD, hsz, hk]
        rw [this] at h; simp at h
  · rintro ⟨e, he, hb, h⟩
    refine ⟨e, he, hb, ?_⟩
    rcases h with h | ⟨hk, h⟩
    · exact .inl h
    · exact .inr (by rw [← hB _ hk]; exact h)
end Go.Proofs.Ytfphpjinimfhfaa.VM
/-! Regions that draw their order: every order comes to the same. -/
namespace Go.Proofs.Ytfphpjinimfhfaa.VM
set_option linter.unusedSimpArgs false
set_option linter.unusedVariables false
open Go.RowKit

/-- What is fixed of the order, by places. -/
structure Stat (ops : Array Oper) (N : Nat) (l : Nat → Nat) : Prop where
  size : N = ops.size
  lt : ∀ p, p < N → l p < ops.size
  inj : ∀ p q, p < N → q < N → l p = l q → p = q
  surj : ∀ i, i < ops.size → ∃ p, p < N ∧ l p = i
  anc_lt : ∀ p q, p < N → q < N → anc ops (l p) (l q) = true → p < q
  eff : ∀ p q, q < N → p < q → opAt ops isEff (l p) = true → opAt ops isEff (l q) = true → anc ops (l p) (l q) = true
  new : ∀ p q, q < N → p < q → opAt ops isNew (l p) = true → opAt ops isEff (l q) = true → anc ops (l p) (l q) = true
  read : ∀ p q, q < N → p < q → opAt ops isEff (l p) = true → opAt ops isRead (l q) = true → anc ops (l p) (l q) = true
  apart : ∀ p q x y, p < N → q < N → p ≠ q → anc ops (l p) (l q) = false → anc ops (l q) (l p) = false → ops[l p]? = some x → ops[l q]? = some y → x.apart ops y = true
  dst : ∀ p q x y d, p < N → q < N → p ≠ q → ops[l p]? = some x → ops[l q]? = some y → x.dst = some d → y.dst ≠ some d
  again : ∀ p q r x y d, p < N → q < N → r < N → opAt ops isRead (l p) = true → opAt ops isEff (l q) = true → loose ops (l p) (l q) = true → ops[l p]? = some x → ops[l r]? = some y → y.dst = some d → anc ops (l r) (l p) = false → d ∉ x.looksAt ops
  after : ∀ (i : Nat) (x : Oper), ops[i]? = some x → ∀ e ∈ x.after.toList, Region.binds .any e = true → e.on < ops.size
  cls : ∀ p, p < N → opAt ops isEff (l p) = true ∨ opAt ops isNew (l p) = true ∨ opAt ops isRead (l p) = true ∨ opAt ops isPure (l p) = true

theorem nodup_dst : ∀ (l : List Oper), (l.filterMap (·.dst)).Nodup → ∀ (i j : Nat) (x y : Oper) (d : Tmp), i ≠ j → l[i]? = some x → l[j]? = some y → x.dst = some d → y.dst ≠ some d
  | [], _, i, j, x, y, d, _, hx, _, _ => by simp at hx
  | o :: l, h, i, j, x, y, d, hij, hx, hy, hd => by
    intro hd'
    cases i with
    | zero =>
      simp only [List.getElem?_cons_zero, Option.some.injEq] at hx
      subst hx
      cases j with
      | zero => exact hij rfl
      | succ j =>
        rw [List.filterMap_cons_some hd] at h
        have := List.nodup_cons.1 h
        exact this.1 (List.mem_filterMap.2 ⟨y, List.mem_of_getElem? hy, hd'⟩)
    | succ i =>
      cases j with
      | zero =>
        simp only [List.getElem?_cons_zero, Option.some.injEq] at hy
        subst hy
        rw [List.filterMap_cons_some hd'] at h
        have := List.nodup_cons.1 h
        exact this.1 (List.mem_filterMap.2 ⟨x, List.mem_of_getElem? hx, hd⟩)
      | succ j =>
        have h2 : (l.filterMap (·.dst)).Nodup := by
          cases ho : o.dst with
          | none => rwa [List.filterMap_cons_none ho] at h
          | some e => rw [List.filterMap_cons_some ho] at h; exact (List.nodup_cons.1 h).2
        exact nodup_dst l h2 i j x y d (by omega) hx hy hd hd'

theorem stat_of {ops : Array Oper} (h : regOk ops = true) : Stat ops (canon ops).length (fun p => (canon ops).getD p 0) := by
  unfold regOk at h
  simp only [Bool.and_eq_true, decide_eq_true_eq, List.all_eq_true, List.mem_range] at h
  obtain ⟨⟨⟨⟨⟨⟨⟨⟨⟨⟨h1, h2⟩, h3⟩, h3'⟩, h4⟩, h5⟩, h6⟩, h7⟩, h8⟩, h10⟩, h9⟩ := h
  generalize canon ops = L at *
  have hmem : ∀ i, i < ops.size → i ∈ L := fun i hi => by simpa using h3 i hi
  have hlt : ∀ i ∈ L, i < ops.size := h3'
  have hget : ∀ p (hp : p < L.length), L.getD p 0 = L[p] := fun p hp => by simp [List.getD, hp]
  have hidx : ∀ p (hp : p < L.length), L.idxOf (L.getD p 0) = p := by
    intro p hp
    rw [hget p hp]
    exact List.Nodup.idxOf_getElem h2 p hp
  have hl : ∀ p, p < L.length → L.getD p 0 < ops.size := fun p hp => by rw [hget p hp]; exact hlt _ (List.getElem_mem hp)
  have hinj : ∀ p q, p < L.length → q < L.length → L.getD p 0 = L.getD q 0 → p = q := fun p q hp hq e => by rw [← hidx p hp, ← hidx q hq, e]
  have hlta : ∀ p q, p < L.length → q < L.length → anc ops (L.getD p 0) (L.getD q 0) = true → p < q := by
    intro p q hp hq ha
    have := h5 _ (hl q hq) _ (hl p hp)
    simp only [Bool.or_eq_true, Bool.not_eq_true', decide_eq_true_eq] at this
    rcases this with this | this
    · rw [ha] at this; cases this
    · rwa [hidx p hp, hidx q hq] at this
  have h6' : ∀ e j, e < L.length → j < L.length → opAt ops isEff (L.getD e 0) = true →
      (opAt ops isEff (L.getD j 0) = true → j = e ∨ anc ops (L.getD j 0) (L.getD e 0) = true ∨ anc ops (L.getD e 0) (L.getD j 0) = true) ∧
      (opAt ops isNew (L.getD j 0) = true → e < j ∨ anc ops (L.getD j 0) (L.getD e 0) = true) ∧
      (opAt ops isRead (L.getD j 0) = true → loose ops (L.getD j 0) (L.getD e 0) = true → j < e) := by
    intro e j he hj hE
    have := h6 _ (hl e he)
    simp only [Bool.or_eq_true, Bool.not_eq_true', List.all_eq_true, List.mem_range] at this
    rcases this with this | this
    · rw [hE] at this; cases this
    · have := this _ (hl j hj)
      simp only [Bool.and_eq_true, Bool.or_eq_true, Bool.not_eq_true', decide_eq_true_eq, beq_iff_eq, hidx e he, hidx j hj] at this
      obtain ⟨⟨k1, k2⟩, k3⟩ := this
      refine ⟨fun h => ?_, fun h => ?_, fun h h' => ?_⟩
      · rcases k1 with ((k | k) | k) | k
        · rw [h] at k; cases k
        · exact .inl (hinj _ _ hj he k)
        · exact .inr (.inl k)
        · exact .inr (.inr k)
      · rcases k2 with (k | k) | k
        · rw [h] at k; cases k
        · exact .inl k
        · exact .inr k
      · rcases k3 with k | k
        · rw [h, h'] at k; cases k
        · exact k
  refine ⟨h1, hl, hinj, fun i hi => ?_, hlta, fun p q hq hpq hp1 hq1 => ?_, fun p q hq hpq hp1 hq1 => ?_, fun p q hq hpq hp1 hq1 => ?_, fun p q x y hp hq hne a1 a2 hx hy => ?_, fun p q x y d hp hq hne hx hy hd => ?_, fun p q r x y d hp hq hr k1 k2 k3 hx hy hd ha => ?_, fun i x hx e he hb => ?_, fun p hp => ?_⟩
  · obtain ⟨p, hp, e⟩ := List.getElem_of_mem (hmem i hi)
    exact ⟨p, hp, by rw [hget p hp]; exact e⟩
  · have hp : p < L.length := by omega
    rcases (h6' q p hq hp hq1).1 hp1 with h | h | h
    · omega
    · exact h
    · have := hlta _ _ hq hp h; omega
  · have hp : p < L.length := by omega
    rcases (h6' q p hq hp hq1).2.1 hp1 with h | h
    · omega
    · exact h
  · have hp : p < L.length := by omega
    have h3 := (h6' p q hp hq hp1).2.2 hq1
    cases ha : anc ops (L.getD p 0) (L.getD q 0) with
    | true => rfl
    | false =>
      exfalso
      have hb : anc ops (L.getD q 0) (L.getD p 0) = false := by
        cases hb : anc ops (L.getD q 0) (L.getD p 0) with
        | false => rfl
        | true => have := hlta _ _ hq hp hb; omega
      have hne : L.getD q 0 ≠ L.getD p 0 := fun e => by have := hinj _ _ hq hp e; omega
      have := h3 (by unfold loose; simp only [ha, hb, Bool.not_false, Bool.and_true, bne_iff_ne]; exact hne)
      omega
  · have := h7 _ (hl p hp) _ (hl q hq)
    have hne' : L.getD p 0 ≠ L.getD q 0 := fun e => hne (hinj _ _ hp hq e)
    have hlo : loose ops (L.getD p 0) (L.getD q 0) = true := by unfold loose; simp only [a1, a2, Bool.not_false, Bool.and_true, bne_iff_ne]; exact hne'
    rw [hlo, hx, hy] at this
    simpa using this
  · exact nodup_dst ops.toList (by simpa using h8) _ _ x y d (fun e => hne (hinj _ _ hp hq e)) (by simpa using hx) (by simpa using hy) hd
  · have := h9 _ (hl p hp) _ (hl q hq)
    rw [k1, k2, k3] at this
    simp only [Bool.and_self, Bool.not_true, Bool.false_or, List.all_eq_true, List.mem_range] at this
    have := this _ (hl r hr)
    rw [ha, hx, hy] at this
    simp only [Bool.false_or, hd, Bool.not_eq_true'] at this
    simpa using this
  · have := h10 i (Array.getElem?_eq_some_iff.1 hx).1
    rw [hx] at this
    simp only [List.all_eq_true, Bool.or_eq_true, Bool.not_eq_true', decide_eq_true_eq] at this
    rcases this e he with h | h
    · rw [hb] at h; cases h
    · exact h
  · have := h4 _ (hl p hp)
    simp only [Bool.or_eq_true] at this
    rcases this with ((h | h) | h) | h
    · exact .inl h
    · exact .inr (.inl h)
    · exact .inr (.inr (.inl h))
    · exact .inr (.inr (.inr h))
end Go.Proofs.Ytfphpjinimfhfaa.VM
