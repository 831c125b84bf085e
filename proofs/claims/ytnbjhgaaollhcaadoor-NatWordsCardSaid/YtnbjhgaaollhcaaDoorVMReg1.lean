import Derived.Test.YtnbjhgaaollhcaaDoorVMCall
/-! What operations hang on. -/
namespace Go.Proofs.YtnbjhgaaollhcaaDoor.VM
set_option linter.unusedSimpArgs false
set_option linter.unusedVariables false
set_option linter.unusedSectionVars false
open Go.RowKit
variable [Glob]
section
variable {P : Program} {C : Cfg} {cf : CF} {f : FuncId}

theorem map_ev {env env' : List AV} {l : List Operand} (h : ∀ x ∈ l, evA env x = evA env' x) : l.map (evA env) = l.map (evA env') := List.map_congr_left h

theorem opA_congr {env env' : List AV} {S : St} {o : Oper} (h : ∀ x ∈ o.op.operands.toList, evA env x = evA env' x) : opA P C cf f env S o = opA P C cf f env' S o := by
  obtain ⟨dst, op, type, pos, after, guard⟩ := o
  have pairs : ∀ ps : Array (Nat × Operand), (∀ x ∈ ps.toList.map (·.2), evA env x = evA env' x) → (ps.toList.map fun p => (p.1, evA env p.2)) = (ps.toList.map fun p => (p.1, evA env' p.2)) := by
    intro ps hp
    refine List.map_congr_left (fun p hm => ?_)
    rw [hp p.2 (List.mem_map.2 ⟨p, hm, rfl⟩)]
  cases op <;> simp only [Op.operands] at h <;> simp only [opA]
  case build t ps => rw [pairs ps (by simpa using h)]
  case buildSlice t n ps => rw [pairs ps (by simpa using h)]
  case makeFunc fn xs ys =>
    rw [map_ev (l := xs.toList) (fun x hx => h x (by simp at hx ⊢; exact .inl hx)), map_ev (l := ys.toList) (fun x hx => h x (by simp at hx ⊢; exact .inr hx))]
  case slice t x lo hi mx =>
    have h1 : ∀ y : Option Operand, (∀ z ∈ y.toArray.toList, evA env z = evA env' z) → y.map (evA env) = y.map (evA env') := by
      intro y hy
      cases y with
      | none => rfl
      | some y => simp [hy y (by simp)]
    rw [h x (by simp), h1 lo (fun z hz => h z (by simp at hz ⊢; simp [hz])), h1 hi (fun z hz => h z (by simp at hz ⊢; simp [hz])), h1 mx (fun z hz => h z (by simp at hz ⊢; simp [hz]))]
  case call c =>
    have ha : c.args.toList.map (evA env) = c.args.toList.map (evA env') := map_ev (fun x hx => h x (by simp [Call.operands]; exact .inr (by simpa using hx)))
    unfold callOpA
    rw [ha]
    cases hc : c.callee with
    | value g =>
      have : evA env g = evA env' g := h g (by simp [Call.operands, hc])
      simp only [this]
    | invoke r m => rfl
    | builtin b => rfl
  case next it b => cases b <;> simp_all
  all_goals first | rfl | (simp_all; done)

/-- An operation that looks at its operands alone. -/
theorem pure_indep {env : List AV} {S S' : St} {o : Oper} {res : Res} (hp : isPure o.op = true) (h : opA P C cf f env S o = some (res, S')) : S' = S ∧ (∃ v, res = .ret v) ∧ ∀ S2, opA P C cf f env S2 o = some (res, S2) := by
  obtain ⟨dst, op, type, pos, after, guard⟩ := o
  cases op <;> simp only [isPure] at hp <;> first | (cases hp; done) | skip
  case call c =>
    obtain ⟨callee, args, tys⟩ := c
    cases callee with
    | value g => simp at hp
    | invoke r m => simp at hp
    | builtin b =>
      simp only [opA, callOpA] at h ⊢
      unfold builtinA at h
      split at h
      · rename_i x hx
        obtain ⟨t, ht, h⟩ := Option.bind_eq_some_iff.1 h
        simp only [builtinA, hx, ht, Option.bind_some]
        split at h
        · rename_i s hu
          obtain ⟨rfl, rfl⟩ := retA_some h
          exact ⟨rfl, ⟨_, rfl⟩, fun S2 => by simp only [hu]; rfl⟩
        · cases h
        · rename_i e hu hns
          replace h := Option.bind_eq_some_iff.1 h; obtain ⟨n, hn, h⟩ := h
          obtain ⟨rfl, rfl⟩ := retA_some h
          refine ⟨rfl, ⟨_, rfl⟩, fun S2 => ?_⟩
          rw [hn]; rfl
        · cases h
      · simp at hp
      · simp at hp
      · simp at hp
      · rename_i args' hx
        obtain ⟨v, hv, h⟩ := Option.bind_eq_some_iff.1 h
        obtain ⟨rfl, rfl⟩ := retA_some h
        exact ⟨rfl, ⟨_, rfl⟩, fun S2 => by simp only [builtinA, hv]; rfl⟩
      · rename_i args' hx
        obtain ⟨v, hv, h⟩ := Option.bind_eq_some_iff.1 h
        obtain ⟨rfl, rfl⟩ := retA_some h
        exact ⟨rfl, ⟨_, rfl⟩, fun S2 => by simp only [builtinA, hv]; rfl⟩
      · cases h
  case pick c a b =>
    simp only [opA] at h ⊢
    split at h
    · rename_i b' hb
      obtain ⟨rfl, rfl⟩ := retA_some h
      exact ⟨rfl, ⟨_, rfl⟩, fun S2 => by simp only [hb]; rfl⟩
    · cases h
  case nilCheck x =>
    simp only [opA] at h ⊢
    split at h
    · rename_i hb; obtain ⟨rfl, rfl⟩ := retA_some h; exact ⟨rfl, ⟨_, rfl⟩, fun S2 => by simp only [hb]; rfl⟩
    · rename_i hb; obtain ⟨rfl, rfl⟩ := retA_some h; exact ⟨rfl, ⟨_, rfl⟩, fun S2 => by simp only [hb]; rfl⟩
    · rename_i hb; obtain ⟨rfl, rfl⟩ := retA_some h; exact ⟨rfl, ⟨_, rfl⟩, fun S2 => by simp only [hb]; rfl⟩
    · cases h
  case makeInterface t x =>
    simp only [opA] at h ⊢
    split at h
    · cases h
    · rename_i d hd hu
      obtain ⟨rfl, rfl⟩ := retA_some h
      refine ⟨rfl, ⟨_, rfl⟩, fun S2 => ?_⟩
      cases d <;> simp_all [retA]
    · cases h
  case extract t i =>
    simp only [opA] at h ⊢
    split at h
    · rename_i vs hb
      obtain ⟨v, hv, h⟩ := Option.bind_eq_some_iff.1 h
      obtain ⟨rfl, rfl⟩ := retA_some h
      exact ⟨rfl, ⟨_, rfl⟩, fun S2 => by simp only [hb, hv]; rfl⟩
    · cases h
  all_goals
    simp only [opA] at h ⊢
    first
      | (obtain ⟨rfl, rfl⟩ := retA_some h; exact ⟨rfl, ⟨_, rfl⟩, fun S2 => rfl⟩)
      | (obtain ⟨v, hv, h⟩ := Option.bind_eq_some_iff.1 h; obtain ⟨rfl, rfl⟩ := retA_some h; exact ⟨rfl, ⟨_, rfl⟩, fun S2 => by simp only [hv]; rfl⟩)

/-- An operation that makes a block: by the next name alone. -/
theorem new_indep {env : List AV} {S S' : St} {o : Oper} {res : Res} (hp : isNew o.op = true) (h : opA P C cf f env S o = some (res, S')) :
    (∃ v, res = .ret v) ∧ ((S' = S ∧ ∀ S2, S2.next = S.next → opA P C cf f env S2 o = some (res, S2)) ∨ ∃ b, S' = S.new b ∧ ∀ S2, S2.next = S.next → opA P C cf f env S2 o = some (res, S2.new b)) := by
  obtain ⟨dst, op, type, pos, after, guard⟩ := o
  cases op <;> simp only [isNew] at hp <;> first | (cases hp; done) | skip
  case alloc t =>
    simp only [opA] at h ⊢
    obtain ⟨z, hz, h⟩ := Option.bind_eq_some_iff.1 h
    obtain ⟨rfl, rfl⟩ := retA_some h
    exact ⟨⟨_, rfl⟩, .inr ⟨_, rfl, fun S2 hS => by simp only [hz, Option.bind_some, hS]; rfl⟩⟩
  case box t x =>
    simp only [opA] at h ⊢
    split at h
    · cases h
    · cases h
    · rename_i h1 h2
      split at h
      · rename_i hro
        obtain ⟨rfl, rfl⟩ := retA_some h
        refine ⟨⟨_, rfl⟩, .inl ⟨rfl, fun S2 hS => ?_⟩⟩
        generalize evA env x = v at h1 h2
        cases v <;> simp_all [retA]
      · rename_i hro
        obtain ⟨rfl, rfl⟩ := retA_some h
        refine ⟨⟨_, rfl⟩, .inr ⟨_, rfl, fun S2 hS => ?_⟩⟩
        generalize evA env x = v at h1 h2
        cases v <;> simp_all [retA]
  case buildSlice t len ps =>
    simp only [opA] at h ⊢
    obtain ⟨r, hr, h⟩ := Option.bind_eq_some_iff.1 h
    obtain ⟨rfl, rfl⟩ := retA_some h
    refine ⟨⟨_, rfl⟩, ?_⟩
    unfold buildSliceA at hr ⊢
    obtain ⟨e, he, hr⟩ := Option.bind_eq_some_iff.1 hr
    obtain ⟨s, hs, hr⟩ := Option.bind_eq_some_iff.1 hr
    obtain ⟨ag, hg, hr⟩ := Option.bind_eq_some_iff.1 hr
    obtain ⟨z, hz, hr⟩ := Option.bind_eq_some_iff.1 hr
    split at hr
    case isFalse => cases hr
    rename_i hif
    obtain ⟨cs, hcs, hr⟩ := Option.bind_eq_some_iff.1 hr
    split at hr
    · rename_i hh
      cases hr
      exact .inr ⟨_, rfl, fun S2 hS => by simp only [he, hs, hg, hz, hcs, Option.bind_some, if_pos hif, if_pos hh, hS]; rfl⟩
    · rename_i hh
      split at hr
      · rename_i hk
        cases hr
        exact .inl ⟨rfl, fun S2 hS => by simp only [he, hs, hg, hz, hcs, Option.bind_some, if_pos hif, if_neg hh, if_pos hk]; rfl⟩
      · cases hr
  case makeSlice t l c =>
    simp only [opA] at h ⊢
    obtain ⟨r, hr, h⟩ := Option.bind_eq_some_iff.1 h
    obtain ⟨rfl, rfl⟩ := retA_some h
    refine ⟨⟨_, rfl⟩, ?_⟩
    unfold makeSliceA at hr ⊢
    split at hr
    case h_2 => cases hr
    rename_i k l' k' c' hl hc
    obtain ⟨e, he, hr⟩ := Option.bind_eq_some_iff.1 hr
    obtain ⟨s, hs, hr⟩ := Option.bind_eq_some_iff.1 hr
    obtain ⟨by_, hg, hr⟩ := Option.bind_eq_some_iff.1 hr
    obtain ⟨z, hz, hr⟩ := Option.bind_eq_some_iff.1 hr
    split at hr
    case isFalse => cases hr
    rename_i hif
    cases hr
    exact .inr ⟨_, rfl, fun S2 hS => by simp only [hl, hc, he, hs, hg, hz, Option.bind_some, if_pos hif, hS]; rfl⟩
  case range t x =>
    simp only [opA] at h ⊢
    split at h
    · rename_i s hu hx
      obtain ⟨rfl, rfl⟩ := retA_some h
      exact ⟨⟨_, rfl⟩, .inr ⟨_, rfl, fun S2 hS => by simp only [hu, hx, hS]; rfl⟩⟩
    · cases h

/-- The names that a reading looks at. -/
def nameOf : AV → Option Nat
  | .ptr n _ => some n
  | .hnd n _ _ _ => some n
  | _ => none
def readName (env : List AV) : Op → Option Nat
  | .load _ x => nameOf (evA env x)
  | .convert _ _ x => nameOf (evA env x)
  | _ => none

theorem cells_congr {S S2 : St} {n : Nat} (h : S2.mem n = S.mem n) : S2.cells n = S.cells n := by unfold St.cells; rw [h]

theorem read_supp {env : List AV} {S S' : St} {o : Oper} {res : Res} (hp : isRead o.op = true) (h : opA P C cf f env S o = some (res, S')) :
    S' = S ∧ (∃ v, res = .ret v) ∧ ∀ S2, (∀ n, readName env o.op = some n → S2.mem n = S.mem n) → opA P C cf f env S2 o = some (res, S2) := by
  obtain ⟨dst, op, type, pos, after, guard⟩ := o
  cases op <;> simp only [isRead] at hp <;> first | (cases hp; done) | skip
  case load t x =>
    simp only [opA, readName] at h ⊢
    obtain ⟨v, hv, h⟩ := Option.bind_eq_some_iff.1 h
    obtain ⟨e1, e2⟩ := retA_some h
    subst e1
    refine ⟨e2, ⟨_, rfl⟩, fun S2 h2 => ?_⟩
    have : loadA P S2 t (evA env x) = loadA P S t (evA env x) := by
      generalize evA env x = y at h2
      unfold loadA
      cases szA P t with
      | none => rfl
      | some s =>
        cases isAggA P t with
        | none => rfl
        | some ag =>
          cases y with
          | ptr n off => simp only [cells_congr (h2 n rfl)]
          | _ => rfl
    rw [this, hv]; rfl
  case convert s d x =>
    have hsd : s ≠ d := by simpa using hp
    simp only [opA, readName, if_neg hsd] at h ⊢
    obtain ⟨v, hv, h⟩ := Option.bind_eq_some_iff.1 h
    obtain ⟨e1, e2⟩ := retA_some h
    subst e1
    refine ⟨e2, ⟨_, rfl⟩, fun S2 h2 => ?_⟩
    have : convertA P S2 s d (evA env x) = convertA P S s d (evA env x) := by
      generalize evA env x = y at h2
      have hc : ∀ n, nameOf y = some n → S2.cells n = S.cells n := fun n hn => cells_congr (h2 n hn)
      unfold convertA
      split
      · rfl
      · rfl
      · rfl
      · split <;> rfl
      · split
        · rfl
        · rfl
        · rw [hc _ rfl]
        · rfl
      · rfl
    rw [this, hv]; rfl

theorem read_known {env : List AV} {S S' : St} {o : Oper} {res : Res} (hp : isRead o.op = true) (h : opA P C cf f env S o = some (res, S')) (n : Nat) (hn : readName env o.op = some n) : ∃ b, S.mem n = some b := by
  cases hm : S.mem n with
  | some b => exact ⟨b, rfl⟩
  | none =>
    exfalso
    have hc : S.cells n = none := by simp [St.cells, hm]
    obtain ⟨dst, op, type, pos, after, guard⟩ := o
    cases op <;> simp only [isRead] at hp <;> first | (cases hp; done) | skip
    case load t x =>
      simp only [opA, readName] at h hn
      obtain ⟨v, hv, h⟩ := Option.bind_eq_some_iff.1 h
      generalize evA env x = y at hv hn
      cases y <;> simp only [nameOf, Option.some.injEq] at hn <;> first | (cases hn; done) | skip
      · subst hn
        simp only [loadA, hc] at hv
        split at hv <;> simp_all
      · simp [loadA] at hv
    case convert s d x =>
      have hsd : s ≠ d := by simpa using hp
      simp only [opA, readName, if_neg hsd] at h hn
      obtain ⟨v, hv, h⟩ := Option.bind_eq_some_iff.1 h
      generalize evA env x = y at hv hn
      cases y <;> simp only [nameOf, Option.some.injEq] at hn <;> first | (cases hn; done) | skip
      all_goals
        subst hn
        unfold convertA at hv
        (try simp only [hc] at hv)
        (repeat' split at hv) <;> simp_all
end
end Go.Proofs.YtnbjhgaaollhcaaDoor.VM
