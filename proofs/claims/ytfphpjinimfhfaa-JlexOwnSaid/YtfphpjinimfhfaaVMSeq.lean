import Derived.Test.YtfphpjinimfhfaaVMOps9
/-! Operations in the order of the text; code; calls. -/
namespace Go.Proofs.Ytfphpjinimfhfaa.VM
set_option linter.unusedSimpArgs false
set_option linter.unusedVariables false
set_option linter.unusedSectionVars false
open Go.RowKit
variable [Glob]

def CFN (cf : CF) : Prop := ∀ f args S res S', cf f args S = some (res, S') → S.next ≤ S'.next

section
variable {P : Program} {C : Cfg} {cf : CF} {f : FuncId} {w0 w : World} {G : Gh} {F : Nat → Option Blk} {S S' : St}

theorem next_set (S : St) (n : Nat) (b : Option Blk) : (S.set n b).next = S.next := rfl
theorem next_new (S : St) (b : Blk) : (S.new b).next = S.next + 1 := rfl

theorem freshA_next {s : Nat} {xs : List AV} {e : TypeId} {r : AV × St} (h : freshA C f S s xs e = r) : S.next ≤ r.2.next := by
  unfold freshA at h
  split at h <;> (cases h; simp [next_new])

theorem appendB_next {e : TypeId} {s by_ : Nat} {ag : Bool} {z x y : AV} {r : AV × St} (h : appendB C f S e s ag by_ z x y = some r) : S.next ≤ r.2.next := by
  unfold appendB at h
  obtain ⟨ys, _, h⟩ := Option.bind_eq_some_iff.1 h
  split at h
  case isFalse => cases h
  split at h
  · split at h
    · cases h; exact Nat.le_refl _
    · split at h
      · exact freshA_next (Option.some.inj h)
      · cases h
  · split at h
    · cases h; exact Nat.le_refl _
    · split at h
      · exact freshA_next (Option.some.inj h)
      · cases h
  · split at h
    · cases h; exact Nat.le_refl _
    · split at h
      · split at h
        · split at h
          · cases h; simp [next_new, next_set]
          · cases h
        · cases h
      · cases h
  · split at h
    · cases h; exact Nat.le_refl _
    · cases h
  · split at h
    · cases h; exact Nat.le_refl _
    · obtain ⟨cs, _, h⟩ := Option.bind_eq_some_iff.1 h
      split at h
      · cases h; simp [next_new, next_set]
      · cases h
  · cases h

theorem appendA_next {l : List TypeId} {x y : AV} {r : AV × St} (h : appendA P C f S l x y = some r) : S.next ≤ r.2.next := by
  unfold appendA at h
  split at h
  · obtain ⟨e, _, h⟩ := Option.bind_eq_some_iff.1 h
    obtain ⟨s, _, h⟩ := Option.bind_eq_some_iff.1 h
    obtain ⟨ag, _, h⟩ := Option.bind_eq_some_iff.1 h
    obtain ⟨by_, _, h⟩ := Option.bind_eq_some_iff.1 h
    obtain ⟨z, _, h⟩ := Option.bind_eq_some_iff.1 h
    split at h
    · exact appendB_next h
    · exact appendB_next h
    · unfold zerosA at h
      split at h
      · split at h
        · cases h; simp [next_new]
        · cases h
      · cases h
    · cases h
  · cases h

theorem copyA_next {l : List TypeId} {x y : AV} {r : AV × St} (h : copyA P S l x y = some r) : S.next ≤ r.2.next := by
  unfold copyA at h
  split at h
  · obtain ⟨e, _, h⟩ := Option.bind_eq_some_iff.1 h
    obtain ⟨s, _, h⟩ := Option.bind_eq_some_iff.1 h
    obtain ⟨ag, _, h⟩ := Option.bind_eq_some_iff.1 h
    obtain ⟨by_, _, h⟩ := Option.bind_eq_some_iff.1 h
    obtain ⟨z, _, h⟩ := Option.bind_eq_some_iff.1 h
    split at h
    · split at h
      · split at h
        · cases h; exact Nat.le_refl _
        · cases h
      · obtain ⟨cs, _, h⟩ := Option.bind_eq_some_iff.1 h
        split at h
        · cases h; exact Nat.le_refl _
        · cases h
      · cases h
    · cases h
  · cases h

theorem opA_next (hn : CFN cf) {env : List AV} {o : Oper} {res : Res} (h : opA P C cf f env S o = some (res, S')) : S.next ≤ S'.next := by
  unfold opA at h
  split at h
  case h_4 => obtain ⟨z, _, h⟩ := Option.bind_eq_some_iff.1 h; obtain ⟨_, rfl⟩ := retA_some h; simp [next_new]
  case h_5 =>
    split at h
    · cases h
    · cases h
    · split at h
      · obtain ⟨_, rfl⟩ := retA_some h; exact Nat.le_refl _
      · obtain ⟨_, rfl⟩ := retA_some h; simp [next_new]
  case h_7 =>
    obtain ⟨r, hr, h⟩ := Option.bind_eq_some_iff.1 h
    obtain ⟨_, rfl⟩ := retA_some h
    unfold buildSliceA at hr
    obtain ⟨e, _, hr⟩ := Option.bind_eq_some_iff.1 hr
    obtain ⟨s, _, hr⟩ := Option.bind_eq_some_iff.1 hr
    obtain ⟨ag, _, hr⟩ := Option.bind_eq_some_iff.1 hr
    obtain ⟨z, _, hr⟩ := Option.bind_eq_some_iff.1 hr
    split at hr
    · obtain ⟨cs, _, hr⟩ := Option.bind_eq_some_iff.1 hr
      split at hr
      · cases hr; simp [next_new]
      · split at hr
        · cases hr; exact Nat.le_refl _
        · cases hr
    · cases hr
  case h_9 =>
    obtain ⟨r, hr, h⟩ := Option.bind_eq_some_iff.1 h
    obtain ⟨_, rfl⟩ := retA_some h
    unfold storeA at hr
    split at hr
    · obtain ⟨cs, _, hr⟩ := Option.bind_eq_some_iff.1 hr
      split at hr
      · cases hr; exact Nat.le_refl _
      · cases hr
    · cases hr
  case h_16 =>
    obtain ⟨r, hr, h⟩ := Option.bind_eq_some_iff.1 h
    obtain ⟨_, rfl⟩ := retA_some h
    unfold makeSliceA at hr
    split at hr
    · obtain ⟨e, _, hr⟩ := Option.bind_eq_some_iff.1 hr
      obtain ⟨s, _, hr⟩ := Option.bind_eq_some_iff.1 hr
      obtain ⟨by_, _, hr⟩ := Option.bind_eq_some_iff.1 hr
      obtain ⟨z, _, hr⟩ := Option.bind_eq_some_iff.1 hr
      split at hr
      · cases hr; simp [next_new]
      · cases hr
    · cases hr
  case h_22 =>
    split at h
    · obtain ⟨_, rfl⟩ := retA_some h; simp [next_new]
    · cases h
  case h_23 =>
    obtain ⟨r, hr, h⟩ := Option.bind_eq_some_iff.1 h
    obtain ⟨_, rfl⟩ := retA_some h
    unfold nextA at hr
    split at hr
    · split at hr
      · split at hr <;> (cases hr; exact Nat.le_refl _)
      · cases hr
    · cases hr
  case h_25 =>
    unfold callOpA at h
    split at h
    · unfold builtinA at h
      split at h
      · obtain ⟨t, _, h⟩ := Option.bind_eq_some_iff.1 h
        split at h
        · obtain ⟨_, rfl⟩ := retA_some h; exact Nat.le_refl _
        · cases h
        · obtain ⟨n, _, h⟩ := Option.bind_eq_some_iff.1 h
          obtain ⟨_, rfl⟩ := retA_some h; exact Nat.le_refl _
        · cases h
      · obtain ⟨t, _, h⟩ := Option.bind_eq_some_iff.1 h
        split at h
        · obtain ⟨_, rfl⟩ := retA_some h; exact Nat.le_refl _
        · obtain ⟨_, rfl⟩ := retA_some h; exact Nat.le_refl _
        · cases h
      · obtain ⟨r, hr, h⟩ := Option.bind_eq_some_iff.1 h
        obtain ⟨_, rfl⟩ := retA_some h
        exact appendA_next hr
      · obtain ⟨r, hr, h⟩ := Option.bind_eq_some_iff.1 h
        obtain ⟨_, rfl⟩ := retA_some h
        exact copyA_next hr
      · obtain ⟨r, hr, h⟩ := Option.bind_eq_some_iff.1 h
        obtain ⟨_, rfl⟩ := retA_some h; exact Nat.le_refl _
      · obtain ⟨r, hr, h⟩ := Option.bind_eq_some_iff.1 h
        obtain ⟨_, rfl⟩ := retA_some h; exact Nat.le_refl _
      · cases h
    · cases h
    · split at h
      · exact hn _ _ _ _ _ h
      · cases h
  case h_3 =>
    split at h
    · obtain ⟨_, rfl⟩ := retA_some h; exact Nat.le_refl _
    · cases h
  case h_10 =>
    split at h
    · obtain ⟨_, rfl⟩ := retA_some h; exact Nat.le_refl _
    · obtain ⟨_, rfl⟩ := retA_some h; exact Nat.le_refl _
    · obtain ⟨_, rfl⟩ := retA_some h; exact Nat.le_refl _
    · cases h
  case h_14 =>
    split at h
    · cases h
    · obtain ⟨_, rfl⟩ := retA_some h; exact Nat.le_refl _
    · cases h
  case h_13 =>
    split at h
    · rename_i r hr
      split at hr
      case isFalse => cases hr
      obtain ⟨_, rfl⟩ := retA_some h
      unfold cnvA at hr
      split at hr
      case h_2 => cases hr
      split at hr
      case h_2 => cases hr
      split at hr
      · cases hr; exact Nat.le_refl _
      · cases hr
    · obtain ⟨r, hr, h⟩ := Option.bind_eq_some_iff.1 h
      obtain ⟨_, rfl⟩ := retA_some h; exact Nat.le_refl _
  case h_24 =>
    split at h
    · obtain ⟨r, hr, h⟩ := Option.bind_eq_some_iff.1 h
      obtain ⟨_, rfl⟩ := retA_some h; exact Nat.le_refl _
    · cases h
  case h_26 =>
    split at h
    · cases h; exact Nat.le_refl _
    · cases h
  all_goals first | (cases h; done) | (obtain ⟨_, rfl⟩ := retA_some h; exact Nat.le_refl _) | (obtain ⟨r, hr, h⟩ := Option.bind_eq_some_iff.1 h; obtain ⟨_, rfl⟩ := retA_some h; exact Nat.le_refl _)

theorem opsA_next (hn : CFN cf) {ops : Array Oper} {stab : Nat → List Nat} {pan : Nat → Nat → Bool} : ∀ (l : List Nat) {env : List AV} {S : St} {r : Out × List AV × St}, opsA P C cf f ops stab pan l env S = some r → S.next ≤ r.2.2.next
  | [], env, S, r, h => by cases h; exact Nat.le_refl _
  | i :: rest, env, S, r, h => by
    unfold opsA at h
    split at h
    · cases h
    · obtain ⟨b, _, h⟩ := Option.bind_eq_some_iff.1 h
      split at h
      · obtain ⟨q, hq, h⟩ := Option.bind_eq_some_iff.1 h
        have h1 : S.next ≤ q.2.next := opA_next hn (show opA P C cf f env S _ = some (q.1, q.2) from hq)
        split at h
        · split at h
          · exact Nat.le_trans h1 (opsA_next hn rest h)
          · cases h
        · split at h
          · cases h; exact h1
          · cases h
      · exact opsA_next hn rest h

theorem loopN_next {body : List AV → St → Option (Out × List AV × St)} (hb : ∀ e S r, body e S = some r → S.next ≤ r.2.2.next) : ∀ (k : Nat) {e : List AV} {S : St} {r : Out × List AV × St}, loopN body id k e S = some r → S.next ≤ r.2.2.next
  | 0, _, _, _, h => by cases h
  | k + 1, e, S, r, h => by
    unfold loopN at h
    obtain ⟨q, hq, h⟩ := Option.bind_eq_some_iff.1 h
    split at h
    · exact Nat.le_trans (hb _ _ _ hq) (loopN_next hb k h)
    · cases h; exact hb _ _ _ hq

theorem codeA_next (hn : CFN cf) (k : Nat) : ∀ (c : Code) {env : List AV} {S : St} {r : Out × List AV × St}, codeA P C cf f k c env S = some r → S.next ≤ r.2.2.next
  | .skip, _, _, _, h => by cases h; exact Nat.le_refl _
  | .label _, _, _, _, h => by cases h; exact Nat.le_refl _
  | .region _ ops draw, _, _, _, h => by
    unfold codeA at h
    split at h
    · split at h
      · exact opsA_next hn _ h
      · cases h
    · exact opsA_next hn _ h
  | .seq a b, _, _, _, h => by
    unfold codeA at h
    obtain ⟨q, hq, h⟩ := Option.bind_eq_some_iff.1 h
    split at h
    · exact Nat.le_trans (codeA_next hn k a hq) (codeA_next hn k b h)
    · cases h; exact codeA_next hn k a hq
  | .cond c a b, _, _, _, h => by
    unfold codeA at h
    split at h
    · exact codeA_next hn k a h
    · exact codeA_next hn k b h
    · cases h
  | .block id b, _, _, _, h => by
    unfold codeA at h
    obtain ⟨q, hq, rfl⟩ := Option.map_eq_some_iff.1 h
    have := codeA_next hn k b hq
    split
    · split <;> exact this
    · exact this
  | .loop b, _, _, _, h => by
    unfold codeA at h
    exact loopN_next (fun e S r hr => codeA_next hn k b hr) k h
  | .exit _, _, _, _, h => by cases h; exact Nat.le_refl _
  | .ret, _, _, _, h => by cases h; exact Nat.le_refl _
  | .rangeFunc .., _, _, _, h => by cases h
  | .scope _, _, _, _, h => by cases h
  | .goto _, _, _, _, h => by cases h
  | .refuse _, _, _, _, h => by cases h
end
end Go.Proofs.Ytfphpjinimfhfaa.VM
