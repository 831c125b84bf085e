import Derived.Test.YtmkmakokgfigoaaDoorVMRange2
import Derived.Test.YtmkmakokgfigoaaDoorVMKit2
/-! .. as a contract, and how it is walked. -/
namespace Go.Proofs.YtmkmakokgfigoaaDoor.VM
set_option linter.unusedSimpArgs false
set_option linter.unusedVariables false
set_option linter.unusedSectionVars false
open Go.RowKit
variable [Glob]
section
variable {P : Program} {C C' : Cfg} {bk : FuncId → Bool} {f : FuncId}
theorem rounds_mono {k k' : Nat} (hk : k ≤ k') {p0 p1 : Tmp} {as bd : Code} {env : List AV} {v : AV} : ∀ (i : Nat) {S S' : St}, roundsA P C (callA P C k) f k p0 p1 as bd env v i S = some S' → roundsA P C (callA P C k') f k' p0 p1 as bd env v i S = some S'
  | 0, S, S', h => h
  | i + 1, S, S', h => by
    unfold roundsA at h ⊢
    split at h
    · cases h
    rename_i x hx
    split at h
    · rename_i h1
      rw [codeA_mono (callA_mono hk) hk as h1]
      simp only
      split at h
      · rename_i h2
        rw [codeA_mono (callA_mono hk) hk bd h2]
        exact rounds_mono hk i h
      · cases h
    · cases h
theorem rangeA_mono {k k' : Nat} (hk : k ≤ k') {g : Operand} {p0 p1 : Tmp} {as bd : Code} {env : List AV} {S : St} {r : Out × List AV × St × Nat} (h : rangeA P C (callA P C k) bk f k g p0 p1 as bd env S = some r) : rangeA P C (callA P C k') bk f k' g p0 p1 as bd env S = some r := by
  unfold rangeA at h ⊢
  split at h
  · split at h
    · rename_i hb
      obtain ⟨len, hl, h⟩ := Option.bind_eq_some_iff.1 h
      obtain ⟨S1, h1, rfl⟩ := Option.map_eq_some_iff.1 h
      simp only [if_pos hb, hl, Option.bind_some, rounds_mono hk len h1, Option.map_some]
    · cases h
  · cases h
theorem codeB_mono {k k' : Nat} (hk : k ≤ k') : ∀ (c : Code) {env : List AV} {S : St} {r : Out × List AV × St × Nat}, codeB P C (callA P C k) bk f k c env S = some r → codeB P C (callA P C k') bk f k' c env S = some r
  | .seq x y, env, S, r, h => by
    unfold codeB at h ⊢
    split at h
    · rename_i hx
      rw [if_pos hx]
      split at h
      · rename_i h1
        obtain ⟨r1, h2, rfl⟩ := Option.map_eq_some_iff.1 h
        rw [codeB_mono hk x h1]
        simp only
        rw [codeA_mono (callA_mono hk) hk y h2]
        rfl
      · cases h
    · rename_i hx
      rw [if_neg hx]
      split at h
      · rename_i h1
        rw [codeA_mono (callA_mono hk) hk x h1]
        exact codeB_mono hk y h
      · cases h
  | .block _ b, env, S, r, h => by
    unfold codeB at h ⊢
    split at h
    · rename_i h1
      rw [codeB_mono hk b h1]
      exact h
    · cases h
  | .rangeFunc g ps as bd, env, S, r, h => by
    unfold codeB at h ⊢
    split at h
    · exact rangeA_mono hk h
    · cases h
  | .skip, _, _, _, h => by cases h
  | .label _, _, _, _, h => by cases h
  | .region .., _, _, _, h => by cases h
  | .cond .., _, _, _, h => by cases h
  | .loop _, _, _, _, h => by cases h
  | .exit _, _, _, _, h => by cases h
  | .ret, _, _, _, h => by cases h
  | .scope _, _, _, _, h => by cases h
  | .goto _, _, _, _, h => by cases h
  | .refuse _, _, _, _, h => by cases h
theorem callB_mono {k k' : Nat} (hk : k ≤ k') {args : List AV} {S : St} {r : AV × St} (h : callB P C (callA P C k) bk k f args S = some r) : callB P C (callA P C k') bk k' f args S = some r := by
  unfold callB at h ⊢
  split at h
  · cases h
  rename_i fn hf
  split at h
  · cases h
  rename_i c hb
  split at h
  · cases h
  rename_i hn
  try rw [if_neg hn]
  split at h
  · rename_i h1
    rw [codeB_mono hk c h1]
    exact h
  · cases h
open Classical in
/-- The contract, whatever it takes. -/
noncomputable def backG (P : Program) (C : Cfg) (bk : FuncId → Bool) (f : FuncId) : List AV → St → Option (AV × St) := fun args S =>
  if h : ∃ r k, callB P C (callA P C k) bk k f args S = some r then some h.choose else none
theorem backG_of {k : Nat} {args : List AV} {S : St} {r : AV × St} (h : callB P C (callA P C k) bk k f args S = some r) : backG P C bk f args S = some r := by
  unfold backG
  have he : ∃ r k, callB P C (callA P C k) bk k f args S = some r := ⟨r, k, h⟩
  rw [dif_pos he]
  obtain ⟨k2, h2⟩ := he.choose_spec
  have a1 := callB_mono (Nat.le_max_left k k2) h
  have a2 := callB_mono (Nat.le_max_right k k2) h2
  rw [a1] at a2
  exact a2.symm
theorem backG_sound (hm : P.follows .mixedOrders = true) (hintr : IntrOK P C) (hback : ∀ gf, bk gf = true → BackC P gf) {args : List AV} {S : St} {v : AV} {S' : St} (h : backG P C bk f args S = some (v, S')) (hhook : HookS P C := by intro _ _ h; cases (show none = some _ from h)) : CallS P f args S (.ret v) S' ∧ S.next ≤ S'.next := by
  unfold backG at h
  split at h
  · rename_i he
    obtain ⟨k, hk⟩ := he.choose_spec
    rw [Option.some.inj h] at hk
    exact callB_sound hm (sound hm hintr k hhook) (callA_sound hintr hhook (fun _ _ hcf hn => reg_sim hm hcf hn) k).2 hback hk
  · cases h
/-! ### walking it -/
@[irreducible] def CodeBQ (P : Program) (C : Cfg) (bk : FuncId → Bool) (f : FuncId) (c : Code) (e : List AV) (S : St) (Q : Out → List AV → St → Prop) : Prop := ∃ k out e' S' nD, codeB P C (callA P C k) bk f k c e S = some (out, e', S', nD) ∧ Q out e' S'
def nextBQ (P : Program) (C : Cfg) (f : FuncId) (y : Code) (Q : Out → List AV → St → Prop) : Out → List AV → St → Prop := fun o e1 S1 => o = .normal ∧ CodeQ P C f y e1 S1 Q
def nextRQ (P : Program) (C : Cfg) (bk : FuncId → Bool) (f : FuncId) (y : Code) (Q : Out → List AV → St → Prop) : Out → List AV → St → Prop := fun o e1 S1 => o = .normal ∧ CodeBQ P C bk f y e1 S1 Q
theorem CodeBQ.seqL {x y : Code} {e : List AV} {S : St} {Q : Out → List AV → St → Prop} (hx : hasR x = true) (h : CodeBQ P C bk f x e S (nextBQ P C f y Q)) : CodeBQ P C bk f (.seq x y) e S Q := by
  unfold CodeBQ at h ⊢
  obtain ⟨k, o, e1, S1, nD, h1, rfl, h2⟩ := h
  unfold CodeQ CodeE at h2
  obtain ⟨o2, e2, S2, ⟨k2, h2⟩, h3⟩ := h2
  refine ⟨max k k2, o2, e2, S2, nD, ?_, h3⟩
  unfold codeB
  rw [if_pos hx, codeB_mono (Nat.le_max_left k k2) x h1]
  simp only
  rw [codeA_mono (callA_mono (Nat.le_max_right k k2)) (Nat.le_max_right k k2) y h2]
  rfl
theorem CodeBQ.seqR {x y : Code} {e : List AV} {S : St} {Q : Out → List AV → St → Prop} (hx : hasR x = false) (h : CodeQ P C f x e S (nextRQ P C bk f y Q)) : CodeBQ P C bk f (.seq x y) e S Q := by
  unfold CodeQ CodeE at h
  obtain ⟨o, e1, S1, ⟨k, h1⟩, rfl, h2⟩ := h
  unfold CodeBQ at h2 ⊢
  obtain ⟨k2, o2, e2, S2, nD, h2, h3⟩ := h2
  refine ⟨max k k2, o2, e2, S2, nD, ?_, h3⟩
  unfold codeB
  rw [if_neg (by rw [hx]; decide), codeA_mono (callA_mono (Nat.le_max_left k k2)) (Nat.le_max_left k k2) x h1]
  exact codeB_mono (Nat.le_max_right k k2) y h2
theorem CodeBQ.block {id : Nat} {b : Code} {e : List AV} {S : St} {Q : Out → List AV → St → Prop} (h : CodeBQ P C bk f b e S (fun o e1 S1 => o = .normal ∧ Q .normal e1 S1)) : CodeBQ P C bk f (.block id b) e S Q := by
  unfold CodeBQ at h ⊢
  obtain ⟨k, o, e1, S1, nD, h1, rfl, h2⟩ := h
  refine ⟨k, .normal, e1, S1, nD, ?_, h2⟩
  unfold codeB
  rw [h1]
/-- The rounds: what stands when i are still to come. -/
theorem CodeBQ.range {g : Operand} {p0 p1 : Tmp} {as bd : Code} {e : List AV} {S : St} {Q : Out → List AV → St → Prop} {gf : FuncId} {v : AV} {len : Nat} (hg : evA e g = .func (.func gf) [] [.cptr [v] 0]) (hb : bk gf = true) (hl : lenB v = some len)
    (I : Nat → St → Prop) (h0 : I len { S with next := S.next + 2 }) (hr : ∀ i S1, i < len → I (i + 1) S1 → ∃ x, elemB S1 v i = some x ∧ CodeQ P C f as (putA (putA e (some p0) (.int .i64 i)) (some p1) x) S1 (nextBQ P C f bd fun o e2 S2 => o = .normal ∧ I i S2))
    (hq : ∀ S1, I 0 S1 → Q .normal e S1) : CodeBQ P C bk f (.rangeFunc g #[p0, p1] as bd) e S Q := by
  have key : ∀ i S1, i ≤ len → I i S1 → ∃ k S2, roundsA P C (callA P C k) f k p0 p1 as bd e v i S1 = some S2 ∧ I 0 S2 := by
    intro i
    induction i with
    | zero => exact fun S1 _ h => ⟨0, S1, rfl, h⟩
    | succ i ih =>
      intro S1 hi h
      obtain ⟨x, hx, h1⟩ := hr i S1 (by omega) h
      unfold CodeQ CodeE at h1
      obtain ⟨o, e1, S2, ⟨k1, h1⟩, rfl, h2⟩ := h1
      unfold CodeQ CodeE at h2
      obtain ⟨o2, e2, S3, ⟨k2, h2⟩, rfl, h3⟩ := h2
      obtain ⟨k3, S4, h4, h5⟩ := ih S3 (by omega) h3
      refine ⟨max k1 (max k2 k3), S4, ?_, h5⟩
      unfold roundsA
      rw [hx]
      simp only
      rw [codeA_mono (callA_mono (Nat.le_max_left k1 _)) (Nat.le_max_left k1 _) as h1]
      simp only
      rw [codeA_mono (callA_mono (Nat.le_trans (Nat.le_max_left k2 k3) (Nat.le_max_right k1 _))) (Nat.le_trans (Nat.le_max_left k2 k3) (Nat.le_max_right k1 _)) bd h2]
      exact rounds_mono (Nat.le_trans (Nat.le_max_right k2 k3) (Nat.le_max_right k1 _)) i h4
  obtain ⟨k, S2, h1, h2⟩ := key len _ (Nat.le_refl _) h0
  unfold CodeBQ
  refine ⟨k, .normal, e, S2, S.next, ?_, hq S2 h2⟩
  unfold codeB rangeA
  simp only [hg, if_pos hb, hl, Option.bind_some, h1, Option.map_some]
end
end Go.Proofs.YtmkmakokgfigoaaDoor.VM
