import Derived.Test.YtfphpjinimfhfaaVMOps3
import Derived.Laws.StructEq
import Derived.Laws.Concat
/-! Arithmetic, comparisons, conversions. -/
namespace Go.Proofs.Ytfphpjinimfhfaa.VM
set_option linter.unusedSectionVars false
set_option linter.unusedSimpArgs false
set_option linter.unusedVariables false
open Go.RowKit
variable [Glob]
section
variable {P : Program} {w0 w : World} {G : Gh} {F : Nat → Option Blk} {S : St}

theorem intA_run {op : BinOp} {k : IntKind} {a b : Int} {v : AV} (h : intA op k a b = some v) (h1 : op ≠ .shl) (h2 : op ≠ .shr) (t : TypeId) : ∃ c, (Go.binOp op t (.int k a) (.int k b)).run P w = .ok c w ∧ VR G v c := by
  cases op <;> simp only [intA] at h
  case shl => exact absurd rfl h1
  case shr => exact absurd rfl h2
  case quo =>
    split at h
    · cases h
    · rename_i hb; cases h; exact ⟨_, by simp only [Go.binOp, ne_eq, not_true_eq_false, if_false, Op.intDiv, hb, Sem.run_pure]; rfl, by constructor⟩
  case rem =>
    split at h
    · cases h
    · rename_i hb; cases h; exact ⟨_, by simp only [Go.binOp, ne_eq, not_true_eq_false, if_false, Op.intDiv, hb, Sem.run_pure]; rfl, by constructor⟩
  all_goals (cases h; exact ⟨_, by simp only [Go.binOp, ne_eq, not_true_eq_false, if_false, Op.intArith, Op.intBits, Op.intCmp, Sem.run_pure]; rfl, by constructor⟩)

theorem toList_mk (s : List UInt8) : (⟨s.toArray⟩ : ByteArray).toList = s := by rw [ByteArray.toList_eq]
theorem size_mk (s : List UInt8) : (⟨s.toArray⟩ : ByteArray).size = s.length := by simp [ByteArray.size]
theorem append_mk (x y : List UInt8) : (⟨x.toArray⟩ : ByteArray) ++ ⟨y.toArray⟩ = ⟨(x ++ y).toArray⟩ := by
  apply ByteArray.ext
  simp [ByteArray.data_append]

theorem strA_run {op : BinOp} {x y : List UInt8} {v : AV} (h : strA op x y = some v) (h1 : op ≠ .shl) (h2 : op ≠ .shr) (t : TypeId) : ∃ c, (Go.binOp op t (.string ⟨x.toArray⟩) (.string ⟨y.toArray⟩)).run P w = .ok c w ∧ VR G v c := by
  cases op <;> simp only [strA] at h
  case add =>
    split at h
    · rename_i hle
      cases h
      have : ¬ ((((⟨x.toArray⟩ : ByteArray).size + (⟨y.toArray⟩ : ByteArray).size : Nat) : Int) > IntKind.i64.max) := by
        rw [size_mk, size_mk, show IntKind.i64.max = 9223372036854775807 from rfl]; omega
      exact ⟨.string ⟨(x ++ y).toArray⟩, by simp only [Go.binOp, Op.stringOp, if_neg this, Sem.run_pure, append_mk], .str _⟩
    · cases h
  all_goals first | (cases h; done) | (cases h; exact ⟨_, by simp only [Go.binOp, Op.stringOp, Sem.run_pure, toList_mk]; rfl, by constructor⟩)

set_option maxHeartbeats 1000000 in
theorem eqLeaf_run {t : TypeId} {x y : AV} {a b : Value} {r : Bool} (hx : VR G x a) (hy : VR G y b) (h : eqLeaf (P.underlying t) x y = some r) (d : Nat) : (Op.equalIn (d + 1) t a b).run P w = .ok r w := by
  generalize hu : P.underlying t = u at h
  unfold eqLeaf at h
  split at h
  case h_2 => -- ints
    cases hx; cases hy
    split at h
    · rename_i hk; cases h; subst hk; simp [Op.equalIn, run_underlying hu]
    · cases h
  case h_3 =>
    cases hx; cases hy
    cases h
    rw [run_equalIn_string w d t _ _ hu, toList_mk, toList_mk]
  all_goals first | (cases h; done) | (cases h; cases hx <;> cases hy <;> simp [Op.equalIn, run_underlying hu])

theorem eqFields_run {xs ys : List AV} {cs ds : Array Value} (hl1 : xs.length = cs.size) (hl2 : ys.length = ds.size) (hv1 : ∀ i (h : i < xs.length), VR G xs[i] (cs.getD i Go.undef)) (hv2 : ∀ i (h : i < ys.length), VR G ys[i] (ds.getD i Go.undef)) (d : Nat) :
    ∀ (fs : List Field) (r : Bool), eqFields P xs ys fs = some r → (Op.eqFields (d + 1) cs ds fs).run P w = .ok r w
  | [], r, h => by cases h; simp [Op.eqFields]
  | fd :: fs, r, h => by
    unfold eqFields at h
    split at h
    · cases h
    · rename_i hn
      split at h
      · rename_i a b ha hb
        obtain ⟨q, hq, h⟩ := Option.bind_eq_some_iff.1 h
        obtain ⟨hi, rfl⟩ := List.getElem?_eq_some_iff.1 ha
        obtain ⟨hj, rfl⟩ := List.getElem?_eq_some_iff.1 hb
        have hag : isAggA P fd.type = some false := by
          unfold isAggA
          unfold eqLeaf at hq
          cases hu : P.underlying fd.type with
          | none => rw [hu] at hq; simp at hq
          | some dd => cases dd <;> first | rfl | (rw [hu] at hq; simp at hq)
        have p1 : (part fd.type cs fd.offset).run P w = .ok (cs.getD fd.offset Go.undef) w := by
          unfold part
          simp only [Sem.run_bind, isAggA_run hag, Result.andThen_ok, Bool.false_eq_true, if_false]
          rw [getD_some (show fd.offset < cs.size by omega)]; rfl
        have p2 : (part fd.type ds fd.offset).run P w = .ok (ds.getD fd.offset Go.undef) w := by
          unfold part
          simp only [Sem.run_bind, isAggA_run hag, Result.andThen_ok, Bool.false_eq_true, if_false]
          rw [getD_some (show fd.offset < ds.size by omega)]; rfl
        have p3 := eqLeaf_run (w := w) (hv1 _ hi) (hv2 _ hj) hq d
        rw [Op.eqFields]
        simp only [if_pos (show fd.name ≠ "_" from hn), Sem.run_bind, p1, p2, p3, Result.andThen_ok]
        cases q with
        | true => simpa using eqFields_run hl1 hl2 hv1 hv2 d fs r (by simpa using h)
        | false => simp at h; subst h; simp
      · cases h

theorem eqA_run {t : TypeId} {x y : AV} {a b : Value} {r : Bool} (hx : VR G x a) (hy : VR G y b) (h : eqA P t x y = some r) : (Op.equal t a b).run P w = .ok r w := by
  unfold eqA at h
  split at h
  · rename_i fs xs ys hu
    split at h
    · cases h
    · rename_i hg
      simp only [Bool.or_eq_true, not_or, Bool.not_eq_true] at hg
      cases hx with
      | agg _ cs hl1 hv1 =>
        cases hy with
        | agg _ ds hl2 hv2 =>
          have hf : P.fieldsOf t = fs := by simp [Program.fieldsOf, hu]
          show (Op.equalIn (9999 + 1) t _ _).run P w = _
          rw [run_equalIn_struct (P := P) w 9999 t cs ds (by rw [hf]; exact hu) hg.1, hf]
          exact eqFields_run hl1 hl2 hv1 hv2 9998 _ _ h
  · exact eqLeaf_run hx hy h 9999

theorem eqA_guard {op : BinOp} (hop : op = .eql ∨ op = .neq) {t : TypeId} {x y : AV} {a b : Value} {r : Bool} (hx : VR G x a) (hy : VR G y b) (h : eqA P t x y = some r) (hn : ¬ (x = .nilIface ∧ y = .nilIface)) (ox oy : Operand) : (eqGuard op t ox oy a b).run P w = .ok () w := by
  have hxa : ∀ cs ds, a = .agg cs → b = .agg ds → P.eqGuardType P.depth t = false := by
    rintro cs ds rfl rfl
    unfold eqA at h
    split at h
    · split at h
      · cases h
      · rename_i hg
        simp only [Bool.or_eq_true, not_or, Bool.not_eq_true] at hg
        exact hg.2
    · rename_i hne
      exfalso
      cases hx <;> cases hy <;> simp [eqLeaf] at h
  have hni : ¬ (a = .nilIface ∧ b = .nilIface) := by
    rintro ⟨rfl, rfl⟩
    apply hn
    unfold eqA at h
    cases hx <;> cases hy <;> first | exact ⟨rfl, rfl⟩ | (simp [eqLeaf] at h)
  rcases hop with rfl | rfl <;> unfold eqGuard <;> simp only [Bool.not_true, Bool.false_eq_true, if_false]
  all_goals
    cases a <;> first | rfl | skip
    all_goals cases b <;> first | rfl | skip
  all_goals first | exact absurd ⟨rfl, rfl⟩ hni | (have := hxa _ _ rfl rfl; simp [this])

theorem binOp_eql {t : TypeId} {a b : Value} (h1 : ∀ j n k m, ¬ (a = .int j n ∧ b = .int k m)) (h2 : ∀ s u, ¬ (a = .string s ∧ b = .string u)) (h3 : ∀ j n k m, ¬ (a = .float j n ∧ b = .float k m)) (h4 : ∀ j n m k p q, ¬ (a = .complex j n m ∧ b = .complex k p q)) :
    (Go.binOp .eql t a b = do pure (.bool (← Op.equal t a b))) ∧ (Go.binOp .neq t a b = do pure (.bool (!(← Op.equal t a b)))) := by
  cases a <;> cases b <;> first | exact ⟨rfl, rfl⟩ | exact absurd ⟨rfl, rfl⟩ (h1 _ _ _ _) | exact absurd ⟨rfl, rfl⟩ (h2 _ _) | exact absurd ⟨rfl, rfl⟩ (h3 _ _ _ _) | exact absurd ⟨rfl, rfl⟩ (h4 _ _ _ _ _ _)

theorem eqA_forms {t : TypeId} {x y : AV} {a b : Value} {r : Bool} (hx : VR G x a) (hy : VR G y b) (h : eqA P t x y = some r) (hi : ∀ j n k m, ¬ (x = .int j n ∧ y = .int k m)) (hs : ∀ s u, ¬ (x = .str s ∧ y = .str u)) :
    (Go.binOp .eql t a b = do pure (.bool (← Op.equal t a b))) ∧ (Go.binOp .neq t a b = do pure (.bool (!(← Op.equal t a b)))) := by
  refine binOp_eql ?_ ?_ ?_ ?_
  all_goals
    intros
    rintro ⟨rfl, rfl⟩
    unfold eqA at h
    cases hx <;> cases hy <;> first | exact hi _ _ _ _ ⟨rfl, rfl⟩ | exact hs _ _ ⟨rfl, rfl⟩ | (simp [eqLeaf] at h)

theorem eq_nil_iface {t : TypeId} {ms : Array (String × TypeId)} (hu : P.underlying t = some (.interface ms)) (d : Nat) : (Op.equalIn (d + 1) t .nilIface .nilIface).run P w = .ok true w := by
  simp [Op.equalIn, run_underlying hu]

theorem sim_bin {op : BinOp} {t : TypeId} {x y v : AV} {a b : Value} (hx : VR G x a) (hy : VR G y b) (ox oy : Operand) (h : binA P op t x y (isConstA ox) (isConstA oy) = some v) :
    ∃ c, (do eqGuard op t ox oy a b; Go.binOp op t a b : Sem Value).run P w = .ok c w ∧ VR G v c := by
  unfold binA at h
  split at h
  · cases hx; cases hy
    split at h
    · cases h
    · rename_i hb
      cases h
      exact ⟨_, by simp [eqGuard, Go.binOp, Op.shift, hb]; rfl, by constructor⟩
  · cases hx; cases hy
    split at h
    · cases h
    · rename_i hb
      cases h
      exact ⟨_, by simp [eqGuard, Go.binOp, Op.shift, hb]; rfl, by constructor⟩
  · rename_i k a j b hn1 hn2
    cases hx; cases hy
    split at h
    · rename_i hk
      subst hk
      obtain ⟨c, h1, h2⟩ := intA_run (P := P) (w := w) (G := G) h (fun e => hn1 e) (fun e => hn2 e) t
      refine ⟨c, ?_, h2⟩
      rw [Sem.run_bind]
      have : (eqGuard op t ox oy (.int k a) (.int k b)).run P w = .ok () w := by unfold eqGuard; split <;> rfl
      rw [this]; exact h1
    · cases h
  · rename_i s u
    cases hx; cases hy
    have hop : op ≠ .shl ∧ op ≠ .shr := by
      constructor <;> (rintro rfl; simp [strA] at h)
    obtain ⟨c, h1, h2⟩ := strA_run (P := P) (w := w) (G := G) h hop.1 hop.2 t
    refine ⟨c, ?_, h2⟩
    rw [Sem.run_bind]
    have : (eqGuard op t ox oy (.string ⟨s.toArray⟩) (.string ⟨u.toArray⟩)).run P w = .ok () w := by unfold eqGuard; split <;> rfl
    rw [this]; exact h1
  · cases hx; cases hy
    split at h
    · rename_i ms hu
      split at h
      · rename_i hc
        cases h
        have : (eqGuard .eql t ox oy .nilIface .nilIface).run P w = .ok () w := by
          unfold eqGuard
          cases ox <;> cases oy <;> first | rfl | (simp [isConstA] at hc)
        have h2 : (Op.equal t .nilIface .nilIface).run P w = .ok true w := eq_nil_iface hu 9999
        exact ⟨.bool true, by rw [Sem.run_bind, this, (binOp_eql (by simp) (by simp) (by simp) (by simp)).1]; simp only [Result.andThen_ok, Sem.run_bind, h2, Sem.run_pure], .bool _⟩
      · cases h
    · cases h
  · cases hx; cases hy
    split at h
    · rename_i ms hu
      split at h
      · rename_i hc
        cases h
        have : (eqGuard .neq t ox oy .nilIface .nilIface).run P w = .ok () w := by
          unfold eqGuard
          cases ox <;> cases oy <;> first | rfl | (simp [isConstA] at hc)
        have h2 : (Op.equal t .nilIface .nilIface).run P w = .ok true w := eq_nil_iface hu 9999
        exact ⟨.bool false, by rw [Sem.run_bind, this, (binOp_eql (by simp) (by simp) (by simp) (by simp)).2]; simp only [Result.andThen_ok, Sem.run_bind, h2, Sem.run_pure, Bool.not_true], .bool _⟩
      · cases h
    · cases h
  · rename_i hi hs hn
    obtain ⟨r, hr, rfl⟩ := Option.map_eq_some_iff.1 h
    refine ⟨.bool r, ?_, .bool r⟩
    rw [Sem.run_bind, eqA_guard (.inl rfl) hx hy hr (fun e => hn e.1 e.2) ox oy]
    simp only [Result.andThen_ok]
    rw [(eqA_forms (P := P) hx hy hr (fun j n k m e => hi j n k m e.1 e.2) (fun s u e => hs s u e.1 e.2)).1]
    simp [eqA_run hx hy hr]
  · rename_i hi hs hn
    obtain ⟨r, hr, rfl⟩ := Option.map_eq_some_iff.1 h
    refine ⟨.bool !r, ?_, .bool _⟩
    rw [Sem.run_bind, eqA_guard (.inr rfl) hx hy hr (fun e => hn e.1 e.2) ox oy]
    simp only [Result.andThen_ok]
    rw [(eqA_forms (P := P) hx hy hr (fun j n k m e => hi j n k m e.1 e.2) (fun s u e => hs s u e.1 e.2)).2]
    simp [eqA_run hx hy hr]
  · cases h

theorem sim_un {op : UnOp} {x v : AV} {a : Value} (hx : VR G x a) (h : unA op x = some v) : ∃ c, (Op.unary op a).run P w = .ok c w ∧ VR G v c := by
  unfold unA at h
  split at h
  · cases hx; cases h
    exact ⟨_, rfl, .int _ _⟩
  · cases hx
    simp only [intA, Option.some.injEq] at h
    cases h
    exact ⟨_, rfl, .int _ _⟩
  · cases hx; cases h
    exact ⟨_, rfl, .bool _⟩
  · cases h

theorem sim_len {t ty : TypeId} {x : AV} {a : Value} {n : Nat} (hx : VR G x a) (h : lenA x = some n) (hu : P.underlying t = some .string ∨ ∃ e, P.underlying t = some (.slice e)) (hk : P.underlying t = some .string ↔ ∃ s, x = .str s) :
    (Builtin.len_ #[t] ty #[a]).run P w = .ok (.int .i64 n) w := by
  cases hx <;> simp [lenA] at h
  · rename_i s
    have := hk.2 ⟨s, rfl⟩
    subst h
    simp [Builtin.len_, run_underlying this, size_mk, goInt]
  all_goals
    rcases hu with hu | ⟨e, hu⟩
    · obtain ⟨s, hs⟩ := hk.1 hu
      cases hs
    · subst h
      simp [Builtin.len_, run_underlying hu, goInt]

theorem mn_run : ∀ (xs : List AV) (cs : List Value) (x v : AV) (c : Value), VR G x c → VRs G xs cs →
    xs.foldlM (fun x y => match x, y with | .int k a, .int _ b => some (.int k (if b < a then b else a)) | _, _ => none) x = some v → ∃ d, (cs.foldlM Builtin.min2 c).run P w = .ok d w ∧ VR G v d
  | [], _, x, v, c, hx, h2, h => by cases h2; cases h; exact ⟨c, by simp, hx⟩
  | y :: xs, _, x, v, c, hx, h2, h => by
    cases h2 with
    | cons hy hr =>
      simp only [List.foldlM_cons] at h
      obtain ⟨m, hm, h⟩ := Option.bind_eq_some_iff.1 h
      split at hm
      · cases hx; cases hy; cases hm
        obtain ⟨d, h1, h3⟩ := mn_run xs _ _ v _ (.int _ _) hr h
        exact ⟨d, by simp only [List.foldlM_cons, Sem.run_bind, Builtin.min2, Sem.run_pure, Result.andThen_ok]; exact h1, h3⟩
      · cases hm
theorem mx_run : ∀ (xs : List AV) (cs : List Value) (x v : AV) (c : Value), VR G x c → VRs G xs cs →
    xs.foldlM (fun x y => match x, y with | .int k a, .int _ b => some (.int k (if b > a then b else a)) | _, _ => none) x = some v → ∃ d, (cs.foldlM Builtin.max2 c).run P w = .ok d w ∧ VR G v d
  | [], _, x, v, c, hx, h2, h => by cases h2; cases h; exact ⟨c, by simp, hx⟩
  | y :: xs, _, x, v, c, hx, h2, h => by
    cases h2 with
    | cons hy hr =>
      simp only [List.foldlM_cons] at h
      obtain ⟨m, hm, h⟩ := Option.bind_eq_some_iff.1 h
      split at hm
      · cases hx; cases hy; cases hm
        obtain ⟨d, h1, h3⟩ := mx_run xs _ _ v _ (.int _ _) hr h
        exact ⟨d, by simp only [List.foldlM_cons, Sem.run_bind, Builtin.max2, Sem.run_pure, Result.andThen_ok]; exact h1, h3⟩
      · cases hm
end
end Go.Proofs.Ytfphpjinimfhfaa.VM
