import Derived.Test.YtfphpjinimfhfaaVMRow
/-! A call without arguments that answers in an empty memory answers so anywhere: told as a contract ('intr'). -/
namespace Go.Proofs.Ytfphpjinimfhfaa.VM
set_option linter.unusedSectionVars false
set_option linter.unusedVariables false
open Go.RowKit
variable [Glob]

theorem sr_below {w0 w w' : World} {G : Gh} {R : Nat → Option Blk} (h : SR w0 G R w) (k : Below w.heap.size w w') : SR w0 G R w' := by
  refine ⟨h.below.trans ⟨k.os, k.tape, k.output, k.size, fun i hi => k.block i (by have := h.below.size; omega)⟩, fun b off v hv => ?_, fun b m hm => ?_, fun n blk hn => ?_, h.apart, h.laid⟩
  · rw [← h.imm b off v hv]
    exact World.cell?_of_block (w := w) (k.block b (h.imm_lt hv))
  · obtain ⟨ccs, ty, fr, h1, h2⟩ := h.size b m hm
    exact ⟨ccs, ty, fr, (k.block b (h.sz_lt hm)).trans h1, h2⟩
  · obtain ⟨b, o, h1, h2, h3⟩ := h.res n blk hn
    exact ⟨b, o, h1, h2, BR.of_block (k.block b h3.block) h3⟩

/-- The answer is this boolean. -/
def isRet (b : Bool) : Option (Res × St) → Bool
  | some (.ret (.bool c), _) => c == b
  | _ => false

theorem closed_call {P : Program} {C : Cfg} (hm : P.follows .mixedOrders = true) (hintr : IntrOK P C) {f : FuncId} {k : Nat} {b : Bool} (hk : isRet b (callA P C k f [] st0) = true)
    (hgl : ∀ w, Glob.okw w → ∀ k, VR (gh0 w) (Glob.gl k) (.pointer (some ⟨k, 0, none⟩))) (hok : ∀ w0 w, Below w0.heap.size w0 w → Glob.okw w0 → Glob.okw w) (S : St) (hhook : HookS P C := by intro _ _ h; cases (show none = some _ from h)) :
    CallS P f [] S (.ret (.bool b)) S := by
  intro w0 G F w cargs _ hv hs hwf hFO hFN
  have hc : callA P C k f [] st0 = some (.ret (.bool b), ((callA P C k f [] st0).getD (.ret .undef, st0)).2) := by
    cases h : callA P C k f [] st0 with
    | none => rw [h] at hk; cases hk
    | some r =>
      rw [h] at hk
      obtain ⟨res, S'⟩ := r
      match res, hk with
      | .ret (.bool c), hk =>
        have : c = b := by simpa [isRet] using hk
        subst this; rfl
  have hokw := hok w0 w hs.below hs.laid
  have hcv : VRs (gh0 w) [] cargs.toList := by
    obtain ⟨l⟩ := cargs
    cases hv; exact .nil
  have := sound hm hintr k hhook f [] st0 _ _ hc w (gh0 w) (fun _ => none) w cargs (hgl w hokw) hcv (sr0 hokw) (fun n _ => rfl) (fun n blk h => by cases h) (fun n _ _ => rfl)
  have fin : ∀ e w', (∃ G', GE (gh0 w) G' st0.next ((callA P C k f [] st0).getD (.ret .undef, st0)).2.next ∧ SR w G' (ov ((callA P C k f [] st0).getD (.ret .undef, st0)).2.mem fun _ => none) w' ∧ Grow st0 ((callA P C k f [] st0).getD (.ret .undef, st0)).2 ∧ ResR G' (.ret (.bool b)) e) →
      ∃ G', GE G G' S.next S.next ∧ SR w0 G' (ov S.mem F) w' ∧ Grow S S ∧ ResR G' (.ret (.bool b)) e := by
    rintro e w' ⟨G', _, h2, _, c', he, hcc⟩
    refine ⟨G, .refl _ _ _, sr_below hs h2.below, .refl hwf, c', he, ?_⟩
    cases hcc
    exact .bool b
  rcases this with ⟨h1, h2⟩ | ⟨c', w', h1, h2⟩
  · exact .inl ⟨h1, h2.mono fin⟩
  · exact .inr ⟨c', w', h1, fin _ _ h2⟩

/-! .. with arguments and an answer that name no memory. -/
mutual
def groundA : AV → Bool
  | .bool _ | .int _ _ | .str _ | .nul | .nils | .nilFunc | .nilIface => true
  | .agg cs => groundL cs
  | .tuple vs => groundL vs
  | _ => false
def groundL : List AV → Bool
  | [] => true
  | x :: l => groundA x && groundL l
end
theorem ground_at : ∀ {l : List AV}, groundL l = true → ∀ i (h : i < l.length), groundA l[i] = true
  | x :: l, h, 0, _ => by rw [groundL, Bool.and_eq_true] at h; exact h.1
  | x :: l, h, i + 1, hi => by rw [groundL, Bool.and_eq_true] at h; simpa using ground_at h.2 i (by simpa using hi)
theorem ground_vr {G G' : Gh} {v : AV} {c : Value} (h : VR G v c) : groundA v = true → VR G' v c := by
  induction h with
  | bool b => exact fun _ => .bool b
  | int k n => exact fun _ => .int k n
  | str s => exact fun _ => .str s
  | nul => exact fun _ => .nul
  | nils => exact fun _ => .nils
  | nilFunc => exact fun _ => .nilFunc
  | nilIface => exact fun _ => .nilIface
  | agg xs cs hx h1 ih => exact fun hg => .agg xs cs hx fun i hi => ih i hi (ground_at hg i hi)
  | tuple xs cs hx h1 ih => exact fun hg => .tuple xs cs hx fun i hi => ih i hi (ground_at hg i hi)
  | _ => intro hg; cases hg
theorem ground_vrs {G G' : Gh} : ∀ {vs : List AV} {cs : List Value}, VRs G vs cs → groundL vs = true → VRs G' vs cs
  | _, _, .nil, _ => .nil
  | _, _, .cons h t, hg => by rw [groundL, Bool.and_eq_true] at hg; exact .cons (ground_vr h hg.1) (ground_vrs t hg.2)
def isRetV (r : AV) : Option (Res × St) → Bool
  | some (.ret v, _) => AV.eqb v r
  | _ => false
theorem closed_callV {P : Program} {C : Cfg} (hm : P.follows .mixedOrders = true) (hintr : IntrOK P C) {f : FuncId} {k : Nat} {args : List AV} {r : AV} (hga : groundL args = true) (hgr : groundA r = true) (hk : isRetV r (callA P C k f args st0) = true)
    (hgl : ∀ w, Glob.okw w → ∀ k, VR (gh0 w) (Glob.gl k) (.pointer (some ⟨k, 0, none⟩))) (hok : ∀ w0 w, Below w0.heap.size w0 w → Glob.okw w0 → Glob.okw w) (S : St) (hhook : HookS P C := by intro _ _ h; cases (show none = some _ from h)) :
    CallS P f args S (.ret r) S := by
  intro w0 G F w cargs _ hv hs hwf hFO hFN
  obtain ⟨S1, hc⟩ : ∃ S1, callA P C k f args st0 = some (.ret r, S1) := by
    cases h : callA P C k f args st0 with
    | none => rw [h] at hk; cases hk
    | some q =>
      rw [h] at hk
      obtain ⟨res, S'⟩ := q
      match res, hk with
      | .ret v, hk => rw [AV.eqb_eq _ _ hk]; exact ⟨_, rfl⟩
  have hokw := hok w0 w hs.below hs.laid
  have := sound hm hintr k hhook f args st0 _ _ hc w (gh0 w) (fun _ => none) w cargs (hgl w hokw) (ground_vrs hv hga) (sr0 hokw) (fun n _ => rfl) (fun n blk h => by cases h) (fun n _ _ => rfl)
  have fin : ∀ e w', (∃ G', GE (gh0 w) G' st0.next S1.next ∧ SR w G' (ov S1.mem fun _ => none) w' ∧ Grow st0 S1 ∧ ResR G' (.ret r) e) →
      ∃ G', GE G G' S.next S.next ∧ SR w0 G' (ov S.mem F) w' ∧ Grow S S ∧ ResR G' (.ret r) e := by
    rintro e w' ⟨G', _, h2, _, c', he, hcc⟩
    exact ⟨G, .refl _ _ _, sr_below hs h2.below, .refl hwf, c', he, ground_vr hcc hgr⟩
  rcases this with ⟨h1, h2⟩ | ⟨c', w', h1, h2⟩
  · exact .inl ⟨h1, h2.mono fin⟩
  · exact .inr ⟨c', w', h1, fin _ _ h2⟩
end Go.Proofs.Ytfphpjinimfhfaa.VM
