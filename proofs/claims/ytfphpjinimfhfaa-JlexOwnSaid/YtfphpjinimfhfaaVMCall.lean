import Derived.Test.YtfphpjinimfhfaaVMCode
import Derived.Test.YtfphpjinimfhfaaVMFrz
/-! Calls: the model's run of a function agrees with 'callA'. -/
namespace Go.Proofs.Ytfphpjinimfhfaa.VM
set_option linter.unusedSimpArgs false
set_option linter.unusedVariables false
set_option linter.unusedSectionVars false
open Go.RowKit
variable [Glob]
section
variable {P : Program} {C : Cfg} {w0 w : World} {G : Gh} {F : Nat → Option Blk} {S S' : St}

def IntrOK (P : Program) (C : Cfg) : Prop := ∀ f g args S v S', C.intr f = some g → g args S = some (v, S') → CallS P f args S (.ret v) S' ∧ S.next ≤ S'.next

/-- The hooks are the model's. -/
def HookS (P : Program) (C : Cfg) : Prop := ∀ f H, C.hook f = some H → ∀ cf, CFS P cf → CFN cf → ∀ args S res S', (H args S).run cf = some (res, S') → CallS P f args S res S' ∧ S.next ≤ S'.next
theorem result_run (h : SR w0 G (ov S.mem F) w) {env : List AV} {tmps : Array Value} (he : ER G env tmps) {r : ResultVar} {v : AV} (hr : resultA P env S r = some v) :
    ∃ c, ((match r with | .tmp t => pure (tmps.getD t Go.undef) | .cell a t => do loadVar t (← asAddr (tmps.getD a Go.undef))) : Sem Value).run P w = .ok c w ∧ VR G v c := by
  cases r with
  | tmp t =>
    obtain ⟨hlt, rfl⟩ := List.getElem?_eq_some_iff.1 hr
    exact ⟨_, rfl, he.at_ t hlt⟩
  | cell a t =>
    have hv : VR G (env.getD a .undef) (tmps.getD a Go.undef) := by
      by_cases hlt : a < env.length
      · simp only [List.getD, List.getElem?_eq_getElem hlt, Option.getD_some]
        exact he.at_ a hlt
      · rw [show env.getD a .undef = .undef by simp [List.getD, hlt]]
        exact .undef _
    obtain ⟨c, h1, h2⟩ := sim_load (P := P) h hv hr
    refine ⟨c, ?_, h2⟩
    generalize hx : env.getD a .undef = x at hv
    have hr' : loadA P S t x = some v := by rw [← hx]; exact hr
    show (do loadVar t (← asAddr (tmps.getD a Go.undef)) : Sem Value).run P w = _
    generalize tmps.getD a Go.undef = u at hv h1 ⊢
    cases hv <;> simp [loadA] at hr'
    · simpa [Instr.loadAt, Instr.sureAddr, asAddr] using h1
    · simpa [Instr.loadAt, Instr.sureAddr, asAddr] using h1

theorem results_mapM (h : SR w0 G (ov S.mem F) w) {env : List AV} {tmps : Array Value} (he : ER G env tmps) : ∀ (rs : List ResultVar) {vs : List AV}, rs.mapM (resultA P env S) = some vs →
    ∃ cs, (rs.mapM (fun r => (match r with | .tmp t => pure (tmps.getD t Go.undef) | .cell a t => do loadVar t (← asAddr (tmps.getD a Go.undef)) : Sem Value))).run P w = .ok cs w ∧ VRs G vs cs
  | [], vs, hr => by cases hr; exact ⟨[], by simp, .nil⟩
  | r :: rs, vs, hr => by
    simp only [List.mapM_cons] at hr
    obtain ⟨v, hv, hr⟩ := Option.bind_eq_some_iff.1 hr
    obtain ⟨us, hu, hr⟩ := Option.bind_eq_some_iff.1 hr
    cases hr
    obtain ⟨c, h1, h2⟩ := result_run h he hv
    obtain ⟨cs, h3, h4⟩ := results_mapM h he rs hu
    exact ⟨c :: cs, by simp only [List.mapM_cons, Sem.run_bind, h1, Result.andThen_ok, h3, Sem.run_pure], .cons h2 h4⟩

theorem results_run (h : SR w0 G (ov S.mem F) w) {env : List AV} {tmps : Array Value} (he : ER G env tmps) {fn : Func} {v : AV} (hr : resultsA P fn env S = some v) : ∃ c, (Go.results fn tmps).run P w = .ok c w ∧ VR G v c := by
  unfold resultsA at hr
  obtain ⟨vs, hvs, rfl⟩ := Option.map_eq_some_iff.1 hr
  obtain ⟨cs, h1, h2⟩ := results_mapM (P := P) h he _ hvs
  have hm : (fn.results.mapM (fun r => (match r with | .tmp t => pure (tmps.getD t Go.undef) | .cell a t => do loadVar t (← asAddr (tmps.getD a Go.undef)) : Sem Value))).run P w = .ok cs.toArray w := by
    rw [Array.mapM_eq_mapM_toList, Sem.run_map, h1]
    rfl
  unfold Go.results
  rw [Sem.run_bind]
  erw [hm]
  simp only [Result.andThen_ok, Sem.run_pure]
  cases h2 with
  | nil => exact ⟨_, rfl, .tuple [] _ rfl (fun i hi => by simp at hi)⟩
  | cons ha t =>
    cases t with
    | nil => exact ⟨_, rfl, ha⟩
    | cons hb t2 =>
      rename_i v0 c0 v1 c1 vs' cs'
      have hall : VRs G (v0 :: v1 :: vs') (c0 :: c1 :: cs') := .cons ha (.cons hb t2)
      refine ⟨.tuple (c0 :: c1 :: cs').toArray, by simp, .tuple _ _ (by simpa using hall.len) (fun i hi => ?_)⟩
      have := hall.at_ i hi
      rw [toArray_getD]; exact this

theorem enter_run {f : FuncId} {fn : Func} {c : Code} {cargs : Array Value} (hf : P.funcs[f]? = some fn) (hb : fn.body = some c) (hn : fn.name ≠ "runtime.NumGoroutine") : (callFunc f cargs).run P w = .ok (.enter f cargs) w := by
  simp [callFunc, hf, hb, hn]

theorem enter_env {args : List AV} {cargs : Array Value} (hv : VRs G args cargs.toList) (hgl : ∀ k, VR G (Glob.gl k) (.pointer (some ⟨k, 0, none⟩))) (n : Nat) : ER G (args ++ List.replicate (n - args.length) (.tuple [])) (cargs ++ Array.replicate (n - cargs.size) Go.undef) := by
  have hl : args.length = cargs.size := by simpa using hv.len
  have hr : ∀ m, VRs G (List.replicate m (.tuple [])) (List.replicate m Go.undef) := by
    intro m
    induction m with
    | zero => exact .nil
    | succ m ih => exact .cons (.tuple [] #[] rfl (fun i hi => by simp at hi)) ih
  have h := hv.append (hr (n - args.length))
  refine ⟨by simp [hl], fun i hi => ?_, hgl⟩
  have := h.at_ i hi
  rw [arr_getD, ← Array.getElem?_toList]
  simpa [List.getD, hl] using this

theorem GE.post {G G1 G2 : Gh} {a b c : Nat} (h : GE G G1 a b) (k : ∀ lo hi, GE G1 G2 lo hi) (hbc : b ≤ c) : GE G G2 a c :=
  ⟨fun n p hp => (k 0 0).io n p (h.io n p hp), fun b o v hv => (k 0 0).M b o v (h.M b o v hv), fun b m hm => (k 0 0).sz b m (h.sz b m hm),
   fun n hn => by rw [(k 0 0).new n (.inr (Nat.zero_le _)), h.new n (by omega)]⟩
theorem vrs_frz {k : Nat} : ∀ {xs : List AV} {S S' : St} {xs' : List AV} {G : Gh} {cs : List Value}, mapS (frzA k) xs S = some (xs', S') → SR w0 G (ov S.mem F) w → FD S F → VRs G xs cs →
    ∃ G', (∀ lo hi, GE G G' lo hi) ∧ SR w0 G' (ov S'.mem F) w ∧ Shrink S S' ∧ VRs G' xs' cs := by
  intro xs S S' xs' G cs h hs hF hv
  obtain ⟨G1, g1, s1, k1, l1, v1⟩ := mapS_sound (frzA_sound k) xs (fun i => cs.getD i Go.undef) h hs hF (fun i hi => hv.at_ i hi)
  exact ⟨G1, g1, s1, k1, VRs.of_at (l1.trans hv.len) v1⟩
theorem calls_frz {f : FuncId} {k : Nat} {args args' : List AV} {S1 : St} {res : Res} (hm : mapS (frzA k) args S = some (args', S1)) (hle : S.next ≤ S'.next) (h : CallS P f args' S1 res S') : CallS P f args S res S' := by
  intro w0 G F w cargs hgl hv hs hwf hFO hFN
  have hFD : FD S F := fun n blk hn => (hFO n blk hn).1
  obtain ⟨G1, g1, s1, k1, v1⟩ := vrs_frz hm hs hFD hv
  have hn : S1.next = S.next := k1.next
  have hwf1 : Wf S1 := fun n hn' => by
    cases hx : S1.mem n with
    | none => rfl
    | some b => have := k1.mem n b hx; rw [hwf n (by omega)] at this; cases this
  have hFO1 : FO S1 F S'.next := fun n blk hb => by
    have h0 := hFO n blk hb
    refine ⟨?_, by rw [hn]; exact h0.2⟩
    exact (hFD.shrink k1) n blk hb
  have hFN1 : FN G1 S1.next S'.next := fun n h1 h2 => by rw [(g1 0 0).new n (.inr (Nat.zero_le _))]; exact hFN n (by omega) h2
  have := h w0 G1 F w cargs (fun k => (hgl k).mono (g1 0 0)) v1 s1 hwf1 hFO1 hFN1
  have fin : ∀ e w', (∃ G', GE G1 G' S1.next S'.next ∧ SR w0 G' (ov S'.mem F) w' ∧ Grow S1 S' ∧ ResR G' res e) → ∃ G', GE G G' S.next S'.next ∧ SR w0 G' (ov S'.mem F) w' ∧ Grow S S' ∧ ResR G' res e := by
    rintro e w' ⟨G', k2, k3, k4, k5⟩
    rw [hn] at k2
    exact ⟨G', GE.trans (g1 S.next S.next) k2 (Nat.le_refl _) hle, k3, (k1.grow hwf).trans k4, k5⟩
  rcases this with ⟨h1, h2⟩ | ⟨c', w', h1, h2⟩
  · exact .inl ⟨h1, h2.mono fin⟩
  · exact .inr ⟨c', w', h1, fin _ _ h2⟩
theorem callA_sound (hintr : IntrOK P C) (hhook : HookS P C) (hreg : ∀ cf f, CFS P cf → CFN cf → RegS P C cf f) : ∀ k, CFS P (callA P C k) ∧ CFN (callA P C k)
  | 0 => ⟨fun f args S res S' h => (by cases h), fun f args S res S' h => (by cases h)⟩
  | k + 1 => by
    obtain ⟨hcf, hn⟩ := callA_sound hintr hhook hreg k
    have both : ∀ f args S res S', callA P C (k + 1) f args S = some (res, S') → CallS P f args S res S' ∧ S.next ≤ S'.next := by
      intro f args S res S' h
      unfold callA at h
      split at h
      · rename_i g hg
        obtain ⟨⟨v, S1⟩, h1, h2⟩ := Option.bind_eq_some_iff.1 h
        cases h2
        exact hintr f g args S v S1 hg h1
      · split at h
        · rename_i H hH
          exact hhook f H hH _ hcf hn args S res S' h
        obtain ⟨⟨args1, S0⟩, hpre, h⟩ := Option.bind_eq_some_iff.1 h
        have hback : CallS P f args1 S0 res S' ∧ S0.next ≤ S'.next → CallS P f args S res S' ∧ S.next ≤ S'.next := by
          unfold preA at hpre
          split at hpre
          · have hn0 := mapS_next (frzA_next _) _ hpre
            exact fun q => ⟨calls_frz hpre (by omega) q.1, by omega⟩
          · cases hpre; exact id
        refine hback ?_
        clear hback hpre
        generalize args1 = args at *
        generalize S0 = S at *
        simp only at h
        split at h
        · cases h
        · rename_i fn hf
          split at h
          · cases h
          · rename_i c hb
            split at h
            · cases h
            · rename_i hname
              obtain ⟨⟨out, env', S1⟩, h1, h2⟩ := Option.bind_eq_some_iff.1 h
              have hnx := codeA_next hn k c h1
              simp only at hnx h2
              -- what the call owes at the body's end
              have finish : S'.next = S1.next → (∀ (w0 : World) (G0 G' : Gh) (F : Nat → Option Blk) (a' : Act) (w' : World), FO S F S1.next → (out.calm → ER G' env' a'.tmps) → GE G0 G' S.next S1.next → SR w0 G' (ov S1.mem F) w' → Grow S S1 → a'.defers = [] →
                  OutR (bodyPost P fn fun e w' => ∃ G', GE G0 G' S.next S'.next ∧ SR w0 G' (ov S'.mem F) w' ∧ Grow S S' ∧ ResR G' res e) G' a' w' out) → CallS P f args S res S' := by
                intro e hfin w0 G F w cargs hgl hv hs hwf hFO hFN
                rw [e] at hFO hFN
                refine .inl ⟨enter_run hf hb hname, calls_of_wp hf hb ?_⟩
                exact code_sim hcf hn (hreg _ f hcf hn) k c h1 (enter_env hv hgl fn.ntmps) hs hwf hFO hFN (fun a' w' G' k1 k2 k3 k4 k5 => hfin w0 G G' F a' w' hFO k1 k2 k3 k4 k5)
              cases out with
              | normal =>
                simp only at h2
                obtain ⟨v, hv, h2⟩ := Option.bind_eq_some_iff.1 h2
                obtain ⟨⟨u, S2⟩, hp, h2⟩ := Option.map_eq_some_iff.1 h2
                cases h2
                have hpn : S2.next = S1.next := post_next hp
                refine ⟨finish hpn (fun w0 G0 G' F a' w' hFO k1 k2 k3 k4 k5 => ?_), by show S.next ≤ S2.next; omega⟩
                obtain ⟨cv, e1, e2⟩ := results_run (P := P) k3 (k1 trivial) hv
                have hFD : FD S1 F := fun n blk hn => by
                  rcases (hFO n blk hn).2 with h | h
                  · exact k4.old n h (hFO n blk hn).1
                  · exact k4.free n (by omega)
                obtain ⟨G2, g2, s2, kk, e3⟩ := post_sound hp k3 hFD e2
                exact ⟨k5, cv, e1, G2, GE.post k2 g2 (by show S1.next ≤ S2.next; omega), s2, k4.trans (kk.grow (fun n hn => k4.free n hn)), cv, rfl, e3⟩
              | ret =>
                simp only at h2
                obtain ⟨v, hv, h2⟩ := Option.bind_eq_some_iff.1 h2
                obtain ⟨⟨u, S2⟩, hp, h2⟩ := Option.map_eq_some_iff.1 h2
                cases h2
                have hpn : S2.next = S1.next := post_next hp
                refine ⟨finish hpn (fun w0 G0 G' F a' w' hFO k1 k2 k3 k4 k5 => ?_), by show S.next ≤ S2.next; omega⟩
                obtain ⟨cv, e1, e2⟩ := results_run (P := P) k3 (k1 trivial) hv
                have hFD : FD S1 F := fun n blk hn => by
                  rcases (hFO n blk hn).2 with h | h
                  · exact k4.old n h (hFO n blk hn).1
                  · exact k4.free n (by omega)
                obtain ⟨G2, g2, s2, kk, e3⟩ := post_sound hp k3 hFD e2
                exact ⟨k5, cv, e1, G2, GE.post k2 g2 (by show S1.next ≤ S2.next; omega), s2, k4.trans (kk.grow (fun n hn => k4.free n hn)), cv, rfl, e3⟩
              | panic v =>
                cases h2
                refine ⟨finish rfl (fun w0 G0 G' F a' w' hFO k1 k2 k3 k4 k5 => ?_), hnx⟩
                exact fun cv hcv => ⟨k5, G', k2, k3, k4, cv, rfl, hcv⟩
              | exit id => cases h2
    exact ⟨fun f args S res S' h => (both f args S res S' h).1, fun f args S res S' h => (both f args S res S' h).2⟩
end
end Go.Proofs.Ytfphpjinimfhfaa.VM
