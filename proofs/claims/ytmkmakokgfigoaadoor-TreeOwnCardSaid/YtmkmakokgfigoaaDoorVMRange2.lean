import Derived.Test.YtmkmakokgfigoaaDoorVMRange
/-! A function that holds one range over slices.Backward. -/
namespace Go.Proofs.YtmkmakokgfigoaaDoor.VM
set_option linter.unusedSimpArgs false
set_option linter.unusedVariables false
set_option linter.unusedSectionVars false
open Go.RowKit
variable [Glob]
def hasR : Code → Bool
  | .seq x y => hasR x || hasR y
  | .block _ b => hasR b
  | .rangeFunc .. => true
  | _ => false
section
variable {P : Program} {C : Cfg} {cf : CF} {bk : FuncId → Bool} {f : FuncId}
def rangeA (P : Program) (C : Cfg) (cf : CF) (bk : FuncId → Bool) (f : FuncId) (k : Nat) (g : Operand) (p0 p1 : Tmp) (as bd : Code) (env : List AV) (S : St) : Option (Out × List AV × St × Nat) :=
  match evA env g with
  | .func (.func gf) [] [.cptr [v] 0] => if bk gf = true then (lenB v).bind fun len => (roundsA P C cf f k p0 p1 as bd env v len { S with next := S.next + 2 }).map fun S' => (.normal, env, S', S.next) else none
  | _ => none
def codeB (P : Program) (C : Cfg) (cf : CF) (bk : FuncId → Bool) (f : FuncId) (k : Nat) : Code → List AV → St → Option (Out × List AV × St × Nat)
  | .seq x y, env, S =>
    if hasR x = true then
      (match codeB P C cf bk f k x env S with
       | some (.normal, e1, S1, nD) => (codeA P C cf f k y e1 S1).map fun r => (r.1, r.2.1, r.2.2, nD)
       | _ => none)
    else
      (match codeA P C cf f k x env S with
       | some (.normal, e1, S1) => codeB P C cf bk f k y e1 S1
       | _ => none)
  | .block _ b, env, S =>
    (match codeB P C cf bk f k b env S with
     | some (.normal, e1, S1, nD) => some (.normal, e1, S1, nD)
     | _ => none)
  | .rangeFunc g ps as bd, env, S => (match ps with
     | ⟨[p0, p1]⟩ => rangeA P C cf bk f k g p0 p1 as bd env S
     | _ => none)
  | _, _, _ => none
def PostB (w0 : World) (F : Nat → Option Blk) (G : Gh) (S S' : St) (env' : List AV) (a : Act) (Q : Exit → Act → World → Prop) (out : Out) (nD : Nat) : Prop :=
  ∀ a' w' G' F' D, (out.calm → ER G' env' a'.tmps) → GE G G' S.next S'.next → SR w0 G' (ov S'.mem F') w' → Grow S S' → a'.defers = { target := .collected D, args := #[] } :: a.defers →
    F' nD = some (.raw (.deferred (some []))) → S'.mem nD = none → nD < S'.next → G'.io nD = some (D, 0) → (∀ hi, S'.next ≤ hi → FO S F hi → FO S' F' hi ∧ ∀ n b, F n = some b → F' n = some b ∧ n ≠ nD) → OutR Q G' a' w' out
theorem rangeA_next (hn : CFN cf) {k : Nat} {g : Operand} {p0 p1 : Tmp} {as bd : Code} {env : List AV} {S : St} {r : Out × List AV × St × Nat} (h : rangeA P C cf bk f k g p0 p1 as bd env S = some r) : S.next + 2 ≤ r.2.2.1.next := by
  unfold rangeA at h
  split at h
  · split at h
    · obtain ⟨len, _, h⟩ := Option.bind_eq_some_iff.1 h
      obtain ⟨S1, h1, rfl⟩ := Option.map_eq_some_iff.1 h
      exact rounds_next hn len h1
    · cases h
  · cases h
theorem codeB_next (hn : CFN cf) {k : Nat} : ∀ (c : Code) {env : List AV} {S : St} {r : Out × List AV × St × Nat}, codeB P C cf bk f k c env S = some r → S.next ≤ r.2.2.1.next
  | .seq x y, env, S, r, h => by
    unfold codeB at h
    split at h
    · split at h
      · rename_i h1
        obtain ⟨r1, h2, rfl⟩ := Option.map_eq_some_iff.1 h
        have a1 := codeB_next hn x h1
        have a2 := codeA_next hn k y h2
        simp only at a1 a2 ⊢
        omega
      · cases h
    · split at h
      · rename_i h1
        have a1 := codeA_next hn k x h1
        have a2 := codeB_next hn y h
        simp only at a1
        omega
      · cases h
  | .block _ b, env, S, r, h => by
    unfold codeB at h
    split at h
    · rename_i h1
      cases h
      exact codeB_next hn b h1
    · cases h
  | .rangeFunc g ps as bd, env, S, r, h => by
    unfold codeB at h
    split at h
    · have := rangeA_next hn h; omega
    · cases h
  | .skip, _, _, _, h => by cases h
  | .label _, _, _, _, h => by cases h
  | .region .., _, _, _, h => by cases h
  | .cond .., _, _, _, h => by cases h
  | .loop _, _, _, _, h => by cases h
  | .exit _, _, _, _, h => by cases h
  | .ret, _, _, _, h => by cases h
  | .scope _, _, _, _, h => by cases h
  | .goto _, _, _, _, h => by cases h
  | .refuse _, _, _, _, h => by cases h
theorem codeB_sim (hm : P.follows .mixedOrders = true) (hcf : CFS P cf) (hn : CFN cf) (hback : ∀ gf, bk gf = true → BackC P gf) (k : Nat) {w0 : World} : ∀ (c : Code) {F : Nat → Option Blk} {env : List AV} {S : St} {a : Act} {w : World} {G : Gh} {out : Out} {env' : List AV} {S' : St} {nD : Nat} {Q : Exit → Act → World → Prop},
    codeB P C cf bk f k c env S = some (out, env', S', nD) → ER G env a.tmps → SR w0 G (ov S.mem F) w → Wf S → FO S F S'.next → FN G S.next S'.next → PostB w0 F G S S' env' a Q out nD → c.wpIn Fence.wide 0 P Q a w
  | .seq x y, F, env, S, a, w, G, out, env', S', nD, Q, h, he, hs, hwf, hFO, hFN, hp => by
    unfold codeB at h
    refine wpIn_seq ?_
    split at h
    · split at h
      · rename_i e1 S1 nD1 h1
        obtain ⟨⟨o2, e2, S2⟩, h2, hr⟩ := Option.map_eq_some_iff.1 h
        cases hr
        have n1 := codeB_next hn x h1
        have n2 := codeA_next hn k y h2
        simp only at n1 n2
        refine codeB_sim hm hcf hn hback k x h1 he hs hwf (hFO.less n2) (hFN.less n2) ?_
        intro a1 w1 G1 F1 D k1 k2 k3 k4 k5 k6 k7 k8 k9 k10
        obtain ⟨hFO1, hF1⟩ := k10 _ n2 hFO
        refine wpIn_wide.2 (code_sim hcf hn (reg_sim hm hcf hn) k y h2 (k1 trivial) k3 k4.wf hFO1 (hFN.step k2 n1) ?_)
        intro a2 w2 G2 j1 j2 j3 j4 j5
        have m7 := j4.old nD k8 k7
        refine hp a2 w2 G2 F1 D j1 (k2.trans j2 n1 n2) j3 (k4.trans j4) (j5.trans k5) k6 m7 (show nD < S2.next by omega) (j2.io _ _ k9) (fun hi hle hFOh => ?_)
        have hle : S2.next ≤ hi := hle
        obtain ⟨q1, q2⟩ := k10 hi (by omega) hFOh
        exact ⟨q1.step j4 hle, q2⟩
      · cases h
    · split at h
      · rename_i e1 S1 h1
        have n1 := codeA_next hn k x h1
        have n2 := codeB_next hn y h
        simp only at n1 n2
        refine wpIn_wide.2 (code_sim hcf hn (reg_sim hm hcf hn) k x h1 he hs hwf (hFO.less n2) (hFN.less n2) ?_)
        intro a1 w1 G1 k1 k2 k3 k4 k5
        refine codeB_sim hm hcf hn hback k y h (k1 trivial) k3 k4.wf (hFO.step k4 n2) (hFN.step k2 n1) ?_
        intro a2 w2 G2 F2 D j1 j2 j3 j4 j5 j6 j7 j8 j9 j10
        refine hp a2 w2 G2 F2 D j1 (k2.trans j2 n1 n2) j3 (k4.trans j4) (by rw [j5, k5]) j6 j7 j8 j9 (fun hi hle hFOh => j10 hi hle (hFOh.step k4 (by omega)))
      · cases h
  | .block id b, F, env, S, a, w, G, out, env', S', nD, Q, h, he, hs, hwf, hFO, hFN, hp => by
    unfold codeB at h
    refine wpIn_block ?_
    split at h
    · rename_i h1
      cases h
      exact codeB_sim hm hcf hn hback k b h1 he hs hwf hFO hFN (fun a' w' G' F' D k1 k2 k3 k4 k5 k6 k7 k8 k9 k10 => hp a' w' G' F' D k1 k2 k3 k4 k5 k6 k7 k8 k9 k10)
    · cases h
  | .rangeFunc g ps as bd, F, env, S, a, w, G, out, env', S', nD, Q, h, he, hs, hwf, hFO, hFN, hp => by
    unfold codeB at h
    split at h
    · rename_i p0 p1
      unfold rangeA at h
      split at h
      · rename_i gf v hg
        split at h
        · rename_i hbk
          obtain ⟨len, hlen, h⟩ := Option.bind_eq_some_iff.1 h
          obtain ⟨S1, hr, he1⟩ := Option.map_eq_some_iff.1 h
          cases he1
          have n2 : S.next + 2 ≤ S'.next := rounds_next hn len hr
          refine range_sim hm hcf hn (hback gf hbk) hg hlen hr he hs hwf hFO hFN ?_
          intro D w' G' ob k1 k2 k3 k4 k5
          have mD : S'.mem S.next = none := k4.old _ (by show S.next < S.next + 2; omega) (hwf _ (Nat.le_refl _))
          have mL : S'.mem (S.next + 1) = none := k4.old _ (by show S.next + 1 < S.next + 2; omega) (hwf _ (by omega))
          refine hp _ w' G' _ D (fun _ => he.mono k1) k1 k5 k3 rfl (by unfold upd; rw [if_neg (by omega), if_pos rfl]) mD (by omega) k2 (fun hi hle hFOh => ⟨fun n b hb => ?_, fun n b hb => ?_⟩)
          · unfold upd at hb
            by_cases e1 : n = S.next + 1
            · exact ⟨by rw [e1]; exact mL, .inl (by omega)⟩
            · rw [if_neg e1] at hb
              by_cases e2 : n = S.next
              · exact ⟨by rw [e2]; exact mD, .inl (by omega)⟩
              · rw [if_neg e2] at hb
                exact hFOh.step k3 hle n b hb
          · have := (hFOh n b hb).2
            refine ⟨?_, by omega⟩
            unfold upd
            rw [if_neg (by omega), if_neg (by omega)]
            exact hb
        · cases h
      · cases h
    · cases h
  | .skip, _, _, _, _, _, _, _, _, _, _, _, h, _, _, _, _, _, _ => by cases h
  | .label _, _, _, _, _, _, _, _, _, _, _, _, h, _, _, _, _, _, _ => by cases h
  | .region .., _, _, _, _, _, _, _, _, _, _, _, h, _, _, _, _, _, _ => by cases h
  | .cond .., _, _, _, _, _, _, _, _, _, _, _, h, _, _, _, _, _, _ => by cases h
  | .loop _, _, _, _, _, _, _, _, _, _, _, _, h, _, _, _, _, _, _ => by cases h
  | .exit _, _, _, _, _, _, _, _, _, _, _, _, h, _, _, _, _, _, _ => by cases h
  | .ret, _, _, _, _, _, _, _, _, _, _, _, h, _, _, _, _, _, _ => by cases h
  | .scope _, _, _, _, _, _, _, _, _, _, _, _, h, _, _, _, _, _, _ => by cases h
  | .goto _, _, _, _, _, _, _, _, _, _, _, _, h, _, _, _, _, _, _ => by cases h
  | .refuse _, _, _, _, _, _, _, _, _, _, _, _, h, _, _, _, _, _, _ => by cases h
/-- The call. -/
def callB (P : Program) (C : Cfg) (cf : CF) (bk : FuncId → Bool) (k : Nat) (f : FuncId) (args : List AV) (S : St) : Option (AV × St) :=
  match P.funcs[f]? with
  | none => none
  | some fn =>
    match fn.body with
    | none => none
    | some c =>
      if fn.name = "runtime.NumGoroutine" then none else
      match codeB P C cf bk f k c (args ++ List.replicate (fn.ntmps - args.length) (.tuple [])) S with
      | some (.ret, env', S1, _) => (resultsA P fn env' S1).bind fun v => postA C f v S1
      | _ => none
theorem callB_sound (hm : P.follows .mixedOrders = true) (hcf : CFS P cf) (hn : CFN cf) (hback : ∀ gf, bk gf = true → BackC P gf) {k : Nat} {args : List AV} {S S' : St} {u : AV} (h : callB P C cf bk k f args S = some (u, S')) : CallS P f args S (.ret u) S' ∧ S.next ≤ S'.next := by
  unfold callB at h
  split at h
  · cases h
  rename_i fn hf
  split at h
  · cases h
  rename_i c hb
  split at h
  · cases h
  rename_i hname
  split at h
  rotate_left
  · cases h
  rename_i env' S1 nD h1
  obtain ⟨v, hv, hpo⟩ := Option.bind_eq_some_iff.1 h
  have hpn : S'.next = S1.next := post_next hpo
  have n1 := codeB_next hn c h1
  simp only at n1
  refine ⟨?_, by omega⟩
  intro w0 G F w cargs hgl hvs hs hwf hFO hFN
  rw [hpn] at hFO hFN
  refine .inl ⟨enter_run hf hb hname, ?_⟩
  refine (callsIn_wide (n := 0)).1 (callsIn_of_wp_marks hf hb trivial ?_)
  refine codeB_sim hm hcf hn hback k c h1 (enter_env hvs hgl fn.ntmps) hs hwf hFO hFN ?_
  intro a' w' G' F' D k1 k2 k3 k4 k5 k6 k7 k8 k9 k10
  obtain ⟨hFO', hF'⟩ := k10 _ (Nat.le_refl _) hFO
  have hD := k3.raw k7 k6 k9
  show LeavesInM Fence.wide 0 P fn a'.tmps _ a'.defers .returning w'
  rw [k5]
  refine ⟨by simp, .inl ⟨D, _, rfl, run_takeDeferred hD, ?_⟩⟩
  have sr2 := (k3.putRaw (ob' := .deferred none) k7 k6 k9 (fun _ _ _ q => by cases q)).less (R' := ov S1.mem F) (fun n b hb => by
    unfold ov at hb ⊢
    cases hm2 : S1.mem n with
    | some x => rw [hm2] at hb; exact hb
    | none =>
      rw [hm2] at hb
      obtain ⟨q1, q2⟩ := hF' n b hb
      unfold upd
      rw [if_neg q2]
      exact q1)
  obtain ⟨cv, e1, e2⟩ := results_run (P := P) sr2 (k1 trivial) hv
  have hFD : FD S1 F := fun n blk hn => by
    rcases (hFO n blk hn).2 with h | h
    · exact k4.old n h (hFO n blk hn).1
    · exact k4.free n (by omega)
  obtain ⟨G2, g2, s2, kk, e3⟩ := post_sound hpo sr2 hFD e2
  exact ⟨cv, e1, G2, GE.post k2 g2 (by omega), s2, k4.trans (kk.grow (fun n hn => k4.free n hn)), cv, rfl, e3⟩
end
end Go.Proofs.YtmkmakokgfigoaaDoor.VM
