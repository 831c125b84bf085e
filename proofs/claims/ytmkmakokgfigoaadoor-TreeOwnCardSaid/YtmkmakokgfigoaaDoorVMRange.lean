import Derived.Test.YtmkmakokgfigoaaDoorVMIn
import Derived.RangeFuncIn
import Derived.RangeFuncRecord
import Derived.RangeFuncLeaves
import Derived.RangeFuncSeq
/-! A range over slices.Backward: last place first. -/
namespace Go.Proofs.YtmkmakokgfigoaaDoor.VM
set_option linter.unusedSimpArgs false
set_option linter.unusedVariables false
set_option linter.unusedSectionVars false
open Go.RowKit
/-- What the closure promises. -/
def BackC (P : Program) (gf : FuncId) : Prop :=
  (∀ args w, (callFunc gf args).run P w = .ok (.enter gf args) w) ∧
  ∀ (l Bs Bo len : Nat) (sv : Value) (J : Nat → World → Prop) (W : World), len * 8 ≤ 140737488355328 →
    ((∃ b off cap, sv = .slice (some ⟨b, off, none⟩) len cap) ∨ (len = 0 ∧ ∃ oa cap, sv = .slice oa 0 cap)) →
    (∀ k W, J k W → W.cell? ⟨Bs, Bo, none⟩ = some sv) →
    (∀ k W, k < len → J (k + 1) W → ∃ x, (∀ b off cap, sv = .slice (some ⟨b, off, none⟩) len cap → W.cell? ⟨b, off + k, none⟩ = some x) ∧
      YieldAt Fence.wide (0 - 1) P l #[.int .i64 k, x] W fun e W' => e = .returned (.bool true) ∧ J k W') →
    J len W → CallsIn Fence.wide 0 P gf #[.func (.yield l) #[] #[], .pointer (some ⟨Bs, Bo, none⟩)] W fun e W' => (∃ v, e = .returned v) ∧ J 0 W'
def elemB (S : St) (v : AV) (i : Nat) : Option AV := match v with
  | .hnd n off len s => if s = 1 ∧ i < len then (S.cells n).bind fun cs => cs[off + i]? else none
  | _ => none
def lenB : AV → Option Nat
  | .nils => some 0
  | .hnd _ _ len s => if s = 1 ∧ len * 8 ≤ 140737488355328 then some len else none
  | _ => none
variable [Glob]
section
variable {P : Program} {C : Cfg} {cf : CF} {f : FuncId}
/-- The rounds, from the last place on. -/
def roundsA (P : Program) (C : Cfg) (cf : CF) (f : FuncId) (k : Nat) (p0 p1 : Tmp) (as bd : Code) (env : List AV) (v : AV) : Nat → St → Option St
  | 0, S => some S
  | i + 1, S =>
    match elemB S v i with
    | none => none
    | some x =>
      match codeA P C cf f k as (putA (putA env (some p0) (.int .i64 i)) (some p1) x) S with
      | some (.normal, e2, S2) =>
        (match codeA P C cf f k bd e2 S2 with
         | some (.normal, _, S3) => roundsA P C cf f k p0 p1 as bd env v i S3
         | _ => none)
      | _ => none
theorem rounds_next (hn : CFN cf) {k : Nat} {p0 p1 : Tmp} {as bd : Code} {env : List AV} {v : AV} : ∀ (i : Nat) {S S' : St}, roundsA P C cf f k p0 p1 as bd env v i S = some S' → S.next ≤ S'.next
  | 0, S, S', h => by cases h; exact Nat.le_refl _
  | i + 1, S, S', h => by
    unfold roundsA at h
    split at h
    · cases h
    split at h
    · rename_i h1
      split at h
      · rename_i h2
        have a1 := codeA_next hn k as h1
        have a2 := codeA_next hn k bd h2
        have a3 := rounds_next hn i h
        simp only at a1 a2
        omega
      · cases h
    · cases h
theorem one_alloc (w : World) (o : Obj) : One w o (w.alloc o) := ⟨rfl, rfl, rfl, by simp, fun k hk => Below.heap_alloc w o k hk, World.alloc_heap_new w o⟩
theorem upd_ov {m F : Nat → Option Blk} {n : Nat} {b : Option Blk} (h : m n = none) : upd (ov m F) n b = ov m (upd F n b) := by
  funext j
  unfold upd ov
  by_cases e : j = n
  · subst e; simp [h]
  · simp [e]
theorem next_ov {S : St} {F : Nat → Option Blk} (k : Nat) : ov ({ S with next := k } : St).mem F = ov S.mem F := rfl
/-- What lies in a block of the frame, as it lies. -/
theorem SR.raw {w0 w : World} {G : Gh} {m F : Nat → Option Blk} (h : SR w0 G (ov m F) w) {n b : Nat} {ob : Obj} (hm : m n = none) (hF : F n = some (.raw ob)) (hio : G.io n = some (b, 0)) : w.heap[b]? = some ob := by
  obtain ⟨b', o', h1, _, h3⟩ := h.res n _ (show ov m F n = some (.raw ob) by unfold ov; rw [hm]; exact hF)
  rw [hio] at h1; cases h1
  exact h3
/-- It turns into another such. -/
theorem SR.putRaw {w0 w : World} {G : Gh} {m F : Nat → Option Blk} (h : SR w0 G (ov m F) w) {n b : Nat} {ob ob' : Obj} (hm : m n = none) (hF : F n = some (.raw ob)) (hio : G.io n = some (b, 0)) (hc : ∀ cs ty fr, ob ≠ .cells cs ty fr) :
    SR w0 G (ov m (upd F n (some (.raw ob')))) (w.putObj b ob') := by
  have hb := h.raw hm hF hio
  have hlt := (Array.getElem?_eq_some_iff.1 hb).1
  rw [← upd_ov hm]
  refine h.turn (show ov m F n = some (.raw ob) by unfold ov; rw [hm]; exact hF) hio rfl rfl rfl (by simp) (fun k hk => World.putObj_heap_other hk) ?_ ?_ (World.putObj_heap_same hlt)
  · intro off v hv
    have := h.imm _ _ _ hv
    unfold World.cell? at this
    rw [hb] at this
    cases ob <;> simp_all
  · intro k hk
    obtain ⟨ccs, ty, fr, h1, _⟩ := h.size _ _ hk
    rw [hb] at h1
    cases h1
    exact absurd rfl (hc _ _ _)
set_option maxHeartbeats 1000000 in
/-- THE STATEMENT. The names S.next and S.next + 1 are kept for the block of deferred calls and the loop's record. -/
theorem range_sim (hm : P.follows .mixedOrders = true) (hcf : CFS P cf) (hn : CFN cf) {gf : FuncId} (hback : BackC P gf) {w0 w : World} {G : Gh} {F : Nat → Option Blk} {S S' : St} {k len : Nat} {g : Operand} {p0 p1 : Tmp} {as bd : Code} {env : List AV} {v : AV} {a : Act} {Q : Exit → Act → World → Prop}
    (hg : evA env g = .func (.func gf) [] [.cptr [v] 0]) (hlen : lenB v = some len) (hr : roundsA P C cf f k p0 p1 as bd env v len { S with next := S.next + 2 } = some S')
    (he : ER G env a.tmps) (hs : SR w0 G (ov S.mem F) w) (hwf : Wf S) (hFO : FO S F S'.next) (hFN : FN G S.next S'.next)
    (hp : ∀ (D : Nat) (w' : World) (G' : Gh) (ob : Obj), GE G G' S.next S'.next → G'.io S.next = some (D, 0) → Grow S S' → Grow { S with next := S.next + 2 } S' →
      SR w0 G' (ov S'.mem (upd (upd F S.next (some (.raw (.deferred (some []))))) (S.next + 1) (some (.raw ob)))) w' → Q .normal { a with defers := { target := .collected D, args := #[] } :: a.defers } w') :
    (Code.rangeFunc g #[p0, p1] as bd).wpIn Fence.wide 0 P Q a w := by
  refine wpIn_rangeFunc ?_
  intro fn hfn
  have hv0 := he.ev g
  rw [hg] at hv0
  generalize hgv : a.eval g = gv at hv0
  cases hv0 with
  | func _ _ _ cs ds hx hy h1 h2 =>
  obtain rfl : cs = #[] := by simpa using hx.symm
  obtain ⟨pv, rfl⟩ : ∃ pv, ds = #[pv] := by
    have : ds.size = 1 := by simpa using hy.symm
    exact ⟨ds[0], by apply Array.ext <;> simp_all⟩
  have hpv := h2 0 (by simp)
  simp only [List.getElem_cons_zero] at hpv
  have hpv : VR G (.cptr [v] 0) pv := hpv
  cases hpv with
  | cptr _ _ Bs Bo val hM hV =>
  have hM0 := hM 0 (by simp)
  have hV0 := hV 0 (by simp)
  simp only [List.getElem_cons_zero, Nat.add_zero] at hM0 hV0 hgv
  generalize val 0 = sv at hM0 hV0
  clear hM hV h1 h2 hx hy
  have hle2 : S.next + 2 ≤ S'.next := rounds_next hn len hr
  -- the record and the block for deferred calls
  obtain ⟨rec, hrec⟩ : ∃ rec : LoopState → Loop, rec = fun st => { state := st, pending := none, fn, tmps := a.tmps, params := #[p0, p1], assign := as, body := bd, defers := w.heap.size } := ⟨_, rfl⟩
  have hpend : ∀ st, (rec st).pending = none := fun st => by rw [hrec]
  have hstate : ∀ st, (rec st).state = st := fun st => by rw [hrec]
  have hturn : ∀ st st', ({ rec st with state := st' } : Loop) = rec st' := fun st st' => by rw [hrec]
  have hent := run_enterLoop_outer (P := P) (w := w) fn a.tmps #[p0, p1] as bd
  rw [show ({ state := .ready, pending := none, fn, tmps := a.tmps, params := #[p0, p1], assign := as, body := bd, defers := w.heap.size } : Loop) = rec .ready by rw [hrec]] at hent
  have hmD : S.mem S.next = none := hwf _ (Nat.le_refl _)
  have hmL : S.mem (S.next + 1) = none := hwf _ (by omega)
  have hFD : F S.next = none := by
    cases q : F S.next with
    | none => rfl
    | some b => have := (hFO _ b q).2; omega
  have hFL : F (S.next + 1) = none := by
    cases q : F (S.next + 1) with
    | none => rfl
    | some b => have := (hFO _ b q).2; omega
  obtain ⟨ge1, sr1⟩ := hs.push (one_alloc w (.deferred (some []))) S.next (.raw (.deferred (some []))) 0 (hFN _ (Nat.le_refl _) (by omega)) (by unfold ov; rw [hmD]; exact hFD) none (fun m q => by cases q) (fun _ => none) (fun _ _ q => by cases q) (fun _ _ _ => World.alloc_heap_new _ _)
  rw [upd_ov hmD] at sr1
  generalize hG1 : (G.ext w.heap.size (fun _ => none) none).name S.next (w.heap.size, 0) = G1 at ge1 sr1
  have io1 : G1.io S.next = some (w.heap.size, 0) := by rw [← hG1]; simp [Gh.name, upd]
  have fn1 : G1.io (S.next + 1) = none := by rw [ge1.new (S.next + 1) (.inr (Nat.le_refl _))]; exact hFN _ (by omega) (by omega)
  obtain ⟨ge2, sr2⟩ := sr1.push (one_alloc _ (.loop (rec .ready))) (S.next + 1) (.raw (.loop (rec .ready))) 0 fn1 (by unfold ov; rw [hmL]; simp [upd, hFL]) none (fun m q => by cases q) (fun _ => none) (fun _ _ q => by cases q) (fun _ _ _ => World.alloc_heap_new _ _)
  rw [upd_ov hmL] at sr2
  simp only [World.size_alloc] at ge2 sr2
  generalize hG2 : (G1.ext (w.heap.size + 1) (fun _ => none) none).name (S.next + 1) (w.heap.size + 1, 0) = G2 at ge2 sr2
  have io2 : G2.io (S.next + 1) = some (w.heap.size + 1, 0) := by rw [← hG2]; simp [Gh.name, upd]
  have ge02 : GE G G2 S.next (S.next + 2) := ge1.trans ge2 (by omega) (by omega)
  generalize hF1 : upd (upd F S.next (some (.raw (.deferred (some []))))) (S.next + 1) (some (.raw (.loop (rec .ready)))) = F1 at sr2
  have fD : F1 S.next = some (.raw (.deferred (some []))) := by rw [← hF1]; simp [upd]
  have fL : F1 (S.next + 1) = some (.raw (.loop (rec .ready))) := by rw [← hF1]; simp [upd]
  have hFO1 : FO { S with next := S.next + 2 } F1 S'.next := by
    intro n b hb
    rw [← hF1] at hb
    unfold upd at hb
    by_cases e1 : n = S.next + 1
    · exact ⟨by rw [e1]; exact hmL, .inl (by show n < S.next + 2; omega)⟩
    · rw [if_neg e1] at hb
      by_cases e2 : n = S.next
      · exact ⟨by rw [e2]; exact hmD, .inl (by show n < S.next + 2; omega)⟩
      · rw [if_neg e2] at hb
        have := hFO n b hb
        exact ⟨this.1, this.2.imp (fun h => by show n < S.next + 2; omega) id⟩
  have hFN2 : FN G2 (S.next + 2) S'.next := fun n q1 q2 => by rw [ge02.new n (.inr q1)]; exact hFN n (by omega) q2
  have hwf1 : Wf { S with next := S.next + 2 } := fun n q => hwf n (by have : S.next + 2 ≤ n := q; omega)
  have hgr0 : Grow S { S with next := S.next + 2 } := ⟨by show S.next ≤ S.next + 2; omega, fun _ _ h => h, hwf1⟩
  -- what stands at a round's beginning
  let J : Nat → World → Prop := fun i W => ∃ G' Si, roundsA P C cf f k p0 p1 as bd env v i Si = some S' ∧ SR w0 G' (ov Si.mem F1) W ∧ GE G2 G' (S.next + 2) Si.next ∧ Grow { S with next := S.next + 2 } Si
  have hJ0 : J len ((w.alloc (.deferred (some []))).alloc (.loop (rec .ready))) := ⟨G2, _, hr, sr2, .refl _ _ _, .refl hwf1⟩
  have hsv : (∃ b off cap, sv = .slice (some ⟨b, off, none⟩) len cap) ∨ (len = 0 ∧ ∃ oa cap, sv = .slice oa 0 cap) := by
    unfold lenB at hlen
    split at hlen
    · cases hlen; cases hV0; exact .inr ⟨rfl, _, _, rfl⟩
    · split at hlen
      · cases hlen; cases hV0; exact .inl ⟨_, _, _, rfl⟩
      · cases hlen
    · cases hlen
  have hlen8 : len * 8 ≤ 140737488355328 := by
    unfold lenB at hlen
    split at hlen
    · cases hlen; decide
    · split at hlen
      · rename_i q; cases hlen; exact q.2
      · cases hlen
    · cases hlen
  have hcall := hback.2 (w.heap.size + 1) Bs Bo len sv J _ hlen8 hsv
    (fun i W hJ => by
      obtain ⟨G', Si, _, sr, ge, _⟩ := hJ
      exact sr.imm _ _ _ (ge.M _ _ _ (ge02.M _ _ _ hM0)))
    (fun i W hi hJ => by
      obtain ⟨G', Si, hri, sr, ge, gr⟩ := hJ
      unfold roundsA at hri
      split at hri
      · cases hri
      rename_i x hx
      split at hri
      rotate_left
      · cases hri
      rename_i e2 S2 has
      split at hri
      rotate_left
      · cases hri
      rename_i e3 S3 hbd
      have n1 : Si.next ≤ S2.next := codeA_next hn k as has
      have n2 : S2.next ≤ S3.next := codeA_next hn k bd hbd
      have n3 : S3.next ≤ S'.next := rounds_next hn i hri
      have ioL := ge.io _ _ io2
      have hmLi : Si.mem (S.next + 1) = none := gr.old _ (by show S.next + 1 < S.next + 2; omega) hmL
      have nSi : S.next + 2 ≤ Si.next := gr.next
      have geS : GE G G' S.next Si.next := ge02.trans ge (by omega) nSi
      have hVi := hV0.mono geS
      -- the element
      obtain ⟨cx, hcx, hvx⟩ : ∃ cx, (∀ b off cap, sv = .slice (some ⟨b, off, none⟩) len cap → W.cell? ⟨b, off + i, none⟩ = some cx) ∧ VR G' x cx := by
        unfold elemB at hx
        split at hx
        · rename_i n off ln s
          split at hx
          · obtain ⟨cs, hcs, hx⟩ := Option.bind_eq_some_iff.1 hx
            cases hVi with
            | hnd _ _ _ _ b o cap m h hc hz hmm =>
            obtain ⟨_, ccs, ty, hb, hle, hv, _⟩ := sr.cellsAt hcs h
            obtain ⟨hlt, hx⟩ := List.getElem?_eq_some_iff.1 hx
            refine ⟨ccs.getD (o + (off + i)) Go.undef, fun b' off' cap' e => ?_, by rw [← hx]; exact hv _ hlt⟩
            cases e
            rw [cell_of hb, Nat.add_assoc, getD_some (by omega)]
          · cases hx
        · cases hx
      refine ⟨cx, hcx, ?_⟩
      have hl := sr.raw hmLi fL ioL
      have hy := run_yield (P := P) (args := #[.int .i64 i, cx]) hl (by rw [hrec]; rfl)
      rw [show (rec .ready).fn = fn by rw [hrec], show (rec .ready).params = #[p0, p1] by rw [hrec], show (rec .ready).tmps = a.tmps by rw [hrec], show (rec .ready).assign = as by rw [hrec], show (rec .ready).body = bd by rw [hrec]] at hy
      have ez : (#[p0, p1].zip #[Value.int .i64 i, cx]).foldl (fun tmps (t, a) => tmps.setIfInBounds t a) a.tmps = (a.tmps.setIfInBounds p0 (.int .i64 i)).setIfInBounds p1 cx := by simp
      rw [ez] at hy
      refine ⟨_, _, _, _, hy, roundIn_of_wpIn (F := Fence.wide) trivial ?_⟩
      have hER : ER G' (putA (putA env (some p0) (.int .i64 i)) (some p1) x) ((({ tmps := a.tmps, defers := [] } : Act).put (some p0) (.int .i64 i)).put (some p1) cx).tmps :=
        ER.put (a := ({ tmps := a.tmps, defers := [] } : Act).put (some p0) (.int .i64 i)) (ER.put (a := { tmps := a.tmps, defers := [] }) (he.mono geS) (some p0) (.int _ _)) (some p1) hvx
      have hFOi : FO Si F1 S2.next := (hFO1.step gr (by omega)).less (by omega)
      have hFNi : FN G' Si.next S'.next := FN.step (G := G2) hFN2 ge nSi
      refine code_simIn (r := some (w.heap.size + 1)) hm hcf hn k as (a := { tmps := _, defers := [] }) has hER sr gr.wf hFOi (hFNi.less (by omega)) (fun q => by obtain ⟨_, _, q⟩ := q; exact q) ?_
      intro a1 w1 G1' k1 k2 k3 k4 k5
      have hER2 := k1 trivial
      have ioL1 := k2.io _ _ ioL
      have hmL1 : S2.mem (S.next + 1) = none := k4.old _ (by omega) hmLi
      have hl1 := k3.raw hmL1 fL ioL1
      refine ⟨_, run_beginRound hl1 (hstate _), ?_⟩
      rw [hturn]
      have sr3 := k3.putRaw (ob' := .loop (rec .busy)) hmL1 fL ioL1 (fun _ _ _ q => by cases q)
      generalize hF2 : upd F1 (S.next + 1) (some (.raw (.loop (rec .busy)))) = F2 at sr3
      have fL2 : F2 (S.next + 1) = some (.raw (.loop (rec .busy))) := by rw [← hF2]; simp [upd]
      have hFO2 : FO S2 F2 S'.next := by
        have h0 : FO S2 F1 S'.next := (hFO1.step gr (by omega)).step k4 (by omega)
        intro n b hb
        rw [← hF2] at hb
        unfold upd at hb
        by_cases e1 : n = S.next + 1
        · exact ⟨by rw [e1]; exact hmL1, .inl (by omega)⟩
        · rw [if_neg e1] at hb; exact h0 n b hb
      have hFN3 : FN G1' S2.next S'.next := FN.step (G := G') hFNi k2 n1
      refine code_simIn (r := some (w.heap.size + 1)) hm hcf hn k bd hbd hER2 sr3 k4.wf (hFO2.less n3) (hFN3.less n3) (fun q => by obtain ⟨_, _, q⟩ := q; exact q) ?_
      intro a2 w2 G2' j1 j2 j3 j4 j5
      have ioL2 := j2.io _ _ ioL1
      have hmL2 : S3.mem (S.next + 1) = none := j4.old _ (by omega) hmL1
      have hl2 := j3.raw hmL2 fL2 ioL2
      have hend := run_endRound (P := P) none hl2
      refine ⟨_, _, hend, rfl, ?_⟩
      have sr4 := j3.putRaw (ob' := .loop (rec .ready)) hmL2 fL2 ioL2 (fun _ _ _ q => by cases q)
      have eF : upd F2 (S.next + 1) (some (.raw (.loop (rec .ready)))) = F1 := by
        rw [← hF2]
        funext j
        unfold upd
        split
        · rename_i q; rw [q, fL]
        · rfl
      rw [eF] at sr4
      have er : ({ rec .busy with state := if (none : Option Code).isNone = true then .ready else .done, pending := none } : Loop) = rec .ready := by rw [hrec]; rfl
      rw [er]
      exact ⟨G2', S3, hri, sr4, (ge.trans k2 nSi n1).trans j2 (by omega) n2, (gr.trans k4).trans j4⟩) hJ0
  refine ⟨w.heap.size + 1, [{ target := .collected w.heap.size, args := #[] }], (w.alloc (.deferred (some []))).alloc (.loop (rec .ready)), { target := .fn (.func gf) #[.pointer (some ⟨Bs, Bo, none⟩)], args := #[.func (.yield (w.heap.size + 1)) #[] #[]] }, (w.alloc (.deferred (some []))).alloc (.loop (rec .ready)), gf,
    #[.func (.yield (w.heap.size + 1)) #[] #[], .pointer (some ⟨Bs, Bo, none⟩)], (w.alloc (.deferred (some []))).alloc (.loop (rec .ready)), ?_, ?_, fun _ _ => trivial, ?_, (fun q => by cases q), ?_⟩
  · exact hent
  · simp only [resolve, hgv]
    simp [go_sem]
  · simp [invoke, go_sem, hback.1]
  · refine CallsIn.mono hcall ?_
    rintro e W2 ⟨⟨rv, rfl⟩, G', Si, hfin, sr, ge, gr⟩
    cases hfin
    have ioL := ge.io _ _ io2
    have hmL' : S'.mem (S.next + 1) = none := gr.old _ (by show S.next + 1 < S.next + 2; omega) hmL
    have hl := sr.raw hmL' fL ioL
    have hend := run_endLoop (P := P) hl (by rw [hstate]; decide)
    rw [hturn, hpend] at hend
    refine ⟨none, _, hend, ?_⟩
    have sr' := sr.putRaw (ob' := .loop (rec .exhausted)) hmL' fL ioL (fun _ _ _ q => by cases q)
    refine hp w.heap.size _ G' (.loop (rec .exhausted)) (ge02.trans ge (by omega) hle2) (ge.io _ _ (ge2.io _ _ io1)) (hgr0.trans gr) gr ?_
    rw [← hF1, show ∀ x : Option Blk, upd (upd (upd F S.next (some (.raw (.deferred (some []))))) (S.next + 1) (some (.raw (.loop (rec .ready))))) (S.next + 1) x = upd (upd F S.next (some (.raw (.deferred (some []))))) (S.next + 1) x from fun x => by funext j; unfold upd; split <;> rfl] at sr'
    exact sr'
end
end Go.Proofs.YtmkmakokgfigoaaDoor.VM
