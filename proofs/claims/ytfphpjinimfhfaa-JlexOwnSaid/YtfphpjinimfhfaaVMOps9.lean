import Derived.Test.YtfphpjinimfhfaaVMOps8
/-! Every operation. -/
namespace Go.Proofs.Ytfphpjinimfhfaa.VM
set_option linter.unusedSimpArgs false
set_option linter.unusedVariables false
set_option linter.unusedSectionVars false
open Go.RowKit
variable [Glob]
section
variable {P : Program} {C : Cfg} {cf : CF} {f : FuncId} {w0 w : World} {G : Gh} {F : Nat → Option Blk} {S S' : St}

set_option maxHeartbeats 4000000 in
theorem op_sim {o : Oper} {a : Act} {env : List AV} {K : Act → World → Prop} {Q : Exit → Act → World → Prop} {res : Res} (hcf : CFS P cf) (he : ER G env a.tmps) (h : SR w0 G (ov S.mem F) w) (hwf : Wf S)
    (hop : opA P C cf f env S o = some (res, S')) (hFO : FO S F S'.next) (hFN : FN G S.next S'.next) (hp : OpPost w0 F G S S' o a K Q res) : o.wp P a w K Q := by
  unfold opA at hop
  split at hop
  · rename_i x ho
    obtain ⟨rfl, rfl⟩ := retA_some hop
    exact op_pure (by simp only [execOp, ho, Sem.run_pure]) (he.ev x) h hwf hp
  · rename_i x ho
    obtain ⟨rfl, rfl⟩ := retA_some hop
    exact op_pure (by simp only [execOp, ho, Sem.run_pure]) (he.ev x) h hwf hp
  · rename_i c x y ho
    split at hop
    · rename_i b' hb
      obtain ⟨rfl, rfl⟩ := retA_some hop
      have hc := he.ev c
      rw [hb] at hc
      generalize hcv : a.eval c = cv at hc
      cases hc
      refine op_pure (c := if b' then a.eval x else a.eval y) (by simp [execOp, ho, hcv, asBool]) ?_ h hwf hp
      cases b'
      · exact he.ev y
      · exact he.ev x
    · cases hop
  · rename_i t ho
    obtain ⟨z, hz, hop⟩ := Option.bind_eq_some_iff.1 hop
    obtain ⟨rfl, rfl⟩ := retA_some hop
    exact op_value (s := Instr.alloc t true (.tuple #[])) (by simp only [execOp, ho]) (sim_alloc h hwf hz hFO hFN (C.own t)) hp
  · rename_i t x ho
    have hv := he.ev x
    split at hop
    · cases hop
    · cases hop
    · rename_i h1 h2
      split at hop
      · obtain ⟨rfl, rfl⟩ := retA_some hop
        exact op_value (s := Instr.box t (a.eval x)) (by simp only [execOp, ho]) (sim_box_ro h hwf hv (by cases hk : evA env x <;> first | rfl | exact absurd hk h1)) hp
      · obtain ⟨rfl, rfl⟩ := retA_some hop
        exact op_value (s := Instr.box t (a.eval x)) (by simp only [execOp, ho]) (sim_box h hwf hv (by cases hk : evA env x <;> first | rfl | exact absurd hk h1) hFO hFN) hp
  · rename_i t ps ho
    obtain ⟨v, hv, hop⟩ := Option.bind_eq_some_iff.1 hop
    obtain ⟨rfl, rfl⟩ := retA_some hop
    obtain ⟨p1, p2⟩ := he.parts ps
    obtain ⟨c, h1, h2⟩ := sim_build (P := P) (w := w) p1 p2 hv
    exact op_value (s := Instr.build t (ps.map fun p => (p.1, a.eval p.2))) (by simp only [execOp, ho]) (.quiet h hwf h1 h2) hp
  · rename_i t len ps ho
    obtain ⟨r, hv, hop⟩ := Option.bind_eq_some_iff.1 hop
    obtain ⟨rfl, rfl⟩ := retA_some hop
    obtain ⟨p1, p2⟩ := he.parts ps
    exact op_value (s := Instr.buildSlice t len (ps.map fun p => (p.1, a.eval p.2))) (by simp only [execOp, ho]) (sim_buildSlice C f h hwf p1 p2 hv hFO hFN) hp
  · rename_i t x ho
    obtain ⟨v, hv, hop⟩ := Option.bind_eq_some_iff.1 hop
    obtain ⟨rfl, rfl⟩ := retA_some hop
    obtain ⟨c, h1, h2⟩ := sim_load (P := P) h (he.ev x) hv
    exact op_value (s := Instr.loadAt t (a.eval x)) (by simp only [execOp, ho]) (.quiet h hwf h1 h2) hp
  · rename_i t x y ho
    obtain ⟨S1, hv, hop⟩ := Option.bind_eq_some_iff.1 hop
    obtain ⟨rfl, rfl⟩ := retA_some hop
    obtain ⟨w', h1, h2, h3, h4⟩ := sim_store (P := P) h (he.ev x) (he.ev y) hv
    unfold Oper.wp
    have : (execOp a.eval o).run P w = .ok .skip w' := by simp [execOp, ho, h1]
    rw [this]
    refine hp Go.undef w' G (.tuple [] _ rfl (fun i hi => by simp at hi)) (by rw [h3]; exact GE.refl _ _ _) h2 ⟨by rw [h3]; exact Nat.le_refl _, fun n hn hm => h4 n hm, fun n hn => h4 n (hwf n (by rw [h3] at hn; exact hn))⟩
  · rename_i x ho
    have hx := he.ev x
    split at hop
    · rename_i n off hxe
      obtain ⟨rfl, rfl⟩ := retA_some hop
      rw [hxe] at hx
      generalize hcv : a.eval x = cv at hx
      cases hx with
      | ptr _ _ b o' hio => exact op_pure (by simp only [execOp, ho, hcv, Sem.run_pure]) (.ptr n off b o' hio) h hwf hp
    · rename_i cs off hxe
      obtain ⟨rfl, rfl⟩ := retA_some hop
      rw [hxe] at hx
      generalize hcv : a.eval x = cv at hx
      cases hx with
      | cptr _ _ b o' val hm hv => exact op_pure (by simp only [execOp, ho, hcv, Sem.run_pure]) (.cptr cs off b o' val hm hv) h hwf hp
    · rename_i g fa fb hxe
      obtain ⟨rfl, rfl⟩ := retA_some hop
      rw [hxe] at hx
      generalize hcv : a.eval x = cv at hx
      cases hx with
      | func _ _ _ cs ds hx hy h1 h2 => exact op_pure (by simp only [execOp, ho, hcv, Sem.run_pure]) (.func _ _ _ cs ds hx hy h1 h2) h hwf hp
    · cases hop
  · rename_i op t x y yt ho
    obtain ⟨v, hv, hop⟩ := Option.bind_eq_some_iff.1 hop
    obtain ⟨rfl, rfl⟩ := retA_some hop
    obtain ⟨c, h1, h2⟩ := sim_bin (P := P) (w := w) (he.ev x) (he.ev y) x y hv
    exact op_value (s := do eqGuard op t x y (a.eval x) (a.eval y); Go.binOp op t (a.eval x) (a.eval y)) (by simp only [execOp, ho]) (.quiet h hwf h1 h2) hp
  · rename_i op t x ho
    obtain ⟨v, hv, hop⟩ := Option.bind_eq_some_iff.1 hop
    obtain ⟨rfl, rfl⟩ := retA_some hop
    obtain ⟨c, h1, h2⟩ := sim_un (P := P) (w := w) (he.ev x) hv
    exact op_value (s := Op.unary op (a.eval x)) (by simp only [execOp, ho]) (.quiet h hwf h1 h2) hp
  · rename_i s d x ho
    split at hop
    · rename_i r hr
      split at hr
      case isFalse => cases hr
      rename_i hsd
      subst hsd
      obtain ⟨v, S1⟩ := r
      obtain ⟨rfl, rfl⟩ := retA_some hop
      exact op_value (s := convert s s (a.eval x)) (by simp only [execOp, ho]) (sim_cnv h hwf hFO (he.ev x) hr) hp
    · obtain ⟨v, hv, hop⟩ := Option.bind_eq_some_iff.1 hop
      obtain ⟨rfl, rfl⟩ := retA_some hop
      exact op_value (s := convert s d (a.eval x)) (by simp only [execOp, ho]) (sim_convert h hwf (he.ev x) hv) hp
  · rename_i t x ho
    split at hop
    · cases hop
    · rename_i d hd hu
      obtain ⟨rfl, rfl⟩ := retA_some hop
      refine op_pure (c := .iface t (a.eval x)) ?_ (.iface _ _ _ (he.ev x)) h hwf hp
      simp only [execOp, ho, Sem.run_bind, Instr.makeInterface, und_run hu, Result.andThen_ok]
      cases d <;> first | rfl | exact absurd rfl (hd _)
    · cases hop
  · rename_i fn xs ys ho
    obtain ⟨rfl, rfl⟩ := retA_some hop
    refine op_pure (c := .func fn (xs.map a.eval) (ys.map a.eval)) (by simp only [execOp, ho, Sem.run_bind, Instr.makeFunc, Sem.run_pure, Result.andThen_ok]) ?_ h hwf hp
    have v1 := he.evs xs.toList
    have v2 := he.evs ys.toList
    refine .func _ _ _ _ _ (by simp) (by simp) (fun i hi => ?_) (fun i hi => ?_)
    · have := v1.at_ i hi
      rw [arr_getD]; simpa [List.getD] using this
    · have := v2.at_ i hi
      rw [arr_getD]; simpa [List.getD] using this
  · rename_i t l c ho
    obtain ⟨r, hv, hop⟩ := Option.bind_eq_some_iff.1 hop
    obtain ⟨rfl, rfl⟩ := retA_some hop
    exact op_value (s := Instr.makeSlice t (a.eval l) (a.eval c)) (by simp only [execOp, ho]) (sim_makeSlice h hwf (he.ev l) (he.ev c) hv hFO hFN) hp
  · rename_i t x lo hi mx ho
    obtain ⟨v, hv, hop⟩ := Option.bind_eq_some_iff.1 hop
    obtain ⟨rfl, rfl⟩ := retA_some hop
    obtain ⟨c, h1, h2⟩ := sim_slice (P := P) (w := w) (he.ev x) (he.or lo) (he.or hi) (he.or mx) hv
    exact op_value (s := Instr.sliceAt t (a.eval x) (lo.map a.eval) (hi.map a.eval) (mx.map a.eval)) (by simp only [execOp, ho]) (.quiet h hwf h1 h2) hp
  · rename_i t x i ho
    obtain ⟨v, hv, hop⟩ := Option.bind_eq_some_iff.1 hop
    obtain ⟨rfl, rfl⟩ := retA_some hop
    obtain ⟨c, h1, h2⟩ := sim_fieldAddr (P := P) (w := w) (he.ev x) hv
    exact op_value (s := Instr.fieldAt t (a.eval x) i) (by simp only [execOp, ho]) (.quiet h hwf h1 h2) hp
  · rename_i t x i ho
    obtain ⟨v, hv, hop⟩ := Option.bind_eq_some_iff.1 hop
    obtain ⟨rfl, rfl⟩ := retA_some hop
    obtain ⟨c, h1, h2⟩ := sim_field (P := P) (w := w) (he.ev x) hv
    exact op_value (s := Instr.field t (a.eval x) i) (by simp only [execOp, ho]) (.quiet h hwf h1 h2) hp
  · rename_i t x i ho
    obtain ⟨v, hv, hop⟩ := Option.bind_eq_some_iff.1 hop
    obtain ⟨rfl, rfl⟩ := retA_some hop
    obtain ⟨c, h1, h2⟩ := sim_indexAddr (P := P) (w := w) (he.ev x) (he.ev i) hv
    exact op_value (s := Instr.indexAt t (a.eval x) (a.eval i)) (by simp only [execOp, ho]) (.quiet h hwf h1 h2) hp
  · rename_i t x i ho
    obtain ⟨v, hv, hop⟩ := Option.bind_eq_some_iff.1 hop
    obtain ⟨rfl, rfl⟩ := retA_some hop
    obtain ⟨c, h1, h2⟩ := sim_index (P := P) (w := w) (he.ev x) (he.ev i) hv
    exact op_value (s := Instr.index t (a.eval x) (a.eval i)) (by simp only [execOp, ho]) (.quiet h hwf h1 h2) hp
  · rename_i t x ho
    have hx := he.ev x
    split at hop
    · rename_i s hu hs
      obtain ⟨rfl, rfl⟩ := retA_some hop
      rw [hs] at hx
      generalize hcv : a.eval x = cv at hx
      cases hx
      exact op_value (s := Instr.range t (.string ⟨s.toArray⟩)) (by simp only [execOp, ho, hcv]) (sim_range h hwf hu s hFO hFN) hp
    · cases hop
  · rename_i it ho
    obtain ⟨r, hv, hop⟩ := Option.bind_eq_some_iff.1 hop
    obtain ⟨rfl, rfl⟩ := retA_some hop
    exact op_value (s := Instr.next (a.eval it) true o.type) (by simp only [execOp, ho]) (sim_next h hwf (he.ev it) hv o.type) hp
  · rename_i t i ho
    have hx := he.ev t
    split at hop
    · rename_i vs hvs
      obtain ⟨v, hv, hop⟩ := Option.bind_eq_some_iff.1 hop
      obtain ⟨rfl, rfl⟩ := retA_some hop
      obtain ⟨c, h1, h2⟩ := sim_extract (P := P) (w := w) hx hvs hv
      exact op_value (s := Instr.extract (a.eval t) i) (by simp only [execOp, ho]) (.quiet h hwf h1 h2) hp
    · cases hop
  · rename_i c ho
    exact call_sim hcf he h hwf ho hop hFO hFN hp
  · rename_i x ho
    have hx := he.ev x
    split at hop
    · rename_i t v hv
      cases hop
      rw [hv] at hx
      generalize hcv : a.eval x = cv at hx
      cases hx with
      | iface _ _ c hc =>
        unfold Oper.wp
        have : (execOp a.eval o).run P w = .halt (.panic (.iface t c)) w := by simp only [execOp, ho, hcv]; rfl
        rw [this]
        exact hp _ w G (.iface t v c hc) (GE.refl _ _ _) h (Grow.refl hwf)
    · cases hop
  · cases hop
end
end Go.Proofs.Ytfphpjinimfhfaa.VM
