-- printed by fprint.py, a program of this session, out of the translation. Not trusted: Lean checks it.
import Derived.Test.YtkbfappjlolmaaaPx0
import Derived.Test.YtkbfappjlolmaaaPx2
import Derived.Test.YtkbfappjlolmaaaPx4
import Derived.Test.YtkbfappjlolmaaaPx5
import Derived.Test.YtkbfappjlolmaaaPx7
namespace Go.Proofs.Ytkbfappjlolmaaa.P
open Go.RowKit Go.Proofs.YtkbfappjlolmaaaW.PrintWords Go.Proofs.YtkbfappjlolmaaaW.PrintLast Go.Proofs.YtkbfappjlolmaaaW.PrintMore
attribute [local go_sem] max2_int min2_int max_two min_two max_three min_three max_four min_four   -- for this text's walks alone
set_option linter.unusedVariables false
set_option linter.unusedSimpArgs false

/-! ### gantlinelaw02_CurGrows: function 4 -/
def gantlinelaw02_CurGrows.f (k : Nat) (a0 : Int) (a1 : Int) : Option (Bool) := (cur_PutShort.f k ([] : List Int) (mn a0 a1)).bind fun t209 => ((cur_PutShort.f k ([] : List Int) (mx a0 a1)).bind fun t212 => (if (t209.length : Int) ≤ (t212.length : Int) then ((gantlinelaw02_alive.f k).bind fun t215 => (some t215)) else (some false)))
theorem gantlinelaw02_CurGrows.mono : ∀ a0 a1 k, LeO (gantlinelaw02_CurGrows.f k a0 a1) (gantlinelaw02_CurGrows.f (k + 1) a0 a1) := by
  intro a0 a1 k
  unfold gantlinelaw02_CurGrows.f
  repeat' first
      | (with_reducible exact cur_PutShort.mono _ _ _)
      | (with_reducible exact gantlinelaw02_alive.mono _)
      | (with_reducible exact LeO.refl _)
      | (with_reducible exact LeO.none _)
      | (with_reducible refine LeO.ite ?_ ?_)
      | (with_reducible refine LeO.bind ?_ (fun _ => ?_))
      | exact cur_PutShort.mono _ _ _
      | exact gantlinelaw02_alive.mono _
      | exact LeO.none _
      | refine LeO.ite ?_ ?_
      | refine LeO.bind ?_ (fun _ => ?_)
set_option maxHeartbeats 8000000 in
set_option maxRecDepth 100000 in
theorem gantlinelaw02_CurGrows.calls (k : Nat) (a0 : Int) (a1 : Int) (r : Bool) (w : World) (h : gantlinelaw02_CurGrows.f k a0 a1 = some r) :
    Calls Try.prog 4 #[.int .u64 a0, .int .u64 a1] w fun e w' => e = .returned (.bool r) ∧ Below w.heap.size w w' := by
  have HB := Aside0.mk (Below.refl w.heap.size w)
  have H : ((cur_PutShort.f k ([] : List Int) (mn a0 a1)).bind fun t209 => ((cur_PutShort.f k ([] : List Int) (mx a0 a1)).bind fun t212 => (if (t209.length : Int) ≤ (t212.length : Int) then ((gantlinelaw02_alive.f k).bind fun t215 => (some t215)) else (some false)))) = some r := h
  clear h
  obtain ⟨ji3, hji3⟩ : ∃ j_ : Int, (mn a0 a1) = j_ := ⟨_, rfl⟩
  replace H : ((cur_PutShort.f k ([] : List Int) (ji3)).bind fun t209 => ((cur_PutShort.f k ([] : List Int) (mx a0 a1)).bind fun t212 => (if (t209.length : Int) ≤ (t212.length : Int) then ((gantlinelaw02_alive.f k).bind fun t215 => (some t215)) else (some false)))) = some r := by first | (rw [hji3] at H; exact H) | (simp only [hji3] at H ⊢; exact H)
  have hji3_ : (if a1 < a0 then a1 else a0) = ji3 := hji3
  replace H := Option.bind_eq_some_iff.mp H
  obtain ⟨t209, A40, H⟩ := H
  replace H : ((cur_PutShort.f k ([] : List Int) (mx a0 a1)).bind fun t212 => (if (t209.length : Int) ≤ (t212.length : Int) then ((gantlinelaw02_alive.f k).bind fun t215 => (some t215)) else (some false))) = some r := H
  have A4 := Aside0.mk A40
  clear A40
  obtain ⟨ji5, hji5⟩ : ∃ j_ : Int, (mx a0 a1) = j_ := ⟨_, rfl⟩
  replace H : ((cur_PutShort.f k ([] : List Int) (ji5)).bind fun t212 => (if (t209.length : Int) ≤ (t212.length : Int) then ((gantlinelaw02_alive.f k).bind fun t215 => (some t215)) else (some false))) = some r := by first | (rw [hji5] at H; exact H) | (simp only [hji5] at H ⊢; exact H)
  (try rw [hji5] at A4)
  have hji5_ : (if a0 < a1 then a1 else a0) = ji5 := hji5
  replace H := Option.bind_eq_some_iff.mp H
  obtain ⟨t212, A60, H⟩ := H
  replace H : (if (t209.length : Int) ≤ (t212.length : Int) then ((gantlinelaw02_alive.f k).bind fun t215 => (some t215)) else (some false)) = some r := H
  have A6 := Aside0.mk A60
  clear A60
  by_cases c7 : (t209.length : Int) ≤ (t212.length : Int)
  · rw [if_pos c7] at H
    have c7b0 : decide ((t209.length : Int) ≤ (t212.length : Int)) = true := decide_eq_true c7
    have c7b1 : decide (t209.length ≤ t212.length) = true := decide_eq_true (Int.ofNat_le.mp c7)
    clear c7
    replace H := Option.bind_eq_some_iff.mp H
    obtain ⟨t215, A80, H⟩ := H
    replace H : (some t215) = some r := H
    have A8 := Aside0.mk A80
    clear A80
    obtain rfl := Option.some.inj H
    go_enter Try.func4, Try.ntmps4
    go_wp2_with (first | ((with_reducible refine gate_callee (f := 15) rfl ?_); refine goesL_ (some 8) rfl rfl Try.func15 (by kernel_rfl) rfl #[.slice none 0 0, .int .u64 ji3] rfl (by (try simp only [List.map_toArray, List.map_cons, List.map_nil]); first | done | (simp only [hji3]; rfl) | rfl | (simp only [List.length_drop, List.length_take]; rfl)) ?_; (refine (cur_PutShort.calls k (fun k_ => False) _ _ ([] : List Int) ji3 t209 _ ?side1 A4.out).mono ?_); (case side1 => exact Kd.V_nil _ _ _ _ _); rintro e w9 ⟨v210, rfl, ho0, hb⟩; refine ⟨_, rfl, ?_⟩; have n0_ := Aside0.mk (Kd.R_lower (Kd.R_mono (ok' := fun k_ => True) ho0 (fun _ hk_ => trivial)) (below_size (by repeat (first | (with_reducible first | exact HB.out | apply below_alloc | apply pw_below_drewN | apply below_drew1) | exact HB.out)))); have n1_ := Aside0.mk (below_step (by repeat (first | (with_reducible first | exact HB.out | apply below_alloc | apply pw_below_drewN | apply below_drew1) | exact HB.out)) hb); clear HB; have HO211 := n0_; have HB := n1_; clear n0_ n1_; (try clear hb); (try clear hb2); (try clear hk); (try clear hi); (try clear ho0); obtain ⟨Ao10, co10, eo10⟩ := Kd.R_slice HO211.out; subst eo10) | ((with_reducible refine gate_callee (f := 15) rfl ?_); refine goesL_ (some 13) rfl rfl Try.func15 (by kernel_rfl) rfl #[.slice none 0 0, .int .u64 ji5] rfl (by (try simp only [List.map_toArray, List.map_cons, List.map_nil]); first | done | (simp only [hji5]; rfl) | rfl | (simp only [List.length_drop, List.length_take]; rfl)) ?_; (refine (cur_PutShort.calls k (fun k_ => False) _ _ ([] : List Int) ji5 t212 _ ?side1 A6.out).mono ?_); (case side1 => exact Kd.V_nil _ _ _ _ _); rintro e w11 ⟨v213, rfl, ho0, hb⟩; refine ⟨_, rfl, ?_⟩; have n0_ := Aside0.mk (Kd.R_elder' (by (with_reducible repeat (first | apply Kd.R_alloc | apply Kd.R_drewN | apply Kd.R_drew)); exact HO211.out) (Kd.R_base ho0) hb); have n1_ := Aside0.mk (Kd.R_lower (Kd.R_new' (Kd.R_mono (ok' := fun k_ => True) ho0 (fun _ hk_ => trivial)) (Kd.R_lt (by (with_reducible repeat (first | apply Kd.R_alloc | apply Kd.R_drewN | apply Kd.R_drew)); exact HO211.out))) (below_size (by repeat (first | (with_reducible first | exact HB.out | apply below_alloc | apply pw_below_drewN | apply below_drew1) | exact HB.out)))); have n2_ := Aside0.mk (below_step (by repeat (first | (with_reducible first | exact HB.out | apply below_alloc | apply pw_below_drewN | apply below_drew1) | exact HB.out)) hb); clear HO211; clear HB; have HO211 := n0_; have HO214 := n1_; have HB := n2_; clear n0_ n1_ n2_; (try clear hb); (try clear hb2); (try clear hk); (try clear hi); (try clear ho0); obtain ⟨Ao12, co12, eo12⟩ := Kd.R_slice HO214.out; subst eo12) | (go_at_call 13; (with_reducible refine (gantlinelaw02_alive.calls k  t215 _ A8.out).mono ?_); rintro e w13 ⟨rfl, hb⟩; have n0_ := Aside0.mk (Kd.R_below (by (with_reducible repeat (first | apply Kd.R_alloc | apply Kd.R_drewN | apply Kd.R_drew)); exact HO211.out) hb); have n1_ := Aside0.mk (Kd.R_below (by (with_reducible repeat (first | apply Kd.R_alloc | apply Kd.R_drewN | apply Kd.R_drew)); exact HO214.out) hb); have n2_ := Aside0.mk (below_step (by repeat (first | (with_reducible first | exact HB.out | apply below_alloc | apply pw_below_drewN | apply below_drew1) | exact HB.out)) hb); clear HO211; clear HO214; clear HB; have HO211 := n0_; have HO214 := n1_; have HB := n2_; clear n0_ n1_ n2_; (try clear hb); (try clear hb2); (try clear hk); (try clear hi)))
    go_ret
    exact ⟨by first | rfl | (simp [errW_none, errW_some] <;> rfl) | (simp only [← hji3, ← hji5]; first | rfl | (simp [errW_none, errW_some] <;> rfl)) | (simp [*, errW_none, errW_some] <;> rfl), by repeat (first | (with_reducible first | exact HB.out | apply below_alloc | apply pw_below_drewN | apply below_drew1) | exact HB.out)⟩
  · rw [if_neg c7] at H
    have c7b0 : decide ((t209.length : Int) ≤ (t212.length : Int)) = false := decide_eq_false c7
    have c7b1 : decide (t209.length ≤ t212.length) = false := decide_eq_false (fun h => c7 (Int.ofNat_le.mpr h))
    clear c7
    obtain rfl := Option.some.inj H
    go_enter Try.func4, Try.ntmps4
    go_wp2_with (first | ((with_reducible refine gate_callee (f := 15) rfl ?_); refine goesL_ (some 8) rfl rfl Try.func15 (by kernel_rfl) rfl #[.slice none 0 0, .int .u64 ji3] rfl (by (try simp only [List.map_toArray, List.map_cons, List.map_nil]); first | done | (simp only [hji3]; rfl) | rfl | (simp only [List.length_drop, List.length_take]; rfl)) ?_; (refine (cur_PutShort.calls k (fun k_ => False) _ _ ([] : List Int) ji3 t209 _ ?side1 A4.out).mono ?_); (case side1 => exact Kd.V_nil _ _ _ _ _); rintro e w14 ⟨v210, rfl, ho0, hb⟩; refine ⟨_, rfl, ?_⟩; have n0_ := Aside0.mk (Kd.R_lower (Kd.R_mono (ok' := fun k_ => True) ho0 (fun _ hk_ => trivial)) (below_size (by repeat (first | (with_reducible first | exact HB.out | apply below_alloc | apply pw_below_drewN | apply below_drew1) | exact HB.out)))); have n1_ := Aside0.mk (below_step (by repeat (first | (with_reducible first | exact HB.out | apply below_alloc | apply pw_below_drewN | apply below_drew1) | exact HB.out)) hb); clear HB; have HO211 := n0_; have HB := n1_; clear n0_ n1_; (try clear hb); (try clear hb2); (try clear hk); (try clear hi); (try clear ho0); obtain ⟨Ao15, co15, eo15⟩ := Kd.R_slice HO211.out; subst eo15) | ((with_reducible refine gate_callee (f := 15) rfl ?_); refine goesL_ (some 13) rfl rfl Try.func15 (by kernel_rfl) rfl #[.slice none 0 0, .int .u64 ji5] rfl (by (try simp only [List.map_toArray, List.map_cons, List.map_nil]); first | done | (simp only [hji5]; rfl) | rfl | (simp only [List.length_drop, List.length_take]; rfl)) ?_; (refine (cur_PutShort.calls k (fun k_ => False) _ _ ([] : List Int) ji5 t212 _ ?side1 A6.out).mono ?_); (case side1 => exact Kd.V_nil _ _ _ _ _); rintro e w16 ⟨v213, rfl, ho0, hb⟩; refine ⟨_, rfl, ?_⟩; have n0_ := Aside0.mk (Kd.R_elder' (by (with_reducible repeat (first | apply Kd.R_alloc | apply Kd.R_drewN | apply Kd.R_drew)); exact HO211.out) (Kd.R_base ho0) hb); have n1_ := Aside0.mk (Kd.R_lower (Kd.R_new' (Kd.R_mono (ok' := fun k_ => True) ho0 (fun _ hk_ => trivial)) (Kd.R_lt (by (with_reducible repeat (first | apply Kd.R_alloc | apply Kd.R_drewN | apply Kd.R_drew)); exact HO211.out))) (below_size (by repeat (first | (with_reducible first | exact HB.out | apply below_alloc | apply pw_below_drewN | apply below_drew1) | exact HB.out)))); have n2_ := Aside0.mk (below_step (by repeat (first | (with_reducible first | exact HB.out | apply below_alloc | apply pw_below_drewN | apply below_drew1) | exact HB.out)) hb); clear HO211; clear HB; have HO211 := n0_; have HO214 := n1_; have HB := n2_; clear n0_ n1_ n2_; (try clear hb); (try clear hb2); (try clear hk); (try clear hi); (try clear ho0); obtain ⟨Ao17, co17, eo17⟩ := Kd.R_slice HO214.out; subst eo17))
    go_ret
    exact ⟨by first | rfl | (simp [errW_none, errW_some] <;> rfl) | (simp only [← hji3, ← hji5]; first | rfl | (simp [errW_none, errW_some] <;> rfl)) | (simp [*, errW_none, errW_some] <;> rfl), by repeat (first | (with_reducible first | exact HB.out | apply below_alloc | apply pw_below_drewN | apply below_drew1) | exact HB.out)⟩

/-- THE ONE PURE STATEMENT of gantlinelaw02_CurGrows: yours. -/
def gantlinelaw02_CurGrows.Pure : Prop := ∀ (a0 : Int) (a1 : Int), (Lit.int .u64 a0).wf = true → (Lit.int .u64 a1).wf = true → ∃ k, gantlinelaw02_CurGrows.f k a0 a1 = some true
theorem gantlinelaw02_CurGrows.walk (P : gantlinelaw02_CurGrows.Pure) (a0 : Int) (a1 : Int) (w : World) (w0 : (Lit.int .u64 a0).wf = true) (w1 : (Lit.int .u64 a1).wf = true) :
    Calls Try.prog 4 #[.int .u64 a0, .int .u64 a1] w fun e w' => e = .returned (.bool true) ∧ Below w.heap.size w w' := by
  obtain ⟨k, h⟩ := P a0 a1 w0 w1
  refine (gantlinelaw02_CurGrows.calls k a0 a1 true w h).mono ?_
  rintro e w' ⟨rfl, hd⟩
  exact ⟨rfl, hd⟩

/-- THE ONE PURE STATEMENT of gantlinelaw02_CurGrows: yours. -/
def gantlinelaw02_CurGrows.PureU : Prop := ∀ (a0 : Int) (a1 : Int), (Lit.int .u64 a0).wf = true → (Lit.int .u64 a1).wf = true → 0 ≤ 1048576 → ∃ k, gantlinelaw02_CurGrows.f k a0 a1 = some true
theorem gantlinelaw02_CurGrows.walkU (P : gantlinelaw02_CurGrows.PureU) (a0 : Int) (a1 : Int) (w : World) (w0 : (Lit.int .u64 a0).wf = true) (w1 : (Lit.int .u64 a1).wf = true) (hU : 0 ≤ 1048576) :
    Calls Try.prog 4 #[.int .u64 a0, .int .u64 a1] w fun e w' => e = .returned (.bool true) ∧ Below w.heap.size w w' := by
  obtain ⟨k, h⟩ := P a0 a1 w0 w1 hU
  refine (gantlinelaw02_CurGrows.calls k a0 a1 true w h).mono ?_
  rintro e w' ⟨rfl, hd⟩
  exact ⟨rfl, hd⟩

/-! ### cur_Cursor_Take: function 17 -/
/-- Bytes of the cursor, as a copy. -/
def cur_Cursor_Take.f (s0 : Bool) (s1 : List Int) (s2 s3 s4 : Int) (n : Int) : Option (List Int × Bool × Int × Int × Int) :=
  (cur_Cursor_take.f s0 s1 s2 s3 s4 n).bind fun p => if p.1.length < 140737488355328 then some p else none
set_option maxHeartbeats 4000000 in
set_option maxRecDepth 100000 in
theorem cur_Cursor_Take.calls (g : Nat) (s0_0 : Bool) (s0_1 : List Int) (s0_2 : Int) (s0_3 : Int) (s0_4 : Int) (a1 : Int) (r1 : List Int) (r2 : Bool) (r3 : Int) (r4 : Int) (r5 : Int) (w0 w : World) (hI : IsS45 w0 w g s0_0 s0_1 s0_2 s0_3 s0_4) (hB : Below w0.heap.size w0 w) (h : cur_Cursor_Take.f s0_0 s0_1 s0_2 s0_3 s0_4 a1 = some (r1, r2, r3, r4, r5)) :
    Calls Try.prog 17 #[.pointer (some ⟨g, 0, none⟩), .int .i64 a1] w fun e w' => ∃ v0_ : Value, e = .returned (v0_) ∧ Kd.R (Kd.int .u8) 5 w' w.heap.size (fun _ => True) v0_ r1 ∧ IsS45 w0 w' g r2 s0_1 r3 r4 r5 ∧ Below w0.heap.size w0 w' ∧ KeepBut w w' g none := by
  have HI0 := Aside0.mk hI
  have HB0 := Aside0.mk hB
  clear hI hB
  unfold cur_Cursor_Take.f at h
  obtain ⟨⟨q1, q2, q3, q4, q5⟩, hq, h⟩ := Option.bind_eq_some_iff.1 h
  by_cases hl : q1.length < 140737488355328
  · simp only [] at h
    rw [if_pos hl] at h
    simp only [Option.some.injEq, Prod.mk.injEq] at h
    obtain ⟨rfl, rfl, rfl, rfl, rfl⟩ := h
    have HQ := Aside0.mk hq
    have HC := Aside0.mk (show slices_Clone_byte_byte.f q1 = some q1 from if_pos hl)
    clear hq hl
    go_enter Try.func17, Try.ntmps17
    go_wp2_with (first | (go_at_call 28; (with_reducible refine (cur_Cursor_take.calls g s0_0 s0_1 s0_2 s0_3 s0_4 a1 _ _ _ _ _ w0 _ HI0.out HB0.out HQ.out).mono ?_); rintro e w2 ⟨A2, c2, rfl, hm, hc, hi, hb, hk⟩; have HI2 := Aside0.mk hi; have HB2 := Aside0.mk hb; have HK2 := Aside0.mk hk; have HC2 := Aside0.mk (Kd.C_below hc hb); have HM2 := Aside0.mk hm; clear hi hb hk hc hm) | (go_at_call 22; (with_reducible refine (slices_Clone_byte_byte.calls A2 c2 q1 q1 _ HC2.out HM2.out HC.out).mono ?_); rintro e w3 ⟨v3, rfl, ho, hb⟩; have HO3 := Aside0.mk (Kd.R_lower ho HK2.out.1); have HI3 := Aside0.mk (IsS45.below HI2.out hb); have HB3 := Aside0.mk (below_weaken HB2.out HB2.out.size hb); have HK3 := Aside0.mk (KeepBut.trans HK2.out (KeepBut.of_below hb g none) (.inl rfl)); clear ho hb))
    go_ret
    exact ⟨v3, rfl, HO3.out, HI3.out, HB3.out, HK3.out⟩
  · simp only [] at h
    rw [if_neg hl] at h
    exact absurd h (by simp)

end Go.Proofs.Ytkbfappjlolmaaa.P
