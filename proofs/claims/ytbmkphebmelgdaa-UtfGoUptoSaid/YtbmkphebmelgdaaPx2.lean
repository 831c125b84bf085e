-- printed by fprint.py, a program of this session, out of the translation. Not trusted: Lean checks it.
import Derived.Test.YtbmkphebmelgdaaPx0
namespace Go.Proofs.Ytbmkphebmelgdaa.P
open Go.RowKit Go.Proofs.YtbmkphebmelgdaaW.PrintWords Go.Proofs.YtbmkphebmelgdaaW.PrintLast Go.Proofs.YtbmkphebmelgdaaW.PrintMore
attribute [local go_sem] max2_int min2_int max_two min_two max_three min_three max_four min_four   -- for this text's walks alone
set_option linter.unusedVariables false
set_option linter.unusedSimpArgs false

/-! ### slices_Grow_byte_byte: function 27 -/
/-- Room for more: the list stays. -/
def slices_Grow_byte_byte.f (l0 : List Int) (a1 : Int) : Option (List Int) := if a1 < 0 then none else if (l0.length : Int) + a1 ≤ 140737488355328 then some l0 else none
set_option maxHeartbeats 1000000 in
theorem slices_Grow_byte_byte.calls (P0_ : Nat → Prop) (u9000_ : Value) (l0 : List Int) (a1 : Int) (r : List Int) (w0 w : World) (hB : Below w0.heap.size w0 w) (ho0 : Kd.R (Kd.int .u8) 5 w w0.heap.size P0_ u9000_ l0) (h : slices_Grow_byte_byte.f l0 a1 = some r) :
    Calls Try.prog 27 #[u9000_, .int .i64 a1] w fun e w' => ∃ v0_ : Value, e = .returned (v0_) ∧ Kd.R (Kd.int .u8) 5 w' w0.heap.size (fun k_ => (P0_ k_ ∨ w.heap.size ≤ k_)) v0_ r ∧ Below w0.heap.size w0 w' ∧ Kept w w' (fun k_ => P0_ k_) := by
  unfold slices_Grow_byte_byte.f at h
  by_cases c1 : a1 < 0
  · rw [if_pos c1] at h; exact absurd h (by simp)
  rw [if_neg c1] at h
  by_cases c2 : ¬ ((l0.length : Int) + a1 ≤ 140737488355328)
  · rw [if_neg c2] at h; exact absurd h (by simp)
  have c2 : (l0.length : Int) + a1 ≤ 140737488355328 := by omega
  rw [if_pos c2] at h
  obtain rfl := Option.some.inj h
  clear h
  obtain ⟨i0, hi, hz0, hz1, hz2⟩ := info_parts info5
  obtain ⟨hok, inner, hown, hreps⟩ := ho0
  have c1' : ¬ (a1 < 0) := c1
  have g1 : decide (a1 < 0) = false := decide_eq_false c1
  clear c1
  have HB := Aside0.mk hB
  -- what comes of the growing, told ahead: a row that holds the cells up to its capacity
  have grow : ∀ (v : Value) (n : Nat) (xs : List Value), w.ownsRow w0.heap.size 5 1 v n xs → (∀ k, v.ownBlock = some k → P0_ k) → l0.length ≤ n → xs.take l0.length = inner → ∀ m : Nat, 0 < m → n + m ≤ 140737488355328 →
      ∃ (g' c' : Nat) (w' : World), (∀ ty, (Builtin.append_ #[22, 3] ty #[v, .int .i64 m]).run Try.prog w = .ok (.slice (some ⟨g', 0, none⟩) (n + m) c') w') ∧ n + m ≤ c' ∧ c' ≤ 9223372036854775807 ∧
        Kd.R (Kd.int .u8) 5 w' w0.heap.size (fun k_ => (P0_ k_ ∨ w.heap.size ≤ k_)) (.slice (some ⟨g', 0, none⟩) l0.length c') l0 ∧ Below w0.heap.size w0 w' ∧ Kept w w' (fun k_ => P0_ k_) := by
    intro v n xs hv hp hle htk m hm hlim
    obtain ⟨v', w', hrun, ho, hg, hat⟩ := run_append_zeros (P := Try.prog) w w0.heap.size 22 3 0 5 i0 (.int .u8 0) 1 1 Try.underlying22 Try.underlying3 hi hz0 hz1 hz2 rfl (by decide) (by decide) v n xs hv .i64 m
      (by intro u hu; obtain ⟨k, hk⟩ : ∃ k, (Builtin.zeroCells (Value.int .u8 0).cells m).toList = List.replicate k (.int .u8 0) := ⟨m, by simp [Builtin.zeroCells, Value.cells]; exact List.ext_getElem (by simp) (fun i h1 h2 => by simp [Nat.mod_one])⟩; rw [hk] at hu; rw [(List.mem_replicate.1 hu).2]; rfl) (by omega) HB.out.size
    have hrun2 : ∀ ty, (Builtin.append_ #[22, 3] ty #[v, .int .i64 m]).run Try.prog w = .ok v' w' := fun ty => hrun
    obtain ⟨hl, ⟨_, h0⟩ | ⟨g', c', cur, rfl, hbase, hblk, hlc, hmax, hsz, hcur⟩⟩ := ho
    · omega
    have hmax' : c' ≤ 9223372036854775807 := by simpa [maxLen] using hmax
    refine ⟨g', c', w', hrun2, hlc, hmax', ⟨fun k hk => ?_, inner, ⟨hown.1, .inr ⟨g', c', cur, rfl, hbase, hblk, by omega, hmax, hsz, ?_⟩⟩, hreps.imp_ (fun _ _ hp => hp)⟩, HB.out.grown hg HB.out.size (own_base hv), Kept.of_grown hg (Kept.refl w _) (fun k hk => .inl (hp k hk))⟩
    · have : k = g' := by simpa [Value.ownBlock] using hk.symm
      subst this
      rcases hat with hat | hat
      · exact .inl (hp k hat.symm)
      · right
        have : k = w.heap.size := by simpa [Value.ownBlock] using hat
        omega
    · rw [show (Kd.int .u8).sz = 1 from rfl, Nat.mul_one, ← htk]
      have h2 := congrArg (List.take l0.length) hcur
      rw [List.take_take, Nat.mul_one, Nat.min_eq_left (by omega)] at h2
      rw [h2, List.take_append_of_le_length (by rw [hv.1]; omega)]
  have hown2 := hown
  obtain ⟨hlen, ⟨rfl, hn0⟩ | ⟨g, cap, cur, rfl, hbase, hblk, hle, hmax, hsz, htk⟩⟩ := hown2
  · -- nil
    have h2 : wrap64 (0 : Int) = 0 := by unfold wrap64; omega
    have h3 : wrap64 (a1 - 0) = a1 := by unfold wrap64; omega
    by_cases c3 : a1 > 0
    · obtain ⟨m, rfl⟩ : ∃ m : Nat, a1 = m := ⟨a1.toNat, by omega⟩
      obtain ⟨g', c', w', hrun, q1, q2, q3, q4, q5⟩ := grow (.slice none 0 0) 0 [] (own_nil _ _ _ _) (fun k hk => by simp [Value.ownBlock] at hk) (by omega) (by have := hlen; rw [hn0] at this; simpa using (List.length_eq_zero_iff.1 (by simpa using this)).symm) m (by omega) (by omega)
      have Q3 := Aside0.mk q3
      have Q4 := Aside0.mk q4
      have Q5 := Aside0.mk q5
      clear q3 q4 q5 grow hreps hown hok hlen
      have HN := Aside0.mk hn0
      clear hn0 hB
      have c3b : decide (0 < (m : Int)) = true := decide_eq_true c3
      go_enter Try.func27, Try.ntmps27
      go_wp2_with (first | (at_builtin; refine Lib.wpList_append_run _ rfl _ _ _ _ rfl _ _ rfl rfl _ _ (hrun _) ?_))
      go_ret
      exact ⟨_, rfl, by rw [HN.out] at Q3; exact Q3.out, Q4.out, Q5.out⟩
    · have hz : a1 = 0 := by omega
      subst hz
      have R0 := Aside0.mk (show Kd.R (Kd.int .u8) 5 w w0.heap.size (fun k_ => (P0_ k_ ∨ w.heap.size ≤ k_)) (.slice none 0 0) l0 from ⟨fun k hk => .inl (hok k hk), inner, hown, hreps⟩)
      clear grow hreps hown hok hlen hn0 hB
      go_enter Try.func27, Try.ntmps27
      go_wp2
      go_ret
      exact ⟨_, rfl, R0.out, HB.out, Kept.refl _ _⟩
  · have hmax' : cap ≤ 9223372036854775807 := by simpa [maxLen] using hmax
    have h2 : wrap64 ((cap : Int) - (l0.length : Int)) = (cap : Int) - (l0.length : Int) := by unfold wrap64; omega
    have h3 : wrap64 (a1 - ((cap : Int) - (l0.length : Int))) = a1 - ((cap : Int) - (l0.length : Int)) := by unfold wrap64; omega
    by_cases c3 : a1 - ((cap : Int) - (l0.length : Int)) > 0
    · obtain ⟨m, hm⟩ : ∃ m : Nat, a1 - ((cap : Int) - (l0.length : Int)) = m := ⟨(a1 - ((cap : Int) - (l0.length : Int))).toNat, by omega⟩
      obtain ⟨g', c', w', hrun, q1, q2, q3, q4, q5⟩ := grow (.slice (some ⟨g, 0, none⟩) cap cap) cap cur.toList ⟨by rw [Array.length_toList]; exact hsz, .inr ⟨g, cap, cur, rfl, hbase, hblk, Nat.le_refl _, hmax, hsz, by rw [show cap * 1 = cur.toList.length by rw [Array.length_toList]; exact hsz.symm, List.take_length]⟩⟩
        (fun k hk => hok k hk) hle (by rw [← htk]; exact congrArg (fun z => List.take z cur.toList) (Nat.mul_one _).symm) m (by omega) (by omega)
      have Q3 := Aside0.mk q3
      have Q4 := Aside0.mk q4
      have Q5 := Aside0.mk q5
      have c3b : decide (0 < a1 - ((cap : Int) - (l0.length : Int))) = true := decide_eq_true c3
      rw [← hm] at hrun
      have HM := Aside0.mk hm
      clear q3 q4 q5 grow hreps hown hok hlen hB hblk hsz htk hm
      go_enter Try.func27, Try.ntmps27
      go_wp2_with (first | (at_builtin; refine Lib.wpList_append_run _ rfl _ _ _ _ rfl _ _ rfl rfl _ _ (hrun _) ?_))
      go_ret
      exact ⟨_, rfl, Q3.out, Q4.out, Q5.out⟩
    · have c3b : decide (0 < a1 - ((cap : Int) - (l0.length : Int))) = false := decide_eq_false c3
      have R0 := Aside0.mk (show Kd.R (Kd.int .u8) 5 w w0.heap.size (fun k_ => (P0_ k_ ∨ w.heap.size ≤ k_)) (.slice (some ⟨g, 0, none⟩) l0.length cap) l0 from ⟨fun k hk => .inl (hok k hk), inner, hown, hreps⟩)
      clear grow hreps hown hok hlen hB hblk hsz htk
      go_enter Try.func27, Try.ntmps27
      go_wp2
      go_ret
      exact ⟨_, rfl, R0.out, HB.out, Kept.refl _ _⟩

/-! ### slices_Concat_byte_byte: function 21 -/
mutual
def slices_Concat_byte_byte.l0 : Nat → List (List Int) → Int → List (List Int) → Int → Int → Option (List Int)
  | 0, _, _, _, _, _ => none
  | k + 1, x0, x3, x9, x10, x11 => if x11 < x10 then (if 0 ≤ x11 then (if x11 < (x9.length : Int) then (if (wrap64 (x3 + ((rd_L1 x9 x11).length : Int))) < 0 then (none) else (slices_Concat_byte_byte.l0 k x0 (wrap64 (x3 + ((rd_L1 x9 x11).length : Int))) x9 x10 (wrap64 (x11 + 1)))) else (none)) else (none)) else ((slices_Grow_byte_byte.f ([] : List Int) x3).bind fun t102 => (slices_Concat_byte_byte.l1 k t102 x0 (x0.length : Int) 0))
def slices_Concat_byte_byte.l1 : Nat → List Int → List (List Int) → Int → Int → Option (List Int)
  | 0, _, _, _, _ => none
  | k + 1, x6, x25, x26, x27 => if x27 < x26 then (if 0 ≤ x27 then (if x27 < (x25.length : Int) then (if x6.length + (rd_L1 x25 x27).length < 140737488355328 then (slices_Concat_byte_byte.l1 k (x6 ++ (rd_L1 x25 x27)) x25 x26 (wrap64 (x27 + 1))) else (none)) else (none)) else (none)) else (some x6)
end
def slices_Concat_byte_byte.f (k : Nat) (l0 : List (List Int)) : Option (List Int) := slices_Concat_byte_byte.l0 k l0 0 l0 (l0.length : Int) 0
theorem slices_Concat_byte_byte.mono_l : ∀ k, (∀ y0 y1 y2 y3 y4, LeO (slices_Concat_byte_byte.l0 k y0 y1 y2 y3 y4) (slices_Concat_byte_byte.l0 (k + 1) y0 y1 y2 y3 y4)) ∧ (∀ y0 y1 y2 y3, LeO (slices_Concat_byte_byte.l1 k y0 y1 y2 y3) (slices_Concat_byte_byte.l1 (k + 1) y0 y1 y2 y3))
  | 0 => ⟨fun _ _ _ _ _ r h => by simp [slices_Concat_byte_byte.l0] at h, fun _ _ _ _ r h => by simp [slices_Concat_byte_byte.l1] at h⟩
  | k + 1 => by
    obtain ⟨ih0, ih1⟩ := slices_Concat_byte_byte.mono_l k
    refine ⟨?_, ?_⟩
    · intro y0 y1 y2 y3 y4
      unfold slices_Concat_byte_byte.l0
      repeat' first
      | (with_reducible exact ih0 _ _ _ _ _)
      | (with_reducible exact ih1 _ _ _ _)
      | (with_reducible exact LeO.refl _)
      | (with_reducible exact LeO.none _)
      | (with_reducible refine LeO.ite ?_ ?_)
      | (with_reducible refine LeO.bind ?_ (fun _ => ?_))
      | exact ih0 _ _ _ _ _
      | exact ih1 _ _ _ _
      | exact LeO.none _
      | refine LeO.ite ?_ ?_
      | refine LeO.bind ?_ (fun _ => ?_)
    · intro y0 y1 y2 y3
      unfold slices_Concat_byte_byte.l1
      repeat' first
      | (with_reducible exact ih0 _ _ _ _ _)
      | (with_reducible exact ih1 _ _ _ _)
      | (with_reducible exact LeO.refl _)
      | (with_reducible exact LeO.none _)
      | (with_reducible refine LeO.ite ?_ ?_)
      | (with_reducible refine LeO.bind ?_ (fun _ => ?_))
      | exact ih0 _ _ _ _ _
      | exact ih1 _ _ _ _
      | exact LeO.none _
      | refine LeO.ite ?_ ?_
      | refine LeO.bind ?_ (fun _ => ?_)
theorem slices_Concat_byte_byte.mono : ∀ a0 k, LeO (slices_Concat_byte_byte.f k a0) (slices_Concat_byte_byte.f (k + 1) a0) := by
  intro a0 k
  obtain ⟨ih0, ih1⟩ := slices_Concat_byte_byte.mono_l k
  unfold slices_Concat_byte_byte.f
  repeat' first
      | (with_reducible exact ih0 _ _ _ _ _)
      | (with_reducible exact ih1 _ _ _ _)
      | (with_reducible exact LeO.refl _)
      | (with_reducible exact LeO.none _)
      | (with_reducible refine LeO.ite ?_ ?_)
      | (with_reducible refine LeO.bind ?_ (fun _ => ?_))
      | exact ih0 _ _ _ _ _
      | exact ih1 _ _ _ _
      | exact LeO.none _
      | refine LeO.ite ?_ ?_
      | refine LeO.bind ?_ (fun _ => ?_)
set_option maxHeartbeats 8000000 in
set_option maxRecDepth 100000 in
theorem slices_Concat_byte_byte.calls (k : Nat) (A0 : Option Addr) (c0 : Nat) (l0 : List (List Int)) (r : List Int) (w : World) (hr0 : Kd.C (Kd.slice 5 (Kd.int .u8)) w A0 l0.length l0) (hc0 : l0.length ≤ c0) (h : slices_Concat_byte_byte.f k l0 = some r) :
    Calls Try.prog 21 #[.slice A0 l0.length c0] w fun e w' => ∃ v0_ : Value, e = .returned (v0_) ∧ Kd.R (Kd.int .u8) 5 w' w.heap.size (fun _ => True) v0_ r ∧ Below w.heap.size w w' := by
  have HR0 := Aside0.mk hr0
  have HC0 := Aside0.mk hc0
  clear hr0 hc0
  have HB := Aside0.mk (Below.refl w.heap.size w)
  have H : (slices_Concat_byte_byte.l0 k l0 0 l0 (l0.length : Int) 0) = some r := h
  clear h
  have H' := Aside0.mk H
  clear H
  go_enter Try.func21, Try.ntmps21
  go_wp2
  go_loopg [3, 11] k (fun kq v3 v11 w' => ∃ (x3_1 : Int) (x11_1 : Int), v3 = .int .i64 x3_1 ∧ v11 = .int .i64 x11_1 ∧ Aside0 (slices_Concat_byte_byte.l0 kq l0 x3_1 l0 (l0.length : Int) x11_1 = some r) ∧ Aside0 (kq ≤ k) ∧ Aside0 (Below w.heap.size w w'))
  case atStart => exact ⟨(0), (0), (by first | rfl | (simp; done) | (simp [*]; done)), (by first | rfl | (simp; done) | (simp [*]; done)), H', ⟨Nat.le_refl _⟩, ⟨by repeat (first | (with_reducible first | exact HB.out | apply below_alloc | apply pw_below_drewN | apply below_drew1) | exact HB.out)⟩⟩
  case round =>
    clear H'
    obtain ⟨x3_1, x11_1, rfl, rfl, HA, HK1, HB⟩ := hrel
    cases gk with
    | zero => exact absurd HA.out (by simp [slices_Concat_byte_byte.l0])
    | succ k1 =>
      have H := HA.out
      clear HA
      simp only [slices_Concat_byte_byte.l0] at H
      by_cases c2 : x11_1 < (l0.length : Int)
      · rw [if_pos c2] at H
        have c2b0 : decide (x11_1 < (l0.length : Int)) = true := decide_eq_true c2
        clear c2
        by_cases c3 : 0 ≤ x11_1
        · rw [if_pos c3] at H
          have c3b0 : decide (0 ≤ x11_1) = true := decide_eq_true c3
          clear c3
          by_cases c4 : x11_1 < (l0.length : Int)
          · rw [if_pos c4] at H
            have c4b0 : decide (x11_1 < (l0.length : Int)) = true := decide_eq_true c4
            clear c4
            by_cases c5 : (wrap64 (x3_1 + ((rd_L1 l0 x11_1).length : Int))) < 0
            · rw [if_pos c5] at H
              exact absurd H (by simp)
            · rw [if_neg c5] at H
              have c5b0 : decide ((wrap64 (x3_1 + ((rd_L1 l0 x11_1).length : Int))) < 0) = false := decide_eq_false c5
              clear c5
              have H' := Aside0.mk H
              clear H
              have p101 : 0 ≤ (x11_1 : Int) := of_decide_eq_true (by first | (with_reducible assumption) | assumption)
              have q101 : x11_1 < (l0.length : Int) := of_decide_eq_true (by first | (with_reducible assumption) | assumption)
              obtain ⟨ad101, A101_0, c101_0, e101, hx101_0, hl101_0, hi101_0⟩ := at_L1 HR0.out x11_1 p101 q101
              cases e101
              replace hx101_0 := (HB.out.cell (World.block_lt_of_cell? w _ hx101_0)).trans hx101_0
              have HR101_0 := Aside0.mk hi101_0
              have HC101_0 := Aside0.mk hl101_0
              clear hi101_0 hl101_0
              replace p101 := eq_true p101
              replace q101 := eq_true q101
              go_wp2
              go_roundg k1
              case measure => have := HK1.out; omega
              case rel => exact ⟨(wrap64 (x3_1 + ((rd_L1 l0 x11_1).length : Int))), (wrap64 (x11_1 + 1)), (by first | rfl | (simp; done) | (simp [*]; done)), (by first | rfl | (simp; done) | (simp [*]; done)), H', ⟨by have := HK1.out; omega⟩, ⟨by repeat (first | (with_reducible first | exact HB.out | apply below_alloc | apply pw_below_drewN | apply below_drew1) | exact HB.out)⟩⟩
          · rw [if_neg c4] at H
            exact absurd H (by simp)
        · rw [if_neg c3] at H
          exact absurd H (by simp)
      · rw [if_neg c2] at H
        have c2b0 : decide (x11_1 < (l0.length : Int)) = false := decide_eq_false c2
        clear c2
        replace H := Option.bind_eq_some_iff.mp H
        obtain ⟨t102, A60, H⟩ := H
        replace H : (slices_Concat_byte_byte.l1 k1 t102 l0 (l0.length : Int) 0) = some r := H
        have A6 := Aside0.mk A60
        clear A60
        have H' := Aside0.mk H
        clear H
        go_wp2_with (first | ((with_reducible refine gate_callee (f := 27) rfl ?_); refine goesL_ (some 24) rfl rfl Try.func27 (by kernel_rfl) rfl #[.slice none 0 0, .int .i64 x3_1] rfl (by (try simp only [List.map_toArray, List.map_cons, List.map_nil]); first | done | rfl | (simp only [List.length_drop, List.length_take]; rfl)) ?_; (refine (slices_Grow_byte_byte.calls (fun k_ => some k_ = (.slice none 0 0 : Value).ownBlock) (.slice none 0 0) ([] : List Int) x3_1 t102 w _ ?side1 ?side2 A6.out).mono ?_); (case side1 => repeat (first | (with_reducible first | exact HB.out | apply below_alloc | apply pw_below_drewN | apply below_drew1) | exact HB.out)); (case side2 => exact Kd.R_nil _ _ _ _ _); rintro e w7 ⟨v103, rfl, ho0, hb, hkp⟩; refine ⟨_, rfl, ?_⟩; have n0_ := Aside0.mk (Kd.R_mono (ok' := fun k_ => True) ho0 (fun k_ hk_ => trivial)); have n1_ := Aside0.mk (hb); clear HB; have HO104 := n0_; have HB := n1_; clear n0_ n1_; (try clear hb); (try clear hkp); (try clear ho0)))
        go_loopg [6, 27] k1 (fun kq v6 v27 w' => ∃ (x6_2 : List Int) (x27_2 : Int), v27 = .int .i64 x27_2 ∧ Aside0 (slices_Concat_byte_byte.l1 kq x6_2 l0 (l0.length : Int) x27_2 = some r) ∧ Aside0 (kq ≤ k1) ∧ Aside0 (Kd.R (Kd.int .u8) 5 w' w.heap.size (fun _ => True) v6 x6_2) ∧ Aside0 (Below w.heap.size w w'))
        case atStart => exact ⟨(t102), (0), (by first | rfl | (simp; done) | (simp [*]; done)), H', ⟨Nat.le_refl _⟩, ⟨by (with_reducible repeat (first | apply Kd.R_alloc | apply Kd.R_drewN | apply Kd.R_drew)); exact HO104.out⟩, ⟨by repeat (first | (with_reducible first | exact HB.out | apply below_alloc | apply pw_below_drewN | apply below_drew1) | exact HB.out)⟩⟩
        case round =>
          clear H'
          try clear c1
          try clear p1
          try clear q1
          try clear hx1
          try clear c2
          try clear c2b0
          try clear p2
          try clear c3
          try clear c3b0
          try clear c4
          try clear c4b0
          try clear c5
          try clear c5b0
          try clear p6
          try clear hx101_0
          try clear p101
          try clear q101
          obtain ⟨x6_2, x27_2, rfl, HA, HK2, HO_6, HB⟩ := hrel
          cases gk with
          | zero => exact absurd HA.out (by simp [slices_Concat_byte_byte.l1])
          | succ k2 =>
            have H := HA.out
            clear HA
            simp only [slices_Concat_byte_byte.l1] at H
            by_cases c8 : x27_2 < (l0.length : Int)
            · rw [if_pos c8] at H
              have c8b0 : decide (x27_2 < (l0.length : Int)) = true := decide_eq_true c8
              clear c8
              by_cases c9 : 0 ≤ x27_2
              · rw [if_pos c9] at H
                have c9b0 : decide (0 ≤ x27_2) = true := decide_eq_true c9
                clear c9
                by_cases c10 : x27_2 < (l0.length : Int)
                · rw [if_pos c10] at H
                  have c10b0 : decide (x27_2 < (l0.length : Int)) = true := decide_eq_true c10
                  clear c10
                  by_cases c11 : x6_2.length + (rd_L1 l0 x27_2).length < 140737488355328
                  · rw [if_pos c11] at H
                    have LMc11 := Aside0.mk c11
                    clear c11
                    obtain ⟨y106, hy106⟩ : ∃ y_ : List Int, y_ = (x6_2 ++ (rd_L1 l0 x27_2)) := ⟨_, rfl⟩
                    replace H : (slices_Concat_byte_byte.l1 k2 y106 l0 (l0.length : Int) (wrap64 (x27_2 + 1))) = some r := by first | (rw [hy106]; with_reducible exact H) | (have H2_ := (Option.bind_some _ _).symm.trans H; rw [hy106]; with_reducible exact H2_) | (have H2_ := (Option.bind_some _ _).symm.trans H; with_reducible exact H2_) | with_reducible exact H | (rw [hy106]; exact H) | exact H
                    have Ny106 := Aside0.mk hy106
                    clear hy106
                    have H' := Aside0.mk H
                    clear H
                    have p105 : 0 ≤ (x27_2 : Int) := of_decide_eq_true (by first | (with_reducible assumption) | assumption)
                    have q105 : x27_2 < (l0.length : Int) := of_decide_eq_true (by first | (with_reducible assumption) | assumption)
                    obtain ⟨ad105, A105_0, c105_0, e105, hx105_0, hl105_0, hi105_0⟩ := at_L1 HR0.out x27_2 p105 q105
                    cases e105
                    replace hx105_0 := (HB.out.cell (World.block_lt_of_cell? w _ hx105_0)).trans hx105_0
                    have HR105_0 := Aside0.mk hi105_0
                    have HC105_0 := Aside0.mk hl105_0
                    clear hi105_0 hl105_0
                    replace p105 := eq_true p105
                    replace q105 := eq_true q105
                    go_wp2_with (first | ((with_reducible refine gate_builtin (b := .append) (xs := #[.tmp 31, .tmp 32]) rfl ?_); at_builtin; refine Kd.R_append_rows (Kd.int .u8) (w0 := w) w.heap.size rfl (.tmp 31) (.tmp 32) 22 5 (.int .u8 0) 1 rfl Try.underlying22 info5 rfl (by decide) (by omega) u6 x6_2 (rd_L1 l0 x27_2) _ _ _ (fun _ => True) (fun _ => False) rfl rfl ?aO ?aR (fun _ _ h => h) (fun _ h => h.elim) ?aF ?aB ?aS ?aL ?_; (case aR => repeat (first | exact (Kd.C_below HR105_0.out HB.out) | (with_reducible refine Kd.C_alloc ?_ _) | (with_reducible refine Kd.C_drewN ?_ _) | (with_reducible refine Kd.C_drew ?_))); (case aB => exact (by repeat (first | (with_reducible first | exact HB.out | apply below_alloc | apply pw_below_drewN | apply below_drew1) | exact HB.out))); (case aF => exact (fun _ _ => trivial)); (case aO => exact (by (with_reducible repeat (first | apply Kd.R_alloc | apply Kd.R_drewN | apply Kd.R_drew)); exact HO_6.out)); (case aS => exact (below_size (by repeat (first | (with_reducible first | exact HB.out | apply below_alloc | apply pw_below_drewN | apply below_drew1) | exact HB.out)))); (case aL => have := LMc11.out; omega); intro v107 w12 ho hb hg hat; rw [← Ny106.out] at ho; have n0_ := Aside0.mk (hb); have n1_ := Aside0.mk (ho); clear HB; clear HO_6; have HB := n0_; have HO108 := n1_; clear n0_ n1_; clear ho hb hg hat))
                    go_roundg k2
                    case measure => have := HK1.out; have := HK2.out; omega
                    case rel => exact ⟨(y106), (wrap64 (x27_2 + 1)), (by first | rfl | (simp; done) | (simp [*]; done)), H', ⟨by have := HK1.out; have := HK2.out; omega⟩, ⟨by (with_reducible repeat (first | apply Kd.R_alloc | apply Kd.R_drewN | apply Kd.R_drew)); exact HO108.out⟩, ⟨by repeat (first | (with_reducible first | exact HB.out | apply below_alloc | apply pw_below_drewN | apply below_drew1) | exact HB.out)⟩⟩
                  · rw [if_neg c11] at H
                    exact absurd H (by simp)
                · rw [if_neg c10] at H
                  exact absurd H (by simp)
              · rw [if_neg c9] at H
                exact absurd H (by simp)
            · rw [if_neg c8] at H
              have c8b0 : decide (x27_2 < (l0.length : Int)) = false := decide_eq_false c8
              clear c8
              obtain rfl := Option.some.inj H
              go_wp2
              go_ret
              exact ⟨_, by first | rfl | (simp [errW_none, errW_some] <;> rfl) | (simp [*, errW_none, errW_some] <;> rfl), by (with_reducible repeat (first | apply Kd.R_alloc | apply Kd.R_drewN | apply Kd.R_drew)); exact HO_6.out, by repeat (first | (with_reducible first | exact HB.out | apply below_alloc | apply pw_below_drewN | apply below_drew1) | exact HB.out)⟩

/-! ### utf_Put: function 10 -/
/-- The bytes of a character behind others, or the refusal. -/
def utf_Put.f (l0 : List Int) (a1 : Int) : Option (List Int × Int) := if a1 < 0 ∨ 1114111 < a1 ∨ (55296 ≤ a1 ∧ a1 ≤ 57343) then some ([], 1) else if l0.length + (bytesOf (Utf8.encode a1)).length < 140737488355328 then some (l0 ++ bytesOf (Utf8.encode a1), 0) else none
theorem utf_Put.size_le (a : Int) : 1 ≤ (Utf8.encode a).size ∧ (Utf8.encode a).size ≤ 4 := by
  unfold Utf8.encode
  dsimp only
  repeat' split
  all_goals exact ⟨by simp [ByteArray.size], by simp [ByteArray.size]⟩
theorem utf_Put.concat (x y : List Int) (h : x.length + y.length < 140737488355328) : slices_Concat_byte_byte.f 9 [x, y] = some (x ++ y) := by
  have e1 : wrap64 (x.length : Int) = x.length := by unfold wrap64; omega
  have e2 : wrap64 ((x.length : Int) + y.length) = (x.length : Int) + y.length := by unfold wrap64; omega
  have e3 : wrap64 1 = 1 := by unfold wrap64; omega
  have e4 : wrap64 (1 + 1) = 2 := by unfold wrap64; omega
  have e5 : wrap64 2 = 2 := by unfold wrap64; omega
  have r0 : rd_L1 [x, y] 0 = x := rfl
  have r1 : rd_L1 [x, y] 1 = y := rfl
  have hl : (([x, y] : List (List Int)).length : Int) = 2 := rfl
  have n1 : ¬ ((x.length : Int) < 0) := by omega
  have n2 : ¬ ((x.length : Int) + y.length < 0) := by omega
  have n3 : (0 : Int) ≤ (x.length : Int) + y.length := by omega
  have g1 : (x.length : Int) + y.length ≤ 140737488355328 := by omega
  have m1 : x.length < 140737488355328 := by omega
  have q1 : (0 : Int) < 2 := by decide
  have q2 : (0 : Int) ≤ 0 := by decide
  have q3 : (1 : Int) < 2 := by decide
  have q4 : (0 : Int) ≤ 1 := by decide
  have q5 : ¬ ((2 : Int) < 2) := by decide
  simp only [slices_Concat_byte_byte.f, slices_Concat_byte_byte.l0, slices_Concat_byte_byte.l1, slices_Grow_byte_byte.f, hl, r0, r1, e1, e2, e3, e4, e5, n1, n2, g1, m1, h, q1, q2, q3, q4, q5, if_true, if_false, Option.bind_some, List.length_nil, List.nil_append, Int.natCast_zero, Int.cast_ofNat_Int, Int.zero_add, Nat.zero_add]
theorem utf_Put.new_blk (W : World) (cs : Array Value) (t : Nat) : (W.alloc (.cells cs t)).heap[W.heap.size]? = some (.cells cs t (0, 0)) := by
  show (W.heap.push _)[W.heap.size]? = _
  simp
theorem utf_Put.alloc_le (W : World) (o : Obj) : W.heap.size ≤ (W.alloc o).heap.size := by
  show _ ≤ (W.heap.push o).size
  simp
theorem utf_Put.two (W : World) (t : Nat) (A B : Option Addr) (c d n : Nat) (x y : List Int) (hx : Kd.C (Kd.int .u8) W A x.length x) (hc : x.length ≤ c) (hy : Kd.C (Kd.int .u8) W B y.length y) (hd : y.length ≤ d) (hn : y.length = n) :
    Kd.C (Kd.slice 5 (Kd.int .u8)) (W.alloc (.cells #[.slice A x.length c, .slice B n d] t)) (some ⟨W.heap.size, 0, none⟩) 2 [x, y] := by
  subst hn
  refine ⟨rfl, by omega, fun _ => ⟨_, rfl, fun j p hj => ?_⟩⟩
  match j, hj with
  | 0, hj =>
    obtain rfl : x = p := by simpa using hj
    refine ⟨[.slice A x.length c], rfl, ⟨A, c, rfl, hc, Kd.C_alloc hx _⟩, fun i u hu => ?_⟩
    match i, hu with
    | 0, hu => obtain rfl : Value.slice A x.length c = u := by simpa using hu
               rw [add_plain]; exact blk_cell (utf_Put.new_blk W _ t) _
  | 1, hj =>
    obtain rfl : y = p := by simpa using hj
    refine ⟨[.slice B y.length d], rfl, ⟨B, d, rfl, hd, Kd.C_alloc hy _⟩, fun i u hu => ?_⟩
    match i, hu with
    | 0, hu => obtain rfl : Value.slice B y.length d = u := by simpa using hu
               rw [add_plain]; exact blk_cell (utf_Put.new_blk W _ t) _
set_option maxHeartbeats 1000000 in
set_option maxRecDepth 100000 in
theorem utf_Put.calls (A0 : Option Addr) (c0 : Nat) (l0 : List Int) (a1 : Int) (r1 : List Int) (r2 : Int) (w : World) (hr0 : Kd.C (Kd.int .u8) w A0 l0.length l0) (hc0 : l0.length ≤ c0) (h : utf_Put.f l0 a1 = some (r1, r2)) :
    Calls Try.prog 10 #[.slice A0 l0.length c0, .int .i32 a1] w fun e w' => ∃ v0_ : Value, e = .returned (.tuple #[v0_, .int .i64 r2]) ∧ Kd.R (Kd.int .u8) 5 w' w.heap.size (fun _ => True) v0_ r1 ∧ Below w.heap.size w w' := by
  have HR0 := Aside0.mk hr0
  have HC0 := Aside0.mk hc0
  clear hr0 hc0
  unfold utf_Put.f at h
  by_cases hbad : a1 < 0 ∨ 1114111 < a1 ∨ (55296 ≤ a1 ∧ a1 ≤ 57343)
  · rw [if_pos hbad] at h
    obtain ⟨rfl, rfl⟩ : [] = r1 ∧ 1 = r2 := by simpa using h
    clear h
    have fin : ∃ v0_ : Value, Ending.returned (.tuple #[.slice none 0 0, .int .i64 1]) = .returned (.tuple #[v0_, .int .i64 1]) ∧ Kd.R (Kd.int .u8) 5 w w.heap.size (fun _ => True) v0_ [] ∧ Below w.heap.size w w := ⟨_, rfl, Kd.R_nil _ _ _ _ _, Below.refl _ _⟩
    have FIN := Aside0.mk fin
    clear fin
    by_cases b1 : a1 < 0
    · have d1 : decide (a1 < 0) = true := decide_eq_true b1
      clear hbad b1
      go_enter Try.func10, Try.ntmps10
      go_wp2
      go_ret2
      exact FIN.out
    have d1 : decide (a1 < 0) = false := decide_eq_false b1
    by_cases b2 : 1114111 < a1
    · have d2 : decide (1114111 < a1) = true := decide_eq_true b2
      clear hbad b1 b2
      go_enter Try.func10, Try.ntmps10
      go_wp2
      go_ret2
      exact FIN.out
    have d2 : decide (1114111 < a1) = false := decide_eq_false b2
    have d3 : decide (55296 ≤ a1) = true := decide_eq_true (by omega)
    have d4 : decide (a1 ≤ 57343) = true := decide_eq_true (by omega)
    clear hbad b1 b2
    go_enter Try.func10, Try.ntmps10
    go_wp2
    go_ret2
    exact FIN.out
  · rw [if_neg hbad] at h
    by_cases hlim : l0.length + (bytesOf (Utf8.encode a1)).length < 140737488355328
    · rw [if_pos hlim] at h
      obtain ⟨rfl, rfl⟩ : l0 ++ bytesOf (Utf8.encode a1) = r1 ∧ 0 = r2 := by simpa using h
      clear h
      have d1 : decide (a1 < 0) = false := decide_eq_false (by omega)
      have d2 : decide (1114111 < a1) = false := decide_eq_false (by omega)
      have HC := Aside0.mk (utf_Put.concat l0 (bytesOf (Utf8.encode a1)) hlim)
      have HS := utf_Put.size_le a1
      have hs63 : (Utf8.encode a1).size ≤ 9223372036854775807 := by omega
      have kb := fun W => print_bytes (P := Try.prog) 9 22 5 Try.underlying9 Try.underlying22 Try.underlying5 (Utf8.encode a1) W
      have hL : (bytesOf (Utf8.encode a1)).length = (Utf8.encode a1).size := bytesOf_length _
      have body : Calls Try.prog 10 #[.slice A0 l0.length c0, .int .i32 a1] w fun e w' => ∃ v0_ : Value, e = .returned (.tuple #[v0_, .int .i64 0]) ∧ Kd.R (Kd.int .u8) 5 w' w.heap.size (fun _ => True) v0_ (l0 ++ bytesOf (Utf8.encode a1)) ∧ Below w.heap.size w w' := by
        have hbw := Aside0.mk (bytes_below (Below.refl w.heap.size w) (Nat.le_refl _) 5 (Utf8.encode a1))
        have hbr := Aside0.mk (Kd.C_of_reads (d := (0 : Int)) (h1 := fun _ => rfl) (show ReadsOf (Value.int .u8) 0 (Lib.bytesWorld w 5 (Utf8.encode a1)) (some ⟨w.heap.size, 0, none⟩) (bytesOf (Utf8.encode a1)).length (bytesOf (Utf8.encode a1)) from by rw [hL]; exact bytes_reads w 5 _ hs63))
        have hgc := Aside0.mk (grownCap_ge w (Utf8.encode a1).size 0 5)
        have HL := Aside0.mk hL
        clear hL
        by_cases b3 : 55296 ≤ a1
        · have d3 : decide (55296 ≤ a1) = true := decide_eq_true b3
          have d4 : decide (a1 ≤ 57343) = false := decide_eq_false (by omega)
          clear hbad b3 hlim HS
          go_enter Try.func10, Try.ntmps10
          go_wp2_with (first | (go_at_call 21; refine (slices_Concat_byte_byte.calls 9 _ _ [l0, bytesOf (Utf8.encode a1)] (l0 ++ bytesOf (Utf8.encode a1)) _ (utf_Put.two _ _ _ _ _ _ _ _ _ (Kd.C_below HR0.out hbw.out) HC0.out hbr.out (by rw [HL.out]; exact hgc.out) HL.out) (Nat.le_refl 2) HC.out).mono ?_; rintro e w2 ⟨v2, rfl, ho, hb⟩))
          go_ret2
          exact ⟨_, rfl, Kd.R_mono (Kd.R_lower ho (Nat.le_trans hbw.out.size (utf_Put.alloc_le _ _))) (fun _ _ => trivial), below_then (below_alloc hbw.out _) (Nat.le_trans hbw.out.size (utf_Put.alloc_le _ _)) hb⟩
        · have d3 : decide (55296 ≤ a1) = false := decide_eq_false b3
          clear hbad b3 hlim HS
          go_enter Try.func10, Try.ntmps10
          go_wp2_with (first | (go_at_call 21; refine (slices_Concat_byte_byte.calls 9 _ _ [l0, bytesOf (Utf8.encode a1)] (l0 ++ bytesOf (Utf8.encode a1)) _ (utf_Put.two _ _ _ _ _ _ _ _ _ (Kd.C_below HR0.out hbw.out) HC0.out hbr.out (by rw [HL.out]; exact hgc.out) HL.out) (Nat.le_refl 2) HC.out).mono ?_; rintro e w2 ⟨v2, rfl, ho, hb⟩))
          go_ret2
          exact ⟨_, rfl, Kd.R_mono (Kd.R_lower ho (Nat.le_trans hbw.out.size (utf_Put.alloc_le _ _))) (fun _ _ => trivial), below_then (below_alloc hbw.out _) (Nat.le_trans hbw.out.size (utf_Put.alloc_le _ _)) hb⟩
      exact body
    · rw [if_neg hlim] at h
      exact absurd h (by simp)

/-! ### gantlineref04_Right: function 22 -/
def gantlineref04_Right.f (a0 : Int) : Option (Bool) := if a0 ≥ 0 then (if a0 ≤ 1114111 then (if a0 < 55296 then (some true) else (some (decide (a0 > 57343)))) else (some false)) else (some false)
set_option maxHeartbeats 8000000 in
set_option maxRecDepth 100000 in
theorem gantlineref04_Right.calls (a0 : Int) (r : Bool) (w : World) (h : gantlineref04_Right.f a0 = some r) :
    Calls Try.prog 22 #[.int .i64 a0] w fun e w' => e = .returned (.bool r) ∧ Drawn0 w w' := by
  have H : (if a0 ≥ 0 then (if a0 ≤ 1114111 then (if a0 < 55296 then (some true) else (some (decide (a0 > 57343)))) else (some false)) else (some false)) = some r := h
  clear h
  by_cases c2 : a0 ≥ 0
  · rw [if_pos c2] at H
    have c2b0 : decide (0 ≤ a0) = true := decide_eq_true c2
    clear c2
    by_cases c3 : a0 ≤ 1114111
    · rw [if_pos c3] at H
      have c3b0 : decide (a0 ≤ 1114111) = true := decide_eq_true c3
      clear c3
      by_cases c4 : a0 < 55296
      · rw [if_pos c4] at H
        have c4b0 : decide (a0 < 55296) = true := decide_eq_true c4
        clear c4
        obtain rfl := Option.some.inj H
        go_enter Try.func22, Try.ntmps22
        go_wp2
        go_ret
        exact ⟨by first | rfl | (simp; done) | (simp [*]; done), by repeat (first | exact Drawn0.refl _ | apply Drawn0.step)⟩
      · rw [if_neg c4] at H
        have c4b0 : decide (a0 < 55296) = false := decide_eq_false c4
        clear c4
        obtain rfl := Option.some.inj H
        go_enter Try.func22, Try.ntmps22
        go_wp2
        go_ret
        exact ⟨by first | rfl | (simp; done) | (simp [*]; done), by repeat (first | exact Drawn0.refl _ | apply Drawn0.step)⟩
    · rw [if_neg c3] at H
      have c3b0 : decide (a0 ≤ 1114111) = false := decide_eq_false c3
      clear c3
      obtain rfl := Option.some.inj H
      go_enter Try.func22, Try.ntmps22
      go_wp2
      go_ret
      exact ⟨by first | rfl | (simp; done) | (simp [*]; done), by repeat (first | exact Drawn0.refl _ | apply Drawn0.step)⟩
  · rw [if_neg c2] at H
    have c2b0 : decide (0 ≤ a0) = false := decide_eq_false c2
    clear c2
    obtain rfl := Option.some.inj H
    go_enter Try.func22, Try.ntmps22
    go_wp2
    go_ret
    exact ⟨by first | rfl | (simp; done) | (simp [*]; done), by repeat (first | exact Drawn0.refl _ | apply Drawn0.step)⟩

/-! ### gantlineref04_low: function 28 -/
def gantlineref04_low.f (a0 : Int) (a1 : Int) : Option (Int) := if 0 ≤ (wrap64 (6 * a1)) then (some ((Go.bits .or .i64 128 (Go.bits .and .i64 (shr .i64 a0 (wrap64 (6 * a1))) 63)) % 256)) else (none)
set_option maxHeartbeats 8000000 in
set_option maxRecDepth 100000 in
theorem gantlineref04_low.calls (a0 : Int) (a1 : Int) (r : Int) (w : World) (h : gantlineref04_low.f a0 a1 = some r) :
    Calls Try.prog 28 #[.int .i64 a0, .int .i64 a1] w fun e w' => e = .returned (.int .u8 r) ∧ Drawn0 w w' := by
  have H : (if 0 ≤ (wrap64 (6 * a1)) then (some ((Go.bits .or .i64 128 (Go.bits .and .i64 (shr .i64 a0 (wrap64 (6 * a1))) 63)) % 256)) else (none)) = some r := h
  clear h
  obtain ⟨ji3, hji3⟩ : ∃ j_ : Int, (wrap64 (6 * a1)) = j_ := ⟨_, rfl⟩
  replace H : (if 0 ≤ (ji3) then (some ((Go.bits .or .i64 128 (Go.bits .and .i64 (shr .i64 a0 (ji3)) 63)) % 256)) else (none)) = some r := by first | (rw [hji3] at H; exact H) | (simp only [hji3] at H ⊢; exact H)
  have hji3w : (IntKind.i64.wrap (6 * a1)) = ji3 := (i64_w _).trans hji3
  by_cases c4 : 0 ≤ (ji3)
  · rw [if_pos c4] at H
    have c4b0 := eq_true c4
    have c4b1 : decide (0 ≤ (ji3)) = true := decide_eq_true c4
    clear c4
    obtain ⟨ji5, hji5⟩ : ∃ j_ : Int, (shr .i64 a0 (ji3)) = j_ := ⟨_, rfl⟩
    replace H : (some ((Go.bits .or .i64 128 (Go.bits .and .i64 (ji5) 63)) % 256)) = some r := by first | (rw [hji5] at H; exact H) | (simp only [hji5] at H ⊢; exact H)
    have hji5_ : (a0 / 2 ^ min (ji3).toNat 64) = ji5 := hji5
    have hji5z : (ji3) ≤ 64 → (a0 / 2 ^ (ji3).toNat) = ji5 := shr_small hji5
    obtain rfl := Option.some.inj H
    go_enter Try.func28, Try.ntmps28
    go_wp2
    go_ret
    exact ⟨by first | rfl | (simp; done) | (simp only [← hji3, ← hji5] <;> (first | rfl | simp)) | (simp [*]; done), by repeat (first | exact Drawn0.refl _ | apply Drawn0.step)⟩
  · rw [if_neg c4] at H
    exact absurd H (by simp)

end Go.Proofs.Ytbmkphebmelgdaa.P
