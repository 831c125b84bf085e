-- printed by fprint.py, a program of this session, out of the translation. Not trusted: Lean checks it.
import Derived.Test.YtkbfappjlolmaaaPx0
import Derived.Test.YtkbfappjlolmaaaPx1
namespace Go.Proofs.Ytkbfappjlolmaaa.P
open Go.RowKit Go.Proofs.YtkbfappjlolmaaaW.PrintWords Go.Proofs.YtkbfappjlolmaaaW.PrintLast Go.Proofs.YtkbfappjlolmaaaW.PrintMore
attribute [local go_sem] max2_int min2_int max_two min_two max_three min_three max_four min_four   -- for this text's walks alone
set_option linter.unusedVariables false
set_option linter.unusedSimpArgs false

attribute [local go_sem high] eqA29
/-! ### slices_Clone_byte_byte: function 22 -/
/-- A copy. -/
def slices_Clone_byte_byte.f (l0 : List Int) : Option (List Int) := if l0.length < 140737488355328 then some l0 else none
set_option maxHeartbeats 1000000 in
theorem slices_Clone_byte_byte.calls (A0 : Option Addr) (c0 : Nat) (l0 : List Int) (r : List Int) (w : World) (hr0 : Kd.C (Kd.int .u8) w A0 l0.length l0) (hc0 : l0.length ≤ c0) (h : slices_Clone_byte_byte.f l0 = some r) :
    Calls Try.prog 22 #[.slice A0 l0.length c0] w fun e w' => ∃ v0_ : Value, e = .returned (v0_) ∧ Kd.R (Kd.int .u8) 5 w' w.heap.size (fun _ => True) v0_ r ∧ Below w.heap.size w w' := by
  have HR0 := Aside0.mk hr0
  have HC0 := Aside0.mk hc0
  unfold slices_Clone_byte_byte.f at h
  by_cases hl : l0.length < 140737488355328
  · rw [if_pos hl] at h
    obtain rfl := Option.some.inj h
    clear h
    have HB := Aside0.mk (Below.refl w.heap.size w)
    have LM := Aside0.mk hl
    clear hl
    cases A0 with
    | none =>
      have e0 : l0 = [] := by
        rcases Nat.eq_zero_or_pos l0.length with h0 | h0
        · exact List.length_eq_zero_iff.1 h0
        · obtain ⟨ad, e, _⟩ := hr0.2.2 h0
          cases e
      subst e0
      clear hr0 hc0
      have hnil := fun (w : World) => Lib.run_eql_slice_nil (P := Try.prog) w 22 5 none ([] : List Int).length c0 0 0 Try.underlying22
      simp only [Option.isNone_none, List.length_nil] at hnil
      go_enter Try.func22, Try.ntmps22
      go_wp2
      go_ret
      exact ⟨_, rfl, Kd.R_nil _ _ _ _ _, HB.out⟩
    | some ad =>
      clear hr0 hc0
      obtain ⟨y1, hy1⟩ : ∃ y_ : List Int, y_ = ([] : List Int) := ⟨_, rfl⟩
      have Ny1 := Aside0.mk hy1
      have LM2 := Aside0.mk (show y1.length + l0.length < 140737488355328 by rw [hy1]; simpa using LM.out)
      obtain ⟨y2, hy2⟩ : ∃ y_ : List Int, y_ = y1 ++ l0 := ⟨_, rfl⟩
      have Ny2 := Aside0.mk hy2
      have NE := Aside0.mk (show y2 = l0 by rw [hy2, hy1]; rfl)
      clear hy1 hy2
      have hnil := fun (w : World) => Lib.run_eql_slice_nil (P := Try.prog) w 22 5 (some ad) l0.length c0 0 0 Try.underlying22
      simp only [Option.isNone_some] at hnil
      go_enter Try.func22, Try.ntmps22
      go_wp2_with (first | ((with_reducible refine gate_dst (N := 5) rfl ?_); refine Kd.R_lit (Kd.int .u8) _ 5 ?hg (N := 5) ?hd (xs := ([] : List Int)) (inner := []) (ok := fun _ => True) (okp := fun _ => True) ?hr ?hp (fun _ hk => hk) trivial (Below.refl _ _) (Nat.le_refl _) (by simp) ?_; (case hd => rfl); (case hg => rfl); (case hr => first | (go_simp; done) | (go_simp; rfl)); (case hp => exact (Reps.none _ _)); intro v1 w3 ho4 hb hg_ hnew_; clear hg_ hnew_; rw [← Ny1.out] at ho4; have HO1 := Aside0.mk (Kd.R_lower ho4 (below_size HB.out)); have HB1 := Aside0.mk (below_step HB.out hb); clear hb ho4) | ((with_reducible refine gate_builtin (b := .append) (xs := #[.tmp 5, .tmp 6]) rfl ?_); at_builtin; refine Kd.R_append_rows (Kd.int .u8) (w0 := w) w.heap.size rfl (.tmp 5) (.tmp 6) 22 5 (.int .u8 0) 1 rfl Try.underlying22 info5 rfl (by decide) (by omega) v1 y1 l0 _ _ _ (fun _ => True) (fun _ => False) rfl rfl ?aO ?aR (fun _ _ h => h) (fun _ h => h.elim) ?aF ?aB ?aS ?aL ?_; (case aR => exact Kd.C_below HR0.out HB1.out); (case aB => exact HB1.out); (case aF => exact (fun _ _ => trivial)); (case aO => exact HO1.out); (case aS => exact below_size HB1.out); (case aL => have := LM2.out; omega); intro v2 w5 ho hb hg hat; rw [← Ny2.out] at ho; have HB2 := Aside0.mk hb; have HO2 := Aside0.mk ho; clear ho hb hg hat))
      go_ret
      exact ⟨_, rfl, by rw [← NE.out]; exact HO2.out, HB2.out⟩
  · rw [if_neg hl] at h
    exact absurd h (by simp)

/-- A state of type 45 at block g of W; what its slices lead to came in by w0. -/
def IsS45 (w0 W : World) (g : Nat) (f0 : Bool) (f1 : List Int) (f2 : Int) (f3 : Int) (f4 : Int) : Prop := ∃ A1 c1, W.heap[g]? = some (.cells #[.bool f0, .slice A1 f1.length c1, .int .i64 f2, .int .i64 f3, .int .i64 f4] 45 (0, 0)) ∧ w0.heap.size ≤ g ∧ Kd.C (Kd.int .u8) w0 A1 f1.length f1 ∧ f1.length ≤ c1
theorem IsS45.grown {w0 W : World} {g : Nat} {f0 : Bool} {f1 : List Int} {f2 : Int} {f3 : Int} {f4 : Int} {W1 : World} {row : Option Nat} (h : IsS45 w0 W g f0 f1 f2 f3 f4) (hw : W.grownBy W1 row) (hne : some g ≠ row) : IsS45 w0 W1 g f0 f1 f2 f3 f4 := by
  obtain ⟨A1, c1, hb, hg, hr1, hl1⟩ := h
  exact ⟨A1, c1, blk_grown hb hw hne, hg, hr1, hl1⟩
theorem IsS45.own_neN {w0 W : World} {g : Nat} {f0 : Bool} {f1 : List Int} {f2 : Int} {f3 : Int} {f4 : Int} {α : Type} {d : Kd α} {e : Nat} {base : Nat} {ok : Nat → Prop} {v : Value} {xs : List α} (h : IsS45 w0 W g f0 f1 f2 f3 f4) (ho : Kd.N d e W base ok v xs) (ht : e ≠ 45) : some g ≠ v.ownBlock := by
  obtain ⟨A1, c1, hb, hg, hr1, hl1⟩ := h
  exact Kd.N_ne ho hb ht
theorem IsS45.fresh {w0 W : World} {g : Nat} {f0 : Bool} {f1 : List Int} {f2 : Int} {f3 : Int} {f4 : Int} (h : IsS45 w0 W g f0 f1 f2 f3 f4) : ∀ k, W.heap.size ≤ k → k ≠ g := by
  obtain ⟨A1, c1, hb, hg, hr1, hl1⟩ := h
  exact Kd.freshB hb
theorem IsS45.kept {w0 W : World} {g : Nat} {f0 : Bool} {f1 : List Int} {f2 : Int} {f3 : Int} {f4 : Int} {W1 : World} {S : Nat → Prop} (h : IsS45 w0 W g f0 f1 f2 f3 f4) (hk : Kept W W1 S) (hne : ¬ S g) : IsS45 w0 W1 g f0 f1 f2 f3 f4 := by
  obtain ⟨A1, c1, hb, hg, hr1, hl1⟩ := h
  exact ⟨A1, c1, blk_kept hb hk hne, hg, hr1, hl1⟩
theorem IsS45.below {w0 W : World} {g : Nat} {f0 : Bool} {f1 : List Int} {f2 : Int} {f3 : Int} {f4 : Int} {W1 : World} (h : IsS45 w0 W g f0 f1 f2 f3 f4) (hw : Below W.heap.size W W1) : IsS45 w0 W1 g f0 f1 f2 f3 f4 := h.grown (grown_of_below hw none) (by simp)
theorem IsS45.alloc {w0 W : World} {g : Nat} {f0 : Bool} {f1 : List Int} {f2 : Int} {f3 : Int} {f4 : Int} (h : IsS45 w0 W g f0 f1 f2 f3 f4) (o : Obj) : IsS45 w0 (W.alloc o) g f0 f1 f2 f3 f4 := h.below (below_alloc (Below.refl _ _) o)
theorem IsS45.drewN {w0 W : World} {g : Nat} {f0 : Bool} {f1 : List Int} {f2 : Int} {f3 : Int} {f4 : Int} (h : IsS45 w0 W g f0 f1 f2 f3 f4) (m : Nat) : IsS45 w0 (W.drewN m) g f0 f1 f2 f3 f4 := h
theorem IsS45.drew {w0 W : World} {g : Nat} {f0 : Bool} {f1 : List Int} {f2 : Int} {f3 : Int} {f4 : Int} (h : IsS45 w0 W g f0 f1 f2 f3 f4) : IsS45 w0 W.drew g f0 f1 f2 f3 f4 := h
theorem IsS45.at_ {w0 W : World} {g : Nat} {f0 : Bool} {f1 : List Int} {f2 : Int} {f3 : Int} {f4 : Int} {w' : World} {m : Nat} (hq : W.drewN m = w') (h : IsS45 w0 W g f0 f1 f2 f3 f4) : IsS45 w0 w' g f0 f1 f2 f3 f4 := by subst hq; exact IsS45.drewN h m
theorem IsS45.apart {w0 W : World} {g : Nat} {f0 : Bool} {f1 : List Int} {f2 : Int} {f3 : Int} {f4 : Int} {α : Type} {d : Kd α} {e : Nat} {base : Nat} {ok : Nat → Prop} {v : Value} {xs : List α} (h : IsS45 w0 W g f0 f1 f2 f3 f4) (ho : d.R e W base ok v xs) (ht : ∀ q, q ∈ e :: d.E → q ≠ 45) : d.R e W base (fun k => ok k ∧ k ≠ g) v xs := by
  obtain ⟨A1, c1, hb, hg, hr1, hl1⟩ := h
  exact Kd.R_types ho hb ht
theorem IsS45.own_ne {w0 W : World} {g : Nat} {f0 : Bool} {f1 : List Int} {f2 : Int} {f3 : Int} {f4 : Int} {α : Type} {d : Kd α} {e : Nat} {base : Nat} {ok : Nat → Prop} {v : Value} {xs : List α} (h : IsS45 w0 W g f0 f1 f2 f3 f4) (ho : d.R e W base ok v xs) (ht : e ≠ 45) : some g ≠ v.ownBlock := by
  obtain ⟨A1, c1, hb, hg, hr1, hl1⟩ := h
  exact Kd.R_ne ho hb ht
theorem IsS45.apartQ {w0 W : World} {g : Nat} {f0 : Bool} {f1 : List Int} {f2 : Int} {f3 : Int} {f4 : Int} {α : Type} {d : Kd α} {e : Nat} {base : Nat} {ok : Nat → Prop} {v : Value} {xs : List α} (h : IsS45 w0 W g f0 f1 f2 f3 f4) (ho : d.Q e W base ok v xs) (ht : ∀ q, q ∈ e :: d.E → q ≠ 45) : d.Q e W base (fun k => ok k ∧ k ≠ g) v xs := by
  obtain ⟨A1, c1, hb, hg, hr1, hl1⟩ := h
  exact Kd.Q_types ho hb ht
theorem IsS45.own_neQ {w0 W : World} {g : Nat} {f0 : Bool} {f1 : List Int} {f2 : Int} {f3 : Int} {f4 : Int} {α : Type} {d : Kd α} {e : Nat} {base : Nat} {ok : Nat → Prop} {v : Value} {xs : List α} (h : IsS45 w0 W g f0 f1 f2 f3 f4) (ho : d.Q e W base ok v xs) (ht : e ≠ 45) : some g ≠ v.ownBlock := by
  obtain ⟨A1, c1, hb, hg, hr1, hl1⟩ := h
  exact Kd.Q_ne ho hb ht
theorem IsS45.apartS {w0 W : World} {g : Nat} {f0 : Bool} {f1 : List Int} {f2 : Int} {f3 : Int} {f4 : Int} {α : Type} {d : Kd α} {e : Nat} {base : Nat} {ok : Nat → Prop} {v : Value} {xs : List α} (h : IsS45 w0 W g f0 f1 f2 f3 f4) (ho : d.S e W base ok v xs) (ht : ∀ q, q ∈ e :: d.E → q ≠ 45) : d.S e W base (fun k => ok k ∧ k ≠ g) v xs := by
  obtain ⟨A1, c1, hb, hg, hr1, hl1⟩ := h
  exact Kd.S_types ho hb ht
theorem IsS45.own_neS {w0 W : World} {g : Nat} {f0 : Bool} {f1 : List Int} {f2 : Int} {f3 : Int} {f4 : Int} {α : Type} {d : Kd α} {e : Nat} {base : Nat} {ok : Nat → Prop} {v : Value} {xs : List α} (h : IsS45 w0 W g f0 f1 f2 f3 f4) (ho : d.S e W base ok v xs) (ht : e ≠ 45) : some g ≠ v.ownBlock := by
  obtain ⟨A1, c1, hb, hg, hr1, hl1⟩ := h
  exact Kd.S_ne ho hb ht
theorem IsS45.lt {w0 W : World} {g : Nat} {f0 : Bool} {f1 : List Int} {f2 : Int} {f3 : Int} {f4 : Int} (h : IsS45 w0 W g f0 f1 f2 f3 f4) : g < W.heap.size := by
  obtain ⟨A1, c1, hb, hg, hr1, hl1⟩ := h
  exact blk_lt hb
theorem IsS45.ge {w0 W : World} {g : Nat} {f0 : Bool} {f1 : List Int} {f2 : Int} {f3 : Int} {f4 : Int} (h : IsS45 w0 W g f0 f1 f2 f3 f4) : w0.heap.size ≤ g := by
  obtain ⟨A1, c1, hb, hg, hr1, hl1⟩ := h
  exact hg
theorem IsS45.ne_blk {w0 W : World} {g : Nat} {f0 : Bool} {f1 : List Int} {f2 : Int} {f3 : Int} {f4 : Int} {a : Nat} {cs : Array Value} {t : TypeId} {fr : Nat × Nat} (h : IsS45 w0 W g f0 f1 f2 f3 f4) (hb2 : W.heap[a]? = some (.cells cs t fr)) (ht : t ≠ 45) : g ≠ a := by
  obtain ⟨A1, c1, hb, hg, hr1, hl1⟩ := h
  rintro rfl
  rw [hb] at hb2
  injection hb2 with hb2
  injection hb2 with _ ht2
  exact ht ht2.symm
theorem IsS45.far {w0 W : World} {g : Nat} {f0 : Bool} {f1 : List Int} {f2 : Int} {f3 : Int} {f4 : Int} {p : Addr} (h : IsS45 w0 W g f0 f1 f2 f3 f4) (hne : g ≠ p.block) (u : Value) : IsS45 w0 (W.setCell p u) g f0 f1 f2 f3 f4 := by
  obtain ⟨A1, c1, hb, hg, hr1, hl1⟩ := h
  exact ⟨A1, c1, blk_far hb hne u, hg, hr1, hl1⟩
theorem cellS45_0 {W : World} {g : Nat} {A1 : Option Addr} {c1 : Nat} {f0 : Bool} {f1 : List Int} {f2 : Int} {f3 : Int} {f4 : Int} (h : W.heap[g]? = some (.cells #[.bool f0, .slice A1 f1.length c1, .int .i64 f2, .int .i64 f3, .int .i64 f4] 45 (0, 0))) : W.cell? ⟨g, 0, none⟩ = some (.bool f0) := (blk_cell h 0).trans rfl
theorem IsS45.set_0 {w0 W : World} {g : Nat} {f0 : Bool} {f1 : List Int} {f2 : Int} {f3 : Int} {f4 : Int} (h : IsS45 w0 W g f0 f1 f2 f3 f4) (x : Bool) : IsS45 w0 (W.setCell ⟨g, 0, none⟩ (.bool x)) g x f1 f2 f3 f4 := by
  obtain ⟨A1, c1, hb, hg, hr1, hl1⟩ := h
  exact ⟨A1, c1, by simpa using blk_set hb 0 (.bool x), hg, hr1, hl1⟩
theorem cellS45_1 {W : World} {g : Nat} {A1 : Option Addr} {c1 : Nat} {f0 : Bool} {f1 : List Int} {f2 : Int} {f3 : Int} {f4 : Int} (h : W.heap[g]? = some (.cells #[.bool f0, .slice A1 f1.length c1, .int .i64 f2, .int .i64 f3, .int .i64 f4] 45 (0, 0))) : W.cell? ⟨g, 1, none⟩ = some (.slice A1 f1.length c1) := (blk_cell h 1).trans rfl
theorem cellS45_2 {W : World} {g : Nat} {A1 : Option Addr} {c1 : Nat} {f0 : Bool} {f1 : List Int} {f2 : Int} {f3 : Int} {f4 : Int} (h : W.heap[g]? = some (.cells #[.bool f0, .slice A1 f1.length c1, .int .i64 f2, .int .i64 f3, .int .i64 f4] 45 (0, 0))) : W.cell? ⟨g, 2, none⟩ = some (.int .i64 f2) := (blk_cell h 2).trans rfl
theorem IsS45.set_2 {w0 W : World} {g : Nat} {f0 : Bool} {f1 : List Int} {f2 : Int} {f3 : Int} {f4 : Int} (h : IsS45 w0 W g f0 f1 f2 f3 f4) (x : Int) : IsS45 w0 (W.setCell ⟨g, 2, none⟩ (.int .i64 x)) g f0 f1 x f3 f4 := by
  obtain ⟨A1, c1, hb, hg, hr1, hl1⟩ := h
  exact ⟨A1, c1, by simpa using blk_set hb 2 (.int .i64 x), hg, hr1, hl1⟩
theorem cellS45_3 {W : World} {g : Nat} {A1 : Option Addr} {c1 : Nat} {f0 : Bool} {f1 : List Int} {f2 : Int} {f3 : Int} {f4 : Int} (h : W.heap[g]? = some (.cells #[.bool f0, .slice A1 f1.length c1, .int .i64 f2, .int .i64 f3, .int .i64 f4] 45 (0, 0))) : W.cell? ⟨g, 3, none⟩ = some (.int .i64 f3) := (blk_cell h 3).trans rfl
theorem IsS45.set_3 {w0 W : World} {g : Nat} {f0 : Bool} {f1 : List Int} {f2 : Int} {f3 : Int} {f4 : Int} (h : IsS45 w0 W g f0 f1 f2 f3 f4) (x : Int) : IsS45 w0 (W.setCell ⟨g, 3, none⟩ (.int .i64 x)) g f0 f1 f2 x f4 := by
  obtain ⟨A1, c1, hb, hg, hr1, hl1⟩ := h
  exact ⟨A1, c1, by simpa using blk_set hb 3 (.int .i64 x), hg, hr1, hl1⟩
theorem cellS45_4 {W : World} {g : Nat} {A1 : Option Addr} {c1 : Nat} {f0 : Bool} {f1 : List Int} {f2 : Int} {f3 : Int} {f4 : Int} (h : W.heap[g]? = some (.cells #[.bool f0, .slice A1 f1.length c1, .int .i64 f2, .int .i64 f3, .int .i64 f4] 45 (0, 0))) : W.cell? ⟨g, 4, none⟩ = some (.int .i64 f4) := (blk_cell h 4).trans rfl
theorem IsS45.set_4 {w0 W : World} {g : Nat} {f0 : Bool} {f1 : List Int} {f2 : Int} {f3 : Int} {f4 : Int} (h : IsS45 w0 W g f0 f1 f2 f3 f4) (x : Int) : IsS45 w0 (W.setCell ⟨g, 4, none⟩ (.int .i64 x)) g f0 f1 f2 f3 x := by
  obtain ⟨A1, c1, hb, hg, hr1, hl1⟩ := h
  exact ⟨A1, c1, by simpa using blk_set hb 4 (.int .i64 x), hg, hr1, hl1⟩
theorem IsS45.new (w0 W : World) (A1 : Option Addr) (c1 : Nat) (f0 : Bool) (f1 : List Int) (f2 : Int) (f3 : Int) (f4 : Int) (hB : Below w0.heap.size w0 W) (hr1 : Kd.C (Kd.int .u8) w0 A1 f1.length f1) (hl1 : f1.length ≤ c1) : IsS45 w0 (W.alloc (.cells #[.bool f0, .slice A1 f1.length c1, .int .i64 f2, .int .i64 f3, .int .i64 f4] 45)) W.heap.size f0 f1 f2 f3 f4 := ⟨A1, c1, by simpa using heap_alloc_new W _, hB.size, hr1, hl1⟩

/-! ### cur_New: function 9 -/
/-- A cursor at the begin of a copy. -/
def cur_New.f (l0 : List Int) : Option (Bool × List Int × Int × Int × Int) := if l0.length < 140737488355328 then some (true, l0, 0, 0, 0) else none
set_option maxHeartbeats 1000000 in
set_option maxRecDepth 100000 in
theorem cur_New.calls (A0 : Option Addr) (c0 : Nat) (l0 : List Int) (r1 : Bool) (r2 : List Int) (r3 : Int) (r4 : Int) (r5 : Int) (w : World) (hr0 : Kd.C (Kd.int .u8) w A0 l0.length l0) (hc0 : l0.length ≤ c0) (h : cur_New.f l0 = some (r1, r2, r3, r4, r5)) :
    Calls Try.prog 9 #[.slice A0 l0.length c0] w fun e w' => ∃ w1 : World, ∃ g_ : Nat, Below w.heap.size w w1 ∧ e = .returned (.pointer (some ⟨g_, 0, none⟩)) ∧ IsS45 w1 w' g_ r1 r2 r3 r4 r5 ∧ Below w1.heap.size w1 w' ∧ Below w.heap.size w w' := by
  have HR0 := Aside0.mk hr0
  have HC0 := Aside0.mk hc0
  clear hr0 hc0
  unfold cur_New.f at h
  by_cases hl : l0.length < 140737488355328
  · rw [if_pos hl] at h
    simp only [Option.some.injEq, Prod.mk.injEq] at h
    obtain ⟨rfl, rfl, rfl, rfl, rfl⟩ := h
    have HF := Aside0.mk (show slices_Clone_byte_byte.f l0 = some l0 from if_pos hl)
    clear hl
    go_enter Try.func9, Try.ntmps9
    go_wp2_with (first | (go_at_call 22; (with_reducible refine (slices_Clone_byte_byte.calls A0 c0 l0 l0 _ HR0.out HC0.out HF.out).mono ?_); rintro e w2 ⟨v2, rfl, ho, hb⟩; obtain ⟨A2, c2, rfl, hl2, hC2⟩ := Kd.R_reads ho; have HB2 := Aside0.mk hb; have HC2 := Aside0.mk hC2; have HM2 := Aside0.mk hl2; clear ho hb hl2 hC2))
    go_ret
    exact ⟨_, _, HB2.out, rfl, IsS45.new _ _ A2 c2 true l0 0 0 0 (Below.refl _ _) HC2.out HM2.out, below_alloc (Below.refl _ _) _, below_alloc HB2.out _⟩
  · rw [if_neg hl] at h
    exact absurd h (by simp)

/-! ### cur_Cursor_Fault: function 11 -/
def cur_Cursor_Fault.f (s0_0 : Bool) (s0_1 : List Int) (s0_2 : Int) (s0_3 : Int) (s0_4 : Int) : Option (Int × Int × Bool × Int × Int × Int) := if s0_0 = true then (some (s0_3, s0_4, s0_0, s0_2, s0_3, s0_4)) else (some (2, 0, s0_0, s0_2, s0_3, s0_4))
set_option maxHeartbeats 8000000 in
set_option maxRecDepth 100000 in
theorem cur_Cursor_Fault.calls (g : Nat) (s0_0 : Bool) (s0_1 : List Int) (s0_2 : Int) (s0_3 : Int) (s0_4 : Int) (r1 : Int) (r2 : Int) (r3 : Bool) (r4 : Int) (r5 : Int) (r6 : Int) (w0 w : World) (hI : IsS45 w0 w g s0_0 s0_1 s0_2 s0_3 s0_4) (hB : Below w0.heap.size w0 w) (h : cur_Cursor_Fault.f s0_0 s0_1 s0_2 s0_3 s0_4 = some (r1, r2, r3, r4, r5, r6)) :
    Calls Try.prog 11 #[.pointer (some ⟨g, 0, none⟩)] w fun e w' => e = .returned (.agg #[.int .i64 r1, .int .i64 r2]) ∧ IsS45 w0 w' g r3 s0_1 r4 r5 r6 ∧ Below w0.heap.size w0 w' ∧ KeepBut w w' g none := by
  have hu29 := Try.underlying29
  have HI0 := Aside0.mk hI
  have HK := Aside0.mk (KeepBut.refl w g none)
  have HL := Aside0.mk hB.size
  clear hI
  have HW0 := Aside0.mk hB.size
  have HB := Aside0.mk hB
  clear hB
  have H : (if s0_0 = true then (some (s0_3, s0_4, s0_0, s0_2, s0_3, s0_4)) else (some (2, 0, s0_0, s0_2, s0_3, s0_4))) = some (r1, r2, r3, r4, r5, r6) := h
  clear h
  by_cases c2 : s0_0 = true
  · subst c2
    have H1 : (some (s0_3, s0_4, true, s0_2, s0_3, s0_4)) = some (r1, r2, r3, r4, r5, r6) := by rw [if_pos rfl] at H; exact H
    clear H
    have H := H1
    clear H1
    simp only [Option.some.injEq, Prod.mk.injEq] at H
    obtain ⟨rfl, rfl, rfl, rfl, rfl, rfl⟩ := H
    go_enter Try.func11, Try.ntmps11
    go_wp2_with (first | ((with_reducible refine gate_dst (N := 2) rfl ?_); refine box_event ?hg (N := 2) ?hd (cs := #[.int .i64 0, .int .i64 0]) (t := 29) ?hr ?_; (case hd => rfl); (case hg => rfl); (case hr => first | (go_simp; done) | (go_simp; rfl)); intro gb101 hg w3 hbox hb; have n0_ := Aside0.mk (IsS45.below (by repeat (first | (with_reducible first | exact HI0.out | apply IsS45.alloc | apply IsS45.drewN | apply IsS45.drew | apply IsS45.set_0 | apply IsS45.set_2 | apply IsS45.set_3 | apply IsS45.set_4) | exact HI0.out)) hb); have n1_ := Aside0.mk (KeepBut.trans (by repeat (first | (with_reducible first | exact HK.out | apply KeepBut.set_ | apply keep_drewN | apply keep_drew | apply keep_alloc) | exact HK.out)) (KeepBut.of_below hb g none) (.inl rfl)); have n2_ := Aside0.mk (below_step (by repeat (first | (with_reducible first | exact HB.out | apply below_alloc | apply pw_below_drewN | apply below_drew1 | refine below_set ?_ (IsS45.ge HI0.out)) | exact HB.out)) hb); have n3_ := Aside0.mk (hbox); have n4_ := Aside0.mk ((by rw [hg]; exact (keep_size (w := w) (g := g) (row := none) (by repeat (first | (with_reducible first | exact HK.out | apply KeepBut.set_ | apply keep_drewN | apply keep_drew | apply keep_alloc) | exact HK.out))) : w.heap.size ≤ gb101)); have n5_ := Aside0.mk ((Nat.le_trans HW0.out (by rw [hg]; exact (keep_size (w := w) (g := g) (row := none) (by repeat (first | (with_reducible first | exact HK.out | apply KeepBut.set_ | apply keep_drewN | apply keep_drew | apply keep_alloc) | exact HK.out))) : w.heap.size ≤ gb101) : w0.heap.size ≤ gb101)); have n6_ := Aside0.mk ((by rw [hg]; exact Nat.ne_of_lt (IsS45.lt (show IsS45 w0 _ g true s0_1 s0_2 s0_3 s0_4 from by repeat (first | (with_reducible first | exact HI0.out | apply IsS45.alloc | apply IsS45.drewN | apply IsS45.drew | apply IsS45.set_0 | apply IsS45.set_2 | apply IsS45.set_3 | apply IsS45.set_4) | exact HI0.out))) : g ≠ gb101)); have n7_ := Aside0.mk ((by rw [hg]; exact Nat.ne_of_gt (IsS45.lt (show IsS45 w0 _ g true s0_1 s0_2 s0_3 s0_4 from by repeat (first | (with_reducible first | exact HI0.out | apply IsS45.alloc | apply IsS45.drewN | apply IsS45.drew | apply IsS45.set_0 | apply IsS45.set_2 | apply IsS45.set_3 | apply IsS45.set_4) | exact HI0.out))) : gb101 ≠ g)); clear HI0; clear HK; clear HB; have HI0 := n0_; have HK := n1_; have HB := n2_; have BK101 := n3_; have GW101 := n4_; have GE101 := n5_; have NB0_101 := n6_; have NB101_0 := n7_; clear n0_ n1_ n2_ n3_ n4_ n5_ n6_ n7_; clear hb hbox hg; obtain ⟨ASz4_1, cSz4_1, HGz4, hgz4, HSz4_1, HMz4_1⟩ := HI0.out; have hcz4_0 := cellS45_0 HGz4; have hcz4_1 := cellS45_1 HGz4; have hcz4_2 := cellS45_2 HGz4; have hcz4_3 := cellS45_3 HGz4; have hcz4_4 := cellS45_4 HGz4; have hfz4_0 := blk_frozen HGz4 0; have hfz4_2 := blk_frozen HGz4 2; have hfz4_3 := blk_frozen HGz4 3; have hfz4_4 := blk_frozen HGz4 4; clear HGz4 hgz4; have hnb5 := NB101_0.out; have hnc5 := NB0_101.out; have hcz6_0 : w3.cell? ⟨gb101, 0, none⟩ = some (.int .i64 0) := (blk_cell BK101.out 0).trans rfl; have hcz6_1 : w3.cell? ⟨gb101, 1, none⟩ = some (.int .i64 0) := (blk_cell BK101.out 1).trans rfl; have hfz6_0 := blk_frozen BK101.out 0; have hfz6_1 := blk_frozen BK101.out 1))
    refine bodyPost_ret (results_cell_row rfl _ _ gb101 29 #[.int .i64 s0_3, .int .i64 s0_4] (0, 0) _ rfl (by (with_reducible repeat (first | refine blk_drewN ?_ _ | refine blk_drew ?_ | refine blk_alloc ?_ _)); refine blk_put (cs := #[.int .i64 s0_3, .int .i64 0]) ?_ 1 _ rfl; (with_reducible repeat (first | refine blk_drewN ?_ _ | refine blk_drew ?_ | refine blk_alloc ?_ _)); refine blk_put (cs := #[.int .i64 0, .int .i64 0]) ?_ 0 _ rfl; (with_reducible repeat (first | refine blk_drewN ?_ _ | refine blk_drew ?_ | refine blk_alloc ?_ _)); exact BK101.out) Try.underlying29 rfl (by kernel_rfl)) rfl ?_
    exact ⟨by first | rfl | (simp [errW_none, errW_some] <;> rfl) | (simp [*, errW_none, errW_some] <;> rfl), by repeat (first | (with_reducible first | exact HI0.out | apply IsS45.alloc | apply IsS45.drewN | apply IsS45.drew | apply IsS45.set_0 | apply IsS45.set_2 | apply IsS45.set_3 | apply IsS45.set_4 | refine IsS45.far ?_ NB0_101.out _) | exact HI0.out), by repeat (first | (with_reducible first | exact HB.out | apply below_alloc | apply pw_below_drewN | apply below_drew1 | refine below_set ?_ (IsS45.ge HI0.out) | refine below_set ?_ GE101.out) | exact HB.out), by repeat (first | (with_reducible first | exact HK.out | apply KeepBut.set_ | apply keep_drewN | apply keep_drew | apply keep_alloc | refine keep_far ?_ GW101.out _) | exact HK.out)⟩
  · replace c2 := Bool.eq_false_iff.mpr c2
    subst c2
    have H1 : (some (2, 0, false, s0_2, s0_3, s0_4)) = some (r1, r2, r3, r4, r5, r6) := by rw [if_neg (show ¬ (false = true) by decide)] at H; exact H
    clear H
    have H := H1
    clear H1
    simp only [Option.some.injEq, Prod.mk.injEq] at H
    obtain ⟨rfl, rfl, rfl, rfl, rfl, rfl⟩ := H
    go_enter Try.func11, Try.ntmps11
    go_wp2_with (first | ((with_reducible refine gate_dst (N := 2) rfl ?_); refine box_event ?hg (N := 2) ?hd (cs := #[.int .i64 0, .int .i64 0]) (t := 29) ?hr ?_; (case hd => rfl); (case hg => rfl); (case hr => first | (go_simp; done) | (go_simp; rfl)); intro gb101 hg w7 hbox hb; have n0_ := Aside0.mk (IsS45.below (by repeat (first | (with_reducible first | exact HI0.out | apply IsS45.alloc | apply IsS45.drewN | apply IsS45.drew | apply IsS45.set_0 | apply IsS45.set_2 | apply IsS45.set_3 | apply IsS45.set_4) | exact HI0.out)) hb); have n1_ := Aside0.mk (KeepBut.trans (by repeat (first | (with_reducible first | exact HK.out | apply KeepBut.set_ | apply keep_drewN | apply keep_drew | apply keep_alloc) | exact HK.out)) (KeepBut.of_below hb g none) (.inl rfl)); have n2_ := Aside0.mk (below_step (by repeat (first | (with_reducible first | exact HB.out | apply below_alloc | apply pw_below_drewN | apply below_drew1 | refine below_set ?_ (IsS45.ge HI0.out)) | exact HB.out)) hb); have n3_ := Aside0.mk (hbox); have n4_ := Aside0.mk ((by rw [hg]; exact (keep_size (w := w) (g := g) (row := none) (by repeat (first | (with_reducible first | exact HK.out | apply KeepBut.set_ | apply keep_drewN | apply keep_drew | apply keep_alloc) | exact HK.out))) : w.heap.size ≤ gb101)); have n5_ := Aside0.mk ((Nat.le_trans HW0.out (by rw [hg]; exact (keep_size (w := w) (g := g) (row := none) (by repeat (first | (with_reducible first | exact HK.out | apply KeepBut.set_ | apply keep_drewN | apply keep_drew | apply keep_alloc) | exact HK.out))) : w.heap.size ≤ gb101) : w0.heap.size ≤ gb101)); have n6_ := Aside0.mk ((by rw [hg]; exact Nat.ne_of_lt (IsS45.lt (show IsS45 w0 _ g false s0_1 s0_2 s0_3 s0_4 from by repeat (first | (with_reducible first | exact HI0.out | apply IsS45.alloc | apply IsS45.drewN | apply IsS45.drew | apply IsS45.set_0 | apply IsS45.set_2 | apply IsS45.set_3 | apply IsS45.set_4) | exact HI0.out))) : g ≠ gb101)); have n7_ := Aside0.mk ((by rw [hg]; exact Nat.ne_of_gt (IsS45.lt (show IsS45 w0 _ g false s0_1 s0_2 s0_3 s0_4 from by repeat (first | (with_reducible first | exact HI0.out | apply IsS45.alloc | apply IsS45.drewN | apply IsS45.drew | apply IsS45.set_0 | apply IsS45.set_2 | apply IsS45.set_3 | apply IsS45.set_4) | exact HI0.out))) : gb101 ≠ g)); clear HI0; clear HK; clear HB; have HI0 := n0_; have HK := n1_; have HB := n2_; have BK101 := n3_; have GW101 := n4_; have GE101 := n5_; have NB0_101 := n6_; have NB101_0 := n7_; clear n0_ n1_ n2_ n3_ n4_ n5_ n6_ n7_; clear hb hbox hg; obtain ⟨ASz8_1, cSz8_1, HGz8, hgz8, HSz8_1, HMz8_1⟩ := HI0.out; have hcz8_0 := cellS45_0 HGz8; have hcz8_1 := cellS45_1 HGz8; have hcz8_2 := cellS45_2 HGz8; have hcz8_3 := cellS45_3 HGz8; have hcz8_4 := cellS45_4 HGz8; have hfz8_0 := blk_frozen HGz8 0; have hfz8_2 := blk_frozen HGz8 2; have hfz8_3 := blk_frozen HGz8 3; have hfz8_4 := blk_frozen HGz8 4; clear HGz8 hgz8; have hnb9 := NB101_0.out; have hnc9 := NB0_101.out; have hcz10_0 : w7.cell? ⟨gb101, 0, none⟩ = some (.int .i64 0) := (blk_cell BK101.out 0).trans rfl; have hcz10_1 : w7.cell? ⟨gb101, 1, none⟩ = some (.int .i64 0) := (blk_cell BK101.out 1).trans rfl; have hfz10_0 := blk_frozen BK101.out 0; have hfz10_1 := blk_frozen BK101.out 1))
    refine bodyPost_ret (results_cell_row rfl _ _ gb101 29 #[.int .i64 2, .int .i64 0] (0, 0) _ rfl (by (with_reducible repeat (first | refine blk_drewN ?_ _ | refine blk_drew ?_ | refine blk_alloc ?_ _)); refine blk_put (cs := #[.int .i64 2, .int .i64 0]) ?_ 1 _ rfl; (with_reducible repeat (first | refine blk_drewN ?_ _ | refine blk_drew ?_ | refine blk_alloc ?_ _)); refine blk_put (cs := #[.int .i64 0, .int .i64 0]) ?_ 0 _ rfl; (with_reducible repeat (first | refine blk_drewN ?_ _ | refine blk_drew ?_ | refine blk_alloc ?_ _)); exact BK101.out) Try.underlying29 rfl (by kernel_rfl)) rfl ?_
    exact ⟨by first | rfl | (simp [errW_none, errW_some] <;> rfl) | (simp [*, errW_none, errW_some] <;> rfl), by repeat (first | (with_reducible first | exact HI0.out | apply IsS45.alloc | apply IsS45.drewN | apply IsS45.drew | apply IsS45.set_0 | apply IsS45.set_2 | apply IsS45.set_3 | apply IsS45.set_4 | refine IsS45.far ?_ NB0_101.out _) | exact HI0.out), by repeat (first | (with_reducible first | exact HB.out | apply below_alloc | apply pw_below_drewN | apply below_drew1 | refine below_set ?_ (IsS45.ge HI0.out) | refine below_set ?_ GE101.out) | exact HB.out), by repeat (first | (with_reducible first | exact HK.out | apply KeepBut.set_ | apply keep_drewN | apply keep_drew | apply keep_alloc | refine keep_far ?_ GW101.out _) | exact HK.out)⟩

/-! ### cur_Cursor_well: function 23 -/
def cur_Cursor_well.f (s0_0 : Bool) (s0_1 : List Int) (s0_2 : Int) (s0_3 : Int) (s0_4 : Int) : Option (Bool × Bool × Int × Int × Int) := (cur_Cursor_Fault.f s0_0 s0_1 s0_2 s0_3 s0_4).bind fun bt102 => (some ((bt102.1 == 0 && (bt102.2.1 == 0)), bt102.2.2.1, bt102.2.2.2.1, bt102.2.2.2.2.1, bt102.2.2.2.2.2))
set_option maxHeartbeats 8000000 in
set_option maxRecDepth 100000 in
theorem cur_Cursor_well.calls (g : Nat) (s0_0 : Bool) (s0_1 : List Int) (s0_2 : Int) (s0_3 : Int) (s0_4 : Int) (r1 : Bool) (r2 : Bool) (r3 : Int) (r4 : Int) (r5 : Int) (w0 w : World) (hI : IsS45 w0 w g s0_0 s0_1 s0_2 s0_3 s0_4) (hB : Below w0.heap.size w0 w) (h : cur_Cursor_well.f s0_0 s0_1 s0_2 s0_3 s0_4 = some (r1, r2, r3, r4, r5)) :
    Calls Try.prog 23 #[.pointer (some ⟨g, 0, none⟩)] w fun e w' => e = .returned (.bool r1) ∧ IsS45 w0 w' g r2 s0_1 r3 r4 r5 ∧ Below w0.heap.size w0 w' ∧ KeepBut w w' g none := by
  have hu29 := Try.underlying29
  have HI0 := Aside0.mk hI
  have HK := Aside0.mk (KeepBut.refl w g none)
  have HL := Aside0.mk hB.size
  clear hI
  have HW0 := Aside0.mk hB.size
  have HB := Aside0.mk hB
  clear hB
  have H : ((cur_Cursor_Fault.f s0_0 s0_1 s0_2 s0_3 s0_4).bind fun bt102 => (some ((bt102.1 == 0 && (bt102.2.1 == 0)), bt102.2.2.1, bt102.2.2.2.1, bt102.2.2.2.2.1, bt102.2.2.2.2.2))) = some (r1, r2, r3, r4, r5) := h
  clear h
  replace H := Option.bind_eq_some_iff.mp H
  obtain ⟨⟨t102, t103, t104, t105, t106, t107⟩, A20, H⟩ := H
  replace H : (some ((t102 == 0 && (t103 == 0)), t104, t105, t106, t107)) = some (r1, r2, r3, r4, r5) := H
  have A2 := Aside0.mk A20
  clear A20
  simp only [Option.some.injEq, Prod.mk.injEq] at H
  obtain ⟨rfl, rfl, rfl, rfl, rfl⟩ := H
  go_enter Try.func23, Try.ntmps23
  go_wp2_with (first | ((with_reducible refine gate_callee (f := 11) rfl ?_); refine goesL_ (some 4) rfl rfl Try.func11 (by kernel_rfl) rfl #[.pointer (some ⟨g, 0, none⟩)] rfl (by (try simp only [List.map_toArray, List.map_cons, List.map_nil]); first | done | rfl | (simp only [List.length_drop, List.length_take]; rfl)) ?_; (with_reducible refine (cur_Cursor_Fault.calls g s0_0 s0_1 s0_2 s0_3 s0_4 t102 t103 t104 t105 t106 t107 w0 _ ?side1 ?side2 A2.out).mono ?_); (case side1 => repeat (first | (with_reducible first | exact HI0.out | apply IsS45.alloc | apply IsS45.drewN | apply IsS45.drew | apply IsS45.set_0 | apply IsS45.set_2 | apply IsS45.set_3 | apply IsS45.set_4) | exact HI0.out)); (case side2 => repeat (first | (with_reducible first | exact HB.out | apply below_alloc | apply pw_below_drewN | apply below_drew1 | refine below_set ?_ (IsS45.ge HI0.out)) | exact HB.out)); rintro e w3 ⟨rfl, hi, hb, hk⟩; refine ⟨_, rfl, ?_⟩; have n0_ := Aside0.mk (KeepBut.trans (by repeat (first | (with_reducible first | exact HK.out | apply KeepBut.set_ | apply keep_drewN | apply keep_drew | apply keep_alloc) | exact HK.out)) hk (.inl rfl)); have n1_ := Aside0.mk (hb); have n2_ := Aside0.mk (hi); clear HK; clear HB; clear HI0; have HK := n0_; have HB := n1_; have HI0 := n2_; clear n0_ n1_ n2_; (try clear hb); (try clear hb2); (try clear hk); (try clear hi)))
  go_ret
  exact ⟨by first | rfl | (simp [errW_none, errW_some] <;> rfl) | (simp [*, errW_none, errW_some] <;> rfl), by repeat (first | (with_reducible first | exact HI0.out | apply IsS45.alloc | apply IsS45.drewN | apply IsS45.drew | apply IsS45.set_0 | apply IsS45.set_2 | apply IsS45.set_3 | apply IsS45.set_4) | exact HI0.out), by repeat (first | (with_reducible first | exact HB.out | apply below_alloc | apply pw_below_drewN | apply below_drew1 | refine below_set ?_ (IsS45.ge HI0.out)) | exact HB.out), by repeat (first | (with_reducible first | exact HK.out | apply KeepBut.set_ | apply keep_drewN | apply keep_drew | apply keep_alloc) | exact HK.out)⟩

/-! ### cur_Cursor_needs: function 24 -/
def cur_Cursor_needs.f (s0_0 : Bool) (s0_1 : List Int) (s0_2 : Int) (s0_3 : Int) (s0_4 : Int) (a1 : Bool) (a2 : Int) (a3 : Int) : Option (Bool × Bool × Int × Int × Int) := if a1 = true then (some (a1, s0_0, s0_2, s0_3, s0_4)) else (some (a1, s0_0, s0_2, a2, a3))
set_option maxHeartbeats 8000000 in
set_option maxRecDepth 100000 in
theorem cur_Cursor_needs.calls (g : Nat) (s0_0 : Bool) (s0_1 : List Int) (s0_2 : Int) (s0_3 : Int) (s0_4 : Int) (a1 : Bool) (a2 : Int) (a3 : Int) (r1 : Bool) (r2 : Bool) (r3 : Int) (r4 : Int) (r5 : Int) (w0 w : World) (hI : IsS45 w0 w g s0_0 s0_1 s0_2 s0_3 s0_4) (hB : Below w0.heap.size w0 w) (h : cur_Cursor_needs.f s0_0 s0_1 s0_2 s0_3 s0_4 a1 a2 a3 = some (r1, r2, r3, r4, r5)) :
    Calls Try.prog 24 #[.pointer (some ⟨g, 0, none⟩), .bool a1, .int .i64 a2, .int .i64 a3] w fun e w' => e = .returned (.bool r1) ∧ IsS45 w0 w' g r2 s0_1 r3 r4 r5 ∧ Below w0.heap.size w0 w' ∧ KeepBut w w' g none := by
  have hu29 := Try.underlying29
  have HI0 := Aside0.mk hI
  have HK := Aside0.mk (KeepBut.refl w g none)
  have HL := Aside0.mk hB.size
  clear hI
  have HW0 := Aside0.mk hB.size
  have HB := Aside0.mk hB
  clear hB
  have H : (if a1 = true then (some (a1, s0_0, s0_2, s0_3, s0_4)) else (some (a1, s0_0, s0_2, a2, a3))) = some (r1, r2, r3, r4, r5) := h
  clear h
  by_cases c5 : a1 = true
  · subst c5
    have H1 : (some (true, s0_0, s0_2, s0_3, s0_4)) = some (r1, r2, r3, r4, r5) := by rw [if_pos rfl] at H; exact H
    clear H
    have H := H1
    clear H1
    simp only [Option.some.injEq, Prod.mk.injEq] at H
    obtain ⟨rfl, rfl, rfl, rfl, rfl⟩ := H
    go_enter Try.func24, Try.ntmps24
    go_wp2
    go_ret
    exact ⟨by first | rfl | (simp [errW_none, errW_some] <;> rfl) | (simp [*, errW_none, errW_some] <;> rfl), by repeat (first | (with_reducible first | exact HI0.out | apply IsS45.alloc | apply IsS45.drewN | apply IsS45.drew | apply IsS45.set_0 | apply IsS45.set_2 | apply IsS45.set_3 | apply IsS45.set_4) | exact HI0.out), by repeat (first | (with_reducible first | exact HB.out | apply below_alloc | apply pw_below_drewN | apply below_drew1 | refine below_set ?_ (IsS45.ge HI0.out)) | exact HB.out), by repeat (first | (with_reducible first | exact HK.out | apply KeepBut.set_ | apply keep_drewN | apply keep_drew | apply keep_alloc) | exact HK.out)⟩
  · replace c5 := Bool.eq_false_iff.mpr c5
    subst c5
    have H1 : (some (false, s0_0, s0_2, a2, a3)) = some (r1, r2, r3, r4, r5) := by rw [if_neg (show ¬ (false = true) by decide)] at H; exact H
    clear H
    have H := H1
    clear H1
    simp only [Option.some.injEq, Prod.mk.injEq] at H
    obtain ⟨rfl, rfl, rfl, rfl, rfl⟩ := H
    obtain ⟨ASz6_1, cSz6_1, HGz6, hgz6, HSz6_1, HMz6_1⟩ := HI0.out
    have hcz6_0 := cellS45_0 HGz6
    have hcz6_1 := cellS45_1 HGz6
    have hcz6_2 := cellS45_2 HGz6
    have hcz6_3 := cellS45_3 HGz6
    have hcz6_4 := cellS45_4 HGz6
    have hfz6_0 := blk_frozen HGz6 0
    have hfz6_2 := blk_frozen HGz6 2
    have hfz6_3 := blk_frozen HGz6 3
    have hfz6_4 := blk_frozen HGz6 4
    clear HGz6 hgz6
    go_enter Try.func24, Try.ntmps24
    go_wp2
    go_ret
    exact ⟨by first | rfl | (simp [errW_none, errW_some] <;> rfl) | (simp [*, errW_none, errW_some] <;> rfl), by repeat (first | (with_reducible first | exact HI0.out | apply IsS45.alloc | apply IsS45.drewN | apply IsS45.drew | apply IsS45.set_0 | apply IsS45.set_2 | apply IsS45.set_3 | apply IsS45.set_4) | exact HI0.out), by repeat (first | (with_reducible first | exact HB.out | apply below_alloc | apply pw_below_drewN | apply below_drew1 | refine below_set ?_ (IsS45.ge HI0.out)) | exact HB.out), by repeat (first | (with_reducible first | exact HK.out | apply KeepBut.set_ | apply keep_drewN | apply keep_drew | apply keep_alloc) | exact HK.out)⟩

/-! ### cur_Cursor_Short: function 10 -/
/-- The number that begins at a place, the place behind it; else the error, and where it is. -/
def cur_Cursor_Short.g (at_ : Int) : List Int → Int → Int → Int × Int × Int × Int
  | [], i, _ => (0, at_, 3, at_ + i)
  | x :: t, i, n => if (i = 0 ∧ x = 128) ∨ (i = 9 ∧ x > 127) ∨ n / 144115188075855872 > 0 then (0, at_, 5, at_ + i) else if x < 128 then (Go.bits .or .u64 (IntKind.u64.wrap (n * 128)) (IntKind.u64.wrap (Go.bits .and .u8 x 127)), at_ + i + 1, 0, 0) else cur_Cursor_Short.g at_ t (i + 1) (Go.bits .or .u64 (IntKind.u64.wrap (n * 128)) (IntKind.u64.wrap (Go.bits .and .u8 x 127)))
def cur_Cursor_Short.f (s0 : Bool) (s1 : List Int) (s2 s3 s4 : Int) : Option (Int × Bool × Int × Int × Int) := if s0 = true ∧ s3 = 0 ∧ s4 = 0 then (if 0 ≤ s2 ∧ s2 ≤ s1.length ∧ s1.length < 4611686018427387904 then some ((cur_Cursor_Short.g s2 (s1.drop s2.toNat) 0 0).1, s0, (cur_Cursor_Short.g s2 (s1.drop s2.toNat) 0 0).2.1, (cur_Cursor_Short.g s2 (s1.drop s2.toNat) 0 0).2.2.1, (cur_Cursor_Short.g s2 (s1.drop s2.toNat) 0 0).2.2.2) else none) else some (0, s0, s2, s3, s4)
theorem cur_Cursor_Short.well (s0 : Bool) (s1 : List Int) (s2 s3 s4 : Int) : cur_Cursor_well.f s0 s1 s2 s3 s4 = some (decide (s0 = true ∧ s3 = 0 ∧ s4 = 0), s0, s2, s3, s4) := by
  unfold cur_Cursor_well.f cur_Cursor_Fault.f
  by_cases h : s0 = true
  · rw [if_pos h]
    simp [h]
    by_cases h3 : s3 = 0 <;> by_cases h4 : s4 = 0 <;> simp [h3, h4]
  · rw [if_neg h]
    simp [h]
set_option maxHeartbeats 8000000 in
set_option maxRecDepth 100000 in
theorem cur_Cursor_Short.calls (g : Nat) (s0_0 : Bool) (s0_1 : List Int) (s0_2 : Int) (s0_3 : Int) (s0_4 : Int) (r1 : Int) (r2 : Bool) (r3 : Int) (r4 : Int) (r5 : Int) (w0 w : World) (hI : IsS45 w0 w g s0_0 s0_1 s0_2 s0_3 s0_4) (hB : Below w0.heap.size w0 w) (h : cur_Cursor_Short.f s0_0 s0_1 s0_2 s0_3 s0_4 = some (r1, r2, r3, r4, r5)) :
    Calls Try.prog 10 #[.pointer (some ⟨g, 0, none⟩)] w fun e w' => e = .returned (.int .u64 r1) ∧ IsS45 w0 w' g r2 s0_1 r3 r4 r5 ∧ Below w0.heap.size w0 w' ∧ KeepBut w w' g none := by
  have HI0 := Aside0.mk hI
  have HB0 := Aside0.mk hB
  have HL := Aside0.mk hI.ge
  have HW := Aside0.mk (cur_Cursor_Short.well s0_0 s0_1 s0_2 s0_3 s0_4)
  clear hI hB
  unfold cur_Cursor_Short.f at h
  by_cases hok : s0_0 = true ∧ s0_3 = 0 ∧ s0_4 = 0
  · rw [if_pos hok] at h
    by_cases hr : 0 ≤ s0_2 ∧ s0_2 ≤ s0_1.length ∧ s0_1.length < 4611686018427387904
    · rw [if_pos hr] at h
      simp only [Option.some.injEq, Prod.mk.injEq] at h
      obtain ⟨ra, rb, rc, rd, re⟩ := h
      subst rb
      have hT : cur_Cursor_Short.g s0_2 (s0_1.drop s0_2.toNat) 0 0 = (r1, r3, r4, r5) := Prod.ext ra (Prod.ext rc (Prod.ext rd re))
      clear ra rc rd re
      have HT := Aside0.mk hT
      obtain ⟨hr1, hr2, hr3⟩ := hr
      have hdec := decide_eq_true hok
      rw [hdec] at HW
      have HOK := Aside0.mk hok
      clear hok hdec hT
      obtain ⟨i08, hi08, _, hsz8, _⟩ := info_parts info5
      go_enter Try.func10, Try.ntmps10
      go_wp2_with (first | (go_at_call 23; (with_reducible refine (cur_Cursor_well.calls g s0_0 s0_1 s0_2 s0_3 s0_4 _ _ _ _ _ w0 _ HI0.out HB0.out HW.out).mono ?_); rintro e w2 ⟨rfl, hi, hb, hk⟩; have HI2 := Aside0.mk hi; have HB2 := Aside0.mk hb; have HK2 := Aside0.mk hk; clear hb hk; obtain ⟨A1, c1, hblk, _, hC1, hM1⟩ := hi; have hcz1 := cellS45_1 hblk; have hcz2 := cellS45_2 hblk; obtain ⟨A8, hcut8, hA8, hC8⟩ := print_drop_of (P := Try.prog) (Value.int .u8) 0 22 5 .i64 Try.underlying22 hi08 hsz8 A1 c1 s0_1 s0_2 hr1 hr2 hM1; have HR8 := Aside0.mk (Kd.C_of_reads (h1 := fun _ => rfl) (hA8 _ (Kd.reads_of_C hC1))); clear hblk hC1 hM1 hA8 hC8))
      repeat (go_quiet (fail); try go_wp2)
      clear hcz1 hcz2 hcut8
      have HI3 := Aside0.mk (IsS45.drewN HI2.out nq)
      have HB3 := Aside0.mk (pw_below_drewN HB2.out nq)
      have HK3 := Aside0.mk (keep_drewN HK2.out nq)
      generalize w2.drewN nq = w3 at HI3 HB3 HK3 ⊢
      obtain ⟨L, hL⟩ : ∃ L : List Int, L = s0_1.drop s0_2.toNat := ⟨_, rfl⟩
      have hLl : s0_1.length - s0_2.toNat = L.length := by rw [hL, List.length_drop]
      rw [← hL] at HT HR8
      rw [hLl]
      have HLl := Aside0.mk hLl
      clear hL hLl HI2 HB2 HK2
      go_loopg [3, 19] L.length (fun kq v3 v19 w' => ∃ (i : Nat) (n : Int), v3 = .int .u64 n ∧ v19 = .int .i64 i ∧ Aside0 (i + kq = L.length) ∧ Aside0 (cur_Cursor_Short.g s0_2 (L.drop i) i n = (r1, r3, r4, r5)) ∧ Aside0 (IsS45 w0 w' g s0_0 s0_1 s0_2 s0_3 s0_4) ∧ Aside0 (Below w0.heap.size w0 w') ∧ Aside0 (KeepBut w w' g none))
      case atStart => exact ⟨0, 0, rfl, rfl, ⟨by omega⟩, HT, HI3, HB3, HK3⟩
      case round =>
        clear HT HI3 HB3 HK3
        obtain ⟨i, n, rfl, rfl, HN, HG, HI, HB, HK⟩ := hrel
        obtain ⟨A1b, c1b, hblk, _, hC1, hM1⟩ := HI.out
        have hcz1 := cellS45_1 hblk
        have hcz2 := cellS45_2 hblk
        have hfz2 := blk_frozen hblk 2
        clear hblk hC1 hM1
        cases gk with
        | zero =>
          have hi : i = L.length := by have := HN.out; omega
          have hG := HG.out
          rw [hi, List.drop_length] at hG
          simp only [cur_Cursor_Short.g, Prod.mk.injEq] at hG
          obtain ⟨rfl, rfl, rfl, rfl⟩ := hG
          have hlt : ¬ ((i : Int) < (L.length : Int)) := by omega
          have hlt2 : decide (i < L.length) = false := decide_eq_false (by omega)
          have hlen : s0_2 + (L.length : Int) = (s0_1.length : Int) := by have := HLl.out; omega
          have HLEN := Aside0.mk hlen
          have HF := Aside0.mk (show cur_Cursor_needs.f s0_0 s0_1 s0_2 s0_3 s0_4 false 3 (s0_1.length : Int) = some (false, s0_0, s0_2, 3, (s0_1.length : Int)) from rfl)
          clear hlen hi
          go_wp2_with (first | (go_at_call 24; (with_reducible refine (cur_Cursor_needs.calls g s0_0 s0_1 s0_2 s0_3 s0_4 false 3 (s0_1.length : Int) _ _ _ _ _ w0 _ HI.out HB.out HF.out).mono ?_); rintro e w5 ⟨rfl, hi5, hb5, hk5⟩; have HI5 := Aside0.mk hi5; have HB5 := Aside0.mk hb5; have HK5 := Aside0.mk (KeepBut.trans HK.out hk5 (.inl rfl)); clear hi5 hb5 hk5))
          go_ret
          exact ⟨rfl, by rw [HLEN.out]; exact HI5.out, HB5.out, HK5.out⟩
        | succ k1 =>
          have hi : i < L.length := by have := HN.out; omega
          have hb1 : s0_2 + (i : Int) < (s0_1.length : Int) := by have := HLl.out; omega
          obtain ⟨ad, rfl, hcell⟩ := ReadsOf.at_ (Kd.reads_of_C (d := (0 : Int)) (Kd.C_below HR8.out HB.out)) (i : Int) (by omega) (by omega)
          simp only [Int.toNat_natCast] at hcell
          have hx : L.drop i = rdOf 0 L (i : Int) :: L.drop (i + 1) := by
            rw [List.drop_eq_getElem_cons hi]
            congr 1
            simp [rdOf, List.getD_eq_getElem?_getD, List.getElem?_eq_getElem hi]
          generalize rdOf 0 L (i : Int) = x at hcell hx
          have hG := HG.out
          rw [hx] at hG
          simp only [cur_Cursor_Short.g] at hG
          have hlt2 : decide (i < L.length) = true := decide_eq_true hi
          have HX := Aside0.mk hx
          clear hx
          by_cases e1 : (i : Int) = 0
          · have d1 : ((i : Int) == 0) = true := by simpa using e1
            by_cases e2 : x = 128
            · have d2 : (x == 128) = true := by simpa using e2
              rw [if_pos (.inl ⟨e1, e2⟩)] at hG
              simp only [Prod.mk.injEq] at hG
              obtain ⟨rfl, rfl, rfl, rfl⟩ := hG
              clear e1 e2
              have HF := Aside0.mk (show cur_Cursor_needs.f s0_0 s0_1 s0_2 s0_3 s0_4 false 5 (s0_2 + (i : Int)) = some (false, s0_0, s0_2, 5, s0_2 + (i : Int)) from rfl)
              go_wp2_with (first | (go_at_call 24; (with_reducible refine (cur_Cursor_needs.calls g s0_0 s0_1 s0_2 s0_3 s0_4 false 5 (s0_2 + (i : Int)) _ _ _ _ _ w0 _ HI.out HB.out HF.out).mono ?_); rintro e w5 ⟨rfl, hi5, hb5, hk5⟩; have HI5 := Aside0.mk hi5; have HB5 := Aside0.mk hb5; have HK5 := Aside0.mk (KeepBut.trans HK.out hk5 (.inl rfl)); clear hi5 hb5 hk5))
              go_ret
              exact ⟨rfl, HI5.out, HB5.out, HK5.out⟩
            · have d2 : (x == 128) = false := by simpa using e2
              have d3 : ((i : Int) == 9) = false := by simp; omega
              by_cases e5 : n / 144115188075855872 > 0
              · have d5 : decide (0 < n / 144115188075855872) = true := decide_eq_true e5
                rw [if_pos (.inr (.inr e5))] at hG
                simp only [Prod.mk.injEq] at hG
                obtain ⟨rfl, rfl, rfl, rfl⟩ := hG
                clear e1 e2 e5
                have HF := Aside0.mk (show cur_Cursor_needs.f s0_0 s0_1 s0_2 s0_3 s0_4 false 5 (s0_2 + (i : Int)) = some (false, s0_0, s0_2, 5, s0_2 + (i : Int)) from rfl)
                go_wp2_with (first | (go_at_call 24; (with_reducible refine (cur_Cursor_needs.calls g s0_0 s0_1 s0_2 s0_3 s0_4 false 5 (s0_2 + (i : Int)) _ _ _ _ _ w0 _ HI.out HB.out HF.out).mono ?_); rintro e w5 ⟨rfl, hi5, hb5, hk5⟩; have HI5 := Aside0.mk hi5; have HB5 := Aside0.mk hb5; have HK5 := Aside0.mk (KeepBut.trans HK.out hk5 (.inl rfl)); clear hi5 hb5 hk5))
                go_ret
                exact ⟨rfl, HI5.out, HB5.out, HK5.out⟩
              · have d5 : decide (0 < n / 144115188075855872) = false := decide_eq_false e5
                rw [if_neg (by rintro (⟨_, h_⟩ | ⟨h_, _⟩ | h_) <;> first | exact e2 h_ | exact e5 h_ | omega)] at hG
                clear e1 e2 e5
                by_cases e6 : x < 128
                · rw [if_pos e6] at hG
                  simp only [Prod.mk.injEq] at hG
                  obtain ⟨rfl, rfl, rfl, rfl⟩ := hG
                  have d6 : decide (x < 128) = true := decide_eq_true e6
                  clear e6
                  go_wp2
                  go_ret
                  exact ⟨rfl, by rw [show s0_2 + (i : Int) + 1 = s0_2 + ((i : Int) + 1) by omega]; have h_ := IsS45.set_2 HI.out (s0_2 + ((i : Int) + 1)); rw [HOK.out.2.1, HOK.out.2.2] at h_; exact h_, below_set HB.out (IsS45.ge HI.out), KeepBut.set_ HK.out 2 _⟩
                · rw [if_neg e6] at hG
                  have d6 : decide (x < 128) = false := decide_eq_false e6
                  have HG2 := Aside0.mk hG
                  clear e6 hG
                  go_wp2
                  go_roundg k1
                  case measure => omega
                  case rel => exact ⟨i + 1, _, rfl, by go_num, ⟨by have := HN.out; omega⟩, by simpa using HG2, HI, HB, HK⟩
          · have d1 : ((i : Int) == 0) = false := by simpa using e1
            by_cases e3 : (i : Int) = 9
            · have d3 : ((i : Int) == 9) = true := by simpa using e3
              by_cases e4 : x > 127
              · have d4 : decide (127 < x) = true := decide_eq_true e4
                rw [if_pos (.inr (.inl ⟨e3, e4⟩))] at hG
                simp only [Prod.mk.injEq] at hG
                obtain ⟨rfl, rfl, rfl, rfl⟩ := hG
                clear e1 e3 e4
                have HF := Aside0.mk (show cur_Cursor_needs.f s0_0 s0_1 s0_2 s0_3 s0_4 false 5 (s0_2 + (i : Int)) = some (false, s0_0, s0_2, 5, s0_2 + (i : Int)) from rfl)
                go_wp2_with (first | (go_at_call 24; (with_reducible refine (cur_Cursor_needs.calls g s0_0 s0_1 s0_2 s0_3 s0_4 false 5 (s0_2 + (i : Int)) _ _ _ _ _ w0 _ HI.out HB.out HF.out).mono ?_); rintro e w5 ⟨rfl, hi5, hb5, hk5⟩; have HI5 := Aside0.mk hi5; have HB5 := Aside0.mk hb5; have HK5 := Aside0.mk (KeepBut.trans HK.out hk5 (.inl rfl)); clear hi5 hb5 hk5))
                go_ret
                exact ⟨rfl, HI5.out, HB5.out, HK5.out⟩
              · have d4 : decide (127 < x) = false := decide_eq_false e4
                by_cases e5 : n / 144115188075855872 > 0
                · have d5 : decide (0 < n / 144115188075855872) = true := decide_eq_true e5
                  rw [if_pos (.inr (.inr e5))] at hG
                  simp only [Prod.mk.injEq] at hG
                  obtain ⟨rfl, rfl, rfl, rfl⟩ := hG
                  clear e1 e3 e4 e5
                  have HF := Aside0.mk (show cur_Cursor_needs.f s0_0 s0_1 s0_2 s0_3 s0_4 false 5 (s0_2 + (i : Int)) = some (false, s0_0, s0_2, 5, s0_2 + (i : Int)) from rfl)
                  go_wp2_with (first | (go_at_call 24; (with_reducible refine (cur_Cursor_needs.calls g s0_0 s0_1 s0_2 s0_3 s0_4 false 5 (s0_2 + (i : Int)) _ _ _ _ _ w0 _ HI.out HB.out HF.out).mono ?_); rintro e w5 ⟨rfl, hi5, hb5, hk5⟩; have HI5 := Aside0.mk hi5; have HB5 := Aside0.mk hb5; have HK5 := Aside0.mk (KeepBut.trans HK.out hk5 (.inl rfl)); clear hi5 hb5 hk5))
                  go_ret
                  exact ⟨rfl, HI5.out, HB5.out, HK5.out⟩
                · have d5 : decide (0 < n / 144115188075855872) = false := decide_eq_false e5
                  rw [if_neg (by rintro (⟨h_, _⟩ | ⟨_, h_⟩ | h_) <;> first | exact e1 h_ | exact e4 h_ | exact e5 h_)] at hG
                  clear e1 e3 e4 e5
                  by_cases e6 : x < 128
                  · rw [if_pos e6] at hG
                    simp only [Prod.mk.injEq] at hG
                    obtain ⟨rfl, rfl, rfl, rfl⟩ := hG
                    have d6 : decide (x < 128) = true := decide_eq_true e6
                    clear e6
                    go_wp2
                    go_ret
                    exact ⟨rfl, by rw [show s0_2 + (i : Int) + 1 = s0_2 + ((i : Int) + 1) by omega]; have h_ := IsS45.set_2 HI.out (s0_2 + ((i : Int) + 1)); rw [HOK.out.2.1, HOK.out.2.2] at h_; exact h_, below_set HB.out (IsS45.ge HI.out), KeepBut.set_ HK.out 2 _⟩
                  · rw [if_neg e6] at hG
                    have d6 : decide (x < 128) = false := decide_eq_false e6
                    have HG2 := Aside0.mk hG
                    clear e6 hG
                    go_wp2
                    go_roundg k1
                    case measure => omega
                    case rel => exact ⟨i + 1, _, rfl, by go_num, ⟨by have := HN.out; omega⟩, by simpa using HG2, HI, HB, HK⟩
            · have d3 : ((i : Int) == 9) = false := by simpa using e3
              by_cases e5 : n / 144115188075855872 > 0
              · have d5 : decide (0 < n / 144115188075855872) = true := decide_eq_true e5
                rw [if_pos (.inr (.inr e5))] at hG
                simp only [Prod.mk.injEq] at hG
                obtain ⟨rfl, rfl, rfl, rfl⟩ := hG
                clear e1 e3 e5
                have HF := Aside0.mk (show cur_Cursor_needs.f s0_0 s0_1 s0_2 s0_3 s0_4 false 5 (s0_2 + (i : Int)) = some (false, s0_0, s0_2, 5, s0_2 + (i : Int)) from rfl)
                go_wp2_with (first | (go_at_call 24; (with_reducible refine (cur_Cursor_needs.calls g s0_0 s0_1 s0_2 s0_3 s0_4 false 5 (s0_2 + (i : Int)) _ _ _ _ _ w0 _ HI.out HB.out HF.out).mono ?_); rintro e w5 ⟨rfl, hi5, hb5, hk5⟩; have HI5 := Aside0.mk hi5; have HB5 := Aside0.mk hb5; have HK5 := Aside0.mk (KeepBut.trans HK.out hk5 (.inl rfl)); clear hi5 hb5 hk5))
                go_ret
                exact ⟨rfl, HI5.out, HB5.out, HK5.out⟩
              · have d5 : decide (0 < n / 144115188075855872) = false := decide_eq_false e5
                rw [if_neg (by rintro (⟨h_, _⟩ | ⟨h_, _⟩ | h_) <;> first | exact e1 h_ | exact e3 h_ | exact e5 h_)] at hG
                clear e1 e3 e5
                by_cases e6 : x < 128
                · rw [if_pos e6] at hG
                  simp only [Prod.mk.injEq] at hG
                  obtain ⟨rfl, rfl, rfl, rfl⟩ := hG
                  have d6 : decide (x < 128) = true := decide_eq_true e6
                  clear e6
                  go_wp2
                  go_ret
                  exact ⟨rfl, by rw [show s0_2 + (i : Int) + 1 = s0_2 + ((i : Int) + 1) by omega]; have h_ := IsS45.set_2 HI.out (s0_2 + ((i : Int) + 1)); rw [HOK.out.2.1, HOK.out.2.2] at h_; exact h_, below_set HB.out (IsS45.ge HI.out), KeepBut.set_ HK.out 2 _⟩
                · rw [if_neg e6] at hG
                  have d6 : decide (x < 128) = false := decide_eq_false e6
                  have HG2 := Aside0.mk hG
                  clear e6 hG
                  go_wp2
                  go_roundg k1
                  case measure => omega
                  case rel => exact ⟨i + 1, _, rfl, by go_num, ⟨by have := HN.out; omega⟩, by simpa using HG2, HI, HB, HK⟩
    · rw [if_neg hr] at h
      exact absurd h (by simp)
  · rw [if_neg hok] at h
    simp only [Option.some.injEq, Prod.mk.injEq] at h
    obtain ⟨rfl, rfl, rfl, rfl, rfl⟩ := h
    have hdec := decide_eq_false hok
    rw [hdec] at HW
    clear hok hdec
    go_enter Try.func10, Try.ntmps10
    go_wp2_with (first | (go_at_call 23; (with_reducible refine (cur_Cursor_well.calls g s0_0 s0_1 s0_2 s0_3 s0_4 _ _ _ _ _ w0 _ HI0.out HB0.out HW.out).mono ?_); rintro e w2 ⟨rfl, hi, hb, hk⟩; have HI2 := Aside0.mk hi; have HB2 := Aside0.mk hb; have HK2 := Aside0.mk hk; clear hi hb hk))
    go_ret
    exact ⟨rfl, HI2.out, HB2.out, HK2.out⟩

/-! ### cur_Cursor_At: function 12 -/
def cur_Cursor_At.f (s0_0 : Bool) (s0_1 : List Int) (s0_2 : Int) (s0_3 : Int) (s0_4 : Int) : Option (Int × Bool × Int × Int × Int) := some (s0_2, s0_0, s0_2, s0_3, s0_4)
set_option maxHeartbeats 8000000 in
set_option maxRecDepth 100000 in
theorem cur_Cursor_At.calls (g : Nat) (s0_0 : Bool) (s0_1 : List Int) (s0_2 : Int) (s0_3 : Int) (s0_4 : Int) (r1 : Int) (r2 : Bool) (r3 : Int) (r4 : Int) (r5 : Int) (w0 w : World) (hI : IsS45 w0 w g s0_0 s0_1 s0_2 s0_3 s0_4) (hB : Below w0.heap.size w0 w) (h : cur_Cursor_At.f s0_0 s0_1 s0_2 s0_3 s0_4 = some (r1, r2, r3, r4, r5)) :
    Calls Try.prog 12 #[.pointer (some ⟨g, 0, none⟩)] w fun e w' => e = .returned (.int .i64 r1) ∧ IsS45 w0 w' g r2 s0_1 r3 r4 r5 ∧ Below w0.heap.size w0 w' ∧ KeepBut w w' g none := by
  have HI0 := Aside0.mk hI
  have HK := Aside0.mk (KeepBut.refl w g none)
  have HL := Aside0.mk hB.size
  clear hI
  have HW0 := Aside0.mk hB.size
  have HB := Aside0.mk hB
  clear hB
  have H : (some (s0_2, s0_0, s0_2, s0_3, s0_4)) = some (r1, r2, r3, r4, r5) := h
  clear h
  simp only [Option.some.injEq, Prod.mk.injEq] at H
  obtain ⟨rfl, rfl, rfl, rfl, rfl⟩ := H
  obtain ⟨ASz2_1, cSz2_1, HGz2, hgz2, HSz2_1, HMz2_1⟩ := HI0.out
  have hcz2_0 := cellS45_0 HGz2
  have hcz2_1 := cellS45_1 HGz2
  have hcz2_2 := cellS45_2 HGz2
  have hcz2_3 := cellS45_3 HGz2
  have hcz2_4 := cellS45_4 HGz2
  have hfz2_0 := blk_frozen HGz2 0
  have hfz2_2 := blk_frozen HGz2 2
  have hfz2_3 := blk_frozen HGz2 3
  have hfz2_4 := blk_frozen HGz2 4
  clear HGz2 hgz2
  go_enter Try.func12, Try.ntmps12
  go_wp2
  go_ret
  exact ⟨by first | rfl | (simp [errW_none, errW_some] <;> rfl) | (simp [*, errW_none, errW_some] <;> rfl), by repeat (first | (with_reducible first | exact HI0.out | apply IsS45.alloc | apply IsS45.drewN | apply IsS45.drew | apply IsS45.set_0 | apply IsS45.set_2 | apply IsS45.set_3 | apply IsS45.set_4) | exact HI0.out), by repeat (first | (with_reducible first | exact HB.out | apply below_alloc | apply pw_below_drewN | apply below_drew1 | refine below_set ?_ (IsS45.ge HI0.out)) | exact HB.out), by repeat (first | (with_reducible first | exact HK.out | apply KeepBut.set_ | apply keep_drewN | apply keep_drew | apply keep_alloc) | exact HK.out)⟩

/-! ### gantlineref01_Same: function 14 -/
def gantlineref01_Same.f (l0 : List Int) (l1 : List Int) : Option (Bool) := some ((strOfNums l0).toList == (strOfNums l1).toList)
set_option maxHeartbeats 8000000 in
set_option maxRecDepth 100000 in
theorem gantlineref01_Same.calls (A0 : Option Addr) (c0 : Nat) (l0 : List Int) (A1 : Option Addr) (c1 : Nat) (l1 : List Int) (r : Bool) (w : World) (hr0 : Kd.C (Kd.int .u8) w A0 l0.length l0) (hc0 : l0.length ≤ c0) (hr1 : Kd.C (Kd.int .u8) w A1 l1.length l1) (hc1 : l1.length ≤ c1) (h : gantlineref01_Same.f l0 l1 = some r) :
    Calls Try.prog 14 #[.slice A0 l0.length c0, .slice A1 l1.length c1] w fun e w' => e = .returned (.bool r) ∧ Drawn0 w w' := by
  have HR0 := Aside0.mk hr0
  have HC0 := Aside0.mk hc0
  clear hr0 hc0
  have HR1 := Aside0.mk hr1
  have HC1 := Aside0.mk hc1
  clear hr1 hc1
  have H : (some ((strOfNums l0).toList == (strOfNums l1).toList)) = some r := h
  clear h
  obtain rfl := Option.some.inj H
  have hcv3 := Kd.C_string (P := Try.prog) (A := A0) (c := c0) Try.underlying22 Try.underlying5 Try.underlying9 HR0.out
  have hcv4 := Kd.C_string (P := Try.prog) (A := A1) (c := c1) Try.underlying22 Try.underlying5 Try.underlying9 HR1.out
  go_enter Try.func14, Try.ntmps14
  go_wp2
  go_ret
  exact ⟨by first | rfl | (simp; done) | (simp [*]; done), by repeat (first | exact Drawn0.refl _ | apply Drawn0.step)⟩

end Go.Proofs.Ytkbfappjlolmaaa.P
