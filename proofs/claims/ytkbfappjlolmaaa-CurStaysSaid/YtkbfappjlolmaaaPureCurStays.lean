/- Behind a fault nothing turns: for any slice of bytes and any script of calls. -/
import Derived.Test.YtkbfappjlolmaaaPx0
import Derived.Test.YtkbfappjlolmaaaPx2
import Derived.Test.YtkbfappjlolmaaaPx5
import Derived.Test.YtkbfappjlolmaaaPx6
import Derived.Test.YtkbfappjlolmaaaPx9
import Derived.Test.YtkbfappjlolmaaaPx10
import Derived.Test.YtkbfappjlolmaaaCurRead
import Derived.Test.YtkbfappjlolmaaaCurShort
namespace Go.Proofs.Ytkbfappjlolmaaa.Pure
open Go.RowKit Go.Proofs.Ytkbfappjlolmaaa.P Go.Proofs.YtkbfappjlolmaaaW.PrintWords Go.Proofs.YtkbfappjlolmaaaW.PrintLast Go.Proofs.YtkbfappjlolmaaaW.PrintMore
set_option linter.unusedVariables false
set_option linter.unusedSimpArgs false

theorem take_stays (L : List Int) (hl : L.length < 140737488355328) (at_ why fat a : Int) (h0 : 0 ≤ at_) (h1 : at_ ≤ L.length) : ∃ (r : List Int) (at2 w f : Int), cur_Cursor_take.f true L at_ why fat a = some (r, true, at2, w, f) ∧ 0 ≤ at2 ∧ at2 ≤ L.length ∧ r.length < 140737488355328 ∧ (¬ (why = 0 ∧ fat = 0) → r = [] ∧ at2 = at_ ∧ w = why ∧ f = fat) := by
  unfold cur_Cursor_take.f
  by_cases hok : why = 0 ∧ fat = 0
  · rw [if_pos ⟨rfl, hok⟩, if_pos ⟨h0, h1, by omega⟩]
    by_cases ha : a < 0
    · rw [if_pos ha]
      exact ⟨_, _, _, _, rfl, h0, h1, by simp, fun h => absurd hok h⟩
    · rw [if_neg ha]
      by_cases hb : (L.length : Int) - at_ < a
      · rw [if_pos hb]
        exact ⟨_, _, _, _, rfl, h0, h1, by simp, fun h => absurd hok h⟩
      · rw [if_neg hb]
        exact ⟨_, _, _, _, rfl, by omega, by omega, by rw [List.length_drop, List.length_take]; omega, fun h => absurd hok h⟩
  · rw [if_neg (fun h => hok h.2)]
    exact ⟨_, _, _, _, rfl, h0, h1, by simp, fun _ => ⟨rfl, rfl, rfl, rfl⟩⟩
theorem Take_stays (L : List Int) (hl : L.length < 140737488355328) (at_ why fat a : Int) (h0 : 0 ≤ at_) (h1 : at_ ≤ L.length) : ∃ (r : List Int) (at2 w f : Int), cur_Cursor_Take.f true L at_ why fat a = some (r, true, at2, w, f) ∧ 0 ≤ at2 ∧ at2 ≤ L.length ∧ (¬ (why = 0 ∧ fat = 0) → r = [] ∧ at2 = at_ ∧ w = why ∧ f = fat) := by
  obtain ⟨r, at2, w, f, e, g0, g1, g2, g3⟩ := take_stays L hl at_ why fat a h0 h1
  refine ⟨r, at2, w, f, ?_, g0, g1, g3⟩
  unfold cur_Cursor_Take.f
  rw [e, Option.bind_some, if_pos g2]
theorem Wide_stays (L : List Int) (hl : L.length < 140737488355328) (at_ why fat a : Int) (h0 : 0 ≤ at_) (h1 : at_ ≤ L.length) : ∃ (n at2 w f : Int), cur_Cursor_Wide.f true L at_ why fat a = some (n, true, at2, w, f) ∧ 0 ≤ at2 ∧ at2 ≤ L.length ∧ (¬ (why = 0 ∧ fat = 0) → n = 0 ∧ at2 = at_ ∧ w = why ∧ f = fat) := by
  unfold cur_Cursor_Wide.f
  by_cases hok : why = 0 ∧ fat = 0
  · rw [if_pos ⟨rfl, hok⟩]
    by_cases ha : a = 1 ∨ a = 2 ∨ a = 4 ∨ a = 8
    · obtain ⟨r, at2, w, f, e, g0, g1, g2, g3⟩ := take_stays L hl at_ why fat a h0 h1
      rw [if_pos ha, e, Option.bind_some, if_pos g2]
      exact ⟨_, _, _, _, rfl, g0, g1, fun h => absurd hok h⟩
    · rw [if_neg ha]
      exact ⟨_, _, _, _, rfl, h0, h1, fun h => absurd hok h⟩
  · rw [if_neg (fun h => hok h.2)]
    exact ⟨_, _, _, _, rfl, h0, h1, fun _ => ⟨rfl, rfl, rfl, rfl⟩⟩
theorem Short_stays (L : List Int) (hb : Byt L) (hl : L.length < 140737488355328) (at_ why fat : Int) (h0 : 0 ≤ at_) (h1 : at_ ≤ L.length) : ∃ (n at2 w f : Int), cur_Cursor_Short.f true L at_ why fat = some (n, true, at2, w, f) ∧ 0 ≤ at2 ∧ at2 ≤ L.length ∧ (¬ (why = 0 ∧ fat = 0) → n = 0 ∧ at2 = at_ ∧ w = why ∧ f = fat) := by
  unfold cur_Cursor_Short.f
  by_cases hok : why = 0 ∧ fat = 0
  · rw [if_pos ⟨rfl, hok⟩, if_pos ⟨h0, h1, by omega⟩]
    have h := read_one at_ (L.drop at_.toNat) 0 (fun x hx => hb x (List.mem_of_mem_drop hx)) (by omega)
    rw [lo7_zero] at h
    simp only [List.length_nil, Int.natCast_zero] at h
    refine ⟨_, _, _, _, rfl, ?_, ?_, fun h => absurd hok h⟩
    · rcases h with ⟨_, h2, _⟩ | ⟨n, q, _, _, h3, h4, _⟩
      · omega
      · rw [h4]; simp only; omega
    · rcases h with ⟨_, h2, _⟩ | ⟨n, q, _, _, h3, h4, _⟩
      · omega
      · rw [h4]; rw [List.length_drop] at h3; simp only; omega
  · rw [if_neg (fun h => hok h.2)]
    exact ⟨_, _, _, _, rfl, h0, h1, fun _ => ⟨rfl, rfl, rfl, rfl⟩⟩
theorem stays_loop (L : List Int) (hb : Byt L) (hl : L.length < 140737488355328) (S : List S39) (hs : S.length ≤ maxLen) : ∀ (m i : Nat) (at_ why fat : Int), i + m = S.length → 0 ≤ at_ → at_ ≤ L.length → gantlinelaw02_CurStays.l0 (2 * m + 1) S (S.length : Int) i true L at_ why fat = some true := by
  have hs2 : S.length ≤ 9223372036854775807 := hs
  intro m
  induction m with
  | zero =>
    intro i at_ why fat hi h0 h1
    rw [gantlinelaw02_CurStays.l0, if_neg (by omega)]
  | succ m ih =>
    intro i at_ why fat hi h0 h1
    have ew : wrap64 ((i : Int) + 1) = ((i + 1 : Nat) : Int) := by unfold wrap64; omega
    have hj : ∀ (n : Int) (r : List Int) (at2 w f : Int), 0 ≤ at2 → at2 ≤ L.length → (¬ (why = 0 ∧ fat = 0) → n = 0 ∧ r = [] ∧ at2 = at_ ∧ w = why ∧ f = fat) → gantlinelaw02_CurStays.j1 (2 * m + 2) at_ n r S (S.length : Int) i true L at2 w f why fat = some true := by
      intro n r at2 w f g0 g1 g
      rw [gantlinelaw02_CurStays.j1]
      by_cases hok : why = 0 ∧ fat = 0
      · rw [if_neg (by simp [hok.1, hok.2]), ew]
        exact ih (i + 1) at2 w f (by omega) g0 g1
      · obtain ⟨rfl, rfl, rfl, rfl, rfl⟩ := g hok
        rw [if_pos (by
          simp only [Bool.or_eq_true, Bool.not_eq_true', beq_eq_false_iff_ne]
          by_cases hw : w = 0
          · exact .inr (fun hf => hok ⟨hw, hf⟩)
          · exact .inl hw)]
        unfold cur_Cursor_Fault.f cur_Cursor_At.f
        simp only [if_true, Option.bind_some]
        rw [if_neg (by simp), if_pos (by simp), ew]
        exact ih (i + 1) _ _ _ (by omega) h0 h1
    rw [show 2 * (m + 1) + 1 = (2 * m + 2) + 1 by omega, gantlinelaw02_CurStays.l0, if_pos (by omega), if_pos (by omega), if_pos (by omega)]
    unfold cur_Cursor_Fault.f cur_Cursor_At.f
    simp only [if_true, Option.bind_some]
    by_cases c0 : Int.tmod (IntKind.u64.wrap ((rd_T39 S i).f0)) 3 = 0
    · rw [if_pos c0]
      obtain ⟨n, at2, w, f, e, g0, g1, g2⟩ := Wide_stays L hl at_ why fat (rd_T39 S i).f1 h0 h1
      rw [e]
      simp only [Option.bind_some]
      exact hj n [] at2 w f g0 g1 (fun h => ⟨(g2 h).1, rfl, (g2 h).2⟩)
    · rw [if_neg c0]
      by_cases c1 : Int.tmod (IntKind.u64.wrap ((rd_T39 S i).f0)) 3 = 1
      · rw [if_pos c1]
        obtain ⟨n, at2, w, f, e, g0, g1, g2⟩ := Short_stays L hb hl at_ why fat h0 h1
        rw [e]
        simp only [Option.bind_some]
        exact hj n [] at2 w f g0 g1 (fun h => ⟨(g2 h).1, rfl, (g2 h).2⟩)
      · rw [if_neg c1]
        by_cases c2 : Int.tmod (IntKind.u64.wrap ((rd_T39 S i).f0)) 3 = 2
        · rw [if_pos c2]
          obtain ⟨r, at2, w, f, e, g0, g1, g2⟩ := Take_stays L hl at_ why fat (rd_T39 S i).f1 h0 h1
          rw [e]
          simp only [Option.bind_some]
          exact hj 0 r at2 w f g0 g1 (fun h => ⟨rfl, (g2 h).1, (g2 h).2⟩)
        · rw [if_neg c2]
          exact hj 0 [] at_ why fat h0 h1 (fun h => ⟨rfl, rfl, rfl, rfl, rfl⟩)
theorem CurStays : gantlinelaw02_CurStays.Pure := by
  intro l S hm hl hw hS
  refine ⟨2 * S.length + 60, ?_⟩
  have hb := byt_of_wf hw
  unfold gantlinelaw02_CurStays.f cur_New.f
  rw [if_pos (by omega)]
  simp only [Option.bind_some]
  rw [cur_alive' _ (by omega)]
  simp only [Option.bind_some, if_true]
  have e := stays_loop l hb (by omega) S hS.1 S.length 0 0 0 0 (by omega) (by omega) (by omega)
  exact fuel_le (f := fun k => gantlinelaw02_CurStays.l0 k S (S.length : Int) 0 true l 0 0 0) (fun k => (gantlinelaw02_CurStays.mono_l k).1 _ _ _ _ _ _ _ _) (by omega) e
end Go.Proofs.Ytkbfappjlolmaaa.Pure
