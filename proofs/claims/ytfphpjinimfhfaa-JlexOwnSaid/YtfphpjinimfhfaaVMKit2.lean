import Derived.Test.YtfphpjinimfhfaaVMBld
import Derived.Test.YtfphpjinimfhfaaVMCut
/-! More small things: branches as propositions, what stays below a name, lists a run owns from a name on, builders. -/
namespace Go.Proofs.Ytfphpjinimfhfaa.VM
set_option linter.unusedSectionVars false
set_option linter.unusedVariables false
set_option linter.unusedSimpArgs false
open Go.RowKit

/-! ### branches -/
theorem br {p : Prop} {d : Decidable p} {K : Bool → Prop} (ht : p → K true) (hf : ¬ p → K false) : ∀ c, c = @decide p d → K c := by
  rintro c rfl
  by_cases h : p
  · rw [decide_eq_true h]; exact ht h
  · rw [decide_eq_false h]; exact hf h
theorem brEq {x y : Int} {K : Bool → Prop} (ht : x = y → K true) (hf : x ≠ y → K false) : ∀ c, c = (x == y) → K c := by
  rintro c rfl
  by_cases h : x = y
  · subst h; simpa using ht rfl
  · have : (x == y) = false := by simpa using h
    rw [this]; exact hf h
theorem brNe {x y : Int} {K : Bool → Prop} (ht : x ≠ y → K true) (hf : x = y → K false) : ∀ c, c = (x != y) → K c := by
  rintro c rfl
  by_cases h : x = y
  · subst h; simpa using hf rfl
  · have : (x != y) = true := by simpa using h
    rw [this]; exact ht h
theorem brSEq {x y : List UInt8} {K : Bool → Prop} (ht : x = y → K true) (hf : x ≠ y → K false) : ∀ c, c = (x == y) → K c := by
  rintro c rfl
  by_cases h : x = y
  · subst h; simpa using ht rfl
  · have : (x == y) = false := by simpa using h
    rw [this]; exact hf h
theorem brSNe {x y : List UInt8} {K : Bool → Prop} (ht : x ≠ y → K true) (hf : x = y → K false) : ∀ c, c = (!(x == y)) → K c := by
  rintro c rfl
  by_cases h : x = y
  · subst h; simpa using hf rfl
  · have : (x == y) = false := by simpa using h
    rw [this]; exact ht h
theorem brB {b : Bool} {K : Bool → Prop} (ht : b = true → K true) (hf : b = false → K false) : ∀ c, c = b → K c := by
  rintro c rfl
  cases c
  · exact hf rfl
  · exact ht rfl
theorem brN {b : Bool} {K : Bool → Prop} (ht : b = false → K true) (hf : b = true → K false) : ∀ c, c = (!b) → K c := by
  rintro c rfl
  cases b
  · exact ht rfl
  · exact hf rfl

/-! ### what stays below a name -/
def Low (b : Nat) (S S1 : St) : Prop := S.next ≤ S1.next ∧ ∀ j, j < b → S1.mem j = S.mem j
theorem Low.refl (b : Nat) (S : St) : Low b S S := ⟨Nat.le_refl _, fun _ _ => rfl⟩
theorem Low.trans {b : Nat} {S S1 S2 : St} (h : Low b S S1) (k : Low b S1 S2) : Low b S S2 := ⟨Nat.le_trans h.1 k.1, fun j hj => (k.2 j hj).trans (h.2 j hj)⟩
theorem Low.less {b c : Nat} {S S1 : St} (h : Low b S S1) (hc : c ≤ b) : Low c S S1 := ⟨h.1, fun j hj => h.2 j (by omega)⟩
theorem Low.of {b : Nat} {S S1 : St} (h : Keep S S1) (hb : b ≤ S.next) : Low b S S1 := ⟨h.next, fun j hj => h.mem j (by omega)⟩
theorem Low.keep {S S1 : St} (h : Low S.next S S1) : Keep S S1 := ⟨h.1, fun j hj => h.2 j hj⟩
theorem Low.set {b : Nat} {S S1 : St} (h : Low b S S1) (n : Nat) (x : Option Blk) (hn : b ≤ n) : Low b S (S1.set n x) :=
  ⟨h.1, fun j hj => by show upd S1.mem n x j = _; simp only [upd]; rw [if_neg (by omega)]; exact h.2 j hj⟩
theorem Low.new {b : Nat} {S S1 : St} (h : Low b S S1) (hb : b ≤ S1.next) (x : Blk) : Low b S (S1.new x) :=
  ⟨by show S.next ≤ S1.next + 1; have := h.1; omega, fun j hj => by show upd S1.mem S1.next (some x) j = _; simp only [upd]; rw [if_neg (by omega)]; exact h.2 j hj⟩
theorem Low.cells {b : Nat} {S S1 : St} (h : Low b S S1) {j : Nat} (hj : j < b) : S1.cells j = S.cells j := by unfold St.cells; rw [h.2 j hj]

variable [Glob]
/-- A list that this run made, from a name on. -/
def OwnB (e : TypeId) (b : Nat) (S : St) (v : AV) (xs : List AV) : Prop := (v = .nils ∧ xs = []) ∨ ∃ n, b ≤ n ∧ n < S.next ∧ v = .lst xs (.tag n) ∧ S.mem n = some (.tip e)
theorem OwnB.nil (e : TypeId) (b : Nat) (S : St) : OwnB e b S .nils [] := .inl ⟨rfl, rfl⟩
theorem OwnB.elems {e : TypeId} {b : Nat} {S : St} {v : AV} {xs : List AV} (h : OwnB e b S v xs) : Elems v xs := by
  rcases h with ⟨rfl, rfl⟩ | ⟨n, _, _, rfl, _⟩
  · exact .inl ⟨rfl, rfl⟩
  · exact .inr ⟨_, rfl⟩
theorem OwnB.mono {e : TypeId} {b : Nat} {S S1 : St} {v : AV} {xs : List AV} (h : OwnB e b S v xs) (hn : S.next ≤ S1.next) (k : ∀ n, b ≤ n → n < S.next → S.mem n = some (.tip e) → S1.mem n = S.mem n) : OwnB e b S1 v xs := by
  rcases h with h | ⟨n, h1, h2, h3, h4⟩
  · exact .inl h
  · exact .inr ⟨n, h1, by omega, h3, by rw [k n h1 h2 h4]; exact h4⟩
theorem OwnB.keep {e : TypeId} {b : Nat} {S S1 : St} {v : AV} {xs : List AV} (h : OwnB e b S v xs) (k : Keep S S1) : OwnB e b S1 v xs := h.mono k.next fun n _ hn _ => k.mem n hn
section
variable {P : Program} {C : Cfg} {f : FuncId}
/-- .. appended to: what lies below the name stays, and so does what is in cells. -/
theorem OwnB.append {t e : TypeId} {s by_ : Nat} {ag : Bool} {z : AV} (hE : Elem P t e s by_ ag z) (hh : C.hnd f = false) {b : Nat} {S : St} {v y : AV} {xs ys : List AV} (hv : OwnB e b S v xs) (hb : b ≤ S.next) (hy : elemsA S ag s y = some ys) (hsh : ys.map AV.shed = ys)
    (hw : wellA s xs = true) (hw2 : wellA s ys = true) (hs : (xs.length + ys.length) * by_ ≤ 140737488355328 ∧ xs.length + ys.length ≤ 140737488355328) :
    ∃ r S1, builtinA P C f .append #[t, t] [v, y] S = some (.ret r, S1) ∧ OwnB e b S1 r (xs ++ ys) ∧ Low b S S1 ∧ (∀ j blk, j < S.next → S.mem j = some blk → blk ≠ .tip e → S1.mem j = some blk) ∧ (ys ≠ [] → ∃ m, r = .lst (xs ++ ys) (.tag m)) := by
  by_cases hne : ys = []
  · subst hne
    have hun := hE.und
    have helem : elemA P t = some e := by simp [elemA, hun]
    refine ⟨v, S, ?_, by simpa using hv, Low.refl _ _, fun _ _ _ h _ => h, fun h => absurd rfl h⟩
    rcases hv with ⟨rfl, rfl⟩ | ⟨n, _, _, rfl, _⟩
    · simp only [builtinA, appendA, helem, hE.size, hE.agg, hE.bytes, hE.zero, hun, Option.bind_some, appendB, hy]
      rw [if_pos ⟨hE.pos, hE.zlen, by simp [wellA]⟩]; rfl
    · simp only [builtinA, appendA, helem, hE.size, hE.agg, hE.bytes, hE.zero, hun, Option.bind_some, appendB, hy]
      rw [if_pos ⟨hE.pos, hE.zlen, by simp [wellA]⟩]; rfl
  · have hv' : IsOut e S v xs := by
      rcases hv with h | ⟨n, _, _, h1, h2⟩
      · exact .inl h
      · exact .inr ⟨n, h1, h2⟩
    obtain ⟨S1, h1, h2, h3, h4⟩ := append_out hE hh hv' hy hsh hw hw2 hne hs
    refine ⟨_, S1, h1, .inr ⟨S.next, hb, by omega, rfl, h2⟩, ⟨by omega, fun n hn => ?_⟩, fun j blk hj hc hnt => ?_, fun _ => ⟨_, rfl⟩⟩
    · refine h4 n (by omega) ?_
      rintro rfl
      rcases hv with ⟨h, _⟩ | ⟨m, a1, a2, h, _⟩
      · cases h
      · cases h; omega
    · rw [h4 j hj]
      · exact hc
      · rintro rfl
        rcases hv with ⟨h, _⟩ | ⟨m, a1, a2, h, h5⟩
        · cases h
        · cases h; rw [h5] at hc; cases hc; exact hnt rfl
end

/-! ### builders -/
/-- A builder (T: its type, U: a byte's) with these bytes. -/
def Bld (T U : TypeId) (b : Nat) (S : St) (n : Nat) (bs : List UInt8) : Prop :=
  b ≤ n ∧ n < S.next ∧ ((S.mem n = some (.own T [.nul, .nils]) ∧ bs = []) ∨ ∃ v, S.mem n = some (.cells [.ptr n 0, v]) ∧ OwnB U b S v (bs.map u8))
theorem Bld.mono {T U : TypeId} {b : Nat} {S S1 : St} {n : Nat} {bs : List UInt8} (h : Bld T U b S n bs) (hn : S.next ≤ S1.next) (k : ∀ j, b ≤ j → j < S.next → S1.mem j = S.mem j) : Bld T U b S1 n bs := by
  obtain ⟨h1, h2, h3⟩ := h
  refine ⟨h1, by omega, ?_⟩
  rw [k n h1 h2]
  rcases h3 with h3 | ⟨v, h3, h4⟩
  · exact .inl h3
  · exact .inr ⟨v, h3, h4.mono hn fun m hm hm2 _ => k m hm hm2⟩
theorem Bld.keep {T U : TypeId} {b : Nat} {S S1 : St} {n : Nat} {bs : List UInt8} (h : Bld T U b S n bs) (k : Keep S S1) : Bld T U b S1 n bs := h.mono k.next fun j _ hj => k.mem j hj

theorem idx_u8 (bs : List UInt8) (i : Nat) (h : i < bs.length) : (bs.map u8)[i]? = some (u8 bs[i]) := by simp [h]
theorem getLast_app {α : Type} (xs : List α) (x : α) : (xs ++ [x]).length = xs.length + 1 := by simp

section
variable {P : Program} {C : Cfg} {f : FuncId}
/-- One round of a loop. -/
theorem CodeQ.round {body : Code} {e : List AV} {S : St} {Q : Out → List AV → St → Prop}
    (h : wpF P C f body e S fun out e1 S1 => match out with
      | .normal => CodeQ P C f (.loop body) e1 S1 Q
      | o => Q o e1 S1) : CodeQ P C f (.loop body) e S Q := by
  obtain ⟨out, e1, S1, h1, h2⟩ := wpF_sound body h
  cases out with
  | normal =>
    simp only at h2
    unfold CodeQ at h2 ⊢
    obtain ⟨out, e', S', h3, h4⟩ := h2
    exact ⟨_, _, _, .loop h1 h3, h4⟩
  | exit j => unfold CodeQ; exact ⟨_, _, _, .loopOut h1 (by simp), h2⟩
  | ret => unfold CodeQ; exact ⟨_, _, _, .loopOut h1 (by simp), h2⟩
  | panic v => unfold CodeQ; exact ⟨_, _, _, .loopOut h1 (by simp), h2⟩
end
theorem Keep.of_low {S S1 : St} (h : Low S.next S S1) : Keep S S1 := h.keep
/-- The place of a cell after some stores and new blocks. -/
theorem cells_some {S : St} {n : Nat} {cs : List AV} (h : S.cells n = some cs) (hw : Wf S) : n < S.next := by
  rcases Nat.lt_or_ge n S.next with h1 | h1
  · exact h1
  · unfold St.cells at h; rw [hw n h1] at h; cases h

theorem mem_new (S : St) (b : Blk) : (S.new b).mem S.next = some b := by simp [St.new, upd]
theorem mem_new_ne {S : St} {b : Blk} {n : Nat} {x : Option Blk} (h : S.mem n = x) (hn : n ≠ S.next) : (S.new b).mem n = x := by simp only [St.new, upd]; rw [if_neg hn]; exact h
theorem mem_set (S : St) (n : Nat) (b : Option Blk) : (S.set n b).mem n = b := by simp [St.set, upd]
theorem mem_set_ne {S : St} {b : Option Blk} {m n : Nat} {x : Option Blk} (h : S.mem n = x) (hn : n ≠ m) : (S.set m b).mem n = x := by simp only [St.set, upd]; rw [if_neg hn]; exact h
theorem cells_of_mem {S : St} {n : Nat} {cs : List AV} (h : S.mem n = some (.cells cs)) : S.cells n = some cs := by unfold St.cells; rw [h]
theorem next_more {S : St} {n : Nat} {s : List UInt8} {p : Nat} (h : S.mem n = some (.iter s p)) (hp : p < s.length) :
    nextA S (.iter n) = some (.tuple [.bool true, .int .i64 p, .int .i32 (Utf8.decode ⟨s.toArray⟩ p).1], S.set n (some (.iter s (p + (Utf8.decode ⟨s.toArray⟩ p).2)))) := by
  simp only [nextA, h, if_pos hp]
theorem next_end {S : St} {n : Nat} {s : List UInt8} {p : Nat} (h : S.mem n = some (.iter s p)) (hp : s.length ≤ p) : nextA S (.iter n) = some (.tuple [.bool false], S) := by
  simp only [nextA, h, if_neg (show ¬ p < s.length by omega)]
theorem kcells {S S1 : St} (k : Keep S S1) {j : Nat} (hj : j < S.next) : S1.cells j = S.cells j := by unfold St.cells; rw [k.mem j hj]
end Go.Proofs.Ytfphpjinimfhfaa.VM
