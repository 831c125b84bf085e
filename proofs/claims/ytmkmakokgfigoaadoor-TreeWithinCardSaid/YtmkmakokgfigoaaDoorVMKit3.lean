import Derived.Test.YtmkmakokgfigoaaDoorVMKit2
/-! Written arrays of whole numbers (one cell each). -/
namespace Go.Proofs.YtmkmakokgfigoaaDoor.VM
set_option linter.unusedVariables false
set_option linter.unusedSimpArgs false
set_option linter.unusedSectionVars false
open Go.RowKit
variable [Glob] {P : Program} {C : Cfg} {f : FuncId}
/-- Whole numbers, one cell each. -/
def Nums (xs : List AV) : Prop := ∀ x ∈ xs, ∃ k i, x = .int k i
theorem Nums.nil : Nums [] := fun _ h => by cases h
theorem Nums.append {xs ys : List AV} (h : Nums xs) (k : Nums ys) : Nums (xs ++ ys) := fun x hx => (List.mem_append.1 hx).elim (h x) (k x)
theorem Nums.left {xs ys : List AV} (h : Nums (xs ++ ys)) : Nums xs := fun x hx => h x (List.mem_append.2 (.inl hx))
theorem Nums.right {xs ys : List AV} (h : Nums (xs ++ ys)) : Nums ys := fun x hx => h x (List.mem_append.2 (.inr hx))
theorem Nums.leaf {xs : List AV} (h : Nums xs) : xs.all AV.leafOk = true := List.all_eq_true.2 fun x hx => by obtain ⟨k, i, rfl⟩ := h x hx; rfl
theorem Nums.plain {xs : List AV} (h : Nums xs) : xs.all AV.plain = true := List.all_eq_true.2 fun x hx => by obtain ⟨k, i, rfl⟩ := h x hx; rfl
theorem Nums.shed : ∀ {xs : List AV}, Nums xs → xs.map AV.shed = xs
  | [], _ => rfl
  | x :: xs, h => by
    obtain ⟨k, i, rfl⟩ := h x (by simp)
    rw [List.map_cons, Nums.shed (fun y hy => h y (by simp [hy]))]; rfl
theorem Nums.well {xs : List AV} (h : Nums xs) : wellA 1 xs = true := List.all_eq_true.2 fun x hx => by obtain ⟨k, i, rfl⟩ := h x hx; rfl
theorem Nums.flat : ∀ {xs : List AV}, Nums xs → flat xs = xs
  | [], _ => rfl
  | x :: xs, h => by
    obtain ⟨k, i, rfl⟩ := h x (by simp)
    have := Nums.flat (xs := xs) (fun y hy => h y (by simp [hy]))
    unfold Go.Proofs.YtmkmakokgfigoaaDoor.VM.flat at this ⊢
    rw [List.flatMap_cons, this]; rfl
/-- A written array's elements. -/
theorem elems_nums {S : St} {n : Nat} {xs rest : List AV} (h : S.cells n = some (xs ++ rest)) (hx : Nums (xs ++ rest)) : elemsA S false 1 (.hnd n 0 xs.length 1) = some xs := by
  have hch : ∀ (xs rest : List AV), chunk false 1 xs.length (xs ++ rest) = xs := by
    intro xs
    induction xs with
    | nil => intro rest; rfl
    | cons x xs ih => intro rest; show x :: chunk false 1 xs.length (xs ++ rest) = _; rw [ih]
  simp only [elemsA, h, Option.bind_some]
  rw [if_pos ⟨trivial, by simp, by unfold chunkOk; rw [hx.plain]; rfl⟩, List.drop_zero, hch]
/-- A list of numbers, in an array of this run's own, from a name on. -/
def HdB (b : Nat) (S : St) (v : AV) (xs : List AV) : Prop := Nums xs ∧ ((v = .nils ∧ xs = []) ∨ ∃ n rest, b ≤ n ∧ n < S.next ∧ v = .hnd n 0 xs.length 1 ∧ S.mem n = some (.cells (xs ++ rest)) ∧ Nums rest)
theorem HdB.nil (b : Nat) (S : St) : HdB b S .nils [] := ⟨.nil, .inl ⟨rfl, rfl⟩⟩
theorem HdB.mono {b : Nat} {S S1 : St} {v : AV} {xs : List AV} (h : HdB b S v xs) (hn : S.next ≤ S1.next) (k : ∀ n, b ≤ n → n < S.next → (∃ cs, S.mem n = some (.cells cs)) → S1.mem n = S.mem n) : HdB b S1 v xs := by
  obtain ⟨h0, h | ⟨n, rest, h1, h2, h3, h4, h5⟩⟩ := h
  · exact ⟨h0, .inl h⟩
  · exact ⟨h0, .inr ⟨n, rest, h1, by omega, h3, by rw [k n h1 h2 ⟨_, h4⟩]; exact h4, h5⟩⟩
/-- .. appended to. -/
theorem HdB.append {t e : TypeId} {by_ : Nat} {z : AV} (hE : Elem P t e 1 by_ false z) (hh : C.hnd f = true) {b : Nat} {S : St} {v y : AV} {xs ys : List AV} (hv : HdB b S v xs) (hb : b ≤ S.next) (hy : elemsA S false 1 y = some ys) (hys : Nums ys) (hne : ys ≠ [])
    (hs : (xs.length + ys.length) * by_ ≤ 140737488355328 ∧ xs.length + ys.length ≤ 140737488355328) :
    ∃ S1, builtinA P C f .append #[t, t] [v, y] S = some (.ret (.hnd S.next 0 (xs ++ ys).length 1), S1) ∧ HdB b S1 (.hnd S.next 0 (xs ++ ys).length 1) (xs ++ ys) ∧ S1.next = S.next + 1 ∧ S1.mem S.next = some (.cells (xs ++ ys)) ∧ ∀ j, j < S.next → (∀ l, v ≠ .hnd j 0 l 1) → S1.mem j = S.mem j := by
  have hun := hE.und
  have helem : elemA P t = some e := by simp [elemA, hun]
  have hl : ys.length ≠ 0 := fun h => hne (List.length_eq_zero_iff.1 h)
  obtain ⟨hx, ⟨rfl, rfl⟩ | ⟨n, rest, h1, h2, rfl, h4, h5⟩⟩ := hv
  · refine ⟨S.new (.cells ys), ?_, ⟨by simpa using hys, .inr ⟨S.next, [], hb, by show S.next < S.next + 1; omega, rfl, by simp [St.new, upd], .nil⟩⟩, rfl, by simp [St.new, upd], fun j hj _ => by simp [St.new, upd]; omega⟩
    simp only [builtinA, appendA, helem, hE.size, hE.agg, hE.bytes, hE.zero, hun, Option.bind_some, appendB, hy, hys.shed]
    rw [if_pos ⟨by omega, hE.zlen, hys.well⟩]
    simp only [if_neg hl]
    rw [if_pos (by simp [sizeOk]; simp at hs; omega)]
    simp only [freshA, hh, if_true, Option.bind_some, retA, hys.flat, List.nil_append]
  · have hc : S.cells n = some (xs ++ rest) := by unfold St.cells; rw [h4]
    refine ⟨(S.set n none).new (.cells (xs ++ ys)), ?_, ⟨hx.append hys, .inr ⟨S.next, [], hb, by show S.next < S.next + 1; omega, rfl, by simp [St.new, St.set, upd], .nil⟩⟩, rfl, by simp [St.new, St.set, upd], fun j hj hne2 => ?_⟩
    · simp only [builtinA, appendA, helem, hE.size, hE.agg, hE.bytes, hE.zero, hun, Option.bind_some, appendB, hy, hys.shed]
      rw [if_pos ⟨by omega, hE.zlen, hys.well⟩]
      simp only [if_neg hl, hc, Option.bind_some]
      rw [if_pos ⟨trivial, by simp [sizeOk]; omega, by simp, by rw [List.all_append, hx.leaf, h5.leaf]; rfl⟩]
      simp only [Option.bind_some, retA, List.drop_zero, Nat.mul_one, hys.flat, List.length_append]
      rw [List.take_append_of_le_length (by simp), List.take_of_length_le (by simp)]
    · have : j ≠ n := fun q => hne2 xs.length (by rw [q])
      simp [St.new, St.set, upd, this]
      omega
end Go.Proofs.YtmkmakokgfigoaaDoor.VM
