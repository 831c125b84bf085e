import Derived.Test.YtojgnofagkekeaaDoorVMKit3
/-! More of written arrays of whole numbers. -/
namespace Go.Proofs.YtojgnofagkekeaaDoor.VM
set_option linter.unusedVariables false
set_option linter.unusedSimpArgs false
set_option linter.unusedSectionVars false
open Go.RowKit
variable [Glob] {P : Program} {C : Cfg} {f : FuncId}
def nn (k : IntKind) (xs : List Nat) : List AV := xs.map fun (n : Nat) => .int k (n : Int)
theorem nn_len (k : IntKind) (xs : List Nat) : (nn k xs).length = xs.length := by simp [nn]
theorem nn_app (k : IntKind) (xs ys : List Nat) : nn k (xs ++ ys) = nn k xs ++ nn k ys := by simp [nn]
theorem nn_nums (k : IntKind) (xs : List Nat) : Nums (nn k xs) := fun x hx => by obtain ⟨n, _, rfl⟩ := List.mem_map.1 hx; exact ⟨_, _, rfl⟩
theorem nn_get (k : IntKind) (xs : List Nat) (rest : List AV) (i : Nat) (h : i < xs.length) : (nn k xs ++ rest)[i]? = some (.int k (xs[i] : Nat)) := by
  rw [List.getElem?_append_left (by rw [nn_len]; exact h)]
  simp [nn, h]
theorem nn_set (k : IntKind) (xs : List Nat) (rest : List AV) (i v : Nat) (h : i < xs.length) : (nn k xs ++ rest).set i (.int k (v : Int)) = nn k (xs.set i v) ++ rest := by
  rw [List.set_append_left _ _ (by rw [nn_len]; exact h)]
  simp [nn, List.map_set]
theorem nums_one (k : IntKind) (i : Int) : Nums [.int k i] := fun x hx => ⟨k, i, by simpa using hx⟩
theorem off_nat (i : Nat) : 0 + ((i : Nat) : Int).toNat * 1 = i := by simp
/-- Reading a place. -/
theorem ld_nn {S : St} {n i : Nat} {k : IntKind} {xs : List Nat} {rest : List AV} {off : Nat} {K : AV → Prop} (hm : S.mem n = some (.cells (nn k xs ++ rest))) (hi : i < xs.length) (ho : off = i) (h : K (.int k (xs[i] : Nat))) :
    ∃ cs, S.cells n = some cs ∧ partF false (partA false 1 cs off) K := by
  subst ho
  refine ⟨_, cells_of_mem hm, ?_⟩
  show partF false ((nn k xs ++ rest)[off]?) K
  rw [nn_get k xs rest off hi]
  exact h
/-- Writing a place. -/
theorem st_nn {S : St} {n i : Nat} {k : IntKind} {xs : List Nat} {rest : List AV} {off : Nat} {x : Int} {K : List AV → Prop} (v : Nat) (hm : S.mem n = some (.cells (nn k xs ++ rest))) (hi : i < xs.length) (ho : off = i) (hx : x = v) (h : K (nn k (xs.set i v) ++ rest)) :
    ∃ cs cs', S.cells n = some cs ∧ (if (AV.int k x).cells.length = 1 ∧ (AV.int k x).cells.all AV.leafOk = true ∧ off + 1 ≤ cs.length then some (setsA cs off (AV.int k x).cells) else none) = some cs' ∧ K cs' := by
  subst ho hx
  refine ⟨_, _, cells_of_mem hm, if_pos ⟨rfl, rfl, by simp [nn_len]; omega⟩, ?_⟩
  show K ((nn k xs ++ rest).set off (.int k v))
  rw [nn_set k xs rest off v hi]
  exact h
/-- .. appended one to. -/
theorem HdB.push {t e : TypeId} {by_ : Nat} {z : AV} (hE : Elem P t e 1 by_ false z) (hh : C.hnd f = true) {S0 S : St} {v : AV} {xs : List AV} {k : IntKind} {i : Int} (hk : Keep S0 S) (hv : HdB S0.next S v xs)
    (hs : (xs.length + 1) * by_ ≤ 140737488355328 ∧ xs.length + 1 ≤ 140737488355328) :
    ∃ S2, builtinA P C f .append #[t, t] [v, .hnd S.next 0 1 1] (S.new (.cells [.int k i])) = some (.ret (.hnd (S.next + 1) 0 (xs ++ [AV.int k i]).length 1), S2) ∧ HdB S0.next S2 (.hnd (S.next + 1) 0 (xs ++ [AV.int k i]).length 1) (xs ++ [AV.int k i]) ∧ Keep S0 S2 ∧ S2.next = S.next + 2 ∧ S2.mem (S.next + 1) = some (.cells (xs ++ [AV.int k i])) ∧ ∀ j, j < S.next → (∀ l, v ≠ .hnd j 0 l 1) → S2.mem j = S.mem j := by
  have h1 : HdB S0.next (S.new (.cells [.int k i])) v xs := hv.mono (by show S.next ≤ S.next + 1; omega) (fun j h1 h2 _ => by simp [St.new, upd]; omega)
  obtain ⟨S2, a1, a2, a3, a4, a5⟩ := HdB.append (C := C) (f := f) hE hh (y := .hnd S.next 0 1 1) (ys := [.int k i]) h1 (by have := hk.next; show S0.next ≤ S.next + 1; omega)
    (elems_nums (xs := [.int k i]) (rest := []) (by unfold St.cells; simp [St.new, upd]) (nums_one k i)) (nums_one k i) (by simp) (by simpa using hs)
  have h5 : ∀ j, j < S.next → (∀ l, v ≠ .hnd j 0 l 1) → S2.mem j = S.mem j := fun j hj hne => by
    rw [a5 j (by show j < S.next + 1; omega) hne]; simp [St.new, upd]; omega
  refine ⟨S2, a1, a2, ⟨by rw [a3]; show S0.next ≤ S.next + 1 + 1; have := hk.next; omega, fun j hj => ?_⟩, a3, a4, h5⟩
  have := hk.next
  rw [h5 j (by omega) (fun l q => ?_)]
  · exact hk.mem j hj
  · obtain ⟨_, ⟨q2, _⟩ | ⟨n, r, q2, _, q3, _⟩⟩ := hv
    · rw [q2] at q; cases q
    · rw [q3] at q; cases q; omega
/-- What runs on a written array: it alone is turned. -/
def Turn (S S1 : St) (v : AV) : Prop := S.next ≤ S1.next ∧ ∀ j, j < S.next → (∀ l, v ≠ .hnd j 0 l 1) → S1.mem j = S.mem j
theorem Turn.refl (S : St) (v : AV) : Turn S S v := ⟨Nat.le_refl _, fun _ _ _ => rfl⟩
theorem Turn.keep {S0 S S1 : St} {v : AV} {xs : List AV} (h : Turn S S1 v) (hk : Keep S0 S) (hv : HdB S0.next S v xs) : Keep S0 S1 := by
  have := hk.next
  refine ⟨Nat.le_trans this h.1, fun j hj => ?_⟩
  rw [h.2 j (by omega) (fun l q => ?_)]
  · exact hk.mem j hj
  · obtain ⟨_, ⟨q2, _⟩ | ⟨n, r, q2, _, q3, _⟩⟩ := hv
    · rw [q2] at q; cases q
    · rw [q3] at q; cases q; omega
theorem HdB.len {b : Nat} {S : St} {v : AV} {xs : List AV} (h : HdB b S v xs) : lenA v = some xs.length := by
  obtain ⟨_, ⟨rfl, rfl⟩ | ⟨n, r, _, _, rfl, _⟩⟩ := h <;> rfl
theorem HdB.keep {b : Nat} {S S1 : St} {v : AV} {xs : List AV} (h : HdB b S v xs) (k : Keep S S1) : HdB b S1 v xs := h.mono k.next fun n _ hn _ => k.mem n hn
theorem HdB.low {b c : Nat} {S : St} {v : AV} {xs : List AV} (h : HdB b S v xs) (hc : c ≤ b) : HdB c S v xs := by
  obtain ⟨h0, h1 | ⟨n, r, h1, h2⟩⟩ := h
  · exact ⟨h0, .inl h1⟩
  · exact ⟨h0, .inr ⟨n, r, by omega, h2⟩⟩
theorem HdB.shed2 {b : Nat} {S : St} {v : AV} {xs : List AV} (h : HdB b S v xs) : v.shed2 = v := by
  obtain ⟨_, ⟨rfl, rfl⟩ | ⟨n, r, _, _, rfl, _⟩⟩ := h <;> rfl
theorem HdB.shed {b : Nat} {S : St} {v : AV} {xs : List AV} (h : HdB b S v xs) : v.shed = v := by
  obtain ⟨_, ⟨rfl, rfl⟩ | ⟨n, r, _, _, rfl, _⟩⟩ := h <;> rfl
theorem nn_cons_get (ds es : List Nat) (e : Nat) (h : ds.length < (ds ++ e :: es).length) : (ds ++ e :: es)[ds.length] = e := by simp
theorem nn_cons_set (ds es : List Nat) (e v : Nat) : (ds ++ e :: es).set ds.length v = (ds ++ [v]) ++ es := by simp
/-- Reading and writing the place where a list is parted. -/
theorem ld_at {S : St} {n : Nat} {k : IntKind} {ds es : List Nat} {e : Nat} {rest : List AV} {off : Nat} {K : AV → Prop} (hm : S.mem n = some (.cells (nn k (ds ++ e :: es) ++ rest))) (ho : off = ds.length) (h : K (.int k (e : Nat))) :
    ∃ cs, S.cells n = some cs ∧ partF false (partA false 1 cs off) K := by
  refine ld_nn hm (i := ds.length) (by simp) ho ?_
  rw [nn_cons_get]; exact h
theorem st_at {S : St} {n : Nat} {k : IntKind} {ds es : List Nat} {e : Nat} {rest : List AV} {off : Nat} {x : Int} {K : List AV → Prop} (v : Nat) (hm : S.mem n = some (.cells (nn k (ds ++ e :: es) ++ rest))) (ho : off = ds.length) (hx : x = v) (h : K (nn k ((ds ++ [v]) ++ es) ++ rest)) :
    ∃ cs cs', S.cells n = some cs ∧ (if (AV.int k x).cells.length = 1 ∧ (AV.int k x).cells.all AV.leafOk = true ∧ off + 1 ≤ cs.length then some (setsA cs off (AV.int k x).cells) else none) = some cs' ∧ K cs' := by
  refine st_nn v hm (i := ds.length) (by simp) ho hx ?_
  rw [nn_cons_set]; exact h
/-- All but one array stays. -/
def TurnN (S S1 : St) (n : Nat) : Prop := S.next ≤ S1.next ∧ ∀ j, j < S.next → j ≠ n → S1.mem j = S.mem j
theorem TurnN.refl (S : St) (n : Nat) : TurnN S S n := ⟨Nat.le_refl _, fun _ _ _ => rfl⟩
theorem TurnN.set {S S1 : St} {n : Nat} (h : TurnN S S1 n) (b : Option Blk) : TurnN S (S1.set n b) n := ⟨h.1, fun j hj hne => by show upd S1.mem n b j = _; simp only [upd]; rw [if_neg hne]; exact h.2 j hj hne⟩
theorem TurnN.turn {S S1 : St} {n off l s : Nat} (h : TurnN S S1 n) : Turn S S1 (.hnd n 0 l 1) := ⟨h.1, fun j hj hne => h.2 j hj fun q => hne l (by rw [q])⟩
theorem rep_nn (k : IntKind) : ∀ n, rep [AV.int k 0] n = nn k (List.replicate n 0)
  | 0 => rfl
  | n + 1 => by
    show [AV.int k 0] ++ rep [AV.int k 0] n = _
    rw [rep_nn k n]; rfl
theorem make_nn {t e : TypeId} {by_ : Nat} {k : IntKind} (hE : Elem P t e 1 by_ false (.int k 0)) (S : St) (l : Int) (L : Nat) (hl : l = L) (hs : L * by_ ≤ 140737488355328 ∧ L ≤ 140737488355328) :
    makeSliceA P S t (.int .i64 l) (.int .i64 l) = some (.hnd S.next 0 L 1, S.new (.cells (nn k (List.replicate L 0) ++ []))) := by
  subst hl
  unfold makeSliceA
  have helem : elemA P t = some e := by simp [elemA, hE.und]
  simp only [helem, hE.size, hE.bytes, hE.zero, Option.bind_some]
  rw [if_pos ⟨rfl, by decide, by omega, by omega, by omega, by omega⟩]
  simp only [AV.cells, Int.toNat_natCast, rep_nn, List.append_nil]
theorem slice_hnd_to {t e : TypeId} (hu : P.underlying t = some (.slice e)) (hs : szA P e = some 1) (n len i : Nat) (hi : i ≤ len) (b : Int) (hb : b = i) (k : IntKind) : sliceA P t (.hnd n 0 len 1) none (some (.int k b)) none = some (.hnd n 0 i 1) := by
  subst hb
  unfold sliceA
  simp only [hu, hs, Option.bind_some, Option.isSome_none, Bool.false_eq_true, false_and, if_false, boundA]
  rw [if_pos ⟨by omega, by omega⟩]
  simp
end Go.Proofs.YtojgnofagkekeaaDoor.VM
