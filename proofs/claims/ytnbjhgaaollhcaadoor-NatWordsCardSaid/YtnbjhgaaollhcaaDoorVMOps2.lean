import Derived.Test.YtnbjhgaaollhcaaDoorVMOps1
/-! Operations that look at their operands alone, and those that make blocks. -/
namespace Go.Proofs.YtnbjhgaaollhcaaDoor.VM
set_option linter.unusedSectionVars false
open Go.RowKit
variable [Glob]
section
variable {P : Program} {w0 w : World} {G : Gh} {F : Nat → Option Blk} {S : St}

theorem flat_len {s : Nat} : ∀ (xs : List AV), (∀ x ∈ xs, x.cells.length = s) → (flat xs).length = xs.length * s
  | [], _ => by simp [flat]
  | x :: xs, h => by
    have ih := flat_len xs (fun y hy => h y (by simp [hy]))
    unfold flat at ih ⊢
    simp only [List.flatMap_cons, List.length_append, ih, h x (by simp), List.length_cons]
    rw [Nat.add_mul]; omega

theorem flat_at {s : Nat} : ∀ (xs : List AV), (∀ x ∈ xs, x.cells.length = s) → ∀ i (hi : i < xs.length) j, j < s → (flat xs)[i * s + j]? = (xs[i]).cells[j]?
  | [], _, _, hi, _, _ => by simp at hi
  | x :: xs, h, i, hi, j, hj => by
    have hx := h x (by simp)
    cases i with
    | zero =>
      simp only [Nat.zero_mul, Nat.zero_add, flat, List.flatMap_cons, List.getElem_cons_zero]
      rw [List.getElem?_append_left (by omega)]
    | succ i =>
      simp only [flat, List.flatMap_cons, List.getElem_cons_succ]
      rw [List.getElem?_append_right (by rw [hx, Nat.add_mul]; omega), hx]
      have := flat_at xs (fun y hy => h y (by simp [hy])) i (by simpa using hi) j hj
      rw [← this, flat]
      congr 1
      rw [Nat.add_mul]; omega

theorem flat_take {s : Nat} (xs : List AV) (h : ∀ x ∈ xs, x.cells.length = s) (k : Nat) : flat (xs.take k) = (flat xs).take (k * s) := by
  induction xs generalizing k with
  | nil => simp [flat]
  | cons x xs ih =>
    cases k with
    | zero => simp [flat]
    | succ k =>
      have hx := h x (by simp)
      have := ih (fun y hy => h y (by simp [hy])) k
      unfold flat at this ⊢
      simp only [List.take_succ_cons, List.flatMap_cons, this]
      rw [List.take_append, hx, List.take_of_length_le (l := x.cells) (by rw [hx, Nat.add_mul]; omega)]
      congr 2
      rw [Nat.add_mul]; omega
theorem flat_drop {s : Nat} (xs : List AV) (h : ∀ x ∈ xs, x.cells.length = s) (k : Nat) : flat (xs.drop k) = (flat xs).drop (k * s) := by
  induction xs generalizing k with
  | nil => simp [flat]
  | cons x xs ih =>
    cases k with
    | zero => simp [flat]
    | succ k =>
      have hx := h x (by simp)
      have := ih (fun y hy => h y (by simp [hy])) k
      unfold flat at this ⊢
      simp only [List.drop_succ_cons, List.flatMap_cons, this]
      rw [List.drop_append, hx, List.drop_of_length_le (l := x.cells) (by rw [hx, Nat.add_mul]; omega), List.nil_append]
      congr 1
      rw [Nat.add_mul]; omega

/-! ### addresses -/
theorem fieldsA_und {t : TypeId} {i : Nat} {fd : Field} (h : fieldsA P t i = some fd) : ∃ fs, P.underlying t = some (.struct fs) ∧ fs[i]? = some fd := by
  unfold fieldsA at h
  split at h
  · rename_i fs hu; exact ⟨fs, hu, h⟩
  · cases h

theorem sim_fieldAddr {t : TypeId} {x v : AV} {c : Value} {i : Nat} (hx : VR G x c) (h : fieldAddrA P t x i = some v) : ∃ cv, (Instr.fieldAt t c i).run P w = .ok cv w ∧ VR G v cv := by
  unfold fieldAddrA at h
  replace h := Option.bind_eq_some_iff.1 h; obtain ⟨fd, hfd, h⟩ := h
  obtain ⟨fs, hu, hi⟩ := fieldsA_und hfd
  replace h := Option.bind_eq_some_iff.1 h; obtain ⟨s, hs, h⟩ := h
  split at h
  · cases h
  · rename_i hs0
    split at h
    · rename_i n off
      cases h
      cases hx with
      | ptr _ _ b o hio =>
        exact ⟨_, by simp [Instr.fieldAt, run_underlying hu, hi, Instr.sureAddr, fieldPlace, szA_run hs, hs0, add_eq]; rfl, by rw [Nat.add_assoc]; exact VR.ptr _ _ b o hio⟩
    · rename_i cs off
      cases h
      cases hx with
      | cptr _ _ b o val hm hv =>
        exact ⟨_, by simp [Instr.fieldAt, run_underlying hu, hi, Instr.sureAddr, fieldPlace, szA_run hs, hs0, add_eq]; rfl, by rw [Nat.add_assoc]; exact VR.cptr _ _ b o val hm hv⟩
    · cases h

/-- A part of a struct by value. -/
theorem part_val {t : TypeId} {s : Nat} {ag : Bool} (hs : szA P t = some s) (hg : isAggA P t = some ag) {xs : List AV} {cs : Array Value} (hl : xs.length = cs.size)
    (hv : ∀ i (h : i < xs.length), VR G xs[i] (cs.getD i Go.undef)) {off : Nat} {v : AV} (hp : partA ag s xs off = some v) : ∃ c, (part t cs off).run P w = .ok c w ∧ VR G v c := by
  unfold partA at hp
  cases ag with
  | true =>
    simp only [if_true] at hp
    split at hp
    · rename_i hle
      cases hp
      refine ⟨.agg (cs.extract off (off + s)), by simp [part, isAggA_run hg, szA_run hs], .agg _ _ (by simp; omega) (fun i hi => ?_)⟩
      have hi' : i < s := by simp at hi; omega
      have := hv (off + i) (by omega)
      have e1 : off + i < cs.size := by omega
      simp only [Array.getD, e1, dite_true] at this
      have e2 : i < (cs.extract off (off + s)).size := by simp; omega
      simp only [Array.getD, e2, dite_true, List.getElem_take, List.getElem_drop]
      simpa using this
    · cases hp
  | false =>
    simp only [Bool.false_eq_true, if_false] at hp
    obtain ⟨hlt, rfl⟩ := List.getElem?_eq_some_iff.1 hp
    refine ⟨cs.getD off Go.undef, ?_, hv off hlt⟩
    unfold part
    simp only [Sem.run_bind, isAggA_run hg, Result.andThen_ok, Bool.false_eq_true, if_false]
    rw [getD_some (show off < cs.size by omega)]
    rfl

theorem sim_field {t : TypeId} {x v : AV} {c : Value} {i : Nat} (hx : VR G x c) (h : fieldA P t x i = some v) : ∃ cv, (Instr.field t c i).run P w = .ok cv w ∧ VR G v cv := by
  unfold fieldA at h
  replace h := Option.bind_eq_some_iff.1 h; obtain ⟨fd, hfd, h⟩ := h
  obtain ⟨fs, hu, hi⟩ := fieldsA_und hfd
  split at h
  · replace h := Option.bind_eq_some_iff.1 h; obtain ⟨s, hs, h⟩ := h
    replace h := Option.bind_eq_some_iff.1 h; obtain ⟨ag, hg, h⟩ := h
    cases hx with
    | agg xs cs hl hv =>
      obtain ⟨c, h1, h2⟩ := part_val (P := P) (w := w) hs hg hl hv h
      exact ⟨c, by simp [Instr.field, run_underlying hu, hi, asAgg, h1], h2⟩
  · cases h

theorem sim_indexAddr {t : TypeId} {x i v : AV} {c d : Value} (hx : VR G x c) (hi : VR G i d) (h : indexAddrA P t x i = some v) : ∃ cv, (Instr.indexAt t c d).run P w = .ok cv w ∧ VR G v cv := by
  unfold indexAddrA at h
  split at h
  · rename_i e k i hu
    cases hi
    replace h := Option.bind_eq_some_iff.1 h; obtain ⟨s, hs, h⟩ := h
    split at h
    · rename_i xs tp
      split at h
      · rename_i hr
        split at h
        · rename_i v' hv'
          split at h
          · rename_i hlen
            cases h
            cases hx with
            | elst => simp at hv'
            | lst _ _ b o cap s' val hc hs' hm hv ht =>
              obtain ⟨hlt, rfl⟩ := List.getElem?_eq_some_iff.1 hv'
              have es : s' = s := by rw [← hs' _ (List.getElem_mem hlt)]; exact hlen
              subst es
              have key : ∀ j, j < xs[i.toNat].cells.length → i.toNat * s' + j < (flat xs).length := by
                intro j hj
                rw [flat_len xs hs']
                have : (i.toNat + 1) * s' ≤ xs.length * s' := Nat.mul_le_mul_right _ (by omega)
                rw [Nat.add_mul] at this
                omega
              refine ⟨_, by simp [Instr.indexAt, asIntOf, run_underlying hu, hr, szA_run hs, add_eq]; rfl, ?_⟩
              refine VR.cptr _ 0 b (o + i.toNat * s') (fun j => val (i.toNat * s' + j)) (fun j hj => ?_) (fun j hj => ?_)
              · rw [Nat.add_assoc]; exact hm _ (key j hj)
              · have := hv _ (key j hj)
                have e2 := flat_at xs hs' i.toNat hlt j (by omega)
                rw [List.getElem?_eq_getElem (key j hj), List.getElem?_eq_getElem hj] at e2
                rw [Option.some.inj e2] at this
                exact this
          · cases h
        · cases h
      · cases h
    · rename_i n off len s'
      split at h
      · rename_i hr
        obtain ⟨rfl, hr⟩ := hr
        cases h
        cases hx with
        | hnd _ _ _ _ b o cap m hio hc hz hm =>
          refine ⟨_, by simp [Instr.indexAt, asIntOf, run_underlying hu, hr, szA_run hs, add_eq]; rfl, ?_⟩
          have := VR.ptr n (off + i.toNat * s') b o hio
          rwa [← Nat.add_assoc] at this
      · cases h
    · cases h
  · rename_i len e k i hu
    cases hi
    replace h := Option.bind_eq_some_iff.1 h; obtain ⟨s, hs, h⟩ := h
    split at h
    · rename_i n off
      split at h
      · rename_i hr
        cases h
        cases hx with
        | ptr _ _ b o hio =>
          refine ⟨_, by simp [Instr.indexAt, asIntOf, run_underlying hu, hr, szA_run hs, add_eq, Instr.sureAddr]; rfl, ?_⟩
          have := VR.ptr n (off + i.toNat * s) b o hio
          rwa [← Nat.add_assoc] at this
      · cases h
    · rename_i cs off
      split at h
      · rename_i hr
        cases h
        cases hx with
        | cptr _ _ b o val hm hv =>
          refine ⟨_, by simp [Instr.indexAt, asIntOf, run_underlying hu, hr, szA_run hs, add_eq, Instr.sureAddr]; rfl, ?_⟩
          have := VR.cptr cs (off + i.toNat * s) b o val hm hv
          rwa [← Nat.add_assoc] at this
      · cases h
    · cases h
  · cases h

theorem sim_index {t : TypeId} {x i v : AV} {c d : Value} (hx : VR G x c) (hi : VR G i d) (h : indexA P t x i = some v) : ∃ cv, (Instr.index t c d).run P w = .ok cv w ∧ VR G v cv := by
  unfold indexA at h
  split at h
  · rename_i s k i hu
    cases hi
    cases hx
    split at h
    · rename_i h0
      obtain ⟨b, hb, rfl⟩ := Option.map_eq_some_iff.1 h
      refine ⟨.int .u8 b.toNat, ?_, .int _ _⟩
      have : (⟨s.toArray⟩ : ByteArray)[i.toNat]? = some b := by
        obtain ⟨hlt, he⟩ := List.getElem?_eq_some_iff.1 hb
        rw [getElem?_pos (⟨s.toArray⟩ : ByteArray) i.toNat hlt, ← he]; rfl
      simp [Instr.index, asIntOf, run_underlying hu, h0, this]
    · cases h
  · rename_i len e cs k i hu
    cases hi
    replace h := Option.bind_eq_some_iff.1 h; obtain ⟨s, hs, h⟩ := h
    replace h := Option.bind_eq_some_iff.1 h; obtain ⟨ag, hg, h⟩ := h
    split at h
    · rename_i hr
      cases hx with
      | agg xs cs hl hv =>
        obtain ⟨c, h1, h2⟩ := part_val (P := P) (w := w) hs hg hl hv h
        exact ⟨c, by simp [Instr.index, asIntOf, run_underlying hu, hr, szA_run hs, h1], h2⟩
    · cases h
  · cases h

theorem sim_extract {x v : AV} {c : Value} {i : Nat} (hx : VR G x c) {vs : List AV} (e : x = .tuple vs) (h : vs[i]? = some v) : ∃ cv, (Instr.extract c i).run P w = .ok cv w ∧ VR G v cv := by
  subst e
  obtain ⟨hlt, rfl⟩ := List.getElem?_eq_some_iff.1 h
  cases hx with
  | tuple xs cs hl hv => exact ⟨cs.getD i Go.undef, by simp only [Instr.extract]; rw [getD_some (show i < cs.size by omega)]; rfl, hv i hlt⟩

/-! ### bounds and cuts -/
theorem boundA_run {d top : Nat} {x : Option AV} {c : Option Value} {r : Nat} (hx : match x, c with | none, none => True | some v, some u => VR G v u | _, _ => False) (h : boundA d top x = some r) (code : BoundsCode) :
    (match c with | some u => Instr.sliceBound u top code | none => pure d).run P w = .ok r w := by
  unfold boundA at h
  split at h
  · cases h
    cases c with
    | none => rfl
    | some u => exact hx.elim
  · rename_i k i
    split at h
    · rename_i hr
      cases h
      cases c with
      | none => exact hx.elim
      | some u =>
        cases hx
        simp [Instr.sliceBound, asIntOf, hr]
    · cases h
  · cases h
theorem boundA_le {d top : Nat} {x : Option AV} {r : Nat} (h : boundA d top x = some r) (hd : d ≤ top) : r ≤ top := by
  unfold boundA at h
  split at h
  · cases h; exact hd
  · split at h
    · cases h; omega
    · cases h
  · cases h
end
end Go.Proofs.YtnbjhgaaollhcaaDoor.VM
