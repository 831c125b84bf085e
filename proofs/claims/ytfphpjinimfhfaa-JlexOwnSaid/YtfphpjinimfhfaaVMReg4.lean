import Derived.Test.YtfphpjinimfhfaaVMReg3
/-! Regions that draw their order: what has been done so far. -/
namespace Go.Proofs.Ytfphpjinimfhfaa.VM
set_option linter.unusedSimpArgs false
set_option linter.unusedVariables false
open Go.RowKit

def updX (X : Nat → Bool) (p : Nat) : Nat → Bool := fun q => if q = p then true else X q

theorem find_congr {f g : Nat → Bool} : ∀ (l : List Nat), (∀ p ∈ l, f p = g p) → l.find? f = l.find? g
  | [], _ => rfl
  | x :: l, h => by
    simp only [List.find?_cons, h x (by simp)]
    rw [find_congr l (fun p hp => h p (by simp [hp]))]
theorem find_only {f : Nat → Bool} {p : Nat} : ∀ (l : List Nat), p ∈ l → f p = true → (∀ q ∈ l, f q = true → q = p) → l.find? f = some p
  | [], h, _, _ => by cases h
  | x :: l, h, hp, hu => by
    rw [List.find?_cons]
    by_cases hx : f x = true
    · rw [hx]; rw [hu x (by simp) hx]
    · have hx' : f x = false := by simpa using hx
      rw [hx']
      have : p ∈ l := by
        rcases List.mem_cons.1 h with e | e
        · subst e; rw [hp] at hx'; cases hx'
        · exact e
      exact find_only l this hp (fun q hq => hu q (by simp [hq]))

/-- The temporaries when the places X have been done. -/
def ovl (n : Nat) (o : Nat → Oper) (v : Nat → AV) (e0 : List AV) (X : Nat → Bool) : List AV :=
  (List.range e0.length).map fun t => match (List.range n).find? (fun p => X p && decide ((o p).dst = some t)) with | some p => v p | none => e0.getD t .undef

section
variable {n : Nat} {o : Nat → Oper} {v : Nat → AV} {e0 : List AV}

theorem ovl_len (X : Nat → Bool) : (ovl n o v e0 X).length = e0.length := by simp [ovl]
theorem ovl_at (X : Nat → Bool) (t : Nat) (h : t < e0.length) : (ovl n o v e0 X).getD t .undef = match (List.range n).find? (fun p => X p && decide ((o p).dst = some t)) with | some p => v p | none => e0.getD t .undef := by
  simp [ovl, List.getD, h]
theorem ovl_none (X : Nat → Bool) (h : ∀ p, p < n → X p = false) : ovl n o v e0 X = e0 := by
  refine List.ext_getElem (ovl_len X) (fun t h1 h2 => ?_)
  have := ovl_at (n := n) (o := o) (v := v) X t h2
  rw [find_congr (g := fun _ => false) _ (fun p hp => by rw [h p (List.mem_range.1 hp)]; rfl)] at this
  have hf : (List.range n).find? (fun _ => false) = none := by simp
  rw [hf] at this
  simpa [List.getD, h1, h2] using this

theorem ovl_eq_at {X Y : Nat → Bool} (t : Nat) (h : ∀ p, p < n → (o p).dst = some t → X p = Y p) : (ovl n o v e0 X).getD t .undef = (ovl n o v e0 Y).getD t .undef := by
  by_cases ht : t < e0.length
  · rw [ovl_at X t ht, ovl_at Y t ht, find_congr (g := fun p => Y p && decide ((o p).dst = some t)) _ (fun p hp => ?_)]
    by_cases hd : (o p).dst = some t
    · simp [hd, h p (List.mem_range.1 hp) hd]
    · simp [hd]
  · have h1 : ∀ Z, (ovl n o v e0 Z).getD t .undef = .undef := fun Z => by simp [List.getD, ovl_len, ht]
    rw [h1, h1]

theorem ovl_put (X : Nat → Bool) (p : Nat) (hp : p < n) (hX : X p = false) (hd : ∀ q, q < n → q ≠ p → ∀ d, (o p).dst = some d → (o q).dst ≠ some d) : ovl n o v e0 (updX X p) = putA (ovl n o v e0 X) (o p).dst (v p) := by
  cases hdst : (o p).dst with
  | none =>
    simp only [putA]
    refine List.ext_getElem (by simp [ovl_len]) (fun t h1 h2 => ?_)
    have := ovl_eq_at (n := n) (o := o) (v := v) (e0 := e0) (X := updX X p) (Y := X) t (fun q hq hqd => by
      unfold updX; rw [if_neg]; rintro rfl; rw [hdst] at hqd; cases hqd)
    simpa [List.getD, h1, h2] using this
  | some d =>
    simp only [putA]
    refine List.ext_getElem (by simp [ovl_len]) (fun t h1 h2 => ?_)
    have ht : t < e0.length := by simpa [ovl_len] using h1
    by_cases e : d = t
    · subst e
      rw [List.getElem_set_self]
      have := ovl_at (n := n) (o := o) (v := v) (updX X p) d ht
      rw [find_only (p := p) _ (List.mem_range.2 hp) (by simp [updX, hdst]) (fun q hq hf => by
        simp only [Bool.and_eq_true, decide_eq_true_eq] at hf
        exact Classical.byContradiction fun hne => hd q (List.mem_range.1 hq) hne d hdst hf.2)] at this
      simpa [List.getD, h1] using this
    · rw [List.getElem_set_ne e]
      have := ovl_eq_at (n := n) (o := o) (v := v) (e0 := e0) (X := updX X p) (Y := X) t (fun q hq hqd => by
        unfold updX; rw [if_neg]; rintro rfl; rw [hdst] at hqd; cases hqd; exact e rfl)
      have h2' : t < (ovl n o v e0 X).length := by rw [ovl_len]; exact ht
      simpa [List.getD, h1, h2'] using this
end

/-! ### blocks that were made ahead -/
def blkAt (s : Nat → St) (new : Nat → Bool) (p : Nat) : Option Blk := if new p = true ∧ (s (p + 1)).next = (s p).next + 1 then (s (p + 1)).mem (s p).next else none
def fl (s : Nat → St) (new : Nat → Bool) (X : Nat → Bool) (F : Nat → Option Blk) : Nat → Nat → (Nat → Option Blk)
  | 0, _ => F
  | k + 1, p => if X p = true then (match blkAt s new p with | some b => upd (fl s new X F k (p + 1)) (s p).next (some b) | none => fl s new X F k (p + 1)) else fl s new X F k (p + 1)

section
variable {s : Nat → St} {new : Nat → Bool} {F : Nat → Option Blk}

theorem upd_comm (f : Nat → Option Blk) {a b : Nat} (h : a ≠ b) (x y : Option Blk) : upd (upd f a x) b y = upd (upd f b y) a x := by
  funext m
  unfold upd
  by_cases h1 : m = a
  · subst h1; simp [h]
  · by_cases h2 : m = b
    · subst h2; simp [h1]
    · simp [h1, h2]

theorem fl_congr {X Y : Nat → Bool} : ∀ (k p : Nat), (∀ q, p ≤ q → q < p + k → X q = Y q) → fl s new X F k p = fl s new Y F k p
  | 0, _, _ => rfl
  | k + 1, p, h => by
    unfold fl
    rw [fl_congr k (p + 1) (fun q h1 h2 => h q (by omega) (by omega)), h p (Nat.le_refl _) (by omega)]

theorem fl_none {X : Nat → Bool} {q : Nat} (hb : blkAt s new q = none) : ∀ (k p : Nat), fl s new (updX X q) F k p = fl s new X F k p
  | 0, _ => rfl
  | k + 1, p => by
    unfold fl
    rw [fl_none hb k (p + 1)]
    by_cases e : p = q
    · subst e
      rw [hb]
      simp only
      split <;> split <;> rfl
    · have : updX X q p = X p := by unfold updX; rw [if_neg e]
      rw [this]

theorem blk_next {p : Nat} {b : Blk} (h : blkAt s new p = some b) : (s (p + 1)).next = (s p).next + 1 := by
  unfold blkAt at h
  split at h
  · rename_i hh; exact hh.2
  · cases h

theorem fl_insert {n : Nat} (hm : ∀ p, p < n → (s p).next ≤ (s (p + 1)).next) {X : Nat → Bool} {q : Nat} {b : Blk} (hb : blkAt s new q = some b) (hX : X q = false) (hqn : q < n) : ∀ (k p : Nat), p ≤ q → q < p + k → p + k ≤ n →
    fl s new (updX X q) F k p = upd (fl s new X F k p) (s q).next (some b)
  | 0, p, h1, h2, _ => by omega
  | k + 1, p, h1, h2, h3 => by
    have mono : ∀ a c, a ≤ c → c ≤ n → (s a).next ≤ (s c).next := by
      intro a c hac hcn
      induction c with
      | zero => rw [show a = 0 by omega]; exact Nat.le_refl _
      | succ c ih =>
        by_cases e : a = c + 1
        · subst e; exact Nat.le_refl _
        · exact Nat.le_trans (ih (by omega) (by omega)) (hm c (by omega))
    unfold fl
    by_cases e : p = q
    · subst e
      have hsame : fl s new (updX X p) F k (p + 1) = fl s new X F k (p + 1) := fl_congr k (p + 1) (fun r h1 h2 => by unfold updX; rw [if_neg (by omega)])
      rw [hsame]
      have : updX X p p = true := by simp [updX]
      rw [this, hX, hb]
      simp
    · rw [fl_insert hm hb hX hqn k (p + 1) (by omega) (by omega) (by omega)]
      have : updX X q p = X p := by unfold updX; rw [if_neg e]
      rw [this]
      by_cases hXp : X p = true
      · rw [if_pos hXp, if_pos hXp]
        cases hbp : blkAt s new p with
        | none => rfl
        | some b' =>
          simp only
          have h4 := blk_next hbp
          have h5 := mono (p + 1) q (by omega) (by omega)
          rw [upd_comm _ (by omega)]
      · rw [if_neg hXp, if_neg hXp]

theorem fl_some {X : Nat → Bool} {x : Nat} {b : Blk} : ∀ (k p : Nat), fl s new X F k p x = some b → F x = some b ∨ ∃ q, p ≤ q ∧ q < p + k ∧ X q = true ∧ blkAt s new q = some b ∧ x = (s q).next
  | 0, _, h => .inl h
  | k + 1, p, h => by
    have rest : fl s new X F k (p + 1) x = some b → F x = some b ∨ ∃ q, p ≤ q ∧ q < p + (k + 1) ∧ X q = true ∧ blkAt s new q = some b ∧ x = (s q).next := by
      intro h
      rcases fl_some k (p + 1) h with h | ⟨q, h1, h2, h3⟩
      · exact .inl h
      · exact .inr ⟨q, by omega, by omega, h3⟩
    unfold fl at h
    by_cases hX : X p = true
    · rw [if_pos hX] at h
      cases hb : blkAt s new p with
      | some b' =>
        rw [hb] at h
        simp only [upd] at h
        by_cases e : x = (s p).next
        · rw [if_pos e] at h
          cases h
          exact .inr ⟨p, Nat.le_refl _, by omega, hX, hb, e⟩
        · rw [if_neg e] at h; exact rest h
      | none => rw [hb] at h; exact rest h
    · rw [if_neg hX] at h; exact rest h

/-- What was made ahead by place q is there. -/
theorem fl_get {n : Nat} (hm : ∀ p, p < n → (s p).next ≤ (s (p + 1)).next) {X : Nat → Bool} {q : Nat} {b : Blk} (hb : blkAt s new q = some b) (hX : X q = true) : ∀ (k p : Nat), p ≤ q → q < p + k → p + k ≤ n → fl s new X F k p (s q).next = some b
  | 0, p, h1, h2, _ => by omega
  | k + 1, p, h1, h2, h3 => by
    have mono : ∀ a c, a ≤ c → c ≤ n → (s a).next ≤ (s c).next := by
      intro a c hac hcn
      induction c with
      | zero => rw [show a = 0 by omega]; exact Nat.le_refl _
      | succ c ih =>
        by_cases e : a = c + 1
        · subst e; exact Nat.le_refl _
        · exact Nat.le_trans (ih (by omega) (by omega)) (hm c (by omega))
    unfold fl
    by_cases e : p = q
    · subst e
      rw [hX, hb]
      simp [upd]
    · have ih := fl_get hm hb hX k (p + 1) (by omega) (by omega) (by omega)
      split
      · cases hbp : blkAt s new p with
        | none => exact ih
        | some b' =>
          simp only [upd]
          have h4 := blk_next hbp
          have h5 := mono (p + 1) q (by omega) (by omega)
          rw [if_neg (by omega)]
          exact ih
      · exact ih
end
end Go.Proofs.Ytfphpjinimfhfaa.VM
