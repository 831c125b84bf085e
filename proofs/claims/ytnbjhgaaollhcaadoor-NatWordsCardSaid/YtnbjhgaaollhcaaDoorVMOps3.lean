import Derived.Test.YtnbjhgaaollhcaaDoorVMOps2
/-! Cuts, comparisons, arithmetic, conversions. -/
namespace Go.Proofs.YtnbjhgaaollhcaaDoor.VM
set_option linter.unusedSectionVars false
set_option linter.unusedSimpArgs false
set_option linter.unusedVariables false
open Go.RowKit
variable [Glob]
section
variable {P : Program} {w0 w : World} {G : Gh} {F : Nat → Option Blk} {S : St}

def OR (G : Gh) : Option AV → Option Value → Prop
  | none, none => True
  | some v, some u => VR G v u
  | _, _ => False

theorem getB {d top r : Nat} {x : Option AV} {c : Option Value} (hx : OR G x c) (h : boundA d top x = some r) :
    (x = none ∧ c = none ∧ r = d) ∨ (∃ k i, x = some (.int k i) ∧ c = some (.int k i) ∧ 0 ≤ i ∧ i ≤ (top : Int) ∧ r = i.toNat) := by
  unfold boundA at h
  split at h
  · cases h
    cases c with
    | none => exact .inl ⟨rfl, rfl, rfl⟩
    | some u => exact hx.elim
  · rename_i k i
    split at h
    · rename_i hr
      cases h
      cases c with
      | none => exact hx.elim
      | some u =>
        cases hx
        exact .inr ⟨k, i, rfl, rfl, hr.1, hr.2, rfl⟩
    · cases h
  · cases h

theorem sliceAt_of {t : TypeId} {d : TypeDesc} (hu : P.underlying t = some d) (hd : ∀ n e, d ≠ .array n e) (c : Value) (lo hi mx : Option Value) : (Instr.sliceAt t c lo hi mx).run P w = (Instr.slice t c lo hi mx).run P w := by
  unfold Instr.sliceAt
  simp only [Sem.run_bind, run_underlying hu, Result.andThen_ok]

theorem boundA_top {d d' top top' r : Nat} {x : Option AV} (h : boundA d top x = some r) (ht : top ≤ top') (hd : x = none → d' = r := by intro h; simp_all [boundA]) : boundA d' top' x = some r := by
  unfold boundA at h ⊢
  split
  · rw [hd rfl]
  · rename_i k i
    simp only at h
    split at h
    · rename_i hr; rw [if_pos ⟨hr.1, by omega⟩]; exact h
    · cases h
  · simp at h

/-- The cut, by the numbers. -/
theorem slice_run {t e : TypeId} {s : Nat} (hu : P.underlying t = some (.slice e)) (hs : szA P e = some s) (a : Option Addr) (len cap : Nat) (hc : len ≤ cap) {lo hi mx : Option AV} {clo chi cmx : Option Value}
    (hlo : OR G lo clo) (hhi : OR G hi chi) (hmx : OR G mx cmx) (l h m : Nat) (h1 : boundA cap cap mx = some m) (h2 : boundA len m hi = some h) (h3 : boundA 0 h lo = some l) (hne : mx.isSome = true → hi.isNone = false) :
    (Instr.sliceAt t (.slice a len cap) clo chi cmx).run P w = .ok (.slice (if m = l then a else a.map (·.add (l * s))) (h - l) (m - l)) w := by
  rw [sliceAt_of hu (by simp)]
  have hb : (Instr.sliceBounds true len cap clo chi cmx).run P w = .ok (l, h, m) w := by
    rcases getB hmx h1 with ⟨rfl, rfl, rfl⟩ | ⟨km, im, rfl, rfl, m0, m1, rfl⟩ <;> rcases getB hhi h2 with ⟨rfl, rfl, rfl⟩ | ⟨k, i, rfl, rfl, i0, i1, rfl⟩ <;> rcases getB hlo h3 with ⟨rfl, rfl, rfl⟩ | ⟨k', j, rfl, rfl, j0, j1, rfl⟩ <;> simp at hne <;> simp only [Instr.sliceBounds, Instr.sliceBound, asIntOf, Sem.run_bind, Sem.run_pure, Result.andThen_ok, pure_bind, Sem.run_ite, *, and_self, if_true]
  simp only [Instr.slice, Sem.run_bind, run_underlying hu, Result.andThen_ok, hb, szA_run hs, Sem.run_pure]

theorem extract_str (s : List UInt8) (l h : Nat) (hl : h ≤ s.length) : (⟨s.toArray⟩ : ByteArray).extract l h = ⟨((s.take h).drop l).toArray⟩ := by
  apply ByteArray.ext
  simp [ByteArray.data_extract, List.drop_take]

theorem sim_slice {t : TypeId} {x v : AV} {c : Value} {lo hi mx : Option AV} {clo chi cmx : Option Value} (hx : VR G x c) (hlo : OR G lo clo) (hhi : OR G hi chi) (hmx : OR G mx cmx)
    (h : sliceA P t x lo hi mx = some v) : ∃ cv, (Instr.sliceAt t c clo chi cmx).run P w = .ok cv w ∧ VR G v cv := by
  unfold sliceA at h
  split at h
  · -- a string
    rename_i s hu
    cases hx
    split at h
    · cases h
    · rename_i hmn
      obtain rfl : mx = none := by cases mx with | none => rfl | some m => simp at hmn
      obtain rfl : cmx = none := by cases cmx with | none => rfl | some m => exact hmx.elim
      obtain ⟨hh, h1, h⟩ := Option.bind_eq_some_iff.1 h
      obtain ⟨l, h2, h⟩ := Option.bind_eq_some_iff.1 h
      cases h
      rw [sliceAt_of hu (by simp)]
      have hle : hh ≤ s.length := boundA_le h1 (Nat.le_refl _)
      refine ⟨.string ⟨((s.take hh).drop l).toArray⟩, ?_, .str _⟩
      have hsz : (⟨s.toArray⟩ : ByteArray).size = s.length := by simp [ByteArray.size]
      rcases getB hhi h1 with ⟨rfl, rfl, rfl⟩ | ⟨k, i, rfl, rfl, i0, i1, rfl⟩ <;> rcases getB hlo h2 with ⟨rfl, rfl, rfl⟩ | ⟨k', j, rfl, rfl, j0, j1, rfl⟩
      · simp [Instr.slice, run_underlying hu, Instr.sliceBounds, hsz, extract_str]
      · have jr : 0 ≤ j ∧ j ≤ (s.length : Int) := ⟨j0, j1⟩
        simp [Instr.slice, run_underlying hu, Instr.sliceBounds, Instr.sliceBound, asIntOf, hsz, jr, extract_str]
      · have ir : 0 ≤ i ∧ i ≤ (s.length : Int) := ⟨i0, i1⟩
        have : i.toNat ≤ s.length := by omega
        simp [Instr.slice, run_underlying hu, Instr.sliceBounds, Instr.sliceBound, asIntOf, hsz, ir, extract_str, this]
      · have ir : 0 ≤ i ∧ i ≤ (s.length : Int) := ⟨i0, i1⟩
        have jr : 0 ≤ j ∧ j ≤ (i.toNat : Int) := ⟨j0, j1⟩
        have : i.toNat ≤ s.length := by omega
        simp only [Instr.slice, Sem.run_bind, run_underlying hu, Result.andThen_ok, Instr.sliceBounds, Instr.sliceBound, asIntOf, hsz, Sem.run_pure, ir, jr, and_self, if_true, Option.isSome_none, Bool.false_eq_true, if_false]
        rw [extract_str _ _ _ this]
  · -- nil
    rename_i e hu
    cases hx
    replace h := Option.bind_eq_some_iff.1 h; obtain ⟨s, hs, h⟩ := h
    split at h
    · cases h
    · rename_i hne
      replace h := Option.bind_eq_some_iff.1 h; obtain ⟨m, h1, h⟩ := h
      replace h := Option.bind_eq_some_iff.1 h; obtain ⟨hh, h2, h⟩ := h
      replace h := Option.bind_eq_some_iff.1 h; obtain ⟨l, h3, h⟩ := h
      cases h
      have hm0 : m = 0 := by have := boundA_le h1 (Nat.le_refl _); omega
      subst hm0
      have hh0 : hh = 0 := by have := boundA_le h2 (by omega); omega
      subst hh0
      have hl0 : l = 0 := by have := boundA_le h3 (by omega); omega
      subst hl0
      refine ⟨.slice none 0 0, ?_, .nils⟩
      rw [slice_run hu hs none 0 0 (Nat.le_refl _) hlo hhi hmx 0 0 0 h1 h2 h3 (fun hm => by cases hi with | none => exact absurd ⟨hm, rfl⟩ hne | some v => rfl)]
      rfl
  · -- a list
    rename_i e xs tp hu
    replace h := Option.bind_eq_some_iff.1 h; obtain ⟨s, hs, h⟩ := h
    split at h
    case isFalse => cases h
    rename_i hhead
    cases hx with
    | elst _ a cap ht =>
      split at h
      · replace h := Option.bind_eq_some_iff.1 h; obtain ⟨hh, h2, h⟩ := h
        replace h := Option.bind_eq_some_iff.1 h; obtain ⟨l, h3, h⟩ := h
        cases h
        have hle2 : hh ≤ 0 := boundA_le h2 (Nat.le_refl _)
        have hle3 := boundA_le h3 (Nat.zero_le _)
        obtain rfl : hh = 0 := by omega
        obtain rfl : l = 0 := by omega
        refine ⟨_, slice_run hu hs (some a) 0 cap (Nat.zero_le _) hlo hhi hmx 0 0 cap (by simp [boundA]) (boundA_top h2 (Nat.zero_le _)) h3 (by simp), ?_⟩
        have haddr : (if cap = 0 then some a else (some a).map (·.add (0 * s))) = some a := by split <;> simp [Addr.add]
        rw [haddr]
        refine VR.elst _ a cap ?_
        rcases ht with rfl | ⟨rfl, e⟩
        · exact .inl rfl
        · exact .inr ⟨rfl, e⟩
      · rename_i mm
        split at h
        · cases h
        · rename_i hhn
          replace h := Option.bind_eq_some_iff.1 h; obtain ⟨m, h1, h⟩ := h
          replace h := Option.bind_eq_some_iff.1 h; obtain ⟨hh, h2, h⟩ := h
          replace h := Option.bind_eq_some_iff.1 h; obtain ⟨l, h3, h⟩ := h
          cases h
          have hle1 : m ≤ 0 := boundA_le h1 (Nat.zero_le _)
          have hle2 := boundA_le h2 (Nat.zero_le _)
          have hle3 := boundA_le h3 (Nat.zero_le _)
          obtain rfl : m = 0 := by omega
          obtain rfl : hh = 0 := by omega
          obtain rfl : l = 0 := by omega
          obtain ⟨hi', rfl⟩ : ∃ v, hi = some v := by cases hi with | none => simp at hhn | some v => exact ⟨v, rfl⟩
          refine ⟨_, slice_run hu hs (some a) 0 cap (Nat.zero_le _) hlo hhi hmx 0 0 0 (boundA_top h1 (Nat.zero_le _)) (boundA_top h2 (Nat.le_refl _)) h3 (by simp), ?_⟩
          exact VR.elst _ a 0 (.inr ⟨rfl, rfl⟩)
    | lst _ _ b o cap s' val hc hs' hm hv ht =>
      have hss : ∀ l h, (if l ≤ h then h else l) ≤ xs.length → l ≠ 0 → s' = s := by
        intro l h hle hl
        cases xs with
        | nil => simp at hle; split at hle <;> omega
        | cons x xs => simp [headOk] at hhead; rw [← hhead]; exact (hs' x (by simp)).symm
      -- what a cut of the list is, in memory
      have cut : ∀ (l hh cap' : Nat) (tp' : Tip) (o' : Nat), l ≤ hh → hh ≤ xs.length → hh - l ≤ cap' → (l < hh → o' = o + l * s) → TipR G b (o' + (flat ((xs.take hh).drop l)).length) o' cap' (hh - l) s' tp' →
          VR G (.lst ((xs.take hh).drop l) tp') (.slice (some ⟨b, o', none⟩) (hh - l) cap') := by
        intro l hh cap' tp' o' hlh hhx hcap ho ht'
        have hlen : ((xs.take hh).drop l).length = hh - l := by simp; omega
        have hsub : ∀ x ∈ (xs.take hh).drop l, x.cells.length = s' := fun x hx => hs' x (List.mem_of_mem_take (List.mem_of_mem_drop hx))
        have hflat : flat ((xs.take hh).drop l) = ((flat xs).take (hh * s')).drop (l * s') := by
          rw [flat_drop _ (fun x hx => hs' x (List.mem_of_mem_take hx)), flat_take _ hs']
        have key : ∀ i, i < (flat ((xs.take hh).drop l)).length → o' + i = o + (l * s' + i) ∧ ∃ h1 : l * s' + i < (flat xs).length, ∀ h2 : i < (flat ((xs.take hh).drop l)).length, (flat ((xs.take hh).drop l))[i]'h2 = (flat xs)[l * s' + i]'h1 := by
          intro i hi
          have hi' := hi
          rw [flat_len _ hsub, hlen] at hi'
          have hlt : l < hh := by
            rcases Nat.lt_or_ge l hh with h | h
            · exact h
            · rw [Nat.sub_eq_zero_of_le h, Nat.zero_mul] at hi'; omega
          have hfl := flat_len xs hs'
          have h1 : l * s' + i < (flat xs).length := by
            rw [hfl]
            have : hh * s' ≤ xs.length * s' := Nat.mul_le_mul_right _ hhx
            have e : (hh - l) * s' + l * s' = hh * s' := by rw [← Nat.add_mul]; congr 1; omega
            omega
          refine ⟨?_, h1, fun h2 => ?_⟩
          · rw [ho hlt]
            by_cases hl0 : l = 0
            · subst hl0; omega
            · rw [hss l hh (by rw [if_pos hlh]; exact hhx) hl0]; omega
          · have e2 : (flat ((xs.take hh).drop l))[i]? = (flat xs)[l * s' + i]? := by
              have e : (hh - l) * s' + l * s' = hh * s' := by rw [← Nat.add_mul]; congr 1; omega
              rw [hflat, List.getElem?_drop, List.getElem?_take, if_pos (by omega)]
            rw [List.getElem?_eq_getElem h2, List.getElem?_eq_getElem h1] at e2
            exact Option.some.inj e2
        have := VR.lst (G := G) ((xs.take hh).drop l) tp' b o' cap' s' (fun i => val (l * s' + i)) (by rw [hlen]; exact hcap) hsub
          (fun i hi => by obtain ⟨e1, h1, _⟩ := key i hi; rw [e1]; exact hm _ h1)
          (fun i hi => by obtain ⟨_, h1, e2⟩ := key i hi; rw [e2 hi]; exact hv _ h1) (by rw [hlen]; exact ht')
        rwa [hlen] at this
      split at h
      · -- two places
        replace h := Option.bind_eq_some_iff.1 h; obtain ⟨hh, h2, h⟩ := h
        replace h := Option.bind_eq_some_iff.1 h; obtain ⟨l, h3, h⟩ := h
        cases h
        have hle2 := boundA_le h2 (Nat.le_refl _)
        have hle3 := boundA_le h3 (Nat.zero_le _)
        refine ⟨_, slice_run hu hs (some ⟨b, o, none⟩) xs.length cap hc hlo hhi hmx l hh cap (by simp [boundA]) (boundA_top h2 hc) h3 (by simp), ?_⟩
        have haddr : (if cap = l then some (⟨b, o, none⟩ : Addr) else (some (⟨b, o, none⟩ : Addr)).map (·.add (l * s))) = some ⟨b, (if cap = l then o else o + l * s), none⟩ := by
          split <;> simp [add_eq]
        rw [haddr]
        refine cut l hh (cap - l) _ (if cap = l then o else o + l * s) hle3 hle2 (by omega) (fun hlt => by rw [if_neg (by omega)]) ?_
        by_cases hfull : hh = xs.length
        · rw [if_pos hfull]
          cases tp with
          | lost => exact trivial
          | full => show cap - l = hh - l; have : cap = xs.length := ht; omega
          | tag n =>
            show TipR G b _ _ (cap - l) (hh - l) s' (if l < hh then Tip.tag n else Tip.lost)
            by_cases hlt : l < hh
            · rw [if_pos hlt]
              obtain ⟨t1, t2, m, t3, t4⟩ := ht
              have hne : ¬ cap = l := by omega
              rw [if_neg hne]
              have hflen := flat_len xs hs'
              have hflen2 : (flat ((xs.take hh).drop l)).length = (hh - l) * s' := by
                rw [flat_len _ (fun x hx => hs' x (List.mem_of_mem_take (List.mem_of_mem_drop hx)))]
                congr 1; simp; omega
              have hs2 : l * s = l * s' := by
                by_cases hl0 : l = 0
                · subst hl0; simp
                · rw [hss l hh (by rw [if_pos hle3]; exact hle2) hl0]
              have e : (hh - l) * s' + l * s' = hh * s' := by rw [← Nat.add_mul]; congr 1; omega
              refine ⟨?_, by omega, m, t3, ?_⟩
              · rw [t1, hflen, hflen2, hs2]
                have : xs.length * s' = hh * s' := by rw [hfull]
                congr 2; omega
              · have e3 : (cap - l) * s' + l * s' = cap * s' := by rw [← Nat.add_mul]; congr 1; omega
                omega
            · rw [if_neg hlt]; exact trivial
        · rw [if_neg hfull]; exact trivial
      · -- three
        rename_i mm
        split at h
        · cases h
        · rename_i hhn
          replace h := Option.bind_eq_some_iff.1 h; obtain ⟨m, h1, h⟩ := h
          replace h := Option.bind_eq_some_iff.1 h; obtain ⟨hh, h2, h⟩ := h
          replace h := Option.bind_eq_some_iff.1 h; obtain ⟨l, h3, h⟩ := h
          cases h
          have hle1 := boundA_le h1 (Nat.zero_le _)
          have hle2 := boundA_le h2 (Nat.zero_le _)
          have hle3 := boundA_le h3 (Nat.zero_le _)
          obtain ⟨hi', rfl⟩ : ∃ v, hi = some v := by cases hi with | none => simp at hhn | some v => exact ⟨v, rfl⟩
          refine ⟨_, slice_run hu hs (some ⟨b, o, none⟩) xs.length cap hc hlo hhi hmx l hh m (boundA_top h1 hc) (boundA_top h2 (Nat.le_refl _)) h3 (by simp), ?_⟩
          have haddr : (if m = l then some (⟨b, o, none⟩ : Addr) else (some (⟨b, o, none⟩ : Addr)).map (·.add (l * s))) = some ⟨b, (if m = l then o else o + l * s), none⟩ := by
            split <;> simp [add_eq]
          rw [haddr]
          refine cut l hh (m - l) _ (if m = l then o else o + l * s) hle3 (by omega) (by omega) (fun hlt => by rw [if_neg (by omega)]) ?_
          by_cases e : hh = m
          · rw [if_pos e]; show m - l = hh - l; rw [e]
          · rw [if_neg e]; exact trivial
  · -- a written array
    rename_i e n off len s' hu
    split at h
    · cases h
    · rename_i hmn
      replace h := Option.bind_eq_some_iff.1 h; obtain ⟨s, hs, h⟩ := h
      replace h := Option.bind_eq_some_iff.1 h; obtain ⟨m0, h1, h⟩ := h
      replace h := Option.bind_eq_some_iff.1 h; obtain ⟨hh, h2, h⟩ := h
      replace h := Option.bind_eq_some_iff.1 h; obtain ⟨l, h3, h⟩ := h
      split at h
      case isFalse => cases h
      rename_i es
      subst es
      have hle1 : m0 ≤ len := boundA_le h1 (Nat.le_refl _)
      have hle2 : hh ≤ m0 := by
        by_cases hi0 : hi = none
        · subst hi0
          cases mx with
          | none => simp [boundA] at h1 h2; omega
          | some v => simp at hmn
        · unfold boundA at h2
          split at h2
          · exact absurd rfl hi0
          · split at h2
            · cases h2; omega
            · cases h2
          · cases h2
      have hle3 := boundA_le h3 (Nat.zero_le _)
      cases hx with
      | hnd _ _ _ _ b o cap m hio hc hz hm =>
        obtain ⟨mr, h1', hm1, hm2⟩ : ∃ mr, boundA cap cap mx = some mr ∧ m0 ≤ mr ∧ mr ≤ cap := by
          cases mx with
          | none => exact ⟨cap, rfl, by omega, Nat.le_refl _⟩
          | some v => exact ⟨m0, boundA_top h1 hc (fun e => by cases e), Nat.le_refl _, by omega⟩
        refine ⟨_, slice_run hu hs (some ⟨b, o + off, none⟩) len cap hc hlo hhi hmx l hh mr h1' (boundA_top h2 hm1) h3 (fun e => by cases hi with | none => exact absurd ⟨e, rfl⟩ hmn | some v => rfl), ?_⟩
        split at h
        · rename_i hor
          cases h
          have haddr : (if mr = l then some (⟨b, o + off, none⟩ : Addr) else (some (⟨b, o + off, none⟩ : Addr)).map (·.add (l * s'))) = some ⟨b, o + (off + l * s'), none⟩ := by
            split
            · rename_i e
              have : l = 0 := by omega
              subst this; simp
            · simp [add_eq, Nat.add_assoc]
          rw [haddr]
          refine VR.hnd n (off + l * s') (hh - l) s' b o (mr - l) m hio (by omega) hz ?_
          have e3 : (mr - l) * s' + l * s' = mr * s' := by rw [← Nat.add_mul]; congr 1; omega
          have e4 : mr * s' ≤ cap * s' := Nat.mul_le_mul_right _ hm2
          omega
        · rename_i hor
          cases h
          have e1 : hh - l = 0 := by omega
          rw [e1]
          have haddr : ∃ oo, (if mr = l then some (⟨b, o + off, none⟩ : Addr) else (some (⟨b, o + off, none⟩ : Addr)).map (·.add (l * s'))) = some ⟨b, oo, none⟩ := by
            split <;> exact ⟨_, by simp [add_eq]; rfl⟩
          obtain ⟨oo, haddr⟩ := haddr
          rw [haddr]
          exact VR.lst [] .lost b oo (mr - l) 0 (fun _ => Go.undef) (by simp) (fun x hx => by cases hx) (fun i hi => by simp [flat] at hi) (fun i hi => by simp [flat] at hi) trivial
  · cases h
end
end Go.Proofs.YtnbjhgaaollhcaaDoor.VM
