import Derived.Test.YtfphpjinimfhfaaVMJ25
import Derived.Test.YtfphpjinimfhfaaVMJ10
namespace Go.Proofs.Ytfphpjinimfhfaa
open Go.Proofs.Ytfphpjinimfhfaa.VM Go.RowKit
set_option maxRecDepth 100000
set_option linter.unusedVariables false
/-! ### an escaped text is a string that means the text -/
theorem may_at {bs set : List UInt8} {x : Lx} {c : UInt8} (hw : x.well = true) (h : bs[x.at_]? = some c) : mayB bs set x = hasB set c := by unfold mayB; rw [hw, h]; rfl
theorem get_at {bs : List UInt8} {i : Nat} {c : UInt8} (h : bs[i]? = some c) : bs.getD i 0 = c := by rw [List.getD_eq_getElem?_getD, h]; rfl
theorem drop_at {bs l : List UInt8} {p : Nat} (h : bs.drop p = l) (k : Nat) : bs[p + k]? = l[k]? := by rw [← h, List.getElem?_drop]
theorem unit_step {bs : List UInt8} {k i n p : Nat} {c : UInt8} (h : bs[p]? = some c) (hh : hasB (setOf false i n) c = true) :
    unitS bs false (k + 1) i n ⟨p, 0, 0⟩ = unitS bs false k (i + 1) (n * 16 + hexv c) ⟨p + 1, 0, 0⟩ := by
  have hm : mayB bs (setOf false i n) ⟨p, 0, 0⟩ = true := by rw [may_at rfl h]; exact hh
  rw [unitS, if_pos hm, must_up hm]
  show unitS bs false k (i + 1) (n * 16 + hexv (bs.getD p 0)) ⟨p + 1, 0, 0⟩ = _
  rw [get_at h]
theorem esc_hex {bs : List UInt8} {p : Nat} {c3 c4 : UInt8} (h1 : bs[p]? = some 117) (h2 : bs[p + 1]? = some 48) (h3 : bs[p + 2]? = some 48) (h4 : bs[p + 3]? = some c3) (h5 : bs[p + 4]? = some c4)
    (g3 : hasB hexes c3 = true) (g4 : hasB hexes c4 = true) (hv : hexv c3 < 2) (hv4 : hexv c4 < 16) : escS bs ⟨p, 0, 0⟩ = (((hexv c3 * 16 + hexv c4 : Nat) : Int), ⟨p + 5, 0, 0⟩) := by
  have hm : mayB bs escFu ⟨p, 0, 0⟩ = true := by rw [may_at rfl h1]; decide
  unfold escS
  rw [if_pos hm]
  have e : bs.getD (⟨p, 0, 0⟩ : Lx).at_ 0 = 117 := get_at h1
  rw [e, if_neg (by decide)]
  have eu : unitS bs false 4 0 0 (⟨p, 0, 0⟩ : Lx).up = (hexv c3 * 16 + hexv c4, ⟨p + 5, 0, 0⟩) := by
    show unitS bs false 4 0 0 ⟨p + 1, 0, 0⟩ = _
    rw [unit_step h2 (by decide), unit_step h3 (by decide), unit_step h4 (by show hasB hexes c3 = true; exact g3), unit_step h5 (by show hasB (setOf false 3 _) c4 = true; unfold setOf; rw [if_neg (by simp), if_neg (by simp), if_neg (by simp)]; exact g4)]
    show ((((0 * 16 + hexv 48) * 16 + hexv 48) * 16 + hexv c3) * 16 + hexv c4, (⟨p + 1 + 1 + 1 + 1 + 1, 0, 0⟩ : Lx)) = _
    have : hexv 48 = 0 := by decide
    rw [this]
    simp
  rw [eu]
  dsimp only
  rw [if_neg (by omega)]
theorem hexd_ok (k : Nat) (h : k < 16) : hasB hexes (hexd.getD k 0) = true ∧ hexv (hexd.getD k 0) = k := by
  have : ∀ k : Fin 16, hasB hexes (hexd.getD k.val 0) = true ∧ hexv (hexd.getD k.val 0) = k.val := by decide +kernel
  exact this ⟨k, h⟩
theorem esc_two {bs : List UInt8} {p : Nat} {c : UInt8} (h1 : bs[p]? = some c) (hi : 0 ≤ Lib.indexByte escF c) : escS bs ⟨p, 0, 0⟩ = ((((escT.getD (Lib.indexByte escF c).toNat 0).toNat : Nat) : Int), ⟨p + 1, 0, 0⟩) := by
  have hm : mayB bs escFu ⟨p, 0, 0⟩ = true := by
    rw [may_at rfl h1]
    exact all_u8 (p := fun c => 0 ≤ Lib.indexByte escF c → hasB escFu c = true) (by decide +kernel) c hi
  unfold escS
  have e : bs.getD (⟨p, 0, 0⟩ : Lx).at_ 0 = c := get_at h1
  rw [if_pos hm, e, if_pos hi]
  rfl
theorem to_ok (r : Nat) (h : r < 128) (hi : 0 ≤ Lib.indexByte escFrom (UInt8.ofNat (min r 255))) :
    0 ≤ Lib.indexByte escF (escTo.getD (Lib.indexByte escFrom (UInt8.ofNat (min r 255))).toNat 0) ∧ (escT.getD (Lib.indexByte escF (escTo.getD (Lib.indexByte escFrom (UInt8.ofNat (min r 255))).toNat 0)).toNat 0).toNat = r := by
  have : ∀ r : Fin 128, 0 ≤ Lib.indexByte escFrom (UInt8.ofNat (min r.val 255)) → 0 ≤ Lib.indexByte escF (escTo.getD (Lib.indexByte escFrom (UInt8.ofNat (min r.val 255))).toNat 0) ∧ (escT.getD (Lib.indexByte escF (escTo.getD (Lib.indexByte escFrom (UInt8.ofNat (min r.val 255))).toNat 0)).toNat 0).toNat = r.val := by decide +kernel
  exact this ⟨r, h⟩ hi
theorem plain_ok (r : Nat) (h : r < 128) (h32 : ¬ r < 32) (hi : ¬ 0 ≤ Lib.indexByte escFrom (UInt8.ofNat (min r 255))) : r ≠ 34 ∧ r ≠ 92 := by
  have : ∀ r : Fin 128, ¬ r.val < 32 → ¬ 0 ≤ Lib.indexByte escFrom (UInt8.ofNat (min r.val 255)) → r.val ≠ 34 ∧ r.val ≠ 92 := by decide +kernel
  exact this ⟨r, h⟩ h32 hi
theorem has_one (a c : UInt8) : hasB [a] c = decide (c = a) := by
  unfold hasB Lib.indexByte
  by_cases h : c = a
  · subst h; simp
  · have h2 : ¬ a = c := fun q => h q.symm
    have h3 : Lib.indexByte [] c = -1 := rfl
    simp [h, h2, h3]
/-- Past a backslash. -/
theorem text_esc {bs : List UInt8} {k p : Nat} {out : List UInt8} {r q : Nat} (h : bs[p]? = some 92) (he : escS bs ⟨p + 1, 0, 0⟩ = ((r : Int), ⟨q, 0, 0⟩)) : textL bs (k + 1) ⟨p, 0, 0⟩ out = textL bs k ⟨q, 0, 0⟩ (out ++ encU r) := by
  have hm : mayB bs [34] ⟨p, 0, 0⟩ = false := by rw [may_at rfl h]; decide
  have hm2 : mayB bs [92] ⟨p, 0, 0⟩ = true := by rw [may_at rfl h]; decide
  have e : bs.getD (⟨p, 0, 0⟩ : Lx).at_ 0 = 92 := get_at h
  rw [textL_step, if_neg (show ¬ ((⟨p, 0, 0⟩ : Lx).well = false) from fun q => Bool.noConfusion (show true = false from q)), if_neg (by rw [hm]; decide), e, if_neg (by decide), if_pos hm2]
  show textL bs k (escS bs ⟨p + 1, 0, 0⟩).2 (if (escS bs ⟨p + 1, 0, 0⟩).2.well = true then out ++ encU (escS bs ⟨p + 1, 0, 0⟩).1.toNat else out) = _
  rw [he]
  rfl
theorem encU_head {r : Nat} (h : chr r) (h32 : ¬ r < 32) : ∃ c t, encU r = c :: t ∧ 32 ≤ c.toNat ∧ (c.toNat = r ∧ r < 128 ∨ 128 ≤ c.toNat) := by
  obtain ⟨h0, h1, h2⟩ := h
  unfold encU encS
  repeat' split
  all_goals
    refine ⟨_, _, rfl, ?_, ?_⟩
    all_goals
      simp only [UInt8.toNat_ofNat']
      omega
theorem ib_encU {r : Nat} (h : chr r) : ib (encU r) = encS r := by
  unfold ib encU
  rw [List.map_map]
  conv => rhs; rw [← List.map_id (encS r)]
  refine List.map_congr_left fun x hx => ?_
  have := enc_byt h x hx
  show ((UInt8.ofNat x.toNat).toNat : Int) = x
  rw [u8_nat _ (by omega)]
  omega
/-- Past a character that stands for itself. -/
theorem text_char {bs rest : List UInt8} {k p r : Nat} {out : List UInt8} (hr : chr r) (h32 : ¬ r < 32) (hn : r ≠ 34 ∧ r ≠ 92) (h : bs.drop p = encU r ++ rest) :
    textL bs (k + 1) ⟨p, 0, 0⟩ out = textL bs k ⟨p + (encU r).length, 0, 0⟩ (out ++ encU r) := by
  obtain ⟨c, t, hc, hc32, hcr⟩ := encU_head hr h32
  have h0 := drop_at h 0
  rw [hc] at h0
  have h0 : bs[p]? = some c := h0
  have n34 : c ≠ 34 := fun q => by subst q; rcases hcr with ⟨q, _⟩ | q <;> simp at q <;> omega
  have n92 : c ≠ 92 := fun q => by subst q; rcases hcr with ⟨q, _⟩ | q <;> simp at q <;> omega
  have hm : mayB bs [34] ⟨p, 0, 0⟩ = false := by rw [may_at rfl h0, has_one]; simpa using n34
  have hm2 : mayB bs [92] ⟨p, 0, 0⟩ = false := by rw [may_at rfl h0, has_one]; simpa using n92
  have e : bs.getD (⟨p, 0, 0⟩ : Lx).at_ 0 = c := get_at h0
  have ho : oneS ((ib bs).drop (⟨p, 0, 0⟩ : Lx).at_) = ((r : Int), ((encS r).length : Int), -1) := by
    show oneS ((ib bs).drop p) = _
    rw [← ib_drop, h, ib_app, ib_encU hr, one_enc hr]
  have hl : (encU r).length = (encS r).length := by simp [encU]
  have := enc_len r
  rw [textL_step, if_neg (show ¬ ((⟨p, 0, 0⟩ : Lx).well = false) from fun q => Bool.noConfusion (show true = false from q)), if_neg (by rw [hm]; decide), e, if_neg (by omega), if_neg (by rw [hm2]; decide), ho]
  dsimp only
  rw [if_neg (by omega)]
  simp only [Int.toNat_natCast, hl]
theorem text_one {bs rest : List UInt8} {k p r : Nat} {out : List UInt8} (hr : chr r) (h : bs.drop p = esc1 r ++ rest) :
    textL bs (k + 1) ⟨p, 0, 0⟩ out = textL bs k ⟨p + (esc1 r).length, 0, 0⟩ (out ++ encU r) := by
  unfold esc1 at h ⊢
  split at h
  · rename_i q
    rw [if_pos q]
    obtain ⟨t1, t2⟩ := to_ok r q.1 q.2
    generalize escTo.getD _ 0 = c at *
    have h0 := drop_at h 0
    have h1 := drop_at h 1
    have h0 : bs[p]? = some 92 := h0
    have h1 : bs[p + 1]? = some c := h1
    exact text_esc h0 (by rw [esc_two h1 t1, t2]; rfl)
  rename_i q
  split at h
  · rename_i q2
    rw [if_neg q, if_pos q2]
    have h0 := drop_at h 0
    have h1 := drop_at h 1
    have h2 := drop_at h 2
    have h3 := drop_at h 3
    have h4 := drop_at h 4
    have h5 := drop_at h 5
    have k1 := hexd_ok (r / 16) (by omega)
    have k2 := hexd_ok (r % 16) (by omega)
    exact text_esc (r := r) (q := p + 6) h0 (by
      rw [esc_hex (p := p + 1) (c3 := hexd.getD (r / 16) 0) (c4 := hexd.getD (r % 16) 0) h1 h2 h3 h4 h5 k1.1 k2.1 (by omega) (by omega), k1.2, k2.2]
      congr 2
      omega)
  · rename_i q2
    rw [if_neg q, if_neg q2]
    refine text_char hr q2 ?_ h
    by_cases hl : r < 128
    · exact plain_ok r hl q2 fun q3 => q ⟨hl, q3⟩
    · omega
theorem text_all {bs : List UInt8} : ∀ (l : List Int) (n p : Nat) (out : List UInt8), (∀ r ∈ l, chr r) → bs.drop p = escs l ++ [34] → l.length + 1 ≤ n → textL bs n ⟨p, 0, 0⟩ out = (⟨p + (escs l).length + 1, 0, 0⟩, out ++ l.flatMap fun r => encU r.toNat)
  | [], n, p, out, hl, h, hn => by
    obtain ⟨k, rfl⟩ : ∃ k, n = k + 1 := ⟨n - 1, by simp at hn; omega⟩
    have h0 : bs[p]? = some 34 := drop_at h 0
    have hm : mayB bs [34] ⟨p, 0, 0⟩ = true := by rw [may_at rfl h0]; decide
    rw [textL_step, if_neg (show ¬ ((⟨p, 0, 0⟩ : Lx).well = false) from fun q => Bool.noConfusion (show true = false from q)), if_pos hm]
    simp [escs, Lx.up]
  | r :: l, n, p, out, hl, h, hn => by
    obtain ⟨k, rfl⟩ : ∃ k, n = k + 1 := ⟨n - 1, by simp at hn; omega⟩
    have hr := hl r (by simp)
    obtain ⟨r, rfl⟩ : ∃ k : Nat, r = (k : Int) := ⟨r.toNat, by have := hr.1; omega⟩
    have e : escs ((r : Int) :: l) = esc1 r ++ escs l := rfl
    rw [e, List.append_assoc] at h
    have hd : bs.drop (p + (esc1 r).length) = escs l ++ [34] := by
      rw [← List.drop_drop, h, List.drop_left]
    rw [text_one hr h, text_all l k _ _ (fun x hx => hl x (by simp [hx])) hd (by simp at hn; omega), e]
    simp [List.flatMap_cons, Nat.add_assoc]
/-- What an escaped text means. -/
theorem text_back {l : List Int} (hl : ∀ r ∈ l, chr r) : textS (34 :: escs l ++ [34]) ⟨0, 0, 0⟩ = (⟨(34 :: escs l ++ [34]).length, 0, 0⟩, l.flatMap fun r => encU r.toNat) := by
  have hesc : ∀ l : List Int, l.length ≤ (escs l).length := by
    intro l
    induction l with
    | nil => simp
    | cons r t ih =>
      have e : escs (r :: t) = esc1 r.toNat ++ escs t := rfl
      have : 1 ≤ (esc1 r.toNat).length := by
        unfold esc1
        split
        · simp
        split
        · simp
        · have := enc_len (r.toNat : Int); unfold encU; rw [List.length_map]; omega
      rw [e]
      simp
      omega
  have := hesc l
  have hm : mayB (34 :: escs l ++ [34]) [34] ⟨0, 0, 0⟩ = true := by rw [may_at rfl (c := 34) rfl]; decide
  unfold textS
  rw [must_up hm]
  show textL _ _ ⟨1, 0, 0⟩ [] = _
  rw [text_all l _ 1 [] hl rfl (by simp; omega)]
  simp [Nat.add_comm]
  done
/-- A text's bytes are its characters'. -/
theorem run_back : ∀ (n : Nat) (bs : List UInt8), bs.length ≤ n → (runF (ib bs)).2 < 0 → (∀ r ∈ (runF (ib bs)).1, chr r) ∧ ((runF (ib bs)).1.flatMap fun r => encU r.toNat) = bs
  | _, [], _, _ => by simp [ib, runF_nil]
  | 0, b :: bs, h, _ => by simp at h
  | n + 1, b :: bs, hn, h => by
    have hb := ib_byt (b :: bs)
    have hl : ib (b :: bs) ≠ [] := by simp [ib]
    have hg : (oneS (ib (b :: bs))).2.2 < 0 := by
      by_cases hg : (oneS (ib (b :: bs))).2.2 < 0
      · exact hg
      · rw [runF_bad hl hg] at h; exact absurd h hg
    obtain ⟨g1, g2, g3, g4, g5, g6⟩ := one_good hb hg
    have henc := enc_one hb hl hg
    have hch := runF_chr hb hl hg
    rw [runF_good hb hl hg] at h ⊢
    simp only at h ⊢
    have h2 : (runF ((ib (b :: bs)).drop (oneS (ib (b :: bs))).2.1.toNat)).2 < 0 := by
      by_cases hx : (runF ((ib (b :: bs)).drop (oneS (ib (b :: bs))).2.1.toNat)).2 < 0
      · exact hx
      · rw [if_neg hx] at h; omega
    obtain ⟨k, hk⟩ : ∃ k, (oneS (ib (b :: bs))).2.1.toNat = k + 1 := ⟨(oneS (ib (b :: bs))).2.1.toNat - 1, by omega⟩
    have ih := run_back n ((b :: bs).drop (k + 1)) (by simp at hn ⊢; omega) (by rw [ib_drop, ← hk]; exact h2)
    rw [ib_drop, ← hk] at ih
    refine ⟨fun r hr => ?_, ?_⟩
    · rcases List.mem_cons.1 hr with rfl | hr
      · exact hch
      · exact ih.1 r hr
    · rw [List.flatMap_cons, ih.2]
      have hz : ((oneS (ib (b :: bs))).1.toNat : Int) = (oneS (ib (b :: bs))).1 := by omega
      have e1 : encU (oneS (ib (b :: bs))).1.toNat = (b :: bs).take (oneS (ib (b :: bs))).2.1.toNat := by
        unfold encU
        rw [hz, henc, ← ib_take]
        exact map_back _
      rw [e1, List.take_append_drop]
end Go.Proofs.Ytfphpjinimfhfaa
