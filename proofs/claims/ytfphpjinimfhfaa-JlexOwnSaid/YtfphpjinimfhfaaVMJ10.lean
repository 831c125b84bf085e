import Derived.Test.YtfphpjinimfhfaaVMJ9
namespace Go.Proofs.Ytfphpjinimfhfaa
open Go.Proofs.Ytfphpjinimfhfaa.VM Go.RowKit
set_option maxRecDepth 100000
set_option linter.unusedVariables false
set_option maxHeartbeats 2000000
/-- What was read is written the same. -/
theorem enc_one {l : List Int} (hb : Byt l) (hl : l ≠ []) (h : (oneS l).2.2 < 0) : encS (oneS l).1 = l.take (oneS l).2.1.toNat := by
  revert h
  unfold oneS
  match l, hl, hb with
  | c :: t, _, hb =>
    obtain ⟨⟨c0, c1⟩, ht⟩ := hb.cons
    by_cases a1 : c < 128
    · simp only [if_pos a1]; intro _; simp [encS, a1]
    by_cases a2 : c < 194 ∨ 244 < c
    · simp [a1, a2]
    by_cases a3 : c < 224
    · simp only [if_neg a1, if_neg a2, if_pos a3]
      match t, ht with
      | [], _ => simp
      | x :: t, ht =>
        obtain ⟨⟨x0, x1⟩, _⟩ := ht.cons
        by_cases b : x < 128 ∨ 191 < x
        · simp [b]
        · simp only [if_neg b]; intro _
          unfold encS
          rw [if_neg (by omega), if_pos (by omega)]
          show [_, _] = [c, x]
          congr 1
          · omega
          · congr 1; omega
    simp only [if_neg a1, if_neg a2, if_neg a3]
    match t, ht with
    | [], _ => simp
    | x :: t, ht =>
      obtain ⟨⟨x0, x1⟩, ht2⟩ := ht.cons
      by_cases b : x < loS c ∨ hiS c < x
      · simp [b]
      simp only [if_neg b]
      have hlo := loS_le c
      have hhi := hiS_le c
      have e1 : c = 224 → loS c = 160 := by rintro rfl; rfl
      have e2 : c = 240 → loS c = 144 := by rintro rfl; rfl
      match t, ht2 with
      | [], _ => simp
      | y :: t, ht2 =>
        obtain ⟨⟨y0, y1⟩, ht3⟩ := ht2.cons
        by_cases d : y < 128 ∨ 191 < y
        · simp [d]
        simp only [if_neg d]
        by_cases a4 : c < 240
        · simp only [if_pos a4]; intro _
          unfold encS
          rw [if_neg (by omega), if_neg (by omega), if_pos (by omega)]
          show [_, _, _] = [c, x, y]
          congr 1
          · omega
          · congr 1
            · omega
            · congr 1; omega
        simp only [if_neg a4]
        match t, ht3 with
        | [], _ => simp
        | z :: t, ht3 =>
          obtain ⟨⟨z0, z1⟩, _⟩ := ht3.cons
          by_cases f : z < 128 ∨ 191 < z
          · simp [f]
          · simp only [if_neg f]; intro _
            unfold encS
            rw [if_neg (by omega), if_neg (by omega), if_neg (by omega)]
            show [_, _, _, _] = [c, x, y, z]
            congr 1
            · omega
            · congr 1
              · omega
              · congr 1
                · omega
                · congr 1; omega
theorem esc_low (c : UInt8) (h : c.toNat < 128) : esc1 c.toNat = escB c := all_u8 (p := fun c => c.toNat < 128 → esc1 c.toNat = escB c) (by decide +kernel) c h
theorem esc_high (c : UInt8) (h : 128 ≤ c.toNat) : escB c = [c] := all_u8 (p := fun c => 128 ≤ c.toNat → escB c = [c]) (by decide +kernel) c h
theorem esc1_high {r : Nat} (h : 128 ≤ r) : esc1 r = encU r := by unfold esc1; rw [if_neg (by omega), if_neg (by omega)]
theorem map_back (bs : List UInt8) : (ib bs).map (fun n => UInt8.ofNat n.toNat) = bs := by
  simp only [ib, List.map_map]
  conv => rhs; rw [← List.map_id bs]
  exact List.map_congr_left fun b _ => by simp
theorem flat_high : ∀ {bs : List UInt8}, (∀ c ∈ bs, 128 ≤ c.toNat) → bs.flatMap escB = bs
  | [], _ => rfl
  | c :: bs, h => by
    rw [List.flatMap_cons, esc_high c (h c (by simp)), flat_high fun d hd => h d (by simp [hd])]; rfl
/-- The first byte below 128 is all of its character; else every byte is above. -/
theorem one_bytes {l : List Int} (hb : Byt l) (hl : l ≠ []) (h : (oneS l).2.2 < 0) : (∃ c t, l = c :: t ∧ c < 128 ∧ (oneS l).1 = c ∧ (oneS l).2.1 = 1) ∨ (128 ≤ (oneS l).1 ∧ ∀ x ∈ l.take (oneS l).2.1.toNat, 128 ≤ x) := by
  by_cases h1 : (oneS l).1 < 128
  · left
    have he := enc_one hb hl h
    obtain ⟨g1, g2, g3, g4, g5, g6⟩ := one_good hb h
    unfold encS at he
    rw [if_pos h1] at he
    match l, hl with
    | c :: t, _ =>
      have hlen := congrArg List.length he
      simp only [List.length_singleton, List.length_take] at hlen
      obtain ⟨k, hk⟩ : ∃ k, (oneS (c :: t)).2.1.toNat = k + 1 := ⟨(oneS (c :: t)).2.1.toNat - 1, by omega⟩
      rw [hk, List.take_succ_cons] at he
      have hc : (oneS (c :: t)).1 = c := (List.cons.inj he).1
      refine ⟨c, t, rfl, by omega, hc, ?_⟩
      simp only [oneS]
      rw [if_pos (by omega)]
  · right
    refine ⟨by omega, ?_⟩
    rw [← enc_one hb hl h]
    have hb2 := runF_chr hb hl h
    obtain ⟨c0, c1, c2⟩ := hb2
    intro x hx
    unfold encS at hx
    rw [if_neg h1] at hx
    repeat' split at hx
    all_goals
      simp only [List.mem_cons, List.not_mem_nil, or_false] at hx
      omega
theorem esc_same : ∀ (n : Nat) (bs : List UInt8), bs.length ≤ n → (runF (ib bs)).2 < 0 → escs (runF (ib bs)).1 = bs.flatMap escB
  | _, [], _, _ => by simp [ib, runF_nil, escs]
  | 0, b :: bs, h, _ => by simp at h
  | n + 1, b :: bs, hn, h => by
    have hb := ib_byt (b :: bs)
    have hl : ib (b :: bs) ≠ [] := by simp [ib]
    have hg : (oneS (ib (b :: bs))).2.2 < 0 := by
      by_cases hg : (oneS (ib (b :: bs))).2.2 < 0
      · exact hg
      · rw [runF_bad hl hg] at h; exact absurd h hg
    obtain ⟨g1, g2, g3, g4, g5, g6⟩ := one_good hb hg
    have hcase := one_bytes hb hl hg
    have henc := enc_one hb hl hg
    rw [runF_good hb hl hg] at h ⊢
    simp only at h ⊢
    have h2 : (runF ((ib (b :: bs)).drop (oneS (ib (b :: bs))).2.1.toNat)).2 < 0 := by
      by_cases hx : (runF ((ib (b :: bs)).drop (oneS (ib (b :: bs))).2.1.toNat)).2 < 0
      · exact hx
      · rw [if_neg hx] at h; omega
    obtain ⟨k, hk⟩ : ∃ k, (oneS (ib (b :: bs))).2.1.toNat = k + 1 := ⟨(oneS (ib (b :: bs))).2.1.toNat - 1, by omega⟩
    have ih := esc_same n ((b :: bs).drop (k + 1)) (by simp at hn ⊢; omega) (by rw [ib_drop, ← hk]; exact h2)
    rw [ib_drop, ← hk] at ih
    have e : escs ((oneS (ib (b :: bs))).1 :: (runF ((ib (b :: bs)).drop (oneS (ib (b :: bs))).2.1.toNat)).1) = esc1 (oneS (ib (b :: bs))).1.toNat ++ escs (runF ((ib (b :: bs)).drop (oneS (ib (b :: bs))).2.1.toNat)).1 := rfl
    rw [e, ih, hk]
    have hsplit : (b :: bs).flatMap escB = ((b :: bs).take (k + 1)).flatMap escB ++ ((b :: bs).drop (k + 1)).flatMap escB := by rw [← List.flatMap_append, List.take_append_drop]
    rw [hsplit]
    congr 1
    rcases hcase with ⟨c, t, hc, hc1, hc2, hc3⟩ | ⟨hc1, hc2⟩
    · have hk0 : k = 0 := by rw [hc3] at hk; simp at hk; omega
      have hbc : (b.toNat : Int) = c := (List.cons.inj hc).1
      rw [hc2, hk0, ← hbc]
      simp only [Int.toNat_natCast, List.take_succ_cons, List.take_zero, List.flatMap_cons, List.flatMap_nil, List.append_nil]
      exact esc_low b (by omega)
    · rw [esc1_high (by omega)]
      have hh : ∀ x ∈ (b :: bs).take (k + 1), 128 ≤ x.toNat := by
        intro x hx
        have := hc2 (x.toNat : Int) (by rw [hk, ← ib_take]; exact List.mem_map.2 ⟨x, hx, rfl⟩)
        omega
      rw [flat_high hh]
      unfold encU
      rw [Int.toNat_of_nonneg (by omega), henc, hk, ← ib_take, map_back]
/-- JlexEscapes answers true. -/
theorem t3 (bs : List UInt8) (S : St) : CallQ Try.prog (JC false) 3 [.str bs] S fun r S1 => r = .bool true := by
  refine CallQ.of rfl (by kernel_rfl : Try.prog.funcs[3]? = some Try.f3) rfl (by decide) ?_
  conv => whnf
  refine br (fun h1 => ?_) (fun h1 => ?_)
  · conv => whnf
    rfl
  have hl : bs.length ≤ 20000 := by omega
  conv => whnf
  refine CallQ.mono (t8 false bs (by omega) S) ?_
  rintro r S1 ⟨k1, rfl⟩
  conv => whnf
  refine CallQ.mono (t9 false bs hl S1) ?_
  rintro r S2 ⟨k2, rfl⟩
  have he : (if telS (ib bs) 0 = (0, 0) then 34 :: escs (runF (ib bs)).1 ++ [34] else ([] : List UInt8)) = if telS (ib bs) 0 = (0, 0) then 34 :: bs.flatMap escB ++ [34] else [] := by
    split
    · rename_i ht
      rw [esc_same bs.length bs (Nat.le_refl _)]
      unfold telS at ht
      split at ht
      · assumption
      · cases ht
    · rfl
  rw [he]
  conv => whnf
  refine brSEq (fun _ => ?_) (fun h => absurd rfl h)
  conv => whnf
  refine CallQ.intr (g := aliveG) rfl rfl ?_
  conv => whnf
  rfl
end Go.Proofs.Ytfphpjinimfhfaa
