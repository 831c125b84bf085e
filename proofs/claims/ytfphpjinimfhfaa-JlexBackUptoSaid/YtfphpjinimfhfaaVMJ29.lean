import Derived.Test.YtfphpjinimfhfaaVMJ28
import Derived.Test.YtfphpjinimfhfaaVMJ23
namespace Go.Proofs.Ytfphpjinimfhfaa
open Go.Proofs.Ytfphpjinimfhfaa.VM Go.RowKit
set_option maxRecDepth 100000
set_option linter.unusedVariables false
set_option maxHeartbeats 4000000
/-- A string that begins with its quote and goes well. -/
theorem t16 (bs : List UInt8) (t : Tip) (hl : bs.length ≤ 2 ^ 40) (h0 : bs[0]? = some 34) (n : Nat) (out : List UInt8) (hx : textS bs ⟨0, 0, 0⟩ = (⟨n, 0, 0⟩, out)) (S : St) :
    CallQ Try.prog (JC false) 16 [.lst (bs.map u8) t, .int .i64 0] S fun r S1 => Keep S S1 ∧ r = .tuple [.str out, .int .i64 n, faultV (0, 0)] := by
  have hlen : 0 < bs.length := (List.getElem?_eq_some_iff.1 h0).1
  refine CallQ.of rfl (by kernel_rfl : Try.prog.funcs[16]? = some Try.f16) rfl (by decide) ?_
  conv => whnf
  have hbl : (bs.map u8).length = bs.length := by simp
  refine br (fun hh => absurd hh (by decide)) (fun _ => ?_)
  conv => whnf
  refine br (fun hh => absurd hh (by rw [hbl]; omega)) (fun _ => ?_)
  conv => whnf
  refine ⟨by decide, u8 34, by rw [List.getElem?_map]; show (bs[0]?).map u8 = _; rw [h0]; rfl, rfl, ?_⟩
  conv => whnf
  refine brNe (fun hh => absurd rfl hh) (fun _ => ?_)
  conv => whnf
  have hdn : ∀ b, (S.new b).next = S.next + 1 := fun _ => rfl
  rw [hdn]
  generalize hS1 : (S.new _).new _ = S1
  have k1 : Keep S S1 := by rw [← hS1]; exact ((Keep.refl S).new _).new _
  have a1 : S1.cells S.next = some [.int .i64 0, .int .i64 0] := by rw [← hS1]; exact cells_new_ne (cells_new _ _) (by show S.next ≠ S.next + 1; omega)
  have a2 : S1.cells (S.next + 1) = some ((⟨0, 0, 0⟩ : Lx).cs (.lst (bs.map u8) t)) := by rw [← hS1]; exact cells_new _ _
  have n1 : S1.next = S.next + 2 := by rw [← hS1]; rfl
  clear hS1
  refine CallQ.mono (t29 false (S.next + 1) ⟨0, 0, 0⟩ bs t hl (by exact Nat.zero_le _) S1 (by omega) a2) ?_
  rintro r S2 ⟨rfl, c2, b2, _⟩
  rw [hx] at c2
  rw [hx]
  have a3 : S2.cells S.next = some [.int .i64 0, .int .i64 0] := by rw [b2.cells (by omega) (by omega)]; exact a1
  have n2 := b2.next
  have k2 : Low S.next S S2 := (Low.of k1 (Nat.le_refl _)).trans (b2.keep (by omega) (by omega))
  clear b2 a1 a2 k1
  conv => whnf
  refine CallQ.mono (t25 false (S.next + 1) ⟨n, 0, 0⟩ _ S2 c2) ?_
  rintro r S3 ⟨rfl, rfl⟩
  conv => whnf
  refine ⟨[0, 1, 2, 3, 4, 5, 6, 7, 8], [], by kernel_rfl, by kernel_rfl, by kernel_rfl, ?_⟩
  conv => whnf
  refine ⟨_, c2, ?_⟩
  conv => whnf
  refine ⟨_, _, a3, store_agg rfl rfl rfl, ?_⟩
  conv => whnf
  refine ⟨.agg [.int .i64 0, .int .i64 0], by show (St.cells _ S.next).bind _ = _; rw [cells_set]; rfl, ?_⟩
  conv => whnf
  exact ⟨(k2.set _ _ (Nat.le_refl _)).keep, rfl⟩
theorem escs_len (l : List Int) : (escs l).length ≤ 6 * l.length := by
  induction l with
  | nil => simp [escs]
  | cons r t ih =>
    have e : escs (r :: t) = esc1 r.toNat ++ escs t := rfl
    have : (esc1 r.toNat).length ≤ 6 := by
      unfold esc1
      split
      · simp
      split
      · simp
      · have := enc_len (r.toNat : Int); unfold encU; rw [List.length_map]; omega
    rw [e]
    simp
    omega
theorem t7 (bs : List UInt8) (hl : bs.length ≤ 1048576) (S : St) :
    CallQ Try.prog (JC false) 7 [.str bs] S fun r S1 => r = .bool true := by
  have hal : ∀ {S Q}, Q (.bool true) S → CallQ Try.prog (JC false) 10 [] S Q := fun q => CallQ.intr (g := aliveG) rfl rfl q
  refine CallQ.of rfl (by kernel_rfl : Try.prog.funcs[7]? = some Try.f7) rfl (by decide) ?_
  conv => whnf
  refine CallQ.mono (t8 false bs hl S) ?_
  rintro r S1 ⟨k1, rfl⟩
  by_cases ht : telS (ib bs) 0 = (0, 0)
  rotate_left
  · rw [if_neg ht]
    conv => whnf
    refine brSEq (fun _ => ?_) (fun h => absurd rfl h)
    conv => whnf
    refine CallQ.mono (t15 false bs (by omega) (.lst (bs.map u8) .lost) (.inr ⟨_, rfl⟩) S1) ?_
    rintro r S2 ⟨k2, l, rfl, hsl, hkn⟩
    have hw : (telS (ib bs) 0).1 ≠ 0 := fun q => ht (telS_why q)
    generalize telS (ib bs) 0 = fl at *
    obtain ⟨w, f⟩ := fl
    conv => whnf
    refine ⟨_, _, cells_new _ _, store_agg rfl rfl rfl, ?_⟩
    conv => whnf
    generalize hS3 : (S2.new _).set S2.next _ = S3
    have a3 : S3.cells S2.next = some [.int .i64 w, .int .i64 f] := by rw [← hS3]; exact cells_set _ _ _
    clear hS3
    refine ⟨_, a3, ?_⟩
    conv => whnf
    refine brNe (fun _ => ?_) (fun hf => absurd hf hw)
    conv => whnf
    refine hal ?_
    conv => whnf
    rfl
  rw [if_pos ht]
  have hrun : (runF (ib bs)).2 < 0 := by
    unfold telS at ht
    split at ht
    · assumption
    · cases ht
  obtain ⟨hch, hback⟩ := run_back bs.length bs (Nat.le_refl _) hrun
  have htx := text_back hch
  rw [hback] at htx
  conv => whnf
  refine brSEq (fun h => absurd h (by simp)) (fun _ => ?_)
  conv => whnf
  have hln := escs_len (runF (ib bs)).1
  have hrl : (runF (ib bs)).1.length ≤ bs.length := by have := runS_len (ib bs).length (ib bs) (ib_byt bs); unfold runF; rw [ib_len] at this ⊢; exact this
  generalize escs (runF (ib bs)).1 = X at *
  refine CallQ.mono (t16 (34 :: X ++ [34]) .lost (by simp; omega) rfl _ _ htx S1) ?_
  rintro r S2 ⟨k2, rfl⟩
  conv => whnf
  refine ⟨_, _, cells_new _ _, store_agg rfl rfl rfl, ?_⟩
  conv => whnf
  generalize hS3 : (S2.new _).set S2.next _ = S3
  have a3 : S3.cells S2.next = some [.int .i64 0, .int .i64 0] := by rw [← hS3]; exact cells_set _ _ _
  clear hS3
  refine ⟨_, a3, ?_⟩
  conv => whnf
  rw [eqFault]
  refine brB (fun _ => ?_) (fun hh => absurd hh (by decide))
  conv => whnf
  refine brSEq (fun _ => ?_) (fun h => absurd rfl h)
  conv => whnf
  refine brEq (fun _ => ?_) (fun h => absurd rfl h)
  conv => whnf
  refine hal ?_
  conv => whnf
  rfl
end Go.Proofs.Ytfphpjinimfhfaa
