import Derived.Test.YtfphpjinimfhfaaVMJ22
namespace Go.Proofs.Ytfphpjinimfhfaa
open Go.Proofs.Ytfphpjinimfhfaa.VM Go.RowKit
set_option maxRecDepth 100000
set_option linter.unusedVariables false
set_option maxHeartbeats 4000000
theorem LexR.out {bs : List UInt8} {r : AV} (h : LexR bs r) : ∃ (v : AV) (w f : Int), r = .tuple [v, faultV (w, f)] ∧ ((4096 < bs.length ∧ w = 8 ∧ f = 0 ∧ v = .nils) ∨ (bs.length ≤ 4096 ∧ w = (lexS bs).1.w ∧ f = (lexS bs).1.f ∧ ((v = .nils ∧ (lexS bs).2 = []) ∨ v = .lst ((lexS bs).2.map Tk.v) .lost))) := by
  unfold LexR at h
  split at h
  · rename_i q
    obtain ⟨v, rfl, hv⟩ := h
    exact ⟨v, _, _, rfl, .inr ⟨q, rfl, rfl, hv⟩⟩
  · rename_i q
    exact ⟨.nils, 8, 0, h, .inl ⟨by omega, rfl, rfl, rfl⟩⟩
theorem eqFault2 (a b c d : Int) : eqF Try.prog 29 (.agg [.int .i64 a, .int .i64 b]) (.agg [.int .i64 c, .int .i64 d]) = some (a == c && (b == d && true)) := by kernel_rfl
theorem cut_to (bs : List UInt8) (t : Tip) (q : Nat) (hq : q ≤ bs.length) (b : Int) (hb : b = q) : ∃ t', sliceA Try.prog 25 (.lst (bs.map u8) t) none (some (.int .i64 b)) none = some (.lst ((bs.take q).map u8) t') := by
  subst hb
  obtain ⟨t', h⟩ := slice_hi (P := Try.prog) (t := 25) (e := 5) (s := 1) (by kernel_rfl) (by kernel_rfl) (bs.map u8) t (headOk_u8 bs) q (by simpa using hq) .i64
  exact ⟨t', by rw [h, List.map_take]⟩
theorem t5 (bs b2 : List UInt8) (hl : bs.length ≤ 2 ^ 47) (hl2 : b2.length ≤ 2 ^ 47) (v v2 : AV) (hv : Elems v (bs.map u8)) (hv2 : Elems v2 (b2.map u8)) (S : St) :
    CallQ Try.prog (JC false) 5 [v, v2] S fun r S1 => r = .bool true := by
  have hal : ∀ {S Q}, Q (.bool true) S → CallQ Try.prog (JC false) 10 [] S Q := fun q => CallQ.intr (g := aliveG) rfl rfl q
  refine CallQ.of rfl (by kernel_rfl : Try.prog.funcs[5]? = some Try.f5) rfl (by decide) ?_
  conv => whnf
  refine CallQ.mono (t11 bs hl v hv S) ?_
  rintro r S1 ⟨k1, hr⟩
  obtain ⟨l, w, f, rfl, hwf⟩ := hr.out
  conv => whnf
  refine ⟨_, _, cells_new _ _, store_agg rfl rfl rfl, ?_⟩
  conv => whnf
  generalize hS2 : (S1.new _).set _ _ = S2
  have c2 : S2.cells S1.next = some [.int .i64 w, .int .i64 f] := by rw [← hS2, cells_set]
  have n2 : S2.next = S1.next + 1 := by rw [← hS2]; rfl
  clear hS2
  refine ⟨_, c2, ?_⟩
  conv => whnf
  rw [eqFault]
  refine brB (fun hw => ?_) (fun hw => ?_)
  · conv => whnf
    refine hal ?_
    conv => whnf
    rfl
  conv => whnf
  refine ⟨_, c2, ?_⟩
  conv => whnf
  refine brEq (fun h8 => ?_) (fun h8 => ?_)
  · conv => whnf
    refine hal ?_
    conv => whnf
    rfl
  conv => whnf
  refine ⟨_, c2, ?_⟩
  conv => whnf
  refine br (fun h0 => ?_) (fun h0 => ?_)
  · conv => whnf
    refine hal ?_
    conv => whnf
    rfl
  conv => whnf
  have hwf2 : bs.length ≤ 4096 ∧ w = (lexS bs).1.w ∧ f = (lexS bs).1.f := by
    rcases hwf with ⟨_, q, _⟩ | ⟨q1, q2, q3, _⟩
    · exact absurd q h8
    · exact ⟨q1, q2, q3⟩
  clear hwf
  obtain ⟨hlb, hwe, hfe⟩ := hwf2
  have hbad : (lexS bs).1.well = false := by unfold Lx.well; rw [← hwe, ← hfe]; exact hw
  have hlen : (bs.map u8).length = bs.length := by simp
  have hgd := (gd_lexL (bs.length + 1) ⟨0, 0, 0⟩ [] ⟨Nat.zero_le _, by show (0 : Int) ≤ bs.length; omega⟩ rfl (by omega)).1.fr
  have hf2 : f ≤ bs.length := by rw [hfe, ← fr_bad hbad]; exact hgd
  clear hgd
  rcases hv with ⟨rfl, hnil⟩ | ⟨t, rfl⟩
  · obtain rfl : bs = [] := by simpa using hnil
    have hf2 : f ≤ 0 := hf2
    refine ⟨_, c2, ?_⟩
    conv => whnf
    refine br (fun hh => ?_) (fun hh => absurd (show f ≥ (0 : Int) by omega) hh)
    conv => whnf
    refine hal ?_
    conv => whnf
    rfl
  refine ⟨_, c2, ?_⟩
  conv => whnf
  refine br (fun h1 => ?_) (fun h1 => ?_)
  · conv => whnf
    refine hal ?_
    conv => whnf
    rfl
  rw [hlen] at h1
  conv => whnf
  refine ⟨_, c2, ?_⟩
  conv => whnf
  have hv3 := hv2
  rcases hv2 with ⟨rfl, hnil2⟩ | ⟨t2, rfl⟩
  · have hz2 : b2.length = 0 := by simpa using congrArg List.length hnil2
    conv => whnf
    refine br (fun h2 => ?_) (fun h2 => ?_)
    · conv => whnf
      refine hal ?_
      conv => whnf
      rfl
    have h2 : f + 1 + b2.length ≤ 4096 := by
      rw [wrap_i64 (x := f + 1) (by omega) (by omega), wrap_i64 (by omega) (by omega)] at h2
      omega
    conv => whnf
    refine ⟨_, c2, ?_⟩
    conv => whnf
    obtain ⟨t', ht'⟩ := cut_to bs t (f.toNat + 1) (by omega) (IntKind.i64.wrap (f + 1)) (by rw [wrap_i64 (by omega) (by omega)]; omega)
    refine ⟨_, ht', ?_⟩
    conv => whnf
    have htl : (bs.take (f.toNat + 1)).length = f.toNat + 1 := by rw [List.length_take]; omega
    obtain ⟨q1, S3, g1, g2, g3, g4, g5⟩ := OwnB.append (C := JC false) (f := 5) (S := S2) elB rfl (OwnB.nil 5 S2.next S2) (Nat.le_refl _) (show elemsA S2 false 1 (.lst ((bs.take (f.toNat + 1)).map u8) t') = some ((bs.take (f.toNat + 1)).map u8) from rfl) (shed_u8 _) (wellA_u8 []) (wellA_u8 _) (by simp; omega)
    obtain ⟨tg, rfl⟩ := g5 (by intro q; have := congrArg List.length q; rw [List.length_map, htl] at this; cases this)
    refine ⟨_, S3, g1, ?_⟩
    conv => whnf
    rw [show ([] : List AV) ++ (bs.take (f.toNat + 1)).map u8 = (bs.take (f.toNat + 1)).map u8 from rfl] at *
    obtain ⟨q2, S4, i1, i2, i3, i4, i5⟩ := OwnB.append (C := JC false) (f := 5) (S := S3) elB rfl g2 g3.1 (hv3.run S3 false 1) (shed_u8 _) (wellA_u8 _) (wellA_u8 _) (by simp; omega)
    have hq2 : ∃ tg2, q2 = .lst (((bs.take (f.toNat + 1)) ++ b2).map u8) (.tag tg2) := by
      rcases i2 with ⟨_, e⟩ | ⟨n, _, _, e, _⟩
      · have := congrArg List.length e; rw [List.length_append, List.length_map, htl] at this; simp only [List.length_nil] at this; omega
      · exact ⟨n, by rw [e, List.map_append]⟩
    obtain ⟨tg2, rfl⟩ := hq2
    refine ⟨_, S4, i1, ?_⟩
    conv => whnf
    have c4 : S4.cells S1.next = some [.int .i64 w, .int .i64 f] := by rw [i3.cells (by omega), g3.cells (by omega)]; exact c2
    have n4 : S2.next ≤ S4.next := by have := g3.1; have := i3.1; omega
    clear i1 i2 i3 i4 i5 g1 g2 g3 g4 g5 c2
    refine CallQ.mono (t11 ((bs.take (f.toNat + 1)) ++ b2) (by simp; omega) _ (.inr ⟨_, rfl⟩) S4) ?_
    rintro r S5 ⟨k5, hr5⟩
    have hagr : Agr f bs ((bs.take (f.toNat + 1)) ++ b2) := ⟨by omega, by simp; omega, by rw [List.take_append_of_le_length (by omega), List.take_take, Nat.min_self]⟩
    have hsame := lex_first hbad (by rw [← hfe]; exact hagr)
    obtain ⟨l5, w5, f5, rfl, hwf5⟩ := hr5.out
    rcases hwf5 with ⟨q, _⟩ | ⟨q1, q2, q3, _⟩
    · simp at q; omega
    rw [hsame, ← hwe] at q2
    rw [hsame, ← hfe] at q3
    subst q2 q3
    have c5 : S5.cells S1.next = some [.int .i64 w5, .int .i64 f5] := by rw [(Low.of k5 (Nat.le_refl _)).cells (by omega)]; exact c4
    have n5 := k5.next
    clear hsame hagr hr5 hr q1
    conv => whnf
    refine ⟨_, _, cells_new _ _, store_agg rfl rfl rfl, ?_⟩
    conv => whnf
    refine ⟨_, cells_set_ne (cells_new_ne c5 (by omega)) (by omega), ?_⟩
    conv => whnf
    refine ⟨_, cells_set _ _ _, ?_⟩
    conv => whnf
    rw [eqFault2]
    refine brB (fun hw => ?_) (fun hw => absurd hw (by simp))
    conv => whnf
    refine hal ?_
    conv => whnf
    rfl

  · have hz2 : (b2.map u8).length = b2.length := by simp
    conv => whnf
    refine br (fun h2 => ?_) (fun h2 => ?_)
    · conv => whnf
      refine hal ?_
      conv => whnf
      rfl
    have h2 : f + 1 + b2.length ≤ 4096 := by
      rw [wrap_i64 (x := f + 1) (by omega) (by omega), wrap_i64 (by omega) (by omega)] at h2
      omega
    conv => whnf
    refine ⟨_, c2, ?_⟩
    conv => whnf
    obtain ⟨t', ht'⟩ := cut_to bs t (f.toNat + 1) (by omega) (IntKind.i64.wrap (f + 1)) (by rw [wrap_i64 (by omega) (by omega)]; omega)
    refine ⟨_, ht', ?_⟩
    conv => whnf
    have htl : (bs.take (f.toNat + 1)).length = f.toNat + 1 := by rw [List.length_take]; omega
    obtain ⟨q1, S3, g1, g2, g3, g4, g5⟩ := OwnB.append (C := JC false) (f := 5) (S := S2) elB rfl (OwnB.nil 5 S2.next S2) (Nat.le_refl _) (show elemsA S2 false 1 (.lst ((bs.take (f.toNat + 1)).map u8) t') = some ((bs.take (f.toNat + 1)).map u8) from rfl) (shed_u8 _) (wellA_u8 []) (wellA_u8 _) (by simp; omega)
    obtain ⟨tg, rfl⟩ := g5 (by intro q; have := congrArg List.length q; rw [List.length_map, htl] at this; cases this)
    refine ⟨_, S3, g1, ?_⟩
    conv => whnf
    rw [show ([] : List AV) ++ (bs.take (f.toNat + 1)).map u8 = (bs.take (f.toNat + 1)).map u8 from rfl] at *
    obtain ⟨q2, S4, i1, i2, i3, i4, i5⟩ := OwnB.append (C := JC false) (f := 5) (S := S3) elB rfl g2 g3.1 (hv3.run S3 false 1) (shed_u8 _) (wellA_u8 _) (wellA_u8 _) (by simp; omega)
    have hq2 : ∃ tg2, q2 = .lst (((bs.take (f.toNat + 1)) ++ b2).map u8) (.tag tg2) := by
      rcases i2 with ⟨_, e⟩ | ⟨n, _, _, e, _⟩
      · have := congrArg List.length e; rw [List.length_append, List.length_map, htl] at this; simp only [List.length_nil] at this; omega
      · exact ⟨n, by rw [e, List.map_append]⟩
    obtain ⟨tg2, rfl⟩ := hq2
    refine ⟨_, S4, i1, ?_⟩
    conv => whnf
    have c4 : S4.cells S1.next = some [.int .i64 w, .int .i64 f] := by rw [i3.cells (by omega), g3.cells (by omega)]; exact c2
    have n4 : S2.next ≤ S4.next := by have := g3.1; have := i3.1; omega
    clear i1 i2 i3 i4 i5 g1 g2 g3 g4 g5 c2
    refine CallQ.mono (t11 ((bs.take (f.toNat + 1)) ++ b2) (by simp; omega) _ (.inr ⟨_, rfl⟩) S4) ?_
    rintro r S5 ⟨k5, hr5⟩
    have hagr : Agr f bs ((bs.take (f.toNat + 1)) ++ b2) := ⟨by omega, by simp; omega, by rw [List.take_append_of_le_length (by omega), List.take_take, Nat.min_self]⟩
    have hsame := lex_first hbad (by rw [← hfe]; exact hagr)
    obtain ⟨l5, w5, f5, rfl, hwf5⟩ := hr5.out
    rcases hwf5 with ⟨q, _⟩ | ⟨q1, q2, q3, _⟩
    · simp at q; omega
    rw [hsame, ← hwe] at q2
    rw [hsame, ← hfe] at q3
    subst q2 q3
    have c5 : S5.cells S1.next = some [.int .i64 w5, .int .i64 f5] := by rw [(Low.of k5 (Nat.le_refl _)).cells (by omega)]; exact c4
    have n5 := k5.next
    clear hsame hagr hr5 hr q1
    conv => whnf
    refine ⟨_, _, cells_new _ _, store_agg rfl rfl rfl, ?_⟩
    conv => whnf
    refine ⟨_, cells_set_ne (cells_new_ne c5 (by omega)) (by omega), ?_⟩
    conv => whnf
    refine ⟨_, cells_set _ _ _, ?_⟩
    conv => whnf
    rw [eqFault2]
    refine brB (fun hw => ?_) (fun hw => absurd hw (by simp))
    conv => whnf
    refine hal ?_
    conv => whnf
    rfl

end Go.Proofs.Ytfphpjinimfhfaa
