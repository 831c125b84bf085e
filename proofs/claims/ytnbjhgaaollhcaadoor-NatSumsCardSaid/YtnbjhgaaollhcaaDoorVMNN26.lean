import Derived.Test.YtnbjhgaaollhcaaDoorVMNN23
namespace Go.Proofs.YtnbjhgaaollhcaaDoor
open Go.Proofs.YtnbjhgaaollhcaaDoor.VM Go.RowKit
set_option maxRecDepth 100000
set_option linter.unusedVariables false
set_option maxHeartbeats 4000000
/-- A builder that was written. -/
def BldU (b : Nat) (S : St) (n : Nat) (bs : List UInt8) : Prop := b ≤ n ∧ n < S.next ∧ ∃ v, S.mem n = some (.cells [.ptr n 0, v]) ∧ OwnB 5 b S v (bs.map u8)
abbrev BldJ := Bld 82 5
theorem BldU.bld {b : Nat} {S : St} {n : Nat} {bs : List UInt8} (h : BldU b S n bs) : BldJ b S n bs := ⟨h.1, h.2.1, .inr h.2.2⟩
/-- Nothing else turns, but what can be appended to. -/
def Fr (n : Nat) (S S1 : St) : Prop := ∀ j blk, j < S.next → j ≠ n → S.mem j = some blk → blk ≠ .tip 5 → S1.mem j = some blk
theorem Fr.trans {n : Nat} {S S1 S2 : St} (h : Fr n S S1) (hn : S.next ≤ S1.next) (k : Fr n S1 S2) : Fr n S S2 := fun j blk h1 h2 h3 h4 => k j blk (by omega) h2 (h j blk h1 h2 h3 h4) h4
theorem Fr.set {n : Nat} {S S1 : St} (h : Fr n S S1) (x : Option Blk) : Fr n S (S1.set n x) := fun j blk h1 h2 h3 h4 => mem_set_ne (h j blk h1 h2 h3 h4) h2
theorem Fr.refl (n : Nat) (S : St) : Fr n S S := fun _ _ _ _ h _ => h
theorem copy_check {b : Nat} {S : St} {n : Nat} {bs : List UInt8} (h : BldJ b S n bs) : ∃ S1, copyCheckG 82 [.ptr n 0] S = some (.tuple [], S1) ∧ BldU b S1 n bs ∧ Low b S S1 ∧ S1.next = S.next ∧ Fr n S S1 := by
  obtain ⟨h1, h2, h3⟩ := h
  rcases h3 with ⟨h3, rfl⟩ | ⟨v, h3, h4⟩
  · refine ⟨S.set n (some (.cells [.ptr n 0, .nils])), ?_, ⟨h1, h2, _, mem_set _ _ _, OwnB.nil _ _ _⟩, (Low.refl b S).set _ _ h1, rfl, (Fr.refl n S).set _⟩
    simp only [copyCheckG, h3, if_true]
  · refine ⟨S, ?_, ⟨h1, h2, v, h3, h4⟩, Low.refl _ _, rfl, Fr.refl _ _⟩
    simp only [copyCheckG, h3, if_true]
theorem BldU.put {b : Nat} {S S1 : St} {n : Nat} {bs : List UInt8} {r : AV} (h1 : b ≤ n) (h2 : n < S.next) (hb : b ≤ S.next) (ho : OwnB 5 b S1 r (bs.map u8)) (hl : Low b S S1) (hm : ∃ v, S1.mem n = some (.cells [.ptr n 0, v])) : BldU b (S1.set n (some (.cells [.ptr n 0, r]))) n bs := by
  refine ⟨h1, Nat.lt_of_lt_of_le h2 hl.1, r, mem_set _ _ _, ho.mono (Nat.le_refl _) fun m _ _ hmm => ?_⟩
  refine mem_set_ne rfl ?_
  rintro rfl
  obtain ⟨v, hv⟩ := hm
  rw [hv] at hmm; cases hmm

theorem t54 (h : Bool) (b : Nat) (S : St) (n : Nat) (bs s : List UInt8) (hB : BldJ b S n bs) (hb : b ≤ S.next) (hl : bs.length + s.length ≤ 2 ^ 47) :
    CallQ Tryd.prog (NC h) 54 [.ptr n 0, .str s] S fun r S1 => r = .tuple [.int .i64 s.length, .nilIface] ∧ BldU b S1 n (bs ++ s) ∧ Low b S S1 ∧ Fr n S S1 := by
  obtain ⟨S1, e1, e2, e3, e4, e5⟩ := copy_check hB
  refine CallQ.of rfl (by kernel_rfl : Tryd.prog.funcs[54]? = some Tryd.f54) rfl (by decide) ?_
  conv => whnf
  refine CallQ.intr (g := copyCheckG 82) rfl e1 ?_
  obtain ⟨q1, q2, v, q3, q4⟩ := e2
  conv => whnf
  refine ⟨_, cells_of_mem q3, ?_⟩
  conv => whnf
  have hE : elemsA S1 false 1 (.str s) = some (s.map u8) := rfl
  obtain ⟨r, S2, h1, h2, h3, h4, _⟩ := OwnB.append (C := NC h) (f := 54) elB rfl q4 (by omega) hE (shed_u8 _) (wellA_u8 _) (wellA_u8 _) (by simp; omega)
  have hr : r = .nils ∨ ∃ m : Nat × List AV, r = .lst m.2 (.tag m.1) := by
    rcases h2 with ⟨rfl, _⟩ | ⟨m, _, _, rfl, _⟩
    · exact .inl rfl
    · exact .inr ⟨(m, _), rfl⟩
  refine ⟨r, S2, h1, ?_⟩
  conv => whnf
  have m2 := h4 n _ q2 q3 (by simp)
  rw [← List.map_append] at h2
  have fin := BldU.put q1 q2 (by omega) h2 h3 ⟨v, m2⟩
  have fin2 := (e3.trans h3).set n (some (.cells [.ptr n 0, r])) q1
  have fin3 : Fr n S (S2.set n (some (.cells [.ptr n 0, r]))) := (e5.trans (by omega) (fun j blk g1 _ g3 g4 => h4 j blk g1 g3 g4)).set _
  clear h1 h2
  rcases hr with rfl | ⟨m, rfl⟩
  all_goals
    refine ⟨_, _, cells_of_mem m2, if_pos ⟨rfl, rfl, Nat.le_of_ble_eq_true rfl⟩, ?_⟩
    conv => whnf
    exact ⟨rfl, fin, fin2, fin3⟩

theorem bld_string {b : Nat} {S : St} {n : Nat} {bs : List UInt8} (hB : BldJ b S n bs) (hl : bs.length ≤ 2 ^ 47) : bldStringG 5 [.ptr n 0] S = some (.str bs, S) := by
  obtain ⟨h1, h2, h3⟩ := hB
  rcases h3 with ⟨h3, rfl⟩ | ⟨v, h3, h4⟩
  · have : S.cells n = some [.nul, .nils] := by unfold St.cells; rw [h3]
    simp only [bldStringG, this]
  · rcases h4 with ⟨rfl, h4⟩ | ⟨m, _, _, rfl, h5⟩
    · obtain rfl : bs = [] := by simpa using h4
      simp only [bldStringG, cells_of_mem h3]
    · simp only [bldStringG, cells_of_mem h3, h5, byteList_u8]
      simp only [true_and]
      rw [if_pos (by omega)]

theorem t53 (h : Bool) (b : Nat) (S : St) (n : Nat) (bs : List UInt8) (hB : BldJ b S n bs) : CallQ Tryd.prog (NC h) 53 [.ptr n 0] S fun r S1 => S1 = S ∧ r = .int .i64 bs.length := by
  obtain ⟨h1, h2, h3⟩ := hB
  have hc : ∃ x v, S.cells n = some [x, v] ∧ (v = .nils ∧ bs = [] ∨ ∃ m, v = .lst (bs.map u8) (.tag m)) := by
    rcases h3 with ⟨h3, rfl⟩ | ⟨v, h3, h4⟩
    · exact ⟨_, _, by unfold St.cells; rw [h3], .inl ⟨rfl, rfl⟩⟩
    · refine ⟨_, _, cells_of_mem h3, ?_⟩
      rcases h4 with ⟨rfl, h4⟩ | ⟨m, _, _, rfl, _⟩
      · exact .inl ⟨rfl, by simpa using h4⟩
      · exact .inr ⟨m, rfl⟩
  obtain ⟨x, v, hc, ⟨rfl, rfl⟩ | ⟨m, rfl⟩⟩ := hc
  all_goals
    refine CallQ.of rfl (by kernel_rfl : Tryd.prog.funcs[53]? = some Tryd.f53) rfl (by decide) ?_
    conv => whnf
    refine ⟨_, hc, ?_⟩
    conv => whnf
    exact ⟨rfl, by show AV.int _ _ = AV.int _ _; simp⟩
theorem t52 (h : Bool) (v : AV) (hv : v = .nils ∨ ∃ n l, v = .hnd n 0 l 1) (S : St) : CallQ Tryd.prog (NC h) 52 [v] S fun r S1 => S1 = S ∧ r = .func (.func 67) [] [.cptr [v] 0] := by
  rcases hv with rfl | ⟨n, l, rfl⟩
  all_goals
    refine CallQ.of rfl (by kernel_rfl : Tryd.prog.funcs[52]? = some Tryd.f52) rfl (by decide) ?_
    conv => whnf
    exact ⟨rfl, rfl⟩
theorem lenB_hnd {n l : Nat} (h : l * 8 ≤ 140737488355328) : lenB (.hnd n 0 l 1) = some l := if_pos ⟨rfl, h⟩
theorem elemB_nn {S : St} {n i l : Nat} {xs : List Nat} {rest : List AV} (h : S.mem n = some (.cells (nn .u64 xs ++ rest))) (hi : i < xs.length) (hl : l = xs.length) : elemB S (.hnd n 0 l 1) i = some (.int .u64 (xs[i] : Nat)) := by
  have : elemB S (.hnd n 0 l 1) i = (S.cells n).bind fun cs => cs[0 + i]? := if_pos ⟨rfl, by omega⟩
  rw [this, cells_of_mem h]
  simp only [Option.bind_some, Nat.zero_add]
  exact nn_get _ _ _ _ hi
theorem drop_places {b : Nat} (hb : 2 ≤ b) : ∀ (i m : Nat), (placesB b m).drop i = placesB b (m / b ^ i)
  | 0, m => by simp
  | i + 1, m => by
    rcases Nat.eq_zero_or_pos m with h | h
    · subst h; rw [Nat.zero_div, placesB_zero]; rfl
    · rw [placesB_pos hb (by omega), List.drop_succ_cons, drop_places hb i, Nat.div_div_eq_div_mul, Nat.pow_succ, Nat.mul_comm b]
theorem get_places {b : Nat} (hb : 2 ≤ b) (i m : Nat) (h : i < (placesB b m).length) : (placesB b m)[i] = m / b ^ i % b ∧ m / b ^ i ≠ 0 := by
  have e := drop_places hb i m
  rw [List.drop_eq_getElem_cons h] at e
  have h0 : m / b ^ i ≠ 0 := fun q => by rw [q, placesB_zero] at e; cases e
  rw [placesB_pos hb h0] at e
  exact ⟨(List.cons.inj e).1, h0⟩
theorem dec_next (m i : Nat) (h0 : m / 1000000000 ^ i ≠ 0) (hq : m / 1000000000 ^ (i + 1) ≠ 0) :
    decD (m / 1000000000 ^ i) = decD (m / 1000000000 ^ (i + 1)) ++ (List.replicate (9 - (decD (m / 1000000000 ^ i % 1000000000)).length) 48 ++ decD (m / 1000000000 ^ i % 1000000000)) := by
  have e : m / 1000000000 ^ (i + 1) = m / 1000000000 ^ i / 1000000000 := by rw [Nat.div_div_eq_div_mul, Nat.pow_succ]
  rw [e] at hq ⊢
  generalize m / 1000000000 ^ i = y at *
  rw [← fixD_pad 9 (y % 1000000000) (by decide) (Nat.mod_lt _ (by decide)), ← decD_fix 9 _ _ (by omega) (Nat.mod_lt _ (by decide))]
  congr 1
  have : (10 : Nat) ^ 9 = 1000000000 := rfl
  rw [this]
  omega
theorem dec0_lim {m i : Nat} (hl : (placesB 1000000000 m).length ≤ 2 ^ 20) : (dec0 (m / 1000000000 ^ i)).length ≤ 2 ^ 30 := by
  unfold dec0
  split
  · simp
  · have hm : m < 1000000000 ^ (placesB 1000000000 m).length := by
      have := valB_lt (placesB_lt (b := 1000000000) (by decide) m)
      rwa [valB_places (by decide)] at this
    have h9 : (1000000000 : Nat) ^ (placesB 1000000000 m).length = 10 ^ (9 * (placesB 1000000000 m).length) := by rw [Nat.pow_mul]
    have h3 : m / 1000000000 ^ i ≤ m := Nat.div_le_self _ _
    have := dec_len (9 * (placesB 1000000000 m).length) (m / 1000000000 ^ i) (by rw [Nat.pow_succ, ← h9]; omega)
    omega
theorem t40 (b : Nat) (v : AV) (m : Nat) (S : St) (hv : HdB b S v (nn .u64 (placesB 1000000000 m))) (hl : (placesB 1000000000 m).length ≤ 2 ^ 20) :
    CallQ Tryd.prog (NC true) 40 [v] S fun r S1 => Keep S S1 ∧ r = .str (decD m) := by
  have hv' : v = .nils ∨ ∃ n l, v = .hnd n 0 l 1 := by
    obtain ⟨_, ⟨rfl, _⟩ | ⟨n, r, _, _, rfl, _⟩⟩ := hv
    · exact .inl rfl
    · exact .inr ⟨n, _, rfl⟩
  have hlen : lenB v = some (placesB 1000000000 m).length := by
    obtain ⟨_, ⟨rfl, q⟩ | ⟨n, r, _, _, rfl, _⟩⟩ := hv
    · have : placesB 1000000000 m = [] := List.map_eq_nil_iff.1 q
      rw [this]; rfl
    · rw [nn_len]; exact lenB_hnd (by omega)
  have hel : ∀ S1, Keep S S1 → ∀ i (hi : i < (placesB 1000000000 m).length), elemB S1 v i = some (.int .u64 ((placesB 1000000000 m)[i] : Nat)) := by
    intro S1 k i hi
    obtain ⟨_, ⟨rfl, q⟩ | ⟨n, r, _, g2, rfl, g4, _⟩⟩ := hv
    · have : placesB 1000000000 m = [] := List.map_eq_nil_iff.1 q
      rw [this] at hi; cases hi
    · exact elemB_nn ((k.mem n g2).trans g4) hi (by rw [nn_len])
  refine back_call (.inr rfl) (by kernel_rfl : Tryd.prog.funcs[40]? = some Tryd.f40) rfl (by decide) ?_
  refine CodeBQ.seqR rfl (CodeQ.wp ?_)
  conv => whnf
  refine ⟨rfl, CodeBQ.seqR rfl (CodeQ.wp ?_)⟩
  conv => whnf
  refine ⟨rfl, CodeBQ.seqL rfl (CodeBQ.seqR rfl (CodeQ.wp ?_))⟩
  conv => whnf
  refine CallQ.mono (t52 false v hv' _) ?_
  rintro r S1 ⟨rfl, rfl⟩
  conv => whnf
  refine ⟨rfl, CodeBQ.block ?_⟩
  have hB0 : BldJ S.next (S.new (.own 82 [.nul, .nils])) S.next [] := ⟨Nat.le_refl _, by show S.next < S.next + 1; omega, .inl ⟨mem_new _ _, rfl⟩⟩
  have hk0 : Keep S (S.new (.own 82 [.nul, .nils])) := (Keep.refl S).new _
  refine CodeBQ.range (len := (placesB 1000000000 m).length) rfl rfl hlen (fun i S1 => Keep S S1 ∧ S.next < S1.next ∧ BldJ S.next S1 S.next (dec0 (m / 1000000000 ^ i))) ?_ ?_ ?_
  · have hz : m / 1000000000 ^ (placesB 1000000000 m).length = 0 := by
      have := drop_places (b := 1000000000) (by decide) (placesB 1000000000 m).length m
      rw [List.drop_length] at this
      by_cases q : m / 1000000000 ^ (placesB 1000000000 m).length = 0
      · exact q
      · rw [placesB_pos (by decide) q] at this; cases this
    rw [hz]
    exact ⟨⟨by show S.next ≤ S.next + 1 + 2; omega, fun j hj => hk0.mem j hj⟩, by show S.next < S.next + 1 + 2; omega, hB0.mono (by show S.next + 1 ≤ S.next + 1 + 2; omega) (fun _ _ _ => rfl)⟩
  · rintro i S1 hi ⟨k1, hn1, hB⟩
    refine ⟨_, hel S1 k1 i hi, CodeQ.wp ?_⟩
    obtain ⟨e1, h0⟩ := get_places (b := 1000000000) (by decide) i m hi
    have hx : (placesB 1000000000 m)[i] < 1000000000 := placesB_lt (by decide) _ _ (List.getElem_mem hi)
    generalize (placesB 1000000000 m)[i] = x at *
    conv => whnf
    refine ⟨rfl, CodeQ.wp ?_⟩
    conv => whnf
    refine CallQ.mono (t23 false x (by omega) S1) ?_
    rintro r S2 ⟨rfl, k2⟩
    have hB2 := hB.keep k2
    have hn2 := k2.next
    have hxl : (decD x).length ≤ 9 := dec_len 8 x (by omega)
    have hx0 : 1 ≤ (decD x).length := List.length_pos_iff.2 (dec_head x).1
    have hbl := dec0_lim (i := i + 1) hl
    conv => whnf
    refine CallQ.mono (t53 false S.next S2 S.next _ hB2) ?_
    rintro r S3 ⟨rfl, rfl⟩
    conv => whnf
    refine br (fun h5 => ?_) (fun h5 => ?_)
    · have hq : m / 1000000000 ^ (i + 1) ≠ 0 := fun q => by rw [q] at h5; simp [dec0] at h5
      have hd : dec0 (m / 1000000000 ^ (i + 1)) = decD (m / 1000000000 ^ (i + 1)) := by unfold dec0; rw [if_neg hq]
      conv => whnf
      refine CallQ.intr (g := repG) rfl (show _ = some (_, _) from if_pos ⟨rfl, by rw [wrap_i64 (by omega) (by omega)]; omega, by rw [wrap_i64 (by omega) (by omega)]; omega⟩) ?_
      rw [show (IntKind.i64.wrap (9 - ((decD x).length : Int))).toNat = 9 - (decD x).length by rw [wrap_i64 (by omega) (by omega)]; omega]
      conv => whnf
      refine CallQ.mono (t54 false S.next S3 S.next _ (List.replicate (9 - (decD x).length) 48) hB2 (by omega) (by simp; omega)) ?_
      rintro r S4 ⟨rfl, b4, l4, _⟩
      have hn4 := l4.1
      conv => whnf
      refine CallQ.mono (t54 false S.next S4 S.next _ (decD x) b4.bld (by omega) (by simp; omega)) ?_
      rintro r S5 ⟨rfl, b5, l5, _⟩
      have hn5 := l5.1
      conv => whnf
      refine ⟨rfl, ⟨by have := (k1.trans k2).next; omega, fun j hj => ?_⟩, by omega, ?_⟩
      · rw [l5.2 j hj, l4.2 j hj]; exact (k1.trans k2).mem j hj
      · have : dec0 (m / 1000000000 ^ i) = (dec0 (m / 1000000000 ^ (i + 1)) ++ List.replicate (9 - (decD x).length) 48) ++ decD x := by
          conv => lhs; unfold dec0
          rw [if_neg h0, dec_next m i h0 hq, hd, e1, List.append_assoc]
        rw [this]
        exact b5.bld
    · have hq : m / 1000000000 ^ (i + 1) = 0 := by
        by_cases q : m / 1000000000 ^ (i + 1) = 0
        · exact q
        · unfold dec0 at h5
          rw [if_neg q] at h5
          have := List.length_pos_iff.2 (dec_head (m / 1000000000 ^ (i + 1))).1
          omega
      rw [hq] at hB2
      conv => whnf
      refine CallQ.mono (t54 false S.next S3 S.next _ (decD x) hB2 (by omega) (by simp [dec0]; omega)) ?_
      rintro r S5 ⟨rfl, b5, l5, _⟩
      have hn5 := l5.1
      conv => whnf
      refine ⟨rfl, ⟨by have := (k1.trans k2).next; omega, fun j hj => ?_⟩, by omega, ?_⟩
      · rw [l5.2 j hj]; exact (k1.trans k2).mem j hj
      · have : dec0 (m / 1000000000 ^ i) = dec0 0 ++ decD x := by
          have e : m / 1000000000 ^ (i + 1) = m / 1000000000 ^ i / 1000000000 := by rw [Nat.div_div_eq_div_mul, Nat.pow_succ]
          rw [e] at hq
          unfold dec0
          rw [if_neg h0, if_pos rfl, e1, List.nil_append]
          congr 1
          omega
        rw [this]
        exact b5.bld
  · rintro S1 ⟨k1, hn1, hB⟩
    rw [Nat.pow_zero, Nat.div_one] at hB
    refine ⟨rfl, rfl, CodeQ.wp ?_⟩
    conv => whnf
    refine CallQ.mono (t53 false S.next S1 S.next _ hB) ?_
    rintro r S3 ⟨rfl, rfl⟩
    conv => whnf
    refine brEq (fun h5 => ?_) (fun h5 => ?_)
    · have hm : m = 0 := by
        by_cases q : m = 0
        · exact q
        · unfold dec0 at h5
          rw [if_neg q] at h5
          have := List.length_pos_iff.2 (dec_head m).1
          omega
      subst hm
      conv => whnf
      exact ⟨rfl, _, _, _, rfl, rfl, k1, by rw [show decD 0 = [48] from by decide +kernel]; rfl⟩
    · have hm : m ≠ 0 := fun q => by subst q; exact h5 rfl
      conv => whnf
      have hl30 := dec0_lim (i := 0) hl
      rw [Nat.pow_zero, Nat.div_one] at hl30
      refine CallQ.intr (g := bldStringG 5) rfl (bld_string hB (by omega)) ?_
      conv => whnf
      refine ⟨rfl, _, _, _, rfl, rfl, k1, ?_⟩
      show AV.str (dec0 m) = _
      unfold dec0
      rw [if_neg hm]
end Go.Proofs.YtnbjhgaaollhcaaDoor
namespace Go.Proofs.YtnbjhgaaollhcaaDoor
open Go.Proofs.YtnbjhgaaollhcaaDoor.VM Go.RowKit
set_option maxRecDepth 100000
set_option linter.unusedVariables false
set_option maxHeartbeats 4000000
/-- A quotient and a rest, place by place. -/
theorem div_step (q r e by_ w : Nat) (hw : w = by_ * q + r) : e + 1000000000 * w = by_ * ((e + r * 1000000000) / by_ + 1000000000 * q) + (e + r * 1000000000) % by_ := by
  have := Nat.mod_add_div (e + r * 1000000000) by_
  subst hw
  rw [Nat.mul_add, Nat.mul_add, Nat.mul_left_comm by_ 1000000000]
  omega
theorem drop_set_at (os : List Nat) (i v : Nat) (h : i < os.length) : (os.set i v).drop i = v :: os.drop (i + 1) := by
  rw [List.drop_eq_getElem_cons (by simpa using h), List.getElem_set_self, List.drop_set_of_lt (by omega)]
theorem t39 (nv : Nat) (rv : List AV) (xs : List Nat) (y : Nat) (S : St) (hm : S.mem nv = some (.cells (nn .u64 xs ++ rv))) (hnv : nv < S.next) (hx : ∀ x ∈ xs, x < 1000000000) (hl : xs.length ≤ 2 ^ 19) (hy0 : 0 < y) (hy : y ≤ 1000000) :
    CallQ Tryd.prog (NC true) 39 [.hnd nv 0 xs.length 1, .int .u64 y] S fun r S1 => Keep S S1 ∧ ∃ w, r = .tuple [w, .int .u64 (valB 1000000000 xs % y : Nat)] ∧ HdB S.next S1 w (nn .u64 (placesB 1000000000 (valB 1000000000 xs / y))) := by
  have hel : ∀ S1, Keep S S1 → ∀ i (hi : i < xs.length), elemB S1 (.hnd nv 0 xs.length 1) i = some (.int .u64 (xs[i] : Nat)) := fun S1 k i hi => elemB_nn ((k.mem nv hnv).trans hm) hi rfl
  refine back_call (.inl rfl) (by kernel_rfl : Tryd.prog.funcs[39]? = some Tryd.f39) rfl (by decide) ?_
  refine CodeBQ.seqR rfl (CodeQ.wp ?_)
  conv => whnf
  refine ⟨rfl, CodeBQ.seqR rfl (CodeQ.wp ?_)⟩
  conv => whnf
  refine ⟨_, _, make_nn elU _ _ xs.length rfl ⟨by omega, by omega⟩, ?_⟩
  conv => whnf
  refine ⟨_, _, cells_new _ _, if_pos ⟨rfl, rfl, Nat.le_of_ble_eq_true rfl⟩, ?_⟩
  conv => whnf
  refine ⟨rfl, CodeBQ.seqR rfl (CodeQ.wp ?_)⟩
  conv => whnf
  refine ⟨_, _, cells_new _ _, if_pos ⟨rfl, rfl, Nat.le_of_ble_eq_true rfl⟩, ?_⟩
  conv => whnf
  refine ⟨rfl, CodeBQ.seqL rfl (CodeBQ.seqR rfl (CodeQ.wp ?_))⟩
  conv => whnf
  refine CallQ.mono (t52 false _ (.inr ⟨_, _, rfl⟩) _) ?_
  rintro r S1 ⟨hS1, rfl⟩
  have hn1 : S1.next = S.next + 4 := by rw [hS1]; rfl
  have hk1 : Keep S S1 := by rw [hS1]; exact ((((((Keep.refl S).new _).new _).new _).set _ _ (by show S.next ≤ S.next + 2; omega)).new _).set _ _ (by show S.next ≤ S.next + 3; omega)
  have mB : S1.mem S.next = some (.cells [.int .u64 y]) := by
    rw [hS1]
    simp only [St.new, St.set, upd]
    (repeat first | rw [if_pos rfl] | rw [if_neg (by omega)])
    rfl
  have mO : S1.mem (S.next + 1) = some (.cells (nn .u64 (List.replicate xs.length 0) ++ [])) := by
    rw [hS1]
    simp only [St.new, St.set, upd]
    (repeat first | rw [if_pos rfl] | rw [if_neg (by omega)])
    rfl
  have m6 : S1.mem (S.next + 2) = some (.cells [.hnd (S.next + 1) 0 xs.length 1]) := by
    rw [hS1]
    simp only [St.new, St.set, upd]
    (repeat first | rw [if_pos rfl] | rw [if_neg (by omega)])
    rfl
  have m7 : S1.mem (S.next + 3) = some (.cells [.int .u64 0]) := by
    rw [hS1]
    simp only [St.new, St.set, upd]
    (repeat first | rw [if_pos rfl] | rw [if_neg (by omega)])
    rfl
  clear hS1
  conv => whnf
  refine ⟨rfl, CodeBQ.block ?_⟩
  refine CodeBQ.range (len := xs.length) rfl rfl (lenB_hnd (by omega)) (fun i S1 => Keep S S1 ∧ S.next + 4 ≤ S1.next ∧ S1.mem S.next = some (.cells [.int .u64 y]) ∧ S1.mem (S.next + 2) = some (.cells [.hnd (S.next + 1) 0 xs.length 1]) ∧ ∃ (r : Nat) (os : List Nat), S1.mem (S.next + 3) = some (.cells [.int .u64 r]) ∧ S1.mem (S.next + 1) = some (.cells (nn .u64 os ++ [])) ∧ os.length = xs.length ∧ r < y ∧ (∀ z ∈ os, z < 1000000000) ∧ valB 1000000000 (xs.drop i) = y * valB 1000000000 (os.drop i) + r) ?_ ?_ ?_
  · exact ⟨⟨by show S.next ≤ S1.next + 2; omega, fun j hj => hk1.mem j hj⟩, by show S.next + 4 ≤ S1.next + 2; omega, mB, m6, 0, List.replicate xs.length 0, m7, mO, by simp, hy0, fun z q => by rw [(List.mem_replicate.1 q).2]; decide, by rw [List.drop_length, List.drop_of_length_le (by simp)]; simp [valB]⟩
  · clear hk1 mB mO m6 m7 hn1 S1
    rintro i S1 hi ⟨k1, n1, mB, m6, r, os, m7, mO, e1, e2, e3, e4⟩
    refine ⟨_, hel S1 k1 i hi, CodeQ.wp ?_⟩
    have hxi := hx xs[i] (List.getElem_mem hi)
    have hxd : xs.drop i = xs[i] :: xs.drop (i + 1) := List.drop_eq_getElem_cons hi
    generalize xs[i] = x at *
    conv => whnf
    refine ⟨rfl, CodeQ.wp ?_⟩
    conv => whnf
    refine ⟨_, cells_of_mem m7, ?_⟩
    conv => whnf
    have w1 : IntKind.u64.wrap ((x : Int) + IntKind.u64.wrap ((r : Int) * 1000000000)) = ((x + r * 1000000000 : Nat) : Int) := by
      rw [wrap_u64 (x := (r : Int) * 1000000000) (by omega) (by omega), wrap_u64 (by omega) (by omega)]; omega
    have hlt : (x + r * 1000000000) / y < 1000000000 := by
      apply Nat.div_lt_of_lt_mul
      have : (r + 1) * 1000000000 ≤ y * 1000000000 := Nat.mul_le_mul_right _ e2
      omega
    have hrl : (x + r * 1000000000) % y < y := Nat.mod_lt _ hy0
    have hst := div_step _ _ x y _ e4
    have c2 : (((x + r * 1000000000 : Nat) : Int)).tdiv (y : Int) = (((x + r * 1000000000) / y : Nat) : Int) := by
      rw [Int.tdiv_eq_ediv_of_nonneg (by omega), ← Int.natCast_ediv]
    have w3 : (((x + r * 1000000000 : Nat) : Int)).tmod (y : Int) = (((x + r * 1000000000) % y : Nat) : Int) := by
      rw [Int.tmod_eq_emod_of_nonneg (by omega), ← Int.natCast_emod]
    generalize (x + r * 1000000000) / y = qd at *
    generalize (x + r * 1000000000) % y = rd at *
    have w2 : IntKind.u64.wrap ((((x + r * 1000000000 : Nat) : Int)).tdiv (y : Int)) = (qd : Int) := by rw [c2, wrap_u64 (by omega) (by omega)]
    rw [w1]
    refine ⟨[0, 1, 2, 3, 4, 6, 8, 9, 5, 7, 10], [(9, [6])], by kernel_rfl, by kernel_rfl, by kernel_rfl, ?_⟩
    conv => whnf
    refine ⟨_, (cells_of_mem m6), ?_⟩
    conv => whnf
    refine ⟨_, (cells_of_mem mB), ?_⟩
    conv => whnf
    refine ⟨by omega, ?_⟩
    rw [w2]
    conv => whnf
    refine ⟨_, (cells_of_mem mB), ?_⟩
    conv => whnf
    refine ⟨by omega, by omega, ?_⟩
    conv => whnf
    refine st_nn qd mO (by omega) (off_nat i) rfl ?_
    conv => whnf
    have hne : S.next ≠ S.next + 1 := by omega
    refine ⟨stab_load rfl rfl rfl rfl rfl ?_, ?_⟩
    · show ((S1.set (S.next + 1) _).cells S.next).bind (fun cs => partA false 1 cs 0) = _
      rw [cells_set_ne (cells_of_mem mB) hne]
      rfl
    conv => whnf
    refine ⟨by omega, ?_⟩
    rw [w3]
    conv => whnf
    refine ⟨_, _, (cells_set_ne (cells_of_mem m7) (show S.next + 3 ≠ S.next + 1 by omega)), if_pos ⟨rfl, rfl, Nat.le_of_ble_eq_true rfl⟩, ?_⟩
    conv => whnf
    refine ⟨rfl, ((k1.set _ _ (by show S.next ≤ S.next + 1; omega)).set _ _ (by show S.next ≤ S.next + 3; omega)), n1, ?_, ?_, rd, os.set i qd, ?_, ?_, by simp [e1], hrl, mem_set_lt e3 hlt, ?_⟩
    · exact mem_set_ne (mem_set_ne mB (by omega)) (by show S.next ≠ S.next + 3; omega)
    · exact mem_set_ne (mem_set_ne m6 (by omega)) (by show S.next + 2 ≠ S.next + 3; omega)
    · exact mem_set _ _ _
    · exact mem_set_ne (mem_set _ _ _) (by show S.next + 1 ≠ S.next + 3; omega)
    · rw [hxd, drop_set_at os i qd (by omega), valB, valB]
      exact hst
  · clear hk1 mB mO m6 m7 hn1 S1
    rintro S1 ⟨k1, n1, mB, m6, r, os, m7, mO, e1, e2, e3, e4⟩
    rw [List.drop_zero, List.drop_zero] at e4
    have hq : valB 1000000000 xs / y = valB 1000000000 os := by rw [e4, Nat.mul_add_div hy0, Nat.div_eq_of_lt e2, Nat.add_zero]
    have hr : valB 1000000000 xs % y = r := by rw [e4, Nat.mul_add_mod, Nat.mod_eq_of_lt e2]
    rw [hq, hr]
    have hh : HdB S.next S1 (.hnd (S.next + 1) 0 xs.length 1) (nn .u64 os) := ⟨nn_nums _ _, .inr ⟨S.next + 1, [], by omega, by omega, by rw [nn_len, e1], mO, .nil⟩⟩
    refine ⟨rfl, rfl, CodeQ.wp ?_⟩
    refine ⟨[0, 2, 1, 3, 4], [(1, [2])], by kernel_rfl, by kernel_rfl, by kernel_rfl, ?_⟩
    conv => whnf
    refine ⟨_, (cells_of_mem m6), ?_⟩
    conv => whnf
    refine ⟨_, (cells_of_mem m7), ?_⟩
    conv => whnf
    refine CallQ.mono (t46 false S.next _ os S1 hh k1.next (fun z q => Nat.lt_trans (e3 z q) (by decide)) (by omega)) ?_
    rintro w S2 ⟨g1, g2⟩
    conv => whnf
    refine ⟨stab_load rfl rfl rfl rfl rfl ?_, ?_⟩
    · have hc : S2.cells (S.next + 3) = some [.int .u64 r] := cells_of_mem ((g2.2 (S.next + 3) (by omega) (fun l q => by have := (AV.hnd.inj q).1; omega)).trans m7)
      show (S2.cells (S.next + 3)).bind (fun cs => partA false 1 cs 0) = _
      rw [hc]
      rfl
    conv => whnf
    refine ⟨rfl, _, _, _, rfl, rfl, g2.keep k1 hh, w, ?_, g1⟩
    show AV.tuple [w.shed, _] = _
    rw [g1.shed]
    rfl
end Go.Proofs.YtnbjhgaaollhcaaDoor
namespace Go.Proofs.YtnbjhgaaollhcaaDoor
open Go.Proofs.YtnbjhgaaollhcaaDoor.VM Go.RowKit
set_option maxRecDepth 100000
set_option linter.unusedVariables false
set_option maxHeartbeats 4000000
theorem t57 (h : Bool) (n : Nat) (rest : List AV) (xs : List Nat) (S : St) (hm : S.mem n = some (.cells (nn .u64 xs ++ rest))) (hr : Nums rest) (hn : n < S.next) (hne : xs ≠ []) (hl : xs.length ≤ 2 ^ 19) :
    CallQ Tryd.prog (NC h) 57 [.hnd n 0 xs.length 1] S fun r S1 => Keep S S1 ∧ HdB S.next S1 r (nn .u64 xs) := by
  refine CallQ.of rfl (by kernel_rfl : Tryd.prog.funcs[57]? = some Tryd.f57) rfl (by decide) ?_
  conv => whnf
  rintro c rfl
  conv => whnf
  obtain ⟨S1, a1, a2, a3, a4, a5⟩ := HdB.append (C := NC h) (f := 57) (b := S.next) (S := S.new (.cells [])) (v := .hnd S.next 0 0 1) (xs := []) (y := .hnd n 0 xs.length 1) (ys := nn .u64 xs) elU rfl
    ⟨.nil, .inr ⟨S.next, [], Nat.le_refl _, by show S.next < S.next + 1; omega, rfl, mem_new _ _, .nil⟩⟩ (by show S.next ≤ S.next + 1; omega)
    (by have := elems_nums (S := S.new (.cells [])) (n := n) (xs := nn .u64 xs) (rest := rest) (cells_of_mem (mem_new_ne hm (by omega))) ((nn_nums _ _).append hr); rwa [nn_len] at this)
    (nn_nums _ _) (fun q => hne (List.map_eq_nil_iff.1 q)) (by simp only [nn_len, List.length_nil]; omega)
  refine ⟨_, S1, a1, ?_⟩
  conv => whnf
  refine ⟨⟨by rw [a3]; show S.next ≤ S.next + 1 + 1; omega, fun j hj => ?_⟩, a2⟩
  rw [a5 j (by show j < S.next + 1; omega) (fun l q => by have := (AV.hnd.inj q).1; omega)]
  exact mem_new_ne rfl (by omega)
theorem t42 (h : Bool) (b : Nat) (v : AV) (xs : List Nat) (x : Nat) (S : St) (hv : HdB b S v (nn .u64 xs)) (hx : ∀ x ∈ xs, x < 1000000000) (hl : xs.length ≤ 2 ^ 19) (hx2 : x < 2 ^ 62) :
    CallQ Tryd.prog (NC h) 42 [v, .int .u64 x] S fun r S1 => Keep S S1 ∧ HdB S.next S1 r (nn .u64 (placesB 1000000000 (valB 1000000000 xs + x))) := by
  have hone : ∀ Q : AV → St → Prop, (∀ r S1, Keep S S1 ∧ HdB S.next S1 r (nn .u64 (placesB 1000000000 x)) → Q r S1) → CallQ Tryd.prog (NC h) 46 [.hnd S.next 0 1 1] (S.new (.cells [.int .u64 x])) Q := by
    intro Q hq
    have hh : HdB S.next (S.new (.cells [.int .u64 x])) (.hnd S.next 0 1 1) (nn .u64 [x]) := ⟨nn_nums _ _, .inr ⟨S.next, [], Nat.le_refl _, by show S.next < S.next + 1; omega, rfl, mem_new _ _, .nil⟩⟩
    refine CallQ.mono (t46 h S.next _ [x] _ hh (by show S.next ≤ S.next + 1; omega) (fun z q => by have : z = x := (by simpa using q); omega) (by simp)) ?_
    rintro r S1 ⟨g1, g2⟩
    rw [valB_one] at g1
    exact hq r S1 ⟨g2.keep ((Keep.refl S).new _) hh, g1⟩
  obtain ⟨hnum, ⟨rfl, he⟩ | ⟨n, rest, g1, g2, rfl, g4, g5⟩⟩ := hv
  · obtain rfl : xs = [] := List.map_eq_nil_iff.1 he
    rw [show valB 1000000000 [] + x = x from Nat.zero_add x]
    refine CallQ.of rfl (by kernel_rfl : Tryd.prog.funcs[42]? = some Tryd.f42) rfl (by decide) ?_
    conv => whnf
    refine brEq (fun _ => ?_) (fun q => absurd rfl q)
    conv => whnf
    refine hone _ ?_
    rintro r S1 ⟨k1, k2⟩
    conv => whnf
    rw [k2.shed2]
    exact ⟨k1, k2⟩
  rw [nn_len]
  refine CallQ.of rfl (by kernel_rfl : Tryd.prog.funcs[42]? = some Tryd.f42) rfl (by decide) ?_
  conv => whnf
  refine brEq (fun h0 => ?_) (fun h0 => ?_)
  · obtain rfl : xs = [] := List.length_eq_zero_iff.1 (by omega)
    rw [show valB 1000000000 [] + x = x from Nat.zero_add x]
    conv => whnf
    refine hone _ ?_
    rintro r S1 ⟨k1, k2⟩
    conv => whnf
    rw [k2.shed2]
    exact ⟨k1, k2⟩
  have hne : xs ≠ [] := fun q => h0 (by rw [q]; rfl)
  conv => whnf
  refine CallQ.mono (t57 h n rest xs S g4 g5 g2 hne hl) ?_
  rintro r S1 ⟨k1, _, ⟨rfl, q⟩ | ⟨n1, r1, p1, p2, rfl, p4, p5⟩⟩
  · exact absurd (List.map_eq_nil_iff.1 q) hne
  obtain ⟨e, es, rfl⟩ : ∃ e t, xs = e :: t := by cases xs with | nil => exact absurd rfl hne | cons e t => exact ⟨e, t, rfl⟩
  have he := hx e (by simp)
  have hlen : (nn .u64 (e :: es)).length = es.length + 1 := by rw [nn_len]; rfl
  rw [hlen]
  conv => whnf
  refine ⟨by omega, by omega, ?_⟩
  conv => whnf
  refine ld_at (ds := []) p4 rfl ?_
  conv => whnf
  refine ⟨by omega, by omega, ?_⟩
  conv => whnf
  refine st_at (ds := []) (e + x) p4 rfl (by rw [wrap_u64 (by omega) (by omega)]; omega) ?_
  conv => whnf
  have hh : HdB S.next (S1.set n1 (some (.cells (nn .u64 ((e + x) :: es) ++ r1)))) (.hnd n1 0 (es.length + 1) 1) (nn .u64 ((e + x) :: es)) := ⟨nn_nums _ _, .inr ⟨n1, r1, p1, p2, by rw [nn_len]; rfl, mem_set _ _ _, p5⟩⟩
  have kk : Keep S (S1.set n1 (some (.cells (nn .u64 ((e + x) :: es) ++ r1)))) := k1.set _ _ p1
  refine CallQ.mono (t46 h S.next _ ((e + x) :: es) _ hh k1.next (fun z q => ?_) (by simp at hl ⊢; omega)) ?_
  · rcases List.mem_cons.1 q with rfl | q
    · omega
    · have := hx z (by simp [q]); omega
  rintro r S2 ⟨q1, q2⟩
  conv => whnf
  rw [q1.shed2]
  refine ⟨q2.keep kk hh, ?_⟩
  rw [show valB 1000000000 (e :: es) + x = valB 1000000000 ((e + x) :: es) by simp only [valB]; omega]
  exact q1
/-- A number's digits, or that they are too many. -/
def shortS (n : Nat) : List UInt8 := if (decD n).length ≤ 800 then decD n else []
def shortE (n : Nat) : Int := if (decD n).length ≤ 800 then 0 else 11
theorem valB_big {b c : Nat} (hb : 2 ≤ b) : ∀ (xs : List Nat), (∀ x ∈ xs, x < c) → valB b xs + c ≤ b ^ xs.length * c
  | [], _ => by simp [valB]
  | x :: xs, h => by
    have h1 := valB_big hb xs (fun y hy => h y (List.mem_cons_of_mem _ hy))
    have h0 := h x List.mem_cons_self
    have h2 := Nat.mul_le_mul_left b h1
    have h3 : 2 * c ≤ b * c := Nat.mul_le_mul_right c hb
    rw [Nat.mul_add] at h2
    rw [valB, List.length_cons, Nat.pow_succ, Nat.mul_comm (b ^ xs.length) b, Nat.mul_assoc]
    omega
theorem valB_63 {xs : List Nat} (h : ∀ x ∈ xs, x < 2 ^ 63) : valB 1000000000 xs < 1000000000 ^ (xs.length + 3) := by
  have h1 := valB_big (b := 1000000000) (by decide) xs h
  rw [Nat.pow_add]
  exact Nat.lt_of_lt_of_le (Nat.lt_of_lt_of_le (Nat.lt_add_of_pos_right (by decide)) h1) (Nat.mul_le_mul_left _ (by decide +kernel))
theorem t36 (b : Nat) (v : AV) (xs : List Nat) (S : St) (hv : HdB b S v (nn .u64 xs)) (hb : b ≤ S.next) (hx : ∀ x ∈ xs, x < 2 ^ 63) (hl : xs.length ≤ 2 ^ 19) :
    CallQ Tryd.prog (NC true) 36 [v] S fun r S1 => Turn S S1 v ∧ r = .tuple [.str (shortS (valB 1000000000 xs)), .int .i64 (shortE (valB 1000000000 xs))] := by
  refine CallQ.of rfl (by kernel_rfl : Tryd.prog.funcs[36]? = some Tryd.f36) rfl (by decide) ?_
  conv => whnf
  refine CallQ.mono (t46 true b v xs S hv hb hx (by omega)) ?_
  rintro r S1 ⟨g1, g2⟩
  have hpl : (placesB 1000000000 (valB 1000000000 xs)).length ≤ 2 ^ 20 := by
    have := places_len (b := 1000000000) (by decide) (xs.length + 3) (valB 1000000000 xs) (valB_63 hx)
    omega
  have hdl := dec0_lim (i := 0) hpl
  rw [Nat.pow_zero, Nat.div_one] at hdl
  conv => whnf
  refine CallQ.mono (t40 b r (valB 1000000000 xs) S1 g1 hpl) ?_
  rintro r S2 ⟨k2, rfl⟩
  have fin : Turn S S2 v := ⟨Nat.le_trans g2.1 k2.next, fun j hj hne => by rw [k2.mem j (Nat.lt_of_lt_of_le hj g2.1)]; exact g2.2 j hj hne⟩
  generalize valB 1000000000 xs = m at *
  conv => whnf
  refine br (fun h5 => ?_) (fun h5 => ?_)
  · conv => whnf
    refine ⟨fin, ?_⟩
    unfold shortS shortE
    rw [if_neg (by omega), if_neg (by omega)]
    rfl
  · conv => whnf
    refine ⟨fin, ?_⟩
    unfold shortS shortE
    rw [if_pos (by omega), if_pos (by omega)]
    rfl
/-- Read digits. -/
def RdN (b : Nat) (S : St) (n : Nat) (xs : List Nat) (a : List UInt8) : Prop := ∃ rest, S.mem n = some (.cells (nn .u64 xs ++ rest)) ∧ Nums rest ∧ b ≤ n ∧ n < S.next ∧ (∀ x ∈ xs, x < 1000000000) ∧ valB 1000000000 xs = valD a ∧ xs.length = (a.length + 8) / 9
theorem RdN.hdB {b : Nat} {S : St} {n : Nat} {xs : List Nat} {a : List UInt8} (h : RdN b S n xs a) : HdB b S (.hnd n 0 xs.length 1) (nn .u64 xs) := by
  obtain ⟨rest, h1, h2, h3, h4, _⟩ := h
  exact ⟨nn_nums _ _, .inr ⟨n, rest, h3, h4, by rw [nn_len], h1, h2⟩⟩
theorem RdN.keep {b : Nat} {S S1 : St} {n : Nat} {xs : List Nat} {a : List UInt8} (h : RdN b S n xs a) (k : Keep S S1) : RdN b S1 n xs a := by
  obtain ⟨rest, h1, h2, h3, h4, h5⟩ := h
  exact ⟨rest, (k.mem n h4).trans h1, h2, h3, Nat.lt_of_lt_of_le h4 k.next, h5⟩
theorem read_right (h : Bool) (s : List UInt8) (hr : rightS s = true) (S : St) : CallQ Tryd.prog (NC h) 38 [.str s] S fun r S1 => Keep S S1 ∧ ∃ n xs, r = .hnd n 0 xs.length 1 ∧ RdN S.next S1 n xs s := by
  obtain ⟨h1, h2, _⟩ := right_head hr
  refine CallQ.mono (t38 h s (by omega) (right_all hr).2 S) ?_
  rintro r S1 ⟨k, xs, ⟨_, ⟨rfl, q⟩ | ⟨n, rest, p1, p2, rfl, p4, p5⟩⟩, e1, e2, e3⟩
  · have : xs = [] := List.map_eq_nil_iff.1 q
    subst this
    simp at e3; omega
  · exact ⟨k, n, xs, by rw [nn_len], rest, p4, p5, p1, p2, e1, e2, e3⟩
theorem t50 (h : Bool) (a b : List UInt8) (ha : a.length ≤ 2 ^ 47) (hb : b.length ≤ 2 ^ 47) (S : St) : CallQ Tryd.prog (NC h) 50 [.str a, .str b] S fun r S1 => Keep S S1 ∧
    ((rightS a = true ∧ rightS b = true ∧ ∃ n1 n2 xs ys, r = .tuple [.hnd n1 0 xs.length 1, .hnd n2 0 ys.length 1, .bool true] ∧ RdN S.next S1 n1 xs a ∧ RdN (n1 + 1) S1 n2 ys b) ∨
     ((rightS a && rightS b) = false ∧ r = .tuple [.nils, .nils, .bool false])) := by
  refine CallQ.of rfl (by kernel_rfl : Tryd.prog.funcs[50]? = some Tryd.f50) rfl (by decide) ?_
  conv => whnf
  refine CallQ.mono (t33 h a ha S) ?_
  rintro r S1 ⟨k1, rfl⟩
  cases hra : rightS a
  · conv => whnf
    exact ⟨k1, .inr ⟨rfl, rfl⟩⟩
  conv => whnf
  refine CallQ.mono (t33 h b hb S1) ?_
  rintro r S2 ⟨k2, rfl⟩
  cases hrb : rightS b
  · conv => whnf
    exact ⟨k1.trans k2, .inr ⟨rfl, rfl⟩⟩
  conv => whnf
  refine CallQ.mono (read_right h a hra S2) ?_
  rintro r S3 ⟨k3, n1, xs, rfl, r1⟩
  conv => whnf
  refine CallQ.mono (read_right h b hrb S3) ?_
  rintro r S4 ⟨k4, n2, ys, rfl, r2⟩
  conv => whnf
  have kk := k1.trans k2
  refine ⟨(kk.trans k3).trans k4, .inl ⟨rfl, rfl, n1, n2, xs, ys, rfl, ?_, ?_⟩⟩
  · obtain ⟨rest, p1, p2, p3, p4, p5⟩ := r1.keep k4
    exact ⟨rest, p1, p2, Nat.le_trans kk.next p3, p4, p5⟩
  · obtain ⟨rest, p1, p2, p3, p4, p5⟩ := r2
    obtain ⟨_, _, _, _, q4, _⟩ := r1
    exact ⟨rest, p1, p2, by omega, p4, p5⟩
/-- An answer of digits; refused, if something may not be. -/
def arS (ok : Bool) (n : Nat) : List UInt8 := if ok = true then shortS n else []
def arE (ok : Bool) (n : Nat) : Int := if ok = true then shortE n else 1
theorem RdN.lim {b : Nat} {S : St} {n : Nat} {xs : List Nat} {a : List UInt8} (h : RdN b S n xs a) (hr : rightS a = true) : 1 ≤ xs.length ∧ xs.length ≤ 89 := by
  obtain ⟨_, _, _, _, _, _, _, e⟩ := h
  obtain ⟨h1, h2, _⟩ := right_head hr
  omega
theorem t25 (a b : List UInt8) (ha : a.length ≤ 2 ^ 47) (hb : b.length ≤ 2 ^ 47) (S : St) : CallQ Tryd.prog (NC true) 25 [.str a, .str b] S fun r S1 => Keep S S1 ∧ r = .tuple [.str (arS (rightS a && rightS b) (valD a * valD b)), .int .i64 (arE (rightS a && rightS b) (valD a * valD b))] := by
  refine CallQ.of rfl (by kernel_rfl : Tryd.prog.funcs[25]? = some Tryd.f25) rfl (by decide) ?_
  conv => whnf
  refine CallQ.mono (t50 true a b ha hb S) ?_
  rintro r S1 ⟨k1, ⟨hra, hrb, n1, n2, xs, ys, rfl, r1, r2⟩ | ⟨hn, rfl⟩⟩
  rotate_left
  · rw [hn]
    conv => whnf
    exact ⟨k1, rfl⟩
  rw [hra, hrb]
  have l1 := r1.lim hra
  have l2 := r2.lim hrb
  have d1 := r1.hdB
  obtain ⟨_, _, _, _, _, p6, p7, _⟩ := r1
  obtain ⟨rest, q1, q2, q3, q4, q5, q6, _⟩ := r2
  conv => whnf
  refine CallQ.mono (t35 true S.next _ xs ys n2 rest S1 d1 q1 q4 p6 q5 (by omega) (by omega)) ?_
  rintro r S2 ⟨g1, k2⟩
  rw [p7, q6] at g1
  have hpl : (placesB 1000000000 (valD a * valD b)).length ≤ 2 ^ 19 := by
    refine Nat.le_trans (places_len (b := 1000000000) (by decide) (xs.length + ys.length) _ ?_) (by omega)
    rw [← p7, ← q6, Nat.pow_add]
    exact Nat.mul_lt_mul'' (valB_lt p6) (valB_lt q5)
  conv => whnf
  refine CallQ.mono (t36 S1.next r _ S2 g1 k2.next (fun z q => Nat.lt_trans (placesB_lt (by decide) _ z q) (by decide)) hpl) ?_
  rintro r S3 ⟨t3, rfl⟩
  rw [valB_places (by decide)]
  conv => whnf
  exact ⟨k1.trans (t3.keep k2 g1), rfl⟩
theorem t14 (a : List UInt8) (y : Int) (ha : a.length ≤ 2 ^ 47) (S : St) : CallQ Tryd.prog (NC true) 14 [.str a, .int .i64 y] S fun r S1 => Keep S S1 ∧
    r = if rightS a = true ∧ 1 ≤ y ∧ y ≤ 1000000 then .tuple [.str (decD (valD a / y.toNat)), .int .i64 (valD a % y.toNat : Nat), .int .i64 0] else .tuple [.str [], .int .i64 0, .int .i64 1] := by
  refine CallQ.of rfl (by kernel_rfl : Tryd.prog.funcs[14]? = some Tryd.f14) rfl (by decide) ?_
  conv => whnf
  refine CallQ.mono (t33 true a ha S) ?_
  rintro r S1 ⟨k1, rfl⟩
  cases hra : rightS a
  · conv => whnf
    exact ⟨k1, by rw [if_neg (fun q => by cases q.1)]; rfl⟩
  conv => whnf
  refine br (fun h1 => ?_) (fun h1 => ?_)
  · conv => whnf
    exact ⟨k1, by rw [if_neg (fun q => by omega)]; rfl⟩
  conv => whnf
  refine br (fun h2 => ?_) (fun h2 => ?_)
  · conv => whnf
    exact ⟨k1, by rw [if_neg (fun q => by omega)]; rfl⟩
  rw [if_pos ⟨rfl, by omega, by omega⟩]
  obtain ⟨z, rfl⟩ : ∃ z : Nat, y = z := ⟨y.toNat, by omega⟩
  conv => whnf
  refine CallQ.mono (read_right true a hra S1) ?_
  rintro r S2 ⟨k2, n1, xs, rfl, r1⟩
  have l1 := r1.lim hra
  obtain ⟨rest, q1, q2, q3, q4, q5, q6, _⟩ := r1
  conv => whnf
  rw [wrap_u64 (by omega) (by omega)]
  refine CallQ.mono (t39 n1 rest xs z S2 q1 q4 q5 (by omega) (by omega) (by omega)) ?_
  rintro r S3 ⟨k3, w, rfl, g1⟩
  rw [q6] at g1 ⊢
  conv => whnf
  have hpl : (placesB 1000000000 (valD a / z)).length ≤ 2 ^ 20 := by
    refine Nat.le_trans (places_len (b := 1000000000) (by decide) xs.length _ ?_) (by omega)
    rw [← q6]
    exact Nat.lt_of_le_of_lt (Nat.div_le_self _ _) (valB_lt q5)
  refine CallQ.mono (t40 S2.next w _ S3 g1 hpl) ?_
  rintro r S4 ⟨k4, rfl⟩
  conv => whnf
  refine ⟨((k1.trans k2).trans k3).trans k4, ?_⟩
  have hml : valD a % z < z := Nat.mod_lt _ (by omega)
  rw [Int.toNat_natCast]
  generalize valD a % z = mz at *
  rw [wrap_i64 (by omega) (by omega)]
  rfl
end Go.Proofs.YtnbjhgaaollhcaaDoor
