import Derived.Test.YtojgnofagkekeaaDoorVMFN23
namespace Go.Proofs.YtojgnofagkekeaaDoor
open Go.Proofs.YtojgnofagkekeaaDoor.VM Go.RowKit
set_option maxRecDepth 100000
set_option linter.unusedVariables false
set_option maxHeartbeats 4000000
/-- A builder that was written. -/
def BldU (b : Nat) (S : St) (n : Nat) (bs : List UInt8) : Prop := b ≤ n ∧ n < S.next ∧ ∃ v, S.mem n = some (.cells [.ptr n 0, v]) ∧ OwnB 5 b S v (bs.map u8)
abbrev BldJ := Bld 101 5
theorem BldU.bld {b : Nat} {S : St} {n : Nat} {bs : List UInt8} (h : BldU b S n bs) : BldJ b S n bs := ⟨h.1, h.2.1, .inr h.2.2⟩
/-- Nothing else turns, but what can be appended to. -/
def Fr (n : Nat) (S S1 : St) : Prop := ∀ j blk, j < S.next → j ≠ n → S.mem j = some blk → blk ≠ .tip 5 → S1.mem j = some blk
theorem Fr.trans {n : Nat} {S S1 S2 : St} (h : Fr n S S1) (hn : S.next ≤ S1.next) (k : Fr n S1 S2) : Fr n S S2 := fun j blk h1 h2 h3 h4 => k j blk (by omega) h2 (h j blk h1 h2 h3 h4) h4
theorem Fr.set {n : Nat} {S S1 : St} (h : Fr n S S1) (x : Option Blk) : Fr n S (S1.set n x) := fun j blk h1 h2 h3 h4 => mem_set_ne (h j blk h1 h2 h3 h4) h2
theorem Fr.refl (n : Nat) (S : St) : Fr n S S := fun _ _ _ _ h _ => h
theorem copy_check {b : Nat} {S : St} {n : Nat} {bs : List UInt8} (h : BldJ b S n bs) : ∃ S1, copyCheckG 101 [.ptr n 0] S = some (.tuple [], S1) ∧ BldU b S1 n bs ∧ Low b S S1 ∧ S1.next = S.next ∧ Fr n S S1 := by
  obtain ⟨h1, h2, h3⟩ := h
  rcases h3 with ⟨h3, rfl⟩ | ⟨v, h3, h4⟩
  · refine ⟨S.set n (some (.cells [.ptr n 0, .nils])), ?_, ⟨h1, h2, _, mem_set _ _ _, OwnB.nil _ _ _⟩, (Low.refl b S).set _ _ h1, rfl, (Fr.refl n S).set _⟩
    simp only [copyCheckG, h3, if_true]
  · refine ⟨S, ?_, ⟨h1, h2, v, h3, h4⟩, Low.refl _ _, rfl, Fr.refl _ _⟩
    simp only [copyCheckG, h3, if_true]
theorem BldU.put {b : Nat} {S S1 : St} {n : Nat} {bs : List UInt8} {r : AV} (h1 : b ≤ n) (h2 : n < S.next) (hb : b ≤ S.next) (ho : OwnB 5 b S1 r (bs.map u8)) (hl : Low b S S1) (hm : ∃ v, S1.mem n = some (.cells [.ptr n 0, v])) : BldU b (S1.set n (some (.cells [.ptr n 0, r]))) n bs := by
  refine ⟨h1, Nat.lt_of_lt_of_le h2 hl.1, r, mem_set _ _ _, ho.mono (Nat.le_refl _) fun m _ _ hmm => ?_⟩
  refine mem_set_ne rfl ?_
  rintro rfl
  obtain ⟨v, hv⟩ := hm
  rw [hv] at hmm; cases hmm

theorem t75 (h : Bool) (b : Nat) (S : St) (n : Nat) (bs s : List UInt8) (hB : BldJ b S n bs) (hb : b ≤ S.next) (hl : bs.length + s.length ≤ 2 ^ 47) :
    CallQ Tryd.prog (NC h) 75 [.ptr n 0, .str s] S fun r S1 => r = .tuple [.int .i64 s.length, .nilIface] ∧ BldU b S1 n (bs ++ s) ∧ Low b S S1 ∧ Fr n S S1 := by
  obtain ⟨S1, e1, e2, e3, e4, e5⟩ := copy_check hB
  refine CallQ.of rfl (by kernel_rfl : Tryd.prog.funcs[75]? = some Tryd.f75) rfl (by decide) ?_
  conv => whnf
  refine CallQ.intr (g := copyCheckG 101) rfl e1 ?_
  obtain ⟨q1, q2, v, q3, q4⟩ := e2
  conv => whnf
  refine ⟨_, cells_of_mem q3, ?_⟩
  conv => whnf
  have hE : elemsA S1 false 1 (.str s) = some (s.map u8) := rfl
  obtain ⟨r, S2, h1, h2, h3, h4, _⟩ := OwnB.append (C := NC h) (f := 75) elB rfl q4 (by omega) hE (shed_u8 _) (wellA_u8 _) (wellA_u8 _) (by simp; omega)
  have hr : r = .nils ∨ ∃ m : Nat × List AV, r = .lst m.2 (.tag m.1) := by
    rcases h2 with ⟨rfl, _⟩ | ⟨m, _, _, rfl, _⟩
    · exact .inl rfl
    · exact .inr ⟨(m, _), rfl⟩
  refine ⟨r, S2, h1, ?_⟩
  conv => whnf
  have m2 := h4 n _ q2 q3 (by simp)
  rw [← List.map_append] at h2
  have fin := BldU.put q1 q2 (by omega) h2 h3 ⟨v, m2⟩
  have fin2 := (e3.trans h3).set n (some (.cells [.ptr n 0, r])) q1
  have fin3 : Fr n S (S2.set n (some (.cells [.ptr n 0, r]))) := (e5.trans (by omega) (fun j blk g1 _ g3 g4 => h4 j blk g1 g3 g4)).set _
  clear h1 h2
  rcases hr with rfl | ⟨m, rfl⟩
  all_goals
    refine ⟨_, _, cells_of_mem m2, if_pos ⟨rfl, rfl, Nat.le_of_ble_eq_true rfl⟩, ?_⟩
    conv => whnf
    exact ⟨rfl, fin, fin2, fin3⟩

theorem bld_string {b : Nat} {S : St} {n : Nat} {bs : List UInt8} (hB : BldJ b S n bs) (hl : bs.length ≤ 2 ^ 47) : bldStringG 5 [.ptr n 0] S = some (.str bs, S) := by
  obtain ⟨h1, h2, h3⟩ := hB
  rcases h3 with ⟨h3, rfl⟩ | ⟨v, h3, h4⟩
  · have : S.cells n = some [.nul, .nils] := by unfold St.cells; rw [h3]
    simp only [bldStringG, this]
  · rcases h4 with ⟨rfl, h4⟩ | ⟨m, _, _, rfl, h5⟩
    · obtain rfl : bs = [] := by simpa using h4
      simp only [bldStringG, cells_of_mem h3]
    · simp only [bldStringG, cells_of_mem h3, h5, byteList_u8]
      simp only [true_and]
      rw [if_pos (by omega)]

theorem t74 (h : Bool) (b : Nat) (S : St) (n : Nat) (bs : List UInt8) (hB : BldJ b S n bs) : CallQ Tryd.prog (NC h) 74 [.ptr n 0] S fun r S1 => S1 = S ∧ r = .int .i64 bs.length := by
  obtain ⟨h1, h2, h3⟩ := hB
  have hc : ∃ x v, S.cells n = some [x, v] ∧ (v = .nils ∧ bs = [] ∨ ∃ m, v = .lst (bs.map u8) (.tag m)) := by
    rcases h3 with ⟨h3, rfl⟩ | ⟨v, h3, h4⟩
    · exact ⟨_, _, by unfold St.cells; rw [h3], .inl ⟨rfl, rfl⟩⟩
    · refine ⟨_, _, cells_of_mem h3, ?_⟩
      rcases h4 with ⟨rfl, h4⟩ | ⟨m, _, _, rfl, _⟩
      · exact .inl ⟨rfl, by simpa using h4⟩
      · exact .inr ⟨m, rfl⟩
  obtain ⟨x, v, hc, ⟨rfl, rfl⟩ | ⟨m, rfl⟩⟩ := hc
  all_goals
    refine CallQ.of rfl (by kernel_rfl : Tryd.prog.funcs[74]? = some Tryd.f74) rfl (by decide) ?_
    conv => whnf
    refine ⟨_, hc, ?_⟩
    conv => whnf
    exact ⟨rfl, by show AV.int _ _ = AV.int _ _; simp⟩
theorem t73 (h : Bool) (v : AV) (hv : v = .nils ∨ ∃ n l, v = .hnd n 0 l 1) (S : St) : CallQ Tryd.prog (NC h) 73 [v] S fun r S1 => S1 = S ∧ r = .func (.func 83) [] [.cptr [v] 0] := by
  rcases hv with rfl | ⟨n, l, rfl⟩
  all_goals
    refine CallQ.of rfl (by kernel_rfl : Tryd.prog.funcs[73]? = some Tryd.f73) rfl (by decide) ?_
    conv => whnf
    exact ⟨rfl, rfl⟩
theorem lenB_hnd {n l : Nat} (h : l * 8 ≤ 140737488355328) : lenB (.hnd n 0 l 1) = some l := if_pos ⟨rfl, h⟩
theorem elemB_nn {S : St} {n i l : Nat} {xs : List Nat} {rest : List AV} (h : S.mem n = some (.cells (nn .u64 xs ++ rest))) (hi : i < xs.length) (hl : l = xs.length) : elemB S (.hnd n 0 l 1) i = some (.int .u64 (xs[i] : Nat)) := by
  have : elemB S (.hnd n 0 l 1) i = (S.cells n).bind fun cs => cs[0 + i]? := if_pos ⟨rfl, by omega⟩
  rw [this, cells_of_mem h]
  simp only [Option.bind_some, Nat.zero_add]
  exact nn_get _ _ _ _ hi
theorem drop_places {b : Nat} (hb : 2 ≤ b) : ∀ (i m : Nat), (placesB b m).drop i = placesB b (m / b ^ i)
  | 0, m => by simp
  | i + 1, m => by
    rcases Nat.eq_zero_or_pos m with h | h
    · subst h; rw [Nat.zero_div, placesB_zero]; rfl
    · rw [placesB_pos hb (by omega), List.drop_succ_cons, drop_places hb i, Nat.div_div_eq_div_mul, Nat.pow_succ, Nat.mul_comm b]
theorem get_places {b : Nat} (hb : 2 ≤ b) (i m : Nat) (h : i < (placesB b m).length) : (placesB b m)[i] = m / b ^ i % b ∧ m / b ^ i ≠ 0 := by
  have e := drop_places hb i m
  rw [List.drop_eq_getElem_cons h] at e
  have h0 : m / b ^ i ≠ 0 := fun q => by rw [q, placesB_zero] at e; cases e
  rw [placesB_pos hb h0] at e
  exact ⟨(List.cons.inj e).1, h0⟩
theorem dec_next (m i : Nat) (h0 : m / 1000000000 ^ i ≠ 0) (hq : m / 1000000000 ^ (i + 1) ≠ 0) :
    decD (m / 1000000000 ^ i) = decD (m / 1000000000 ^ (i + 1)) ++ (List.replicate (9 - (decD (m / 1000000000 ^ i % 1000000000)).length) 48 ++ decD (m / 1000000000 ^ i % 1000000000)) := by
  have e : m / 1000000000 ^ (i + 1) = m / 1000000000 ^ i / 1000000000 := by rw [Nat.div_div_eq_div_mul, Nat.pow_succ]
  rw [e] at hq ⊢
  generalize m / 1000000000 ^ i = y at *
  rw [← fixD_pad 9 (y % 1000000000) (by decide) (Nat.mod_lt _ (by decide)), ← decD_fix 9 _ _ (by omega) (Nat.mod_lt _ (by decide))]
  congr 1
  have : (10 : Nat) ^ 9 = 1000000000 := rfl
  rw [this]
  omega
theorem dec0_lim {m i : Nat} (hl : (placesB 1000000000 m).length ≤ 2 ^ 20) : (dec0 (m / 1000000000 ^ i)).length ≤ 2 ^ 30 := by
  unfold dec0
  split
  · simp
  · have hm : m < 1000000000 ^ (placesB 1000000000 m).length := by
      have := valB_lt (placesB_lt (b := 1000000000) (by decide) m)
      rwa [valB_places (by decide)] at this
    have h9 : (1000000000 : Nat) ^ (placesB 1000000000 m).length = 10 ^ (9 * (placesB 1000000000 m).length) := by rw [Nat.pow_mul]
    have h3 : m / 1000000000 ^ i ≤ m := Nat.div_le_self _ _
    have := dec_len (9 * (placesB 1000000000 m).length) (m / 1000000000 ^ i) (by rw [Nat.pow_succ, ← h9]; omega)
    omega
theorem t60 (b : Nat) (v : AV) (m : Nat) (S : St) (hv : HdB b S v (nn .u64 (placesB 1000000000 m))) (hl : (placesB 1000000000 m).length ≤ 2 ^ 20) :
    CallQ Tryd.prog (NC true) 60 [v] S fun r S1 => Keep S S1 ∧ r = .str (decD m) := by
  have hv' : v = .nils ∨ ∃ n l, v = .hnd n 0 l 1 := by
    obtain ⟨_, ⟨rfl, _⟩ | ⟨n, r, _, _, rfl, _⟩⟩ := hv
    · exact .inl rfl
    · exact .inr ⟨n, _, rfl⟩
  have hlen : lenB v = some (placesB 1000000000 m).length := by
    obtain ⟨_, ⟨rfl, q⟩ | ⟨n, r, _, _, rfl, _⟩⟩ := hv
    · have : placesB 1000000000 m = [] := List.map_eq_nil_iff.1 q
      rw [this]; rfl
    · rw [nn_len]; exact lenB_hnd (by omega)
  have hel : ∀ S1, Keep S S1 → ∀ i (hi : i < (placesB 1000000000 m).length), elemB S1 v i = some (.int .u64 ((placesB 1000000000 m)[i] : Nat)) := by
    intro S1 k i hi
    obtain ⟨_, ⟨rfl, q⟩ | ⟨n, r, _, g2, rfl, g4, _⟩⟩ := hv
    · have : placesB 1000000000 m = [] := List.map_eq_nil_iff.1 q
      rw [this] at hi; cases hi
    · exact elemB_nn ((k.mem n g2).trans g4) hi (by rw [nn_len])
  refine back_call (.inr rfl) (by kernel_rfl : Tryd.prog.funcs[60]? = some Tryd.f60) rfl (by decide) ?_
  refine CodeBQ.seqR rfl (CodeQ.wp ?_)
  conv => whnf
  refine ⟨rfl, CodeBQ.seqR rfl (CodeQ.wp ?_)⟩
  conv => whnf
  refine ⟨rfl, CodeBQ.seqL rfl (CodeBQ.seqR rfl (CodeQ.wp ?_))⟩
  conv => whnf
  refine CallQ.mono (t73 false v hv' _) ?_
  rintro r S1 ⟨rfl, rfl⟩
  conv => whnf
  refine ⟨rfl, CodeBQ.block ?_⟩
  have hB0 : BldJ S.next (S.new (.own 101 [.nul, .nils])) S.next [] := ⟨Nat.le_refl _, by show S.next < S.next + 1; omega, .inl ⟨mem_new _ _, rfl⟩⟩
  have hk0 : Keep S (S.new (.own 101 [.nul, .nils])) := (Keep.refl S).new _
  refine CodeBQ.range (len := (placesB 1000000000 m).length) rfl rfl hlen (fun i S1 => Keep S S1 ∧ S.next < S1.next ∧ BldJ S.next S1 S.next (dec0 (m / 1000000000 ^ i))) ?_ ?_ ?_
  · have hz : m / 1000000000 ^ (placesB 1000000000 m).length = 0 := by
      have := drop_places (b := 1000000000) (by decide) (placesB 1000000000 m).length m
      rw [List.drop_length] at this
      by_cases q : m / 1000000000 ^ (placesB 1000000000 m).length = 0
      · exact q
      · rw [placesB_pos (by decide) q] at this; cases this
    rw [hz]
    exact ⟨⟨by show S.next ≤ S.next + 1 + 2; omega, fun j hj => hk0.mem j hj⟩, by show S.next < S.next + 1 + 2; omega, hB0.mono (by show S.next + 1 ≤ S.next + 1 + 2; omega) (fun _ _ _ => rfl)⟩
  · rintro i S1 hi ⟨k1, hn1, hB⟩
    refine ⟨_, hel S1 k1 i hi, CodeQ.wp ?_⟩
    obtain ⟨e1, h0⟩ := get_places (b := 1000000000) (by decide) i m hi
    have hx : (placesB 1000000000 m)[i] < 1000000000 := placesB_lt (by decide) _ _ (List.getElem_mem hi)
    generalize (placesB 1000000000 m)[i] = x at *
    conv => whnf
    refine ⟨rfl, CodeQ.wp ?_⟩
    conv => whnf
    refine CallQ.mono (t33 false x (by omega) S1) ?_
    rintro r S2 ⟨rfl, k2⟩
    have hB2 := hB.keep k2
    have hn2 := k2.next
    have hxl : (decD x).length ≤ 9 := dec_len 8 x (by omega)
    have hx0 : 1 ≤ (decD x).length := List.length_pos_iff.2 (dec_head x).1
    have hbl := dec0_lim (i := i + 1) hl
    conv => whnf
    refine CallQ.mono (t74 false S.next S2 S.next _ hB2) ?_
    rintro r S3 ⟨rfl, rfl⟩
    conv => whnf
    refine br (fun h5 => ?_) (fun h5 => ?_)
    · have hq : m / 1000000000 ^ (i + 1) ≠ 0 := fun q => by rw [q] at h5; simp [dec0] at h5
      have hd : dec0 (m / 1000000000 ^ (i + 1)) = decD (m / 1000000000 ^ (i + 1)) := by unfold dec0; rw [if_neg hq]
      conv => whnf
      refine CallQ.intr (g := repG) rfl (show _ = some (_, _) from if_pos ⟨rfl, by rw [wrap_i64 (by omega) (by omega)]; omega, by rw [wrap_i64 (by omega) (by omega)]; omega⟩) ?_
      rw [show (IntKind.i64.wrap (9 - ((decD x).length : Int))).toNat = 9 - (decD x).length by rw [wrap_i64 (by omega) (by omega)]; omega]
      conv => whnf
      refine CallQ.mono (t75 false S.next S3 S.next _ (List.replicate (9 - (decD x).length) 48) hB2 (by omega) (by simp; omega)) ?_
      rintro r S4 ⟨rfl, b4, l4, _⟩
      have hn4 := l4.1
      conv => whnf
      refine CallQ.mono (t75 false S.next S4 S.next _ (decD x) b4.bld (by omega) (by simp; omega)) ?_
      rintro r S5 ⟨rfl, b5, l5, _⟩
      have hn5 := l5.1
      conv => whnf
      refine ⟨rfl, ⟨by have := (k1.trans k2).next; omega, fun j hj => ?_⟩, by omega, ?_⟩
      · rw [l5.2 j hj, l4.2 j hj]; exact (k1.trans k2).mem j hj
      · have : dec0 (m / 1000000000 ^ i) = (dec0 (m / 1000000000 ^ (i + 1)) ++ List.replicate (9 - (decD x).length) 48) ++ decD x := by
          conv => lhs; unfold dec0
          rw [if_neg h0, dec_next m i h0 hq, hd, e1, List.append_assoc]
        rw [this]
        exact b5.bld
    · have hq : m / 1000000000 ^ (i + 1) = 0 := by
        by_cases q : m / 1000000000 ^ (i + 1) = 0
        · exact q
        · unfold dec0 at h5
          rw [if_neg q] at h5
          have := List.length_pos_iff.2 (dec_head (m / 1000000000 ^ (i + 1))).1
          omega
      rw [hq] at hB2
      conv => whnf
      refine CallQ.mono (t75 false S.next S3 S.next _ (decD x) hB2 (by omega) (by simp [dec0]; omega)) ?_
      rintro r S5 ⟨rfl, b5, l5, _⟩
      have hn5 := l5.1
      conv => whnf
      refine ⟨rfl, ⟨by have := (k1.trans k2).next; omega, fun j hj => ?_⟩, by omega, ?_⟩
      · rw [l5.2 j hj]; exact (k1.trans k2).mem j hj
      · have : dec0 (m / 1000000000 ^ i) = dec0 0 ++ decD x := by
          have e : m / 1000000000 ^ (i + 1) = m / 1000000000 ^ i / 1000000000 := by rw [Nat.div_div_eq_div_mul, Nat.pow_succ]
          rw [e] at hq
          unfold dec0
          rw [if_neg h0, if_pos rfl, e1, List.nil_append]
          congr 1
          omega
        rw [this]
        exact b5.bld
  · rintro S1 ⟨k1, hn1, hB⟩
    rw [Nat.pow_zero, Nat.div_one] at hB
    refine ⟨rfl, rfl, CodeQ.wp ?_⟩
    conv => whnf
    refine CallQ.mono (t74 false S.next S1 S.next _ hB) ?_
    rintro r S3 ⟨rfl, rfl⟩
    conv => whnf
    refine brEq (fun h5 => ?_) (fun h5 => ?_)
    · have hm : m = 0 := by
        by_cases q : m = 0
        · exact q
        · unfold dec0 at h5
          rw [if_neg q] at h5
          have := List.length_pos_iff.2 (dec_head m).1
          omega
      subst hm
      conv => whnf
      exact ⟨rfl, _, _, _, rfl, rfl, k1, by rw [show decD 0 = [48] from by decide +kernel]; rfl⟩
    · have hm : m ≠ 0 := fun q => by subst q; exact h5 rfl
      conv => whnf
      have hl30 := dec0_lim (i := 0) hl
      rw [Nat.pow_zero, Nat.div_one] at hl30
      refine CallQ.intr (g := bldStringG 5) rfl (bld_string hB (by omega)) ?_
      conv => whnf
      refine ⟨rfl, _, _, _, rfl, rfl, k1, ?_⟩
      show AV.str (dec0 m) = _
      unfold dec0
      rw [if_neg hm]
end Go.Proofs.YtojgnofagkekeaaDoor
namespace Go.Proofs.YtojgnofagkekeaaDoor
open Go.Proofs.YtojgnofagkekeaaDoor.VM Go.RowKit
set_option maxRecDepth 100000
set_option linter.unusedVariables false
set_option maxHeartbeats 4000000
/-- A quotient and a rest, place by place. -/
theorem div_step (q r e by_ w : Nat) (hw : w = by_ * q + r) : e + 1000000000 * w = by_ * ((e + r * 1000000000) / by_ + 1000000000 * q) + (e + r * 1000000000) % by_ := by
  have := Nat.mod_add_div (e + r * 1000000000) by_
  subst hw
  rw [Nat.mul_add, Nat.mul_add, Nat.mul_left_comm by_ 1000000000]
  omega
theorem drop_set_at (os : List Nat) (i v : Nat) (h : i < os.length) : (os.set i v).drop i = v :: os.drop (i + 1) := by
  rw [List.drop_eq_getElem_cons (by simpa using h), List.getElem_set_self, List.drop_set_of_lt (by omega)]
end Go.Proofs.YtojgnofagkekeaaDoor
namespace Go.Proofs.YtojgnofagkekeaaDoor
open Go.Proofs.YtojgnofagkekeaaDoor.VM Go.RowKit
set_option maxRecDepth 100000
set_option linter.unusedVariables false
set_option maxHeartbeats 4000000
/-- A number's digits, or that they are too many. -/
def shortS (n : Nat) : List UInt8 := if (decD n).length ≤ 800 then decD n else []
def shortE (n : Nat) : Int := if (decD n).length ≤ 800 then 0 else 11
theorem valB_big {b c : Nat} (hb : 2 ≤ b) : ∀ (xs : List Nat), (∀ x ∈ xs, x < c) → valB b xs + c ≤ b ^ xs.length * c
  | [], _ => by simp [valB]
  | x :: xs, h => by
    have h1 := valB_big hb xs (fun y hy => h y (List.mem_cons_of_mem _ hy))
    have h0 := h x List.mem_cons_self
    have h2 := Nat.mul_le_mul_left b h1
    have h3 : 2 * c ≤ b * c := Nat.mul_le_mul_right c hb
    rw [Nat.mul_add] at h2
    rw [valB, List.length_cons, Nat.pow_succ, Nat.mul_comm (b ^ xs.length) b, Nat.mul_assoc]
    omega
theorem valB_63 {xs : List Nat} (h : ∀ x ∈ xs, x < 2 ^ 63) : valB 1000000000 xs < 1000000000 ^ (xs.length + 3) := by
  have h1 := valB_big (b := 1000000000) (by decide) xs h
  rw [Nat.pow_add]
  exact Nat.lt_of_lt_of_le (Nat.lt_of_lt_of_le (Nat.lt_add_of_pos_right (by decide)) h1) (Nat.mul_le_mul_left _ (by decide +kernel))
theorem t48 (b : Nat) (v : AV) (xs : List Nat) (S : St) (hv : HdB b S v (nn .u64 xs)) (hb : b ≤ S.next) (hx : ∀ x ∈ xs, x < 2 ^ 63) (hl : xs.length ≤ 2 ^ 19) :
    CallQ Tryd.prog (NC true) 48 [v] S fun r S1 => Turn S S1 v ∧ r = .tuple [.str (shortS (valB 1000000000 xs)), .int .i64 (shortE (valB 1000000000 xs))] := by
  refine CallQ.of rfl (by kernel_rfl : Tryd.prog.funcs[48]? = some Tryd.f48) rfl (by decide) ?_
  conv => whnf
  refine CallQ.mono (t59 true b v xs S hv hb hx (by omega)) ?_
  rintro r S1 ⟨g1, g2⟩
  have hpl : (placesB 1000000000 (valB 1000000000 xs)).length ≤ 2 ^ 20 := by
    have := places_len (b := 1000000000) (by decide) (xs.length + 3) (valB 1000000000 xs) (valB_63 hx)
    omega
  have hdl := dec0_lim (i := 0) hpl
  rw [Nat.pow_zero, Nat.div_one] at hdl
  conv => whnf
  refine CallQ.mono (t60 b r (valB 1000000000 xs) S1 g1 hpl) ?_
  rintro r S2 ⟨k2, rfl⟩
  have fin : Turn S S2 v := ⟨Nat.le_trans g2.1 k2.next, fun j hj hne => by rw [k2.mem j (Nat.lt_of_lt_of_le hj g2.1)]; exact g2.2 j hj hne⟩
  generalize valB 1000000000 xs = m at *
  conv => whnf
  refine br (fun h5 => ?_) (fun h5 => ?_)
  · conv => whnf
    refine ⟨fin, ?_⟩
    unfold shortS shortE
    rw [if_neg (by omega), if_neg (by omega)]
    rfl
  · conv => whnf
    refine ⟨fin, ?_⟩
    unfold shortS shortE
    rw [if_pos (by omega), if_pos (by omega)]
    rfl
/-- Read digits. -/
def RdN (b : Nat) (S : St) (n : Nat) (xs : List Nat) (a : List UInt8) : Prop := ∃ rest, S.mem n = some (.cells (nn .u64 xs ++ rest)) ∧ Nums rest ∧ b ≤ n ∧ n < S.next ∧ (∀ x ∈ xs, x < 1000000000) ∧ valB 1000000000 xs = valD a ∧ xs.length = (a.length + 8) / 9
theorem RdN.hdB {b : Nat} {S : St} {n : Nat} {xs : List Nat} {a : List UInt8} (h : RdN b S n xs a) : HdB b S (.hnd n 0 xs.length 1) (nn .u64 xs) := by
  obtain ⟨rest, h1, h2, h3, h4, _⟩ := h
  exact ⟨nn_nums _ _, .inr ⟨n, rest, h3, h4, by rw [nn_len], h1, h2⟩⟩
theorem RdN.keep {b : Nat} {S S1 : St} {n : Nat} {xs : List Nat} {a : List UInt8} (h : RdN b S n xs a) (k : Keep S S1) : RdN b S1 n xs a := by
  obtain ⟨rest, h1, h2, h3, h4, h5⟩ := h
  exact ⟨rest, (k.mem n h4).trans h1, h2, h3, Nat.lt_of_lt_of_le h4 k.next, h5⟩
theorem read_right (h : Bool) (s : List UInt8) (hr : rightS s = true) (S : St) : CallQ Tryd.prog (NC h) 62 [.str s] S fun r S1 => Keep S S1 ∧ ∃ n xs, r = .hnd n 0 xs.length 1 ∧ RdN S.next S1 n xs s := by
  obtain ⟨h1, h2, _⟩ := right_head hr
  refine CallQ.mono (t62 h s (by omega) (right_all hr).2 S) ?_
  rintro r S1 ⟨k, xs, ⟨_, ⟨rfl, q⟩ | ⟨n, rest, p1, p2, rfl, p4, p5⟩⟩, e1, e2, e3⟩
  · have : xs = [] := List.map_eq_nil_iff.1 q
    subst this
    simp at e3; omega
  · exact ⟨k, n, xs, by rw [nn_len], rest, p4, p5, p1, p2, e1, e2, e3⟩
theorem t49 (h : Bool) (a b : List UInt8) (ha : a.length ≤ 2 ^ 47) (hb : b.length ≤ 2 ^ 47) (S : St) : CallQ Tryd.prog (NC h) 49 [.str a, .str b] S fun r S1 => Keep S S1 ∧
    ((rightS a = true ∧ rightS b = true ∧ ∃ n1 n2 xs ys, r = .tuple [.hnd n1 0 xs.length 1, .hnd n2 0 ys.length 1, .bool true] ∧ RdN S.next S1 n1 xs a ∧ RdN (n1 + 1) S1 n2 ys b) ∨
     ((rightS a && rightS b) = false ∧ r = .tuple [.nils, .nils, .bool false])) := by
  refine CallQ.of rfl (by kernel_rfl : Tryd.prog.funcs[49]? = some Tryd.f49) rfl (by decide) ?_
  conv => whnf
  refine CallQ.mono (t61 h a ha S) ?_
  rintro r S1 ⟨k1, rfl⟩
  cases hra : rightS a
  · conv => whnf
    exact ⟨k1, .inr ⟨rfl, rfl⟩⟩
  conv => whnf
  refine CallQ.mono (t61 h b hb S1) ?_
  rintro r S2 ⟨k2, rfl⟩
  cases hrb : rightS b
  · conv => whnf
    exact ⟨k1.trans k2, .inr ⟨rfl, rfl⟩⟩
  conv => whnf
  refine CallQ.mono (read_right h a hra S2) ?_
  rintro r S3 ⟨k3, n1, xs, rfl, r1⟩
  conv => whnf
  refine CallQ.mono (read_right h b hrb S3) ?_
  rintro r S4 ⟨k4, n2, ys, rfl, r2⟩
  conv => whnf
  have kk := k1.trans k2
  refine ⟨(kk.trans k3).trans k4, .inl ⟨rfl, rfl, n1, n2, xs, ys, rfl, ?_, ?_⟩⟩
  · obtain ⟨rest, p1, p2, p3, p4, p5⟩ := r1.keep k4
    exact ⟨rest, p1, p2, Nat.le_trans kk.next p3, p4, p5⟩
  · obtain ⟨rest, p1, p2, p3, p4, p5⟩ := r2
    obtain ⟨_, _, _, _, q4, _⟩ := r1
    exact ⟨rest, p1, p2, by omega, p4, p5⟩
/-- An answer of digits; refused, if something may not be. -/
def arS (ok : Bool) (n : Nat) : List UInt8 := if ok = true then shortS n else []
def arE (ok : Bool) (n : Nat) : Int := if ok = true then shortE n else 1
theorem RdN.lim {b : Nat} {S : St} {n : Nat} {xs : List Nat} {a : List UInt8} (h : RdN b S n xs a) (hr : rightS a = true) : 1 ≤ xs.length ∧ xs.length ≤ 89 := by
  obtain ⟨_, _, _, _, _, _, _, e⟩ := h
  obtain ⟨h1, h2, _⟩ := right_head hr
  omega
theorem t32 (a b : List UInt8) (ha : a.length ≤ 2 ^ 47) (hb : b.length ≤ 2 ^ 47) (S : St) : CallQ Tryd.prog (NC true) 32 [.str a, .str b] S fun r S1 => Keep S S1 ∧ r = .tuple [.str (arS (rightS a && rightS b) (valD a * valD b)), .int .i64 (arE (rightS a && rightS b) (valD a * valD b))] := by
  refine CallQ.of rfl (by kernel_rfl : Tryd.prog.funcs[32]? = some Tryd.f32) rfl (by decide) ?_
  conv => whnf
  refine CallQ.mono (t49 true a b ha hb S) ?_
  rintro r S1 ⟨k1, ⟨hra, hrb, n1, n2, xs, ys, rfl, r1, r2⟩ | ⟨hn, rfl⟩⟩
  rotate_left
  · rw [hn]
    conv => whnf
    exact ⟨k1, rfl⟩
  rw [hra, hrb]
  have l1 := r1.lim hra
  have l2 := r2.lim hrb
  have d1 := r1.hdB
  obtain ⟨_, _, _, _, _, p6, p7, _⟩ := r1
  obtain ⟨rest, q1, q2, q3, q4, q5, q6, _⟩ := r2
  conv => whnf
  refine CallQ.mono (t47 true S.next _ xs ys n2 rest S1 d1 q1 q4 p6 q5 (by omega) (by omega)) ?_
  rintro r S2 ⟨g1, k2⟩
  rw [p7, q6] at g1
  have hpl : (placesB 1000000000 (valD a * valD b)).length ≤ 2 ^ 19 := by
    refine Nat.le_trans (places_len (b := 1000000000) (by decide) (xs.length + ys.length) _ ?_) (by omega)
    rw [← p7, ← q6, Nat.pow_add]
    exact Nat.mul_lt_mul'' (valB_lt p6) (valB_lt q5)
  conv => whnf
  refine CallQ.mono (t48 S1.next r _ S2 g1 k2.next (fun z q => Nat.lt_trans (placesB_lt (by decide) _ z q) (by decide)) hpl) ?_
  rintro r S3 ⟨t3, rfl⟩
  rw [valB_places (by decide)]
  conv => whnf
  exact ⟨k1.trans (t3.keep k2 g1), rfl⟩
end Go.Proofs.YtojgnofagkekeaaDoor
