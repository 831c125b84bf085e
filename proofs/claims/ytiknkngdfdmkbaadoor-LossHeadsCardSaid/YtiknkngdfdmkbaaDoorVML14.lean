import Derived.Test.YtiknkngdfdmkbaaDoorVML12
namespace Go.Proofs.YtiknkngdfdmkbaaDoor
open Go.Proofs.YtiknkngdfdmkbaaDoor.VM
set_option maxRecDepth 100000
set_option linter.unusedVariables false

theorem t39 (S : St) (c : Nat) (v : AV) (a fw fa : Int) (hc : S.cells c = some [.bool true, v, .int .i64 a, .int .i64 fw, .int .i64 fa]) (hlt : c < S.next) :
    CallQ Tryd.prog LC 39 [.ptr c 0] S fun r S1 => r = .agg [.int .i64 fw, .int .i64 fa] ∧ Keep S S1 := by
  refine CallQ.of rfl (by kernel_rfl : Tryd.prog.funcs[39]? = some Tryd.f39) rfl (by decide) ?_
  conv => whnf
  intro b hb
  subst hb
  conv => whnf
  have hc1 : ∀ cs, (S.new (.cells cs)).cells c = some [.bool true, v, .int .i64 a, .int .i64 fw, .int .i64 fa] := fun cs => cells_new_ne hc (by omega)
  refine ⟨_, hc1 _, ?_⟩
  conv => whnf
  refine ⟨_, hc1 _, ?_⟩
  conv => whnf
  refine ⟨_, _, cells_new _ _, store_agg rfl rfl rfl, ?_⟩
  conv => whnf
  refine ⟨.agg [.int .i64 fw, .int .i64 fa], ?_, ?_⟩
  · show (St.cells _ S.next).bind _ = _
    rw [cells_set]; rfl
  conv => whnf
  exact ⟨rfl, ((Keep.refl S).new _).set _ _ (Nat.le_refl _)⟩
theorem eq39 (fw fa : Int) : eqF Tryd.prog 39 (.agg [.int .i64 fw, .int .i64 fa]) (.agg [ofLeaf (.int .i64 0), ofLeaf (.int .i64 0)]) = some (fw == 0 && (fa == 0 && true)) := by kernel_rfl
theorem t40 (S : St) (c : Nat) (v : AV) (a fw fa : Int) (hc : S.cells c = some [.bool true, v, .int .i64 a, .int .i64 fw, .int .i64 fa]) (hlt : c < S.next) :
    CallQ Tryd.prog LC 40 [.ptr c 0] S fun r S1 => r = .bool (decide (fw = 0 ∧ fa = 0)) ∧ Keep S S1 := by
  refine CallQ.of rfl (by kernel_rfl : Tryd.prog.funcs[40]? = some Tryd.f40) rfl (by decide) ?_
  conv => whnf
  refine CallQ.mono (t39 S c v a fw fa hc hlt) ?_
  rintro r S1 ⟨rfl, h⟩
  conv => whnf
  rw [eq39]
  intro b hb
  conv => whnf
  refine ⟨?_, h⟩
  show AV.bool _ = AV.bool _
  congr 1
  rw [hb, Bool.eq_iff_iff]
  simp
theorem t41 (S : St) (c : Nat) (v : AV) (a fw fa e p : Int) (hv : v.leafOk = true) (hc : S.cells c = some [.bool true, v, .int .i64 a, .int .i64 fw, .int .i64 fa]) :
    CallQ Tryd.prog LC 41 [.ptr c 0, .bool false, .int .i64 e, .int .i64 p] S fun r S1 => r = .bool false ∧ S1 = S.set c (some (.cells [.bool true, v, .int .i64 a, .int .i64 e, .int .i64 p])) := by
  refine CallQ.of rfl (by kernel_rfl : Tryd.prog.funcs[41]? = some Tryd.f41) rfl (by decide) ?_
  conv => whnf
  refine ⟨_, _, hc, if_pos ⟨rfl, rfl, Nat.le_of_ble_eq_true rfl⟩, ?_⟩
  conv => whnf
  exact ⟨rfl, rfl⟩
theorem t31 (S : St) (c : Nat) (v : AV) (a fw fa : Int) (hc : S.cells c = some [.bool true, v, .int .i64 a, .int .i64 fw, .int .i64 fa]) :
    CallQ Tryd.prog LC 31 [.ptr c 0] S fun r S1 => r = .int .i64 a ∧ S1 = S := by
  refine CallQ.of rfl (by kernel_rfl : Tryd.prog.funcs[31]? = some Tryd.f31) rfl (by decide) ?_
  conv => whnf
  intro b hb
  subst hb
  conv => whnf
  refine ⟨_, hc, ?_⟩
  conv => whnf
  exact ⟨rfl, rfl⟩
theorem t30 (S : St) (c : Nat) (bs : List UInt8) (v : AV) (a fw fa : Int) (hv : Elems v (bs.map u8)) (hc : S.cells c = some [.bool true, v, .int .i64 a, .int .i64 fw, .int .i64 fa]) (ha : 0 ≤ a) (ha2 : a ≤ bs.length) (hb : bs.length ≤ 2 ^ 47) :
    CallQ Tryd.prog LC 30 [.ptr c 0] S fun r S1 => r = .int .i64 (bs.length - a) ∧ S1 = S := by
  refine CallQ.of rfl (by kernel_rfl : Tryd.prog.funcs[30]? = some Tryd.f30) rfl (by decide) ?_
  conv => whnf
  intro b hb
  subst hb
  conv => whnf
  refine ⟨[0, 1, 2, 3, 4, 5, 6, 7, 8, 9, 10], [], by kernel_rfl, by kernel_rfl, by kernel_rfl, ?_⟩
  conv => whnf
  refine ⟨_, hc, ?_⟩
  rcases hv with ⟨rfl, h⟩ | ⟨t, rfl⟩
  · obtain rfl : bs = [] := by simpa using h
    conv => whnf
    refine ⟨_, hc, ?_⟩
    conv => whnf
    refine ⟨?_, rfl⟩
    rw [wrap_i64 (by omega) (by omega)]; rfl
  · conv => whnf
    refine ⟨_, hc, ?_⟩
    conv => whnf
    refine ⟨?_, rfl⟩
    rw [List.length_map, wrap_i64 (by omega) (by omega)]; rfl

abbrev Flt := Nat × Nat
/-- A number in its short form: or (why, how many bytes were left). -/
def rdS : List UInt8 → Nat → Nat → Except Flt (Nat × List UInt8)
  | [], _, _ => .error (3, 0)
  | x :: l, i, n => if (i = 0 ∧ x.toNat = 128) ∨ (i = 9 ∧ 127 < x.toNat) ∨ 2 ^ 57 ≤ n then .error (5, l.length + 1) else if x.toNat < 128 then .ok (n * 128 + x.toNat, l) else rdS l (i + 1) (n * 128 + x.toNat % 128)

theorem rdS_ok : ∀ (l : List UInt8) (i n m : Nat) (r : List UInt8), rdS l i n = .ok (m, r) → r.length < l.length ∧ r <:+ l
  | [], i, n, m, r, h => by simp [rdS] at h
  | x :: l, i, n, m, r, h => by
    unfold rdS at h
    split at h
    · cases h
    · split at h
      · cases h; exact ⟨by simp, List.suffix_cons _ _⟩
      · have := rdS_ok l _ _ m r h
        exact ⟨by simp; omega, this.2.trans (List.suffix_cons _ _)⟩
theorem rdS_err : ∀ (l : List UInt8) (i n w k : Nat), rdS l i n = .error (w, k) → w ≠ 0 ∧ k ≤ l.length
  | [], i, n, w, k, h => by simp [rdS] at h; omega
  | x :: l, i, n, w, k, h => by
    unfold rdS at h
    split at h
    · cases h; exact ⟨by simp, by simp⟩
    · split at h
      · cases h
      · have := rdS_err l _ _ w k h
        exact ⟨this.1, by simp; omega⟩

/-- What the short form does to the cursor: where it stands, its fault, what it answers. -/
def curS (len : Nat) (a : Nat) : Except Flt (Nat × List UInt8) → Nat × Nat × Nat × Nat
  | .ok (n, r) => (len - r.length, 0, 0, n)
  | .error (w, k) => (a, w, len - k, 0)

/-- Short, with a fault. -/
theorem t29f (S : St) (c : Nat) (v : AV) (a fw fa : Int) (hf : ¬ (fw = 0 ∧ fa = 0)) (hc : S.cells c = some [.bool true, v, .int .i64 a, .int .i64 fw, .int .i64 fa]) (hlt : c < S.next) :
    CallQ Tryd.prog LC 29 [.ptr c 0] S fun r S1 => r = .int .u64 0 ∧ Keep S S1 := by
  refine CallQ.of rfl (by kernel_rfl : Tryd.prog.funcs[29]? = some Tryd.f29) rfl (by decide) ?_
  conv => whnf
  refine CallQ.mono (t40 S c v a fw fa hc hlt) ?_
  rintro r S1 ⟨rfl, h⟩
  rw [decide_eq_false hf]
  conv => whnf
  exact ⟨rfl, h⟩

/-- Short, without one. -/
theorem t29 (S : St) (c : Nat) (bs : List UInt8) (v : AV) (a : Nat) (hv : Elems v (bs.map u8)) (ha : a ≤ bs.length) (hb : bs.length ≤ 2 ^ 47) (hc : S.cells c = some [.bool true, v, .int .i64 a, .int .i64 0, .int .i64 0]) (hlt : c < S.next) :
    CallQ Tryd.prog LC 29 [.ptr c 0] S fun r S1 => ∃ a' w p n, curS bs.length a (rdS (bs.drop a) 0 0) = (a', w, p, n) ∧ r = .int .u64 n ∧ S.next ≤ S1.next ∧ S1.cells c = some [.bool true, v, .int .i64 a', .int .i64 w, .int .i64 p] ∧ ∀ j, j < S.next → j ≠ c → S1.mem j = S.mem j := by
  refine CallQ.of rfl (by kernel_rfl : Tryd.prog.funcs[29]? = some Tryd.f29) rfl (by decide) ?_
  conv => whnf
  refine CallQ.mono (t40 S c v a 0 0 hc hlt) ?_
  rintro r S1 ⟨rfl, h⟩
  rw [decide_eq_true (show (0 : Int) = 0 ∧ (0 : Int) = 0 from ⟨rfl, rfl⟩)]
  have hc1 : S1.cells c = some [.bool true, v, .int .i64 a, .int .i64 0, .int .i64 0] := by unfold St.cells at *; rw [h.mem c hlt]; exact hc
  have hlt1 : c < S1.next := by have := h.next; omega
  conv => whnf
  refine ⟨[0, 1, 2, 3, 4, 5, 6, 7, 8, 9, 10], [], by kernel_rfl, by kernel_rfl, by kernel_rfl, ?_⟩
  conv => whnf
  refine ⟨_, hc1, ?_⟩
  conv => whnf
  refine ⟨_, hc1, ?_⟩
  conv => whnf
  have hsl : ∃ v', sliceA Tryd.prog 23 v (some (.int .i64 a)) none none = some v' ∧ Elems v' ((bs.drop a).map u8) := by
    rcases hv with ⟨rfl, h⟩ | ⟨t, rfl⟩
    · obtain rfl : bs = [] := by simpa using h
      obtain rfl : a = 0 := by simpa using ha
      exact ⟨.nils, rfl, .inl ⟨rfl, rfl⟩⟩
    · obtain ⟨tp, h⟩ := slice_lo (P := Tryd.prog) (t := 23) (e := 5) (s := 1) (by kernel_rfl) (by kernel_rfl) (bs.map u8) t (headOk_u8 bs) a (by simpa using ha) .i64
      exact ⟨_, h, .inr ⟨tp, by rw [List.map_drop]⟩⟩
  have hvl : v.leafOk = true := by rcases hv with ⟨rfl, _⟩ | ⟨_, rfl⟩ <;> rfl
  have hmem : ∀ b j, j < S.next → j ≠ c → (S1.set c b).mem j = S.mem j := fun b j hj hjc => by
    show upd S1.mem c b j = _
    simp only [upd, if_neg hjc]
    exact h.mem j hj
  have hnx : ∀ b, S.next ≤ (S1.set c b).next := fun b => h.next
  obtain ⟨v', hs1, hs2⟩ := hsl
  refine ⟨v', hs1, ?_⟩
  rcases hs2 with ⟨rfl, h0⟩ | ⟨t', rfl⟩
  · have h0 : bs.drop a = [] := by simpa using h0
    have h0' : bs.length ≤ a := by simpa using h0
    rw [h0]
    conv => whnf
    refine CodeQ.loop (fun (q : Nat) => pat 77 [(0, .ptr c 0), (18, .int .i64 0), (19, .int .i64 0)]) (fun m q S2 => S2 = S1) ?_ 0 0 _ _ rfl ⟨rfl, rfl, rfl, trivial⟩
    rintro m i S2 d rfl
    conv => whnf
    intro b hb2
    simp at hb2
    subst hb2
    conv => whnf
    refine ⟨_, hc1, ?_⟩
    rcases hv with ⟨rfl, h⟩ | ⟨t, rfl⟩
    · obtain rfl : bs = [] := by simpa using h
      conv => whnf
      refine CallQ.mono (t41 S2 c _ a 0 0 3 0 rfl hc1) ?_
      rintro r S3 ⟨rfl, rfl⟩
      conv => whnf
      exact ⟨a, 3, 0, 0, rfl, rfl, hnx _, cells_set _ _ _, hmem _⟩
    · conv => whnf
      rw [List.length_map]
      refine CallQ.mono (t41 S2 c _ a 0 0 3 bs.length rfl hc1) ?_
      rintro r S3 ⟨rfl, rfl⟩
      conv => whnf
      exact ⟨a, 3, bs.length, 0, rfl, rfl, hnx _, cells_set _ _ _, hmem _⟩
  conv => whnf
  obtain ⟨rest, hrest⟩ : ∃ rest, rest = bs.drop a := ⟨_, rfl⟩
  have hrl : rest.length = bs.length - a := by rw [hrest]; simp
  rw [← hrest]
  refine CodeQ.loop (fun (q : Nat × Nat) => pat 77 [(0, .ptr c 0), (3, .int .u64 q.2), (17, .lst (rest.map u8) t'), (18, .int .i64 rest.length), (19, .int .i64 q.1)])
    (fun m q S2 => S2 = S1 ∧ q.1 + m = rest.length ∧ q.1 ≤ 9 ∧ q.2 < 2 ^ 64 ∧ rdS (rest.drop q.1) q.1 q.2 = rdS rest 0 0) ?_ rest.length (0, 0) _ _
    ⟨rfl, by simp, by simp, by simp, rfl⟩ ⟨rfl, rfl, rfl, by simp, rfl, trivial⟩
  rintro m ⟨i, n⟩ S2 d ⟨rfl, k1, k2, k3, k4⟩
  dsimp only at k1 k2 k3 k4 ⊢
  conv => whnf
  intro b hb2
  simp at hb2
  cases b
  · simp at hb2
    conv => whnf
    have k5 : rest.drop i = [] := by simp; omega
    rw [k5, rdS] at k4
    refine ⟨_, hc1, ?_⟩
    rcases hv with ⟨rfl, h⟩ | ⟨t, rfl⟩
    · obtain rfl : bs = [] := by simpa using h
      conv => whnf
      refine CallQ.mono (t41 S2 c _ a 0 0 3 0 rfl hc1) ?_
      rintro r S3 ⟨rfl, rfl⟩
      conv => whnf
      exact ⟨a, 3, 0, 0, by rw [← k4]; rfl, rfl, hnx _, cells_set _ _ _, hmem _⟩
    · conv => whnf
      rw [List.length_map]
      refine CallQ.mono (t41 S2 c _ a 0 0 3 bs.length rfl hc1) ?_
      rintro r S3 ⟨rfl, rfl⟩
      conv => whnf
      exact ⟨a, 3, bs.length, 0, by rw [← k4]; rfl, rfl, hnx _, cells_set _ _ _, hmem _⟩
  simp at hb2
  conv => whnf
  refine ⟨by omega, u8 rest[i], by simp [hb2], rfl, ?_⟩
  obtain ⟨x, hx⟩ : ∃ x, x = rest[i] := ⟨_, rfl⟩
  rw [← hx]
  have ed : rest.drop i = x :: rest.drop (i + 1) := by rw [hx]; exact List.drop_eq_getElem_cons hb2
  rw [ed] at k4
  conv at k4 => lhs; unfold rdS
  have hx8 := x.toNat_lt
  have eai : IntKind.i64.wrap ((a : Int) + (i : Int)) = ((a + i : Nat) : Int) := by rw [wrap_i64 (by omega) (by omega)]; omega
  have esh : (n : Int).fdiv (2 ^ min (57 : Int).toNat IntKind.u64.bits) = ((n / 2 ^ 57 : Nat) : Int) := by rw [show min (57 : Int).toNat IntKind.u64.bits = 57 from rfl, shr_nat]
  have e1 : IntKind.u8.wrap ((BitVec.ofInt IntKind.u8.bits (x.toNat : Int) &&& BitVec.ofInt IntKind.u8.bits 127).toNat : Int) = ((x.toNat % 128 : Nat) : Int) := by
    rw [show (127 : Int) = ((127 : Nat) : Int) from rfl, and_u8 _ 127 (by omega) (by omega), show (127 : Nat) = 2 ^ 7 - 1 from rfl, Nat.and_two_pow_sub_one_eq_mod]
  conv => whnf
  intro c1 h1
  cases c1
  · have h1 : ¬ i = 0 := by simp at h1; omega
    conv => whnf
    intro c3 h3
    cases c3
    · have h3 : ¬ i = 9 := by simp at h3; omega
      conv => whnf
      refine ⟨by decide, ?_⟩
      rw [esh]
      conv => whnf
      intro c5 h5
      cases c5
      · have h5 : ¬ 2 ^ 57 ≤ n := by simp at h5; omega
        conv => whnf
        rw [if_neg (by omega)] at k4
        have hn57 : n < 2 ^ 57 := by omega
        have e2 : IntKind.u64.wrap ((n : Int) * 2 ^ min (7 : Int).toNat IntKind.u64.bits) = ((n * 128 : Nat) : Int) := by
          rw [show min (7 : Int).toNat IntKind.u64.bits = 7 from rfl, wrap_u64 (by omega) (by omega)]; omega
        have e3 : IntKind.u64.wrap ((x.toNat % 128 : Nat) : Int) = ((x.toNat % 128 : Nat) : Int) := wrap_u64 (by omega) (by omega)
        have e4 : IntKind.u64.wrap ((BitVec.ofInt IntKind.u64.bits ((n * 128 : Nat) : Int) ||| BitVec.ofInt IntKind.u64.bits ((x.toNat % 128 : Nat) : Int)).toNat : Int) = ((n * 128 + x.toNat % 128 : Nat) : Int) := by
          rw [or_u64 _ _ (by omega) (by omega), or_seven _ _ (by omega)]
        refine ⟨by decide, ?_⟩
        rw [e2]
        conv => whnf
        rw [e1, e3, e4]
        intro c6 h6
        cases c6
        · conv => whnf
          have h6 : ¬ x.toNat < 128 := by simp at h6; omega
          rw [if_neg h6] at k4
          refine ⟨m - 1, (i + 1, n * 128 + x.toNat % 128), by omega, ⟨rfl, by show i + 1 + _ = _; omega, by show i + 1 ≤ 9; omega, by show n * 128 + x.toNat % 128 < _; omega, k4⟩, ⟨rfl, rfl, rfl, rfl, ?_, trivial⟩⟩
          rw [wrap_i64 (by omega) (by omega)]; rfl
        · conv => whnf
          have h6 : x.toNat < 128 := by simp at h6; omega
          rw [if_pos h6] at k4
          refine ⟨_, hc1, ?_⟩
          conv => whnf
          refine ⟨_, _, hc1, if_pos ⟨rfl, rfl, Nat.le_of_ble_eq_true rfl⟩, ?_⟩
          conv => whnf
          refine ⟨a + i + 1, 0, 0, n * 128 + x.toNat, ?_, ?_, hnx _, ?_, hmem _⟩
          · rw [← k4]
            simp only [curS, List.length_drop]
            congr 1
            omega
          · rw [Nat.mod_eq_of_lt h6]; rfl
          · rw [cells_set]
            have e7 : IntKind.i64.wrap ((a : Int) + IntKind.i64.wrap ((i : Int) + 1)) = ((a + i + 1 : Nat) : Int) := by
              rw [wrap_i64 (x := (i : Int) + 1) (by omega) (by omega), wrap_i64 (by omega) (by omega)]; omega
            rw [← e7]; rfl
      · have h5 : 2 ^ 57 ≤ n := by simp at h5; omega
        conv => whnf
        rw [if_pos (.inr (.inr h5))] at k4
        refine ⟨_, hc1, ?_⟩
        conv => whnf
        rw [eai]
        refine CallQ.mono (t41 S2 c v a 0 0 5 (a + i : Nat) hvl hc1) ?_
        rintro r S3 ⟨rfl, rfl⟩
        conv => whnf
        refine ⟨a, 5, a + i, 0, ?_, rfl, hnx _, cells_set _ _ _, hmem _⟩
        rw [← k4]
        simp only [curS, List.length_drop]
        congr 3
        omega
    · have h3 : i = 9 := by simp at h3; omega
      conv => whnf
      intro c4 h4
      cases c4
      · have h4 : ¬ 127 < x.toNat := by simp at h4; omega
        conv => whnf
        refine ⟨by decide, ?_⟩
        rw [esh]
        conv => whnf
        intro c5 h5
        cases c5
        · have h5 : ¬ 2 ^ 57 ≤ n := by simp at h5; omega
          conv => whnf
          rw [if_neg (by omega)] at k4
          have hn57 : n < 2 ^ 57 := by omega
          have e2 : IntKind.u64.wrap ((n : Int) * 2 ^ min (7 : Int).toNat IntKind.u64.bits) = ((n * 128 : Nat) : Int) := by
            rw [show min (7 : Int).toNat IntKind.u64.bits = 7 from rfl, wrap_u64 (by omega) (by omega)]; omega
          have e3 : IntKind.u64.wrap ((x.toNat % 128 : Nat) : Int) = ((x.toNat % 128 : Nat) : Int) := wrap_u64 (by omega) (by omega)
          have e4 : IntKind.u64.wrap ((BitVec.ofInt IntKind.u64.bits ((n * 128 : Nat) : Int) ||| BitVec.ofInt IntKind.u64.bits ((x.toNat % 128 : Nat) : Int)).toNat : Int) = ((n * 128 + x.toNat % 128 : Nat) : Int) := by
            rw [or_u64 _ _ (by omega) (by omega), or_seven _ _ (by omega)]
          refine ⟨by decide, ?_⟩
          rw [e2]
          conv => whnf
          rw [e1, e3, e4]
          intro c6 h6
          cases c6
          · conv => whnf
            have h6 : ¬ x.toNat < 128 := by simp at h6; omega
            rw [if_neg h6] at k4
            refine ⟨m - 1, (i + 1, n * 128 + x.toNat % 128), by omega, ⟨rfl, by show i + 1 + _ = _; omega, by show i + 1 ≤ 9; omega, by show n * 128 + x.toNat % 128 < _; omega, k4⟩, ⟨rfl, rfl, rfl, rfl, ?_, trivial⟩⟩
            rw [wrap_i64 (by omega) (by omega)]; rfl
          · conv => whnf
            have h6 : x.toNat < 128 := by simp at h6; omega
            rw [if_pos h6] at k4
            refine ⟨_, hc1, ?_⟩
            conv => whnf
            refine ⟨_, _, hc1, if_pos ⟨rfl, rfl, Nat.le_of_ble_eq_true rfl⟩, ?_⟩
            conv => whnf
            refine ⟨a + i + 1, 0, 0, n * 128 + x.toNat, ?_, ?_, hnx _, ?_, hmem _⟩
            · rw [← k4]
              simp only [curS, List.length_drop]
              congr 1
              omega
            · rw [Nat.mod_eq_of_lt h6]; rfl
            · rw [cells_set]
              have e7 : IntKind.i64.wrap ((a : Int) + IntKind.i64.wrap ((i : Int) + 1)) = ((a + i + 1 : Nat) : Int) := by
                rw [wrap_i64 (x := (i : Int) + 1) (by omega) (by omega), wrap_i64 (by omega) (by omega)]; omega
              rw [← e7]; rfl
        · have h5 : 2 ^ 57 ≤ n := by simp at h5; omega
          conv => whnf
          rw [if_pos (.inr (.inr h5))] at k4
          refine ⟨_, hc1, ?_⟩
          conv => whnf
          rw [eai]
          refine CallQ.mono (t41 S2 c v a 0 0 5 (a + i : Nat) hvl hc1) ?_
          rintro r S3 ⟨rfl, rfl⟩
          conv => whnf
          refine ⟨a, 5, a + i, 0, ?_, rfl, hnx _, cells_set _ _ _, hmem _⟩
          rw [← k4]
          simp only [curS, List.length_drop]
          congr 3
          omega
      · have h4 : 127 < x.toNat := by simp at h4; omega
        conv => whnf
        rw [if_pos (.inr (.inl ⟨h3, h4⟩))] at k4
        refine ⟨_, hc1, ?_⟩
        conv => whnf
        rw [eai]
        refine CallQ.mono (t41 S2 c v a 0 0 5 (a + i : Nat) hvl hc1) ?_
        rintro r S3 ⟨rfl, rfl⟩
        conv => whnf
        refine ⟨a, 5, a + i, 0, ?_, rfl, hnx _, cells_set _ _ _, hmem _⟩
        rw [← k4]
        simp only [curS, List.length_drop]
        congr 3
        omega
  · have h1 : i = 0 := by simp at h1; omega
    conv => whnf
    intro c2 h2
    cases c2
    · have h2 : ¬ x.toNat = 128 := by simp at h2; omega
      conv => whnf
      intro c3 h3
      cases c3
      · have h3 : ¬ i = 9 := by omega
        conv => whnf
        refine ⟨by decide, ?_⟩
        rw [esh]
        conv => whnf
        intro c5 h5
        cases c5
        · have h5 : ¬ 2 ^ 57 ≤ n := by simp at h5; omega
          conv => whnf
          rw [if_neg (by omega)] at k4
          have hn57 : n < 2 ^ 57 := by omega
          have e2 : IntKind.u64.wrap ((n : Int) * 2 ^ min (7 : Int).toNat IntKind.u64.bits) = ((n * 128 : Nat) : Int) := by
            rw [show min (7 : Int).toNat IntKind.u64.bits = 7 from rfl, wrap_u64 (by omega) (by omega)]; omega
          have e3 : IntKind.u64.wrap ((x.toNat % 128 : Nat) : Int) = ((x.toNat % 128 : Nat) : Int) := wrap_u64 (by omega) (by omega)
          have e4 : IntKind.u64.wrap ((BitVec.ofInt IntKind.u64.bits ((n * 128 : Nat) : Int) ||| BitVec.ofInt IntKind.u64.bits ((x.toNat % 128 : Nat) : Int)).toNat : Int) = ((n * 128 + x.toNat % 128 : Nat) : Int) := by
            rw [or_u64 _ _ (by omega) (by omega), or_seven _ _ (by omega)]
          refine ⟨by decide, ?_⟩
          rw [e2]
          conv => whnf
          rw [e1, e3, e4]
          intro c6 h6
          cases c6
          · conv => whnf
            have h6 : ¬ x.toNat < 128 := by simp at h6; omega
            rw [if_neg h6] at k4
            refine ⟨m - 1, (i + 1, n * 128 + x.toNat % 128), by omega, ⟨rfl, by show i + 1 + _ = _; omega, by show i + 1 ≤ 9; omega, by show n * 128 + x.toNat % 128 < _; omega, k4⟩, ⟨rfl, rfl, rfl, rfl, ?_, trivial⟩⟩
            rw [wrap_i64 (by omega) (by omega)]; rfl
          · conv => whnf
            have h6 : x.toNat < 128 := by simp at h6; omega
            rw [if_pos h6] at k4
            refine ⟨_, hc1, ?_⟩
            conv => whnf
            refine ⟨_, _, hc1, if_pos ⟨rfl, rfl, Nat.le_of_ble_eq_true rfl⟩, ?_⟩
            conv => whnf
            refine ⟨a + i + 1, 0, 0, n * 128 + x.toNat, ?_, ?_, hnx _, ?_, hmem _⟩
            · rw [← k4]
              simp only [curS, List.length_drop]
              congr 1
              omega
            · rw [Nat.mod_eq_of_lt h6]; rfl
            · rw [cells_set]
              have e7 : IntKind.i64.wrap ((a : Int) + IntKind.i64.wrap ((i : Int) + 1)) = ((a + i + 1 : Nat) : Int) := by
                rw [wrap_i64 (x := (i : Int) + 1) (by omega) (by omega), wrap_i64 (by omega) (by omega)]; omega
              rw [← e7]; rfl
        · have h5 : 2 ^ 57 ≤ n := by simp at h5; omega
          conv => whnf
          rw [if_pos (.inr (.inr h5))] at k4
          refine ⟨_, hc1, ?_⟩
          conv => whnf
          rw [eai]
          refine CallQ.mono (t41 S2 c v a 0 0 5 (a + i : Nat) hvl hc1) ?_
          rintro r S3 ⟨rfl, rfl⟩
          conv => whnf
          refine ⟨a, 5, a + i, 0, ?_, rfl, hnx _, cells_set _ _ _, hmem _⟩
          rw [← k4]
          simp only [curS, List.length_drop]
          congr 3
          omega
      · simp at h3; omega
    · have h2 : x.toNat = 128 := by simp at h2; omega
      conv => whnf
      rw [if_pos (.inl ⟨h1, h2⟩)] at k4
      refine ⟨_, hc1, ?_⟩
      conv => whnf
      rw [eai]
      refine CallQ.mono (t41 S2 c v a 0 0 5 (a + i : Nat) hvl hc1) ?_
      rintro r S3 ⟨rfl, rfl⟩
      conv => whnf
      refine ⟨a, 5, a + i, 0, ?_, rfl, hnx _, cells_set _ _ _, hmem _⟩
      rw [← k4]
      simp only [curS, List.length_drop]
      congr 3
      omega
end Go.Proofs.YtiknkngdfdmkbaaDoor
