import Derived.Test.YtfphpjinimfhfaaVMJ34
namespace Go.Proofs.Ytfphpjinimfhfaa
open Go.Proofs.Ytfphpjinimfhfaa.VM Go.RowKit
set_option maxRecDepth 100000
set_option linter.unusedVariables false
set_option linter.unusedSimpArgs false
set_option maxHeartbeats 1000000
/-! The document's lexer, walked: is, many, fault, word. -/
theorem isB_lt {bs : List UInt8} {i : Nat} {c : UInt8} (h : i < bs.length) : isB bs i c = (bs[i] == c) := by unfold isB; rw [List.getElem?_eq_getElem h]
theorem isB_ge {bs : List UInt8} {i : Nat} {c : UInt8} (h : bs.length ≤ i) : isB bs i c = false := by unfold isB; rw [List.getElem?_eq_none h]
theorem dgAt_lt {bs : List UInt8} {i : Nat} (h : i < bs.length) : dgAt bs i = dg bs[i] := by unfold dgAt; rw [List.getElem?_eq_getElem h]
theorem dgAt_ge {bs : List UInt8} {i : Nat} (h : bs.length ≤ i) : dgAt bs i = false := by unfold dgAt; rw [List.getElem?_eq_none h]
theorem t55 (h : Bool) (bs : List UInt8) (t : Tip) (i : Nat) (c : UInt8) (S : St) : CallQ Try.prog (JC h) 55 [.lst (bs.map u8) t, .int .i64 i, u8 c] S fun r S1 => r = .bool (isB bs i c) ∧ S1 = S := by
  refine CallQ.of rfl (by kernel_rfl : Try.prog.funcs[55]? = some Try.f55) rfl (by decide) ?_
  conv => whnf
  refine br (fun hlt => ?_) (fun hge => ?_)
  · have hlt : i < bs.length := by simp at hlt; omega
    conv => whnf
    refine ⟨by omega, u8 bs[i], by simp [hlt], rfl, ?_⟩
    rw [isB_lt hlt]
    generalize bs[i] = x
    conv => whnf
    intro b hb
    conv => whnf
    refine ⟨?_, rfl⟩
    show AV.bool b = _
    rw [hb]
    congr 1
    rw [Bool.eq_iff_iff]
    simp only [beq_iff_eq]
    constructor
    · intro q; exact UInt8.toNat_inj.1 (by omega)
    · intro q; rw [q]
  · have hge : bs.length ≤ i := by simp at hge; omega
    conv => whnf
    exact ⟨by rw [isB_ge hge]; rfl, rfl⟩
theorem t56 (h : Bool) (bs : List UInt8) (t : Tip) (hl : bs.length ≤ 2 ^ 47) (i0 : Nat) (S : St) : CallQ Try.prog (JC h) 56 [.lst (bs.map u8) t, .int .i64 i0] S fun r S1 => r = .int .i64 (manyR bs i0) ∧ S1 = S := by
  refine CallQ.of rfl (by kernel_rfl : Try.prog.funcs[56]? = some Try.f56) rfl (by decide) ?_
  conv => whnf
  refine CodeQ.loop (fun (i : Nat) => pat 26 [(0, .lst (bs.map u8) t), (1, .int .i64 i)]) (fun m i S1 => S1 = S ∧ m = bs.length - i ∧ manyR bs i = manyR bs i0) ?_ (bs.length - i0) i0 _ _ ⟨rfl, rfl, rfl⟩ ⟨rfl, rfl, trivial⟩
  rintro m i S1 d ⟨rfl, hm, hmany⟩
  rw [← hmany]
  have hoff : dgAt bs i = false → manyR bs i = i := (many_self bs i).2
  conv => whnf
  refine br (fun hlt => ?_) (fun hge => ?_)
  · have hlt : i < bs.length := by simp at hlt; omega
    conv => whnf
    refine ⟨by omega, u8 bs[i], by simp [hlt], rfl, ?_⟩
    have hstep := many_step bs i
    rw [dgAt_lt hlt] at hoff hstep
    obtain ⟨x, hx⟩ : ∃ x, x = bs[i] := ⟨_, rfl⟩
    have hx? : ((bs.map u8)[i]? : Option AV) = some (u8 x) := by rw [hx]; simp [hlt]
    rw [← hx] at hoff hstep ⊢
    conv => whnf
    refine br (fun h1 => ?_) (fun h1 => ?_)
    · conv => whnf
      refine ⟨by omega, u8 x, hx?, rfl, ?_⟩
      conv => whnf
      refine br (fun h2 => ?_) (fun h2 => ?_)
      · conv => whnf
        have hdg : dg x = true := by unfold dg; rw [decide_eq_true_iff]; omega
        rw [if_pos hdg] at hstep
        refine ⟨bs.length - (i + 1), i + 1, by omega, ⟨rfl, rfl, by rw [← hstep]⟩, ⟨rfl, ?_, trivial⟩⟩
        rw [wrap_i64 (by omega) (by omega)]; try rfl
      · conv => whnf
        have hdg : dg x = false := by unfold dg; rw [decide_eq_false_iff_not]; omega
        exact ⟨by rw [hoff hdg]; rfl, rfl⟩
    · conv => whnf
      have hdg : dg x = false := by unfold dg; rw [decide_eq_false_iff_not]; omega
      exact ⟨by rw [hoff hdg]; rfl, rfl⟩
  · have hge : bs.length ≤ i := by simp at hge; omega
    conv => whnf
    exact ⟨by rw [hoff (dgAt_ge hge)]; rfl, rfl⟩
theorem t41r (h : Bool) (bs : List UInt8) (t : Tip) (i : Nat) (S : St) : CallQ Try.prog (JC h) 41 [.lst (bs.map u8) t, .int .i64 i] S fun r S1 => r = faultV (faultN bs.length i) ∧ Keep S S1 := by
  refine CallQ.of rfl (by kernel_rfl : Try.prog.funcs[41]? = some Try.f41) rfl (by decide) ?_
  conv => whnf
  unfold faultN
  refine br (fun hge => ?_) (fun hlt => ?_)
  · have hge : bs.length ≤ i := by simp at hge; omega
    rw [if_pos hge]
    conv => whnf
    refine ⟨_, _, cells_new _ _, store_agg rfl rfl rfl, ?_⟩
    conv => whnf
    refine ⟨.agg [.int .i64 3, .int .i64 ((bs.map u8).length : Nat)], by show (St.cells _ S.next).bind _ = _; rw [cells_set]; rfl, ?_⟩
    conv => whnf
    exact ⟨by rw [List.length_map]; rfl, ((Keep.refl S).new _).set _ _ (Nat.le_refl _)⟩
  · have hlt : ¬ bs.length ≤ i := by simp at hlt; omega
    rw [if_neg hlt]
    conv => whnf
    refine ⟨_, _, cells_new _ _, store_agg rfl rfl rfl, ?_⟩
    conv => whnf
    refine ⟨.agg [.int .i64 5, .int .i64 i], by show (St.cells _ S.next).bind _ = _; rw [cells_set]; rfl, ?_⟩
    conv => whnf
    exact ⟨rfl, ((Keep.refl S).new _).set _ _ (Nat.le_refl _)⟩
/-- A place, or where it goes wrong. -/
def plV : Except Nat Nat → AV
  | .ok j => .tuple [.int .i64 j, .int .i64 (-1)]
  | .error e => .tuple [.int .i64 0, .int .i64 e]
theorem wordR_drop (bs : List UInt8) : ∀ (w : List UInt8) (i : Nat), wordR bs w i = if h : w = [] then .ok i else if isB bs i (w.head h) = true then wordR bs w.tail (i + 1) else .error i
  | [], i => rfl
  | c :: w, i => rfl
theorem t42 (h : Bool) (bs : List UInt8) (t : Tip) (w : List UInt8) (i : Nat) (hi : i ≤ 2 ^ 47) (hw : w.length ≤ 2 ^ 47) (S : St) : CallQ Try.prog (JC h) 42 [.lst (bs.map u8) t, .int .i64 i, .str w] S fun r S1 => r = plV (wordR bs w i) ∧ S1 = S := by
  have his := fun j c S => t55 h bs t j c S
  refine CallQ.of rfl (by kernel_rfl : Try.prog.funcs[42]? = some Try.f42) rfl (by decide) ?_
  conv => whnf
  refine CodeQ.loop (fun (k : Nat) => pat 31 [(0, .lst (bs.map u8) t), (1, .int .i64 i), (2, .str w), (8, .int .i64 k)]) (fun m k S1 => S1 = S ∧ k + m = w.length ∧ wordR bs (w.drop k) (i + k) = wordR bs w i) ?_ w.length 0 _ _ ⟨rfl, by omega, by simp⟩ ⟨rfl, rfl, rfl, rfl, trivial⟩
  rintro m k S1 d ⟨rfl, hk, hwd⟩
  conv => whnf
  refine br (fun hlt => ?_) (fun hge => ?_)
  · have hlt : k < w.length := by omega
    have hwk : (w[k]? : Option UInt8) = some w[k] := List.getElem?_eq_getElem hlt
    rw [List.drop_eq_getElem_cons hlt] at hwd
    obtain ⟨c, hc⟩ : ∃ c, c = w[k] := ⟨_, rfl⟩
    rw [← hc] at hwk hwd
    have ei : IntKind.i64.wrap ((i : Int) + (k : Int)) = ((i + k : Nat) : Int) := by rw [wrap_i64 (by omega) (by omega)]; omega
    have hcall := his (i + k) c S1
    replace hwd : (if isB bs (i + k) c = true then wordR bs (w.drop (k + 1)) (i + k + 1) else .error (i + k)) = wordR bs w i := hwd
    conv => whnf
    refine ⟨by omega, c, by simpa using hwk, ?_⟩
    conv => whnf
    rw [ei]
    refine CallQ.mono hcall ?_
    rintro r S2 ⟨rfl, rfl⟩
    cases hb : isB bs (i + k) c
    · rw [hb, if_neg (by simp)] at hwd
      conv => whnf
      refine ⟨?_, rfl⟩
      rw [← hwd, ei]; rfl
    · rw [hb, if_pos rfl] at hwd
      conv => whnf
      refine ⟨m - 1, k + 1, by omega, ⟨rfl, by omega, hwd⟩, ⟨rfl, rfl, rfl, ?_, trivial⟩⟩
      rw [wrap_i64 (by omega) (by omega)]; try rfl
  · conv => whnf
    have hk : k = w.length := by omega
    subst hk
    rw [List.drop_length] at hwd
    have hwd : (Except.ok (i + w.length) : Except Nat Nat) = wordR bs w i := hwd
    refine ⟨?_, rfl⟩
    rw [← hwd, wrap_i64 (by omega) (by omega)]
    show AV.tuple _ = AV.tuple _
    simp
    exact ⟨rfl, rfl⟩
end Go.Proofs.Ytfphpjinimfhfaa
namespace Go.Proofs.Ytfphpjinimfhfaa
open Go.Proofs.Ytfphpjinimfhfaa.VM Go.RowKit
set_option maxRecDepth 100000
set_option linter.unusedVariables false
set_option linter.unusedSimpArgs false
set_option maxHeartbeats 1000000
/-! The document's lexer, walked: hex, unit. -/
def hexD (c : UInt8) : Int := if 48 ≤ c.toNat ∧ c.toNat ≤ 57 then c.toNat - 48 else if 97 ≤ c.toNat ∧ c.toNat ≤ 102 then c.toNat - 87 else if 65 ≤ c.toNat ∧ c.toNat ≤ 70 then c.toNat - 55 else -1
def hexA (bs : List UInt8) (i : Nat) : Int := match bs[i]? with | some c => hexD c | none => -1
theorem hexA_lt {bs : List UInt8} {i : Nat} (h : i < bs.length) : hexA bs i = hexD bs[i] := by unfold hexA; rw [List.getElem?_eq_getElem h]
theorem hexA_ge {bs : List UInt8} {i : Nat} (h : bs.length ≤ i) : hexA bs i = -1 := by unfold hexA; rw [List.getElem?_eq_none h]
theorem wr_u8 {z : Int} (h0 : 0 ≤ z) (h1 : z < 256) : IntKind.u8.wrap z = z := by simp [IntKind.wrap, IntKind.bits, IntKind.signed]; omega
theorem t60 (h : Bool) (bs : List UInt8) (t : Tip) (i : Nat) (S : St) : CallQ Try.prog (JC h) 60 [.lst (bs.map u8) t, .int .i64 i] S fun r S1 => r = .int .i64 (hexA bs i) ∧ S1 = S := by
  refine CallQ.of rfl (by kernel_rfl : Try.prog.funcs[60]? = some Try.f60) rfl (by decide) ?_
  conv => whnf
  refine br (fun hge => ?_) (fun hlt => ?_)
  · have hge : bs.length ≤ i := by simp at hge; omega
    conv => whnf
    exact ⟨by rw [hexA_ge hge]; rfl, rfl⟩
  · have hlt : i < bs.length := by simp at hlt; omega
    rw [hexA_lt hlt]
    conv => whnf
    refine ⟨by omega, u8 bs[i], by simp [hlt], rfl, ?_⟩
    generalize bs[i] = x
    have hx := x.toNat_lt
    unfold hexD
    conv => whnf
    refine br (fun h1 => ?_) (fun h1 => ?_)
    · conv => whnf
      refine br (fun h2 => ?_) (fun h2 => ?_)
      · rw [if_pos (by omega)]
        conv => whnf
        refine ⟨?_, rfl⟩
        show AV.int .i64 (IntKind.i64.wrap (IntKind.u8.wrap _)) = _
        rw [wr_u8 (by omega) (by omega), wrap_i64 (by omega) (by omega)]
      · rw [if_neg (by omega)]
        conv => whnf
        refine br (fun h3 => ?_) (fun h3 => ?_)
        · conv => whnf
          refine br (fun h4 => ?_) (fun h4 => ?_)
          · rw [if_pos (by omega)]
            conv => whnf
            refine ⟨?_, rfl⟩
            show AV.int .i64 (IntKind.i64.wrap (IntKind.i64.wrap (IntKind.u8.wrap _) + 10)) = _
            rw [wr_u8 (by omega) (by omega), wrap_i64 (x := (x.toNat : Int) - 97) (by omega) (by omega), wrap_i64 (by omega) (by omega)]
            congr 1; omega
          · rw [if_neg (by omega)]
            conv => whnf
            refine br (fun h5 => ?_) (fun h5 => ?_)
            · conv => whnf
              refine br (fun h6 => ?_) (fun h6 => ?_)
              · exfalso; omega
              · rw [if_neg (by omega)]
                conv => whnf
                exact ⟨rfl, rfl⟩
            · exfalso; omega
        · rw [if_neg (by omega)]
          conv => whnf
          refine br (fun h5 => ?_) (fun h5 => ?_)
          · conv => whnf
            refine br (fun h6 => ?_) (fun h6 => ?_)
            · rw [if_pos (by omega)]
              conv => whnf
              refine ⟨?_, rfl⟩
              show AV.int .i64 (IntKind.i64.wrap (IntKind.i64.wrap (IntKind.u8.wrap _) + 10)) = _
              rw [wr_u8 (by omega) (by omega), wrap_i64 (x := (x.toNat : Int) - 65) (by omega) (by omega), wrap_i64 (by omega) (by omega)]
              congr 1; omega
            · rw [if_neg (by omega)]
              conv => whnf
              exact ⟨rfl, rfl⟩
          · rw [if_neg (by omega)]
            conv => whnf
            exact ⟨rfl, rfl⟩
    · rw [if_neg (by omega)]
      conv => whnf
      refine br (fun h3 => ?_) (fun h3 => ?_)
      · exfalso; omega
      · rw [if_neg (by omega)]
        conv => whnf
        refine br (fun h5 => ?_) (fun h5 => ?_)
        · exfalso; omega
        · rw [if_neg (by omega)]
          conv => whnf
          exact ⟨rfl, rfl⟩
/-- The digit that may not stand there. -/
def badD (low : Bool) (j : Nat) (d n : Int) : Prop := d < 0 ∨ (low = true ∧ j = 0 ∧ d ≠ 13) ∨ (low = true ∧ j = 1 ∧ n * 16 + d < 220) ∨ (low = false ∧ j = 1 ∧ 220 ≤ n * 16 + d ∧ n * 16 + d ≤ 223)
theorem hex_sets (c : UInt8) : (hasB hexes c = decide (0 ≤ hexD c)) ∧ (hasB setD c = decide (hexD c = 13)) ∧ (hasB setC c = decide (12 ≤ hexD c)) ∧ (hasB setB c = decide (0 ≤ hexD c ∧ hexD c < 12)) ∧ hexD c < 16 ∧ -1 ≤ hexD c ∧ (0 ≤ hexD c → hexD c = hexv c) :=
  all_u8' (p := fun c => (hasB hexes c = decide (0 ≤ hexD c)) ∧ (hasB setD c = decide (hexD c = 13)) ∧ (hasB setC c = decide (12 ≤ hexD c)) ∧ (hasB setB c = decide (0 ≤ hexD c ∧ hexD c < 12)) ∧ hexD c < 16 ∧ -1 ≤ hexD c ∧ (0 ≤ hexD c → hexD c = hexv c)) (by decide +kernel) c
theorem set_bad (low : Bool) (j n : Nat) (c : UInt8) (h1 : j = 1 → n < 16) (h2 : low = true → j = 1 → n = 13) : hasB (setOf low j n) c = false ↔ badD low j (hexD c) n := by
  obtain ⟨e1, e2, e3, e4, e5, e6, _⟩ := hex_sets c
  unfold setOf badD
  by_cases k1 : low = true ∧ j = 0
  · rw [if_pos k1, e2, decide_eq_false_iff_not]
    obtain ⟨rfl, rfl⟩ := k1
    simp; omega
  rw [if_neg k1]
  by_cases k2 : low = true ∧ j = 1
  · rw [if_pos k2, e3, decide_eq_false_iff_not]
    obtain ⟨rfl, rfl⟩ := k2
    obtain rfl := h2 rfl rfl
    simp; omega
  rw [if_neg k2]
  by_cases k3 : j = 1 ∧ n = 13
  · rw [if_pos k3, e4, decide_eq_false_iff_not]
    obtain ⟨rfl, rfl⟩ := k3
    have : low = false := by cases low <;> simp_all
    subst this
    simp; omega
  · rw [if_neg k3, e1, decide_eq_false_iff_not]
    by_cases hj : j = 1
    · have := h1 hj
      have hl : low = false := by cases low <;> simp_all
      subst hl hj
      simp; omega
    · by_cases hj0 : j = 0
      · have hl : low = false := by cases low <;> simp_all
        subst hl hj0
        simp
      · simp [hj, hj0]
end Go.Proofs.Ytfphpjinimfhfaa
namespace Go.Proofs.Ytfphpjinimfhfaa
open Go.Proofs.Ytfphpjinimfhfaa.VM Go.RowKit
set_option maxRecDepth 100000
set_option linter.unusedVariables false
set_option linter.unusedSimpArgs false
set_option maxHeartbeats 4000000
/-! The document's lexer, walked: unit. -/
theorem hexA_lim (bs : List UInt8) (i : Nat) : -1 ≤ hexA bs i ∧ hexA bs i < 16 := by
  unfold hexA
  cases bs[i]? with
  | none => exact ⟨by decide, by decide⟩
  | some c => obtain ⟨_, _, _, _, h1, h2, _⟩ := hex_sets c; exact ⟨h2, h1⟩
theorem unit_bad {bs : List UInt8} {low : Bool} {k j n i : Nat} (h1 : j = 1 → n < 16) (h2 : low = true → j = 1 → n = 13) (h : badD low j (hexA bs i) n) : unitR bs low (k + 1) j n i = .error i := by
  unfold unitR
  unfold hexA at h
  cases hc : bs[i]? with
  | none => rfl
  | some c =>
    rw [hc] at h
    dsimp only at h ⊢
    rw [if_neg (by rw [(set_bad low j n c h1 h2).2 h]; simp)]
theorem unit_good {bs : List UInt8} {low : Bool} {k j n i : Nat} (h1 : j = 1 → n < 16) (h2 : low = true → j = 1 → n = 13) (h : ¬ badD low j (hexA bs i) n) : unitR bs low (k + 1) j n i = unitR bs low k (j + 1) (n * 16 + (hexA bs i).toNat) (i + 1) ∧ 0 ≤ hexA bs i := by
  conv => lhs; lhs; unfold unitR
  unfold hexA at h ⊢
  cases hc : bs[i]? with
  | none => rw [hc] at h; exact absurd (.inl (by decide)) h
  | some c =>
    rw [hc] at h
    dsimp only at h ⊢
    have hb : hasB (setOf low j n) c = true := by
      cases q : hasB (setOf low j n) c
      · exact absurd ((set_bad low j n c h1 h2).1 q) h
      · rfl
    have h0 : 0 ≤ hexD c := by
      rcases Int.lt_or_le (hexD c) 0 with q | q
      · exact absurd (.inl q) h
      · exact q
    obtain ⟨_, _, _, _, _, _, e⟩ := hex_sets c
    rw [if_pos hb]
    refine ⟨?_, h0⟩
    rw [show (hexD c).toNat = hexv c by have := e h0; omega]
theorem t58 (h : Bool) (bs : List UInt8) (t : Tip) (i : Nat) (hi : i ≤ 2 ^ 48) (low : Bool) (S : St) : CallQ Try.prog (JC h) 58 [.lst (bs.map u8) t, .int .i64 i, .bool low] S fun r S1 => r = plV (unitR bs low 4 0 0 i) ∧ S1 = S := by
  have hex := fun k S => t60 h bs t k S
  refine CallQ.of rfl (by kernel_rfl : Try.prog.funcs[58]? = some Try.f58) rfl (by decide) ?_
  conv => whnf
  refine CodeQ.loop (fun (q : Nat × Nat) => pat 68 [(0, .lst (bs.map u8) t), (1, .int .i64 i), (2, .bool low), (8, .int .i64 q.2), (9, .int .i64 q.1)])
    (fun m q S1 => S1 = S ∧ q.1 + m = 4 ∧ unitR bs low m q.1 q.2 (i + q.1) = unitR bs low 4 0 0 i ∧ q.2 < 65536 ∧ (q.1 = 1 → q.2 < 16) ∧ (q.1 = 2 → q.2 < 256) ∧ (q.1 = 3 → q.2 < 4096) ∧ (q.1 = 0 → q.2 = 0) ∧ (low = true → q.1 = 1 → q.2 = 13)) ?_ 4 (0, 0) _ _
    ⟨rfl, rfl, rfl, by decide, by decide, by decide, by decide, fun _ => rfl, fun _ e => by cases e⟩ ⟨rfl, rfl, rfl, rfl, rfl, trivial⟩
  rintro m ⟨j, n⟩ S1 d ⟨rfl, hj, hu, hn, hn1, hn2, hn3, hn0, hl1⟩
  dsimp only at hj hu hn hn1 hn2 hn3 hn0 hl1 ⊢
  conv => whnf
  refine br (fun hlt => ?on) (fun hge => ?off)
  case off =>
    conv => whnf
    obtain rfl : m = 0 := by omega
    have hu : (Except.ok n : Except Nat Nat) = unitR bs low 4 0 0 i := hu
    refine ⟨?_, rfl⟩
    rw [← hu]; rfl
  obtain ⟨m, rfl⟩ : ∃ k, m = k + 1 := ⟨m - 1, by omega⟩
  have ei : IntKind.i64.wrap ((i : Int) + (j : Int)) = ((i + j : Nat) : Int) := by rw [wrap_i64 (by omega) (by omega)]; omega
  have hcall := hex (i + j) S1
  have hlim := hexA_lim bs (i + j)
  have ub := @unit_bad bs low m j n (i + j) hn1 hl1
  have ug := @unit_good bs low m j n (i + j) hn1 hl1
  rw [hu] at ub ug
  generalize hexA bs (i + j) = D at *
  have en : IntKind.i64.wrap (IntKind.i64.wrap ((n : Int) * 16) + D) = n * 16 + D := by rw [wrap_i64 (x := (n : Int) * 16) (by omega) (by omega), wrap_i64 (by omega) (by omega)]
  have bad : badD low j D n → AV.tuple [.int .i64 0, .int .i64 ((i + j : Nat) : Int)] = plV (unitR bs low 4 0 0 i) := fun q => by rw [ub q]; rfl
  conv => whnf
  rw [ei]
  refine CallQ.mono hcall ?_
  rintro r S2 ⟨rfl, rfl⟩
  conv => whnf
  rw [en]
  have good : ¬ badD low j D n → ∃ N : Nat, (n : Int) * 16 + D = N ∧ unitR bs low m (j + 1) N (i + (j + 1)) = unitR bs low 4 0 0 i ∧ N < 65536 ∧ (j + 1 = 1 → N < 16) ∧ (j + 1 = 2 → N < 256) ∧ (j + 1 = 3 → N < 4096) ∧ (j + 1 = 0 → N = 0) ∧ (low = true → j + 1 = 1 → N = 13) := by
    intro q
    obtain ⟨g1, g2⟩ := ug q
    refine ⟨n * 16 + D.toNat, by omega, by rw [g1]; rfl, ?_, ?_, ?_, ?_, by omega, ?_⟩
    · have : j = 0 ∨ j = 1 ∨ j = 2 ∨ j = 3 := by omega
      rcases this with h | h | h | h
      · have := hn0 h; omega
      · have := hn1 h; omega
      · have := hn2 h; omega
      · have := hn3 h; omega
    · intro e; have := hn0 (by omega); omega
    · intro e; have := hn1 (by omega); omega
    · intro e; have := hn2 (by omega); omega
    · intro e1 e2
      have := hn0 (by omega)
      have : D = 13 := by
        rcases Int.lt_trichotomy D 13 with w | w | w
        · exact absurd (.inr (.inl ⟨e1, by omega, by omega⟩)) q
        · exact w
        · exact absurd (.inr (.inl ⟨e1, by omega, by omega⟩)) q
      omega
  clear ub ug hcall hex hu
  cases low
  · all_goals
      repeat' (conv => whnf
               intro c hc
               cases c)
    all_goals first
      | (have B : badD false j D n := by
           clear bad good
           unfold badD
           simp at * <;> omega
         conv => whnf
         rw [ei]
         exact ⟨bad B, rfl⟩)
      | (have B : ¬ badD false j D n := by
           clear bad good
           unfold badD
           simp at * <;> omega
         obtain ⟨N, g0, g1, g2, g3, g4, g5, g6, g7⟩ := good B
         conv => whnf
         refine ⟨m, (j + 1, N), by omega, ⟨rfl, by omega, g1, g2, g3, g4, g5, g6, g7⟩, ⟨rfl, rfl, rfl, ?_, ?_, trivial⟩⟩
         · rw [g0]
         · rw [wrap_i64 (by omega) (by omega)]; try rfl)
  · all_goals
      repeat' (conv => whnf
               intro c hc
               cases c)
    all_goals first
      | (have B : badD true j D n := by
           clear bad good
           unfold badD
           simp at * <;> omega
         conv => whnf
         rw [ei]
         exact ⟨bad B, rfl⟩)
      | (have B : ¬ badD true j D n := by
           clear bad good
           unfold badD
           simp at * <;> omega
         obtain ⟨N, g0, g1, g2, g3, g4, g5, g6, g7⟩ := good B
         conv => whnf
         refine ⟨m, (j + 1, N), by omega, ⟨rfl, by omega, g1, g2, g3, g4, g5, g6, g7⟩, ⟨rfl, rfl, rfl, ?_, ?_, trivial⟩⟩
         · rw [g0]
         · rw [wrap_i64 (by omega) (by omega)]; try rfl)
end Go.Proofs.Ytfphpjinimfhfaa
namespace Go.Proofs.Ytfphpjinimfhfaa
open Go.Proofs.Ytfphpjinimfhfaa.VM Go.RowKit
set_option maxRecDepth 100000
set_option linter.unusedVariables false
set_option linter.unusedSimpArgs false
set_option maxHeartbeats 4000000
/-! The document's lexer, walked: number. -/
theorem manyF_le (bs : List UInt8) : ∀ (n i L : Nat), i + n ≤ L → manyF bs n i ≤ L
  | 0, i, L, h => by unfold manyF; omega
  | n + 1, i, L, h => by
    unfold manyF
    split
    · exact manyF_le bs n (i + 1) L (by omega)
    · omega
theorem manyR_le (bs : List UInt8) (i L : Nat) (h1 : i ≤ L) (h2 : bs.length ≤ L) : manyR bs i ≤ L := manyF_le bs _ i L (by omega)
def numB (bs : List UInt8) (n1 : Nat) : Except Nat Nat := if isB bs n1 46 = true then (if manyR bs (n1 + 1) = n1 + 1 then .error (n1 + 1) else expR bs (manyR bs (n1 + 1))) else expR bs n1
def numA (bs : List UInt8) (a : Nat) : Except Nat Nat := if (if isB bs a 48 = true then a + 1 else manyR bs a) = a then .error a else numB bs (if isB bs a 48 = true then a + 1 else manyR bs a)
theorem numR_eq (bs : List UInt8) (i : Nat) : numR bs i = numA bs (if isB bs i 45 = true then i + 1 else i) := rfl
theorem t40 (h : Bool) (bs : List UInt8) (t : Tip) (hl : bs.length ≤ 2 ^ 47) (i : Nat) (hi : i ≤ 2 ^ 47) (S : St) : CallQ Try.prog (JC h) 40 [.lst (bs.map u8) t, .int .i64 i] S fun r S1 => r = plV (numR bs i) ∧ S1 = S := by
  have his := fun k c S => t55 h bs t k c S
  have hmany := fun k S => t56 h bs t hl k S
  have ew : ∀ k : Nat, k ≤ 2 ^ 62 → IntKind.i64.wrap ((k : Int) + 1) = ((k + 1 : Nat) : Int) := fun k hk => by rw [wrap_i64 (by omega) (by omega)]; omega
  have hml := fun k L => manyR_le bs k L
  refine CallQ.of rfl (by kernel_rfl : Try.prog.funcs[40]? = some Try.f40) rfl (by decide) ?_
  conv => whnf
  refine CallQ.mono (his i 45 S) ?_
  rintro r S1 ⟨rfl, rfl⟩
  have hR := numR_eq bs i
  cases h1 : isB bs i 45
  all_goals
    rw [h1] at hR
    conv => whnf
    try rw [ew i (by omega)]
    obtain ⟨a, ha⟩ : ∃ a, a = (if (isB bs i 45) = true then i + 1 else i) := ⟨_, rfl⟩
    rw [h1] at ha
    have hal : a ≤ 2 ^ 48 := by rw [ha]; split <;> omega
    first
      | rw [show ((i + 1 : Nat) : Int) = (a : Int) by rw [ha, if_pos rfl]]
      | rw [show (i : Int) = (a : Int) by rw [ha, if_neg (by simp)]]
    rw [← ha] at hR
    clear ha h1
    refine CallQ.mono (hmany a S1) ?_
    rintro r S2 ⟨rfl, rfl⟩
    conv => whnf
    refine CallQ.mono (his a 48 S2) ?_
    rintro r S3 ⟨rfl, rfl⟩
    unfold numA at hR
    have hm1 := hml a (2 ^ 48) hal (by omega)
    cases h2 : isB bs a 48
    all_goals
      rw [h2] at hR
      conv => whnf
      try rw [ew a (by omega)]
      obtain ⟨n1, hn⟩ : ∃ n1, n1 = (if (isB bs a 48) = true then a + 1 else manyR bs a) := ⟨_, rfl⟩
      rw [h2] at hn
      have hn1l : n1 ≤ 2 ^ 48 + 1 := by rw [hn]; split <;> omega
      first
        | rw [show ((a + 1 : Nat) : Int) = (n1 : Int) by rw [hn, if_pos rfl]]
        | rw [show ((manyR bs a : Nat) : Int) = (n1 : Int) by rw [hn, if_neg (by simp)]]
      rw [← hn] at hR
      clear hn h2 hm1
      refine brEq (fun he => ?_) (fun he => ?_)
      · rw [if_pos (by omega)] at hR
        conv => whnf
        exact ⟨by rw [hR]; rfl, rfl⟩
      rw [if_neg (by omega)] at hR
      conv => whnf
      refine CallQ.mono (his n1 46 S3) ?_
      rintro r S4 ⟨rfl, rfl⟩
      unfold numB at hR
      cases h3 : isB bs n1 46
      case' false =>
        rw [h3, if_neg (by simp)] at hR
        conv => whnf
        have hbl : n1 ≤ 2 ^ 48 + 2 := by omega
        obtain ⟨b, hb⟩ : ∃ b, b = n1 := ⟨_, rfl⟩
        rw [← hb] at hR hbl ⊢
      case' true =>
        rw [h3, if_pos rfl] at hR
        conv => whnf
        rw [ew n1 (by omega)]
        refine CallQ.mono (hmany (n1 + 1) S4) ?_
        rintro r S5 ⟨rfl, rfl⟩
        have hbl := hml (n1 + 1) (2 ^ 48 + 2) (by omega) (by omega)
        generalize manyR bs (n1 + 1) = b at *
        conv => whnf
        rw [ew n1 (by omega)]
        refine brEq (fun he2 => ?_) (fun he2 => ?_)
        · rw [if_pos (by omega)] at hR
          conv => whnf
          refine ⟨?_, rfl⟩
          rw [hR, show b = n1 + 1 by omega]; rfl
        rw [if_neg (by omega)] at hR
        conv => whnf
      all_goals
        clear h3 he
        refine CallQ.mono (his b 101 _) ?_
        rintro r S6 ⟨rfl, rfl⟩
        unfold expR at hR
        cases h4 : isB bs b 101
        · conv => whnf
          refine CallQ.mono (his b 69 _) ?_
          rintro r S7 ⟨rfl, rfl⟩
          cases h5 : isB bs b 69
          · rw [h4, h5, if_neg (by simp)] at hR
            conv => whnf
            exact ⟨by rw [hR]; rfl, rfl⟩
          · rw [h4, h5, if_pos (by simp)] at hR
            dsimp only at hR
            conv => whnf
            rw [ew b (by omega)]
            refine CallQ.mono (his (b + 1) 43 _) ?_
            rintro r S8 ⟨rfl, rfl⟩
            cases h6 : isB bs (b + 1) 43
            · conv => whnf
              refine CallQ.mono (his (b + 1) 45 _) ?_
              rintro r S9 ⟨rfl, rfl⟩
              cases h7 : isB bs (b + 1) 45
              · simp only [h6, h7, Bool.or_false, Bool.false_or, Bool.or_true, Bool.true_or, Bool.or_self, Bool.false_eq_true, if_false, if_true] at hR
                conv => whnf
                refine CallQ.mono (hmany (b + 1) _) ?_
                rintro r SA ⟨rfl, rfl⟩
                conv => whnf
                refine brEq (fun q => ?_) (fun q => ?_)
                · rw [if_pos (by omega)] at hR
                  conv => whnf
                  exact ⟨by rw [hR]; rfl, rfl⟩
                · rw [if_neg (by omega)] at hR
                  conv => whnf
                  exact ⟨by rw [hR]; rfl, rfl⟩
              · simp only [h6, h7, Bool.or_false, Bool.false_or, Bool.or_true, Bool.true_or, Bool.or_self, Bool.false_eq_true, if_false, if_true] at hR
                conv => whnf
                rw [ew (b + 1) (by omega)]
                refine CallQ.mono (hmany (b + 1 + 1) _) ?_
                rintro r SA ⟨rfl, rfl⟩
                conv => whnf
                refine brEq (fun q => ?_) (fun q => ?_)
                · rw [if_pos (by omega)] at hR
                  conv => whnf
                  exact ⟨by rw [hR]; rfl, rfl⟩
                · rw [if_neg (by omega)] at hR
                  conv => whnf
                  exact ⟨by rw [hR]; rfl, rfl⟩
            · simp only [h6, Bool.or_false, Bool.false_or, Bool.or_true, Bool.true_or, Bool.or_self, Bool.false_eq_true, if_false, if_true] at hR
              conv => whnf
              rw [ew (b + 1) (by omega)]
              refine CallQ.mono (hmany (b + 1 + 1) _) ?_
              rintro r SA ⟨rfl, rfl⟩
              conv => whnf
              refine brEq (fun q => ?_) (fun q => ?_)
              · rw [if_pos (by omega)] at hR
                conv => whnf
                exact ⟨by rw [hR]; rfl, rfl⟩
              · rw [if_neg (by omega)] at hR
                conv => whnf
                exact ⟨by rw [hR]; rfl, rfl⟩
        · rw [h4, if_pos (by simp)] at hR
          dsimp only at hR
          conv => whnf
          rw [ew b (by omega)]
          refine CallQ.mono (his (b + 1) 43 _) ?_
          rintro r S8 ⟨rfl, rfl⟩
          cases h6 : isB bs (b + 1) 43
          · conv => whnf
            refine CallQ.mono (his (b + 1) 45 _) ?_
            rintro r S9 ⟨rfl, rfl⟩
            cases h7 : isB bs (b + 1) 45
            · simp only [h6, h7, Bool.or_false, Bool.false_or, Bool.or_true, Bool.true_or, Bool.or_self, Bool.false_eq_true, if_false, if_true] at hR
              conv => whnf
              refine CallQ.mono (hmany (b + 1) _) ?_
              rintro r SA ⟨rfl, rfl⟩
              conv => whnf
              refine brEq (fun q => ?_) (fun q => ?_)
              · rw [if_pos (by omega)] at hR
                conv => whnf
                exact ⟨by rw [hR]; rfl, rfl⟩
              · rw [if_neg (by omega)] at hR
                conv => whnf
                exact ⟨by rw [hR]; rfl, rfl⟩
            · simp only [h6, h7, Bool.or_false, Bool.false_or, Bool.or_true, Bool.true_or, Bool.or_self, Bool.false_eq_true, if_false, if_true] at hR
              conv => whnf
              rw [ew (b + 1) (by omega)]
              refine CallQ.mono (hmany (b + 1 + 1) _) ?_
              rintro r SA ⟨rfl, rfl⟩
              conv => whnf
              refine brEq (fun q => ?_) (fun q => ?_)
              · rw [if_pos (by omega)] at hR
                conv => whnf
                exact ⟨by rw [hR]; rfl, rfl⟩
              · rw [if_neg (by omega)] at hR
                conv => whnf
                exact ⟨by rw [hR]; rfl, rfl⟩
          · simp only [h6, Bool.or_false, Bool.false_or, Bool.or_true, Bool.true_or, Bool.or_self, Bool.false_eq_true, if_false, if_true] at hR
            conv => whnf
            rw [ew (b + 1) (by omega)]
            refine CallQ.mono (hmany (b + 1 + 1) _) ?_
            rintro r SA ⟨rfl, rfl⟩
            conv => whnf
            refine brEq (fun q => ?_) (fun q => ?_)
            · rw [if_pos (by omega)] at hR
              conv => whnf
              exact ⟨by rw [hR]; rfl, rfl⟩
            · rw [if_neg (by omega)] at hR
              conv => whnf
              exact ⟨by rw [hR]; rfl, rfl⟩
end Go.Proofs.Ytfphpjinimfhfaa
