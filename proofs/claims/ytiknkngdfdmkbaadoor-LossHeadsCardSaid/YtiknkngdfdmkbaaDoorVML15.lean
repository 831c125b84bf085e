import Derived.Test.YtiknkngdfdmkbaaDoorVML14
namespace Go.Proofs.YtiknkngdfdmkbaaDoor
open Go.Proofs.YtiknkngdfdmkbaaDoor.VM
set_option maxRecDepth 100000
set_option linter.unusedVariables false

theorem append_full_nil {C : Cfg} {f : FuncId} {t e : TypeId} {z : AV} {P : Program} (hE : Elem P t e 1 1 false z) (hh : C.hnd f = false) (S : St) (bs : List UInt8) (v : AV) (hv : Elems v (bs.map u8)) (hl : bs.length ≤ 2 ^ 47) :
    ∃ r S1, builtinA P C f .append #[t, t] [.lst [] .full, v] S = some (.ret r, S1) ∧ (∃ t', r = .lst (bs.map u8) t') ∧ Keep S S1 := by
  have hun := hE.und
  have helem : elemA P t = some e := by simp [elemA, hun]
  by_cases hb : bs = []
  · subst hb
    refine ⟨.lst [] .full, S, ?_, ⟨_, rfl⟩, .refl S⟩
    simp only [builtinA, appendA, helem, hE.size, hE.agg, hE.bytes, hE.zero, hun, Option.bind_some, appendB, hv.run S false 1]
    rw [if_pos ⟨by omega, hE.zlen, rfl⟩]
    rfl
  · have h0 : (bs.map u8).length ≠ 0 := by simpa using hb
    refine ⟨.lst (bs.map u8) (.tag S.next), S.new .tip, ?_, ⟨_, rfl⟩, (Keep.refl S).new _⟩
    simp only [builtinA, appendA, helem, hE.size, hE.agg, hE.bytes, hE.zero, hun, Option.bind_some, appendB, hv.run S false 1, shed_u8]
    rw [if_pos ⟨by omega, hE.zlen, wellA_u8 bs⟩]
    simp only [if_neg h0]
    rw [if_pos ⟨by simp [sizeOk]; omega, rfl⟩]
    simp [freshA, hh, retA]

theorem t38 (bs : List UInt8) (v : AV) (hv : Elems v (bs.map u8)) (hb : bs.length ≤ 2 ^ 47) (S : St) :
    CallQ Tryd.prog LC 38 [v] S fun r S1 => Elems r (bs.map u8) ∧ Keep S S1 := by
  refine CallQ.of rfl (by kernel_rfl : Tryd.prog.funcs[38]? = some Tryd.f38) rfl (by decide) ?_
  rcases hv with ⟨rfl, h⟩ | ⟨t, rfl⟩
  · obtain rfl : bs = [] := by simpa using h
    conv => whnf
    intro c hc
    subst hc
    conv => whnf
    exact ⟨.inl ⟨rfl, rfl⟩, .refl S⟩
  · conv => whnf
    intro c hc
    subst hc
    conv => whnf
    obtain ⟨r, S1, h1, ⟨t', rfl⟩, h3⟩ := append_full_nil (f := 38) (C := LC) el23 rfl S bs _ (.inr ⟨t, rfl⟩) hb
    refine ⟨_, S1, h1, ?_⟩
    conv => whnf
    exact ⟨.inr ⟨.lost, rfl⟩, h3⟩

theorem t26 (bs : List UInt8) (v : AV) (hv : Elems v (bs.map u8)) (hb : bs.length ≤ 2 ^ 47) (S : St) :
    CallQ Tryd.prog LC 26 [v] S fun r S1 => ∃ c v', r = .ptr c 0 ∧ S.next ≤ c ∧ c < S1.next ∧ Elems v' (bs.map u8) ∧ S1.cells c = some [.bool true, v', .int .i64 0, .int .i64 0, .int .i64 0] ∧ Keep S S1 := by
  refine CallQ.of rfl (by kernel_rfl : Tryd.prog.funcs[26]? = some Tryd.f26) rfl (by decide) ?_
  conv => whnf
  refine CallQ.mono (t38 bs v hv hb S) ?_
  rintro r S1 ⟨h1, h2⟩
  rcases h1 with ⟨rfl, h⟩ | ⟨t, rfl⟩
  · conv => whnf
    exact ⟨S1.next, .nils, rfl, h2.next, Nat.lt_succ_self _, .inl ⟨rfl, h⟩, cells_new _ _, h2.new _⟩
  · conv => whnf
    exact ⟨S1.next, _, rfl, h2.next, Nat.lt_succ_self _, .inr ⟨t, rfl⟩, cells_new _ _, h2.new _⟩

/-- What is left to read, or the fault. -/
abbrev PSt := Except Flt (List UInt8)
def RSt (S : St) (rb c : Nat) (bs : List UInt8) (v : AV) (st : PSt) : Prop :=
  c < S.next ∧ rb < S.next ∧ c ≠ rb ∧ Elems v (bs.map u8) ∧ match st with
  | .ok r => r <:+ bs ∧ S.cells c = some [.bool true, v, .int .i64 (bs.length - r.length : Nat), .int .i64 0, .int .i64 0] ∧ S.cells rb = some [.ptr c 0, .int .i64 0, .int .i64 0]
  | .error (w, k) => w ≠ 0 ∧ k ≤ bs.length ∧ ∃ a : Nat,
    (S.cells c = some [.bool true, v, .int .i64 a, .int .i64 0, .int .i64 0] ∧ S.cells rb = some [.ptr c 0, .int .i64 w, .int .i64 (bs.length - k : Nat)]) ∨
    (S.cells c = some [.bool true, v, .int .i64 a, .int .i64 w, .int .i64 (bs.length - k : Nat)] ∧ S.cells rb = some [.ptr c 0, .int .i64 0, .int .i64 0])
def fl (len : Nat) : PSt → Nat × Nat
  | .ok _ => (0, 0)
  | .error (w, k) => (w, len - k)

/-- Everything but these two stays. -/
structure But (c rb : Nat) (S S1 : St) : Prop where
  next : S.next ≤ S1.next
  mem : ∀ j, j < S.next → j ≠ c → j ≠ rb → S1.mem j = S.mem j
theorem But.of {c rb : Nat} {S S1 : St} (h : Keep S S1) : But c rb S S1 := ⟨h.next, fun j hj _ _ => h.mem j hj⟩
theorem But.trans {c rb : Nat} {S S1 S2 : St} (h : But c rb S S1) (k : But c rb S1 S2) : But c rb S S2 := ⟨Nat.le_trans h.next k.next, fun j hj h1 h2 => by rw [k.mem j (by have := h.next; omega) h1 h2, h.mem j hj h1 h2]⟩
theorem cells_keep {S S1 : St} (h : Keep S S1) {j : Nat} (hj : j < S.next) : S1.cells j = S.cells j := by unfold St.cells; rw [h.mem j hj]
theorem RSt.keep {S S1 : St} {rb c : Nat} {bs : List UInt8} {v : AV} {st : PSt} (h : RSt S rb c bs v st) (k : Keep S S1) : RSt S1 rb c bs v st := by
  obtain ⟨h1, h2, h3, h4, h5⟩ := h
  have hn := k.next
  refine ⟨by omega, by omega, h3, h4, ?_⟩
  cases st with
  | ok r => simpa only [cells_keep k h1, cells_keep k h2] using h5
  | error f => simpa only [cells_keep k h1, cells_keep k h2] using h5

theorem eq39' (fw fa : Int) : eqF Tryd.prog 39 (.agg [.int .i64 fw, .int .i64 fa]) (.agg [ofLeaf (.int .i64 0), ofLeaf (.int .i64 0)]) = some (decide (fw = 0 ∧ fa = 0)) := by
  rw [eq39, Option.some.injEq, Bool.eq_iff_iff]
  simp

theorem t28 (S : St) (rb c : Nat) (bs : List UInt8) (v : AV) (st : PSt) (h : RSt S rb c bs v st) :
    CallQ Tryd.prog LC 28 [.ptr rb 0] S fun r S1 => r = .agg [.int .i64 (fl bs.length st).1, .int .i64 (fl bs.length st).2] ∧ Keep S S1 := by
  obtain ⟨h1, h2, h3, h4, h5⟩ := h
  refine CallQ.of rfl (by kernel_rfl : Tryd.prog.funcs[28]? = some Tryd.f28) rfl (by decide) ?_
  have kn : ∀ {j : Nat} {cs0 cs : List AV}, S.cells j = some cs → j < S.next → (S.new (.cells cs0)).cells j = some cs := fun h hj => cells_new_ne h (by omega)
  conv => whnf
  have hrb : ∃ (bw ba : Nat), S.cells rb = some [.ptr c 0, .int .i64 bw, .int .i64 ba] ∧ ((¬ (bw = 0 ∧ ba = 0) ∧ fl bs.length st = (bw, ba)) ∨ ((bw = 0 ∧ ba = 0) ∧ ∃ a : Nat, S.cells c = some [.bool true, v, .int .i64 a, .int .i64 (fl bs.length st).1, .int .i64 (fl bs.length st).2])) := by
    cases st with
    | ok r => exact ⟨0, 0, h5.2.2, .inr ⟨⟨rfl, rfl⟩, _, h5.2.1⟩⟩
    | error f =>
      obtain ⟨w, k⟩ := f
      obtain ⟨hw, hk, a, ⟨e1, e2⟩ | ⟨e1, e2⟩⟩ := h5
      · exact ⟨w, bs.length - k, e2, .inl ⟨fun h => hw h.1, rfl⟩⟩
      · exact ⟨0, 0, e2, .inr ⟨⟨rfl, rfl⟩, a, e1⟩⟩
  obtain ⟨bw, ba, hb, hor⟩ := hrb
  refine ⟨_, kn hb h2, ?_⟩
  conv => whnf
  rw [eq39']
  rcases hor with ⟨hne, hfl⟩ | ⟨⟨rfl, rfl⟩, a, hcc⟩
  · rw [decide_eq_false (by omega : ¬ ((bw : Int) = 0 ∧ (ba : Int) = 0))]
    intro b hb2
    subst hb2
    conv => whnf
    refine ⟨_, kn hb h2, ?_⟩
    conv => whnf
    refine ⟨_, _, cells_new _ _, store_agg rfl rfl rfl, ?_⟩
    conv => whnf
    refine ⟨.agg [.int .i64 bw, .int .i64 ba], ?_, ?_⟩
    · show (St.cells _ S.next).bind _ = _
      rw [cells_set]; rfl
    conv => whnf
    refine ⟨by rw [hfl]; rfl, ((Keep.refl S).new _).set _ _ (Nat.le_refl _)⟩
  · rw [decide_eq_true (by omega : (((0 : Nat) : Int) = 0 ∧ ((0 : Nat) : Int) = 0))]
    intro b hb2
    subst hb2
    conv => whnf
    refine ⟨_, kn hb h2, ?_⟩
    conv => whnf
    refine CallQ.mono (t39 _ c v a _ _ (kn hcc h1) (by show c < S.next + 1; omega)) ?_
    rintro r S1 ⟨rfl, k1⟩
    have hx : S1.cells S.next = some [.int .i64 0, .int .i64 0] := by
      rw [cells_keep k1 (Nat.lt_succ_self _)]; exact cells_new _ _
    conv => whnf
    refine ⟨_, _, hx, store_agg rfl rfl rfl, ?_⟩
    conv => whnf
    refine ⟨.agg [.int .i64 (fl bs.length st).1, .int .i64 (fl bs.length st).2], ?_, ?_⟩
    · show (St.cells _ S.next).bind _ = _
      rw [cells_set]; rfl
    conv => whnf
    exact ⟨rfl, (((Keep.refl S).new _).trans k1).set _ _ (Nat.le_refl _)⟩

/-- A number from lo to hi, as the reader reads it. -/
def within (lo hi e : Nat) : PSt → Nat × PSt
  | .error f => (0, .error f)
  | .ok r => match rdS r 0 0 with
    | .error f => (0, .error f)
    | .ok (n, r') => if n < lo ∨ hi < n then (0, .error (e, r.length)) else (n, .ok r')

theorem suffix_drop {α : Type} {r l : List α} (h : r <:+ l) : l.drop (l.length - r.length) = r := by
  obtain ⟨p, rfl⟩ := h
  rw [List.length_append, show p.length + r.length - r.length = p.length by omega, List.drop_left]

theorem t27 (S : St) (rb c : Nat) (bs : List UInt8) (v : AV) (st : PSt) (lo hi e : Nat) (hhi : hi < 2 ^ 63) (he : e ≠ 0) (hb : bs.length ≤ 2 ^ 47) (h : RSt S rb c bs v st) :
    CallQ Tryd.prog LC 27 [.ptr rb 0, .int .u64 lo, .int .u64 hi, .int .i64 e] S fun r S1 => r = .int .i64 (within lo hi e st).1 ∧ RSt S1 rb c bs v (within lo hi e st).2 ∧ But c rb S S1 := by
  refine CallQ.of rfl (by kernel_rfl : Tryd.prog.funcs[27]? = some Tryd.f27) rfl (by decide) ?_
  conv => whnf
  refine CallQ.mono (t28 S rb c bs v st h) ?_
  rintro r S1 ⟨rfl, k1⟩
  conv => whnf
  rw [eq39']
  cases st with
  | error f =>
    obtain ⟨w, k⟩ := f
    have hw : w ≠ 0 := h.2.2.2.2.1
    rw [decide_eq_false (by show ¬ ((w : Int) = 0 ∧ _); omega)]
    intro b hb2
    subst hb2
    conv => whnf
    exact ⟨rfl, h.keep k1, .of k1⟩
  | ok r =>
    rw [decide_eq_true (by show (((0 : Nat) : Int) = 0 ∧ ((0 : Nat) : Int) = 0); omega)]
    intro b hb2
    subst hb2
    have h' := h.keep k1
    obtain ⟨c1, c2, c3, c4, c5, c6, c7⟩ := h'
    have hvl : v.leafOk = true := by rcases c4 with ⟨rfl, _⟩ | ⟨_, rfl⟩ <;> rfl
    have hrl := c5.length_le
    conv => whnf
    refine ⟨_, c7, ?_⟩
    conv => whnf
    refine CallQ.mono (t31 S1 c v _ _ _ c6) ?_
    rintro _ S1' ⟨rfl, rfl⟩
    conv => whnf
    refine ⟨_, c7, ?_⟩
    conv => whnf
    refine CallQ.mono (t29 S1' c bs v (bs.length - r.length) c4 (by omega) hb c6 c1) ?_
    rintro _ S2 ⟨a', w, p, n, d1, rfl, d2, d3, d4⟩
    rw [suffix_drop c5] at d1
    have c7' : S2.cells rb = some [.ptr c 0, .int .i64 0, .int .i64 0] := by
      unfold St.cells at *; rw [d4 rb c2 (Ne.symm c3)]; exact c7
    have b2 : But c rb S S2 := (But.of k1).trans ⟨d2, fun j h1 h2 h3 => d4 j h1 h2⟩
    cases hr : rdS r 0 0 with
    | error f =>
      obtain ⟨w0, k0⟩ := f
      obtain ⟨hw0, hk0⟩ := rdS_err _ _ _ _ _ hr
      rw [hr] at d1
      obtain ⟨rfl, rfl, rfl, rfl⟩ : bs.length - r.length = a' ∧ w0 = w ∧ bs.length - k0 = p ∧ 0 = n := by simpa [curS] using d1
      have hst : RSt S2 rb c bs v (.error (w0, k0)) := ⟨by omega, by omega, c3, c4, hw0, by omega, _, .inr ⟨d3, c7'⟩⟩
      have hwi : within lo hi e (.ok r) = (0, .error (w0, k0)) := by simp only [within, hr]
      rw [hwi]
      conv => whnf
      refine CallQ.mono (t28 S2 rb c bs v _ hst) ?_
      rintro _ S3 ⟨rfl, k3⟩
      conv => whnf
      rw [eq39', decide_eq_false (by show ¬ ((w0 : Int) = 0 ∧ _); omega)]
      intro b hb2
      subst hb2
      conv => whnf
      refine CallQ.mono (t28 S3 rb c bs v _ (hst.keep k3)) ?_
      rintro _ S4 ⟨rfl, k4⟩
      conv => whnf
      rw [eq39', decide_eq_false (by show ¬ ((w0 : Int) = 0 ∧ _); omega)]
      intro b hb2
      subst hb2
      conv => whnf
      exact ⟨rfl, (hst.keep k3).keep k4, b2.trans (.of (k3.trans k4))⟩
    | ok q =>
      obtain ⟨n0, r'⟩ := q
      obtain ⟨hl0, hs0⟩ := rdS_ok _ _ _ _ _ hr
      rw [hr] at d1
      obtain ⟨rfl, rfl, rfl, rfl⟩ : bs.length - r'.length = a' ∧ 0 = w ∧ 0 = p ∧ n0 = n := by simpa [curS] using d1
      have hst : RSt S2 rb c bs v (.ok r') := ⟨by omega, by omega, c3, c4, hs0.trans c5, d3, c7'⟩
      conv => whnf
      refine CallQ.mono (t28 S2 rb c bs v _ hst) ?_
      rintro _ S3 ⟨rfl, k3⟩
      conv => whnf
      rw [eq39', decide_eq_true (by show (((0 : Nat) : Int) = 0 ∧ ((0 : Nat) : Int) = 0); omega)]
      intro b hb2
      subst hb2
      have hst3 := hst.keep k3
      obtain ⟨g1, g2, g3, g4, g5, g6, g7⟩ := hst3
      conv => whnf
      intro c8 h8
      cases c8
      rotate_left
      · have h8 : n0 < lo := by simp at h8; omega
        conv => whnf
        refine ⟨_, _, g7, if_pos ⟨rfl, rfl, Nat.le_of_ble_eq_true rfl⟩, ?_⟩
        have hbad : RSt (S3.set rb (some (.cells [.ptr c 0, .int .i64 e, .int .i64 (bs.length - r.length : Nat)]))) rb c bs v (.error (e, r.length)) :=
          ⟨g1, g2, g3, g4, he, hrl, _, .inl ⟨cells_set_ne g6 g3, cells_set _ _ _⟩⟩
        have hwi : within lo hi e (.ok r) = (0, .error (e, r.length)) := by simp only [within, hr]; rw [if_pos (by omega)]
        rw [hwi]
        conv => whnf
        refine CallQ.mono (t28 _ rb c bs v _ hbad) ?_
        rintro _ S4 ⟨rfl, k4⟩
        conv => whnf
        rw [eq39', decide_eq_false (by show ¬ ((e : Int) = 0 ∧ _); omega)]
        intro b hb2
        subst hb2
        conv => whnf
        refine ⟨rfl, hbad.keep k4, (b2.trans (.of k3)).trans (But.trans ?_ (.of k4))⟩
        exact ⟨Nat.le_refl _, fun j h1 h2 h3 => by show upd S3.mem rb _ j = _; simp only [upd, if_neg h3]⟩
      have h8 : ¬ n0 < lo := by simp at h8; omega
      conv => whnf
      intro c9 h9
      cases c9
      rotate_left
      · have h9 : hi < n0 := by simp at h9; omega
        conv => whnf
        refine ⟨_, _, g7, if_pos ⟨rfl, rfl, Nat.le_of_ble_eq_true rfl⟩, ?_⟩
        have hbad : RSt (S3.set rb (some (.cells [.ptr c 0, .int .i64 e, .int .i64 (bs.length - r.length : Nat)]))) rb c bs v (.error (e, r.length)) :=
          ⟨g1, g2, g3, g4, he, hrl, _, .inl ⟨cells_set_ne g6 g3, cells_set _ _ _⟩⟩
        have hwi : within lo hi e (.ok r) = (0, .error (e, r.length)) := by simp only [within, hr]; rw [if_pos (by omega)]
        rw [hwi]
        conv => whnf
        refine CallQ.mono (t28 _ rb c bs v _ hbad) ?_
        rintro _ S4 ⟨rfl, k4⟩
        conv => whnf
        rw [eq39', decide_eq_false (by show ¬ ((e : Int) = 0 ∧ _); omega)]
        intro b hb2
        subst hb2
        conv => whnf
        refine ⟨rfl, hbad.keep k4, (b2.trans (.of k3)).trans (But.trans ?_ (.of k4))⟩
        exact ⟨Nat.le_refl _, fun j h1 h2 h3 => by show upd S3.mem rb _ j = _; simp only [upd, if_neg h3]⟩
      have h9 : ¬ hi < n0 := by simp at h9; omega
      conv => whnf
      have hwi : within lo hi e (.ok r) = (n0, .ok r') := by simp only [within, hr]; rw [if_neg (by omega)]
      rw [hwi]
      refine CallQ.mono (t28 S3 rb c bs v _ (hst.keep k3)) ?_
      rintro _ S4 ⟨rfl, k4⟩
      conv => whnf
      rw [eq39', decide_eq_true (by show (((0 : Nat) : Int) = 0 ∧ ((0 : Nat) : Int) = 0); omega)]
      intro b hb2
      subst hb2
      conv => whnf
      refine ⟨?_, (hst.keep k3).keep k4, b2.trans (.of (k3.trans k4))⟩
      show AV.int .i64 _ = AV.int .i64 _
      rw [wrap_i64 (by omega) (by omega)]
end Go.Proofs.YtiknkngdfdmkbaaDoor
