import Derived.Test.YtkbfappjlolmaaaVMC4
namespace Go.Proofs.Ytkbfappjlolmaaa
open Go.Proofs.Ytkbfappjlolmaaa.VM Go.RowKit
set_option maxRecDepth 100000
set_option linter.unusedVariables false
set_option linter.unusedSimpArgs false
set_option maxHeartbeats 4000000
/-! The law CurNobody. -/
theorem own0 (v : AV) (S : St) (he : elemsA S false 1 v = some []) : builtinA Try.prog CC 6 .append #[22, 22] [.nils, v] S = some (.ret .nils, S) := by
  have hE := el22
  have helem : elemA Try.prog 22 = some 5 := by simp [elemA, hE.und]
  simp only [builtinA, appendA, helem, hE.size, hE.agg, hE.bytes, hE.zero, hE.und, Option.bind_some, appendB, he]
  rw [if_pos ⟨by decide, hE.zlen, rfl⟩]
  rfl
theorem own1 (v : AV) (bs : List UInt8) (hne : bs ≠ []) (hl : bs.length ≤ 2 ^ 47) (S : St) (he : elemsA S false 1 v = some (bs.map u8)) :
    builtinA Try.prog CC 6 .append #[22, 22] [.nils, v] S = some (.ret (.hnd S.next 0 bs.length 1), S.new (.cells (bs.map u8))) := by
  have hE := el22
  have helem : elemA Try.prog 22 = some 5 := by simp [elemA, hE.und]
  have hh : CC.hnd 6 = true := by rfl
  have hlen : ¬ ((bs.map u8).length = 0) := by rw [List.length_map]; intro h; exact hne (List.length_eq_zero_iff.1 h)
  simp only [builtinA, appendA, helem, hE.size, hE.agg, hE.bytes, hE.zero, hE.und, Option.bind_some, appendB, he, shed_u8]
  rw [if_pos ⟨by decide, hE.zlen, wellA_u8 bs⟩, if_neg hlen, if_pos (by simp [sizeOk]; omega)]
  simp only [freshA, hh, if_true, Option.bind_some, retA, flat_u8, List.length_map]
/-- A cursor over bytes of its own. -/
def Liv (S : St) (c q : Nat) (bs : List UInt8) (a : Nat) : Prop := Cu S c (.hnd q 0 bs.length 1) a ∧ q < S.next ∧ q ≠ c ∧ S.mem q = some (.cells (bs.map u8))
theorem Liv.frame {S S1 : St} {c q : Nat} {bs : List UInt8} {a : Nat} (h : Liv S c q bs a) (hn : S.next ≤ S1.next) (h1 : S1.mem c = S.mem c) (h2 : S1.mem q = S.mem q) : Liv S1 c q bs a := by
  obtain ⟨⟨h3, h4⟩, h5, h6, h7⟩ := h
  exact ⟨⟨by omega, by unfold St.cells at *; rw [h1]; exact h4⟩, by omega, h6, h2.trans h7⟩
theorem Liv.take {S : St} {c q a : Nat} (n : Nat) {bs : List UInt8} (hl : bs.length ≤ 2 ^ 47) (ha : a + n ≤ bs.length) (h : Liv S c q bs a) :
    CallQ Try.prog CC 17 [.ptr c 0, .int .i64 n] S fun r S1 => ∃ p, Wr S1 ((bs.drop a).take n) r p ∧ S.next ≤ p ∧ Liv S1 c q bs (a + n) ∧ Bu c S S1 := by
  obtain ⟨h1, h5, h6, h7⟩ := h
  refine CallQ.mono (f17m S c q a n bs hl ha h1 h7 h6 h5) ?_
  rintro r S1 ⟨p, h2, h3, h4, h8⟩
  exact ⟨p, h2, h3, ⟨h4, by have := h8.1; omega, h6, (h8.2 q h5 h6).trans h7⟩, h8⟩
theorem Liv.left {S : St} {c q a : Nat} {bs : List UInt8} (hl : bs.length ≤ 2 ^ 47) (ha : a ≤ bs.length) (h : Liv S c q bs a) :
    CallQ Try.prog CC 18 [.ptr c 0] S fun r S1 => r = .int .i64 ((bs.length - a : Nat) : Int) ∧ S1 = S := f18m S c q bs.length a ha hl h.1
/-- A cursor over no bytes. -/
def DE (S : St) (lo c : Nat) : Prop := lo ≤ c ∧ (Cu S c .nils 0 ∨ ∃ q, lo ≤ q ∧ Liv S c q [] 0)
theorem DE.frame {S S1 : St} {lo c : Nat} (h : DE S lo c) (hn : S.next ≤ S1.next) (hm : ∀ j, lo ≤ j → j < S.next → S1.mem j = S.mem j) : DE S1 lo c := by
  obtain ⟨h1, h2 | ⟨q, h3, h4⟩⟩ := h
  · exact ⟨h1, .inl ⟨by have := h2.1; omega, by unfold St.cells; rw [hm c h1 h2.1]; exact h2.2⟩⟩
  · exact ⟨h1, .inr ⟨q, h3, h4.frame hn (hm c h1 h4.1.1) (hm q h3 h4.2.1)⟩⟩
theorem DE.take {S : St} {lo c : Nat} (h : DE S lo c) : CallQ Try.prog CC 17 [.ptr c 0, .int .i64 0] S fun r S1 => (r = .nils ∨ ∃ p, Wr S1 [] r p) ∧ DE S1 lo c ∧ Bu c S S1 := by
  obtain ⟨h1, h2 | ⟨q, h3, h4⟩⟩ := h
  · refine CallQ.mono (f17z S c h2) ?_
    rintro r S1 ⟨rfl, h5, h6⟩
    exact ⟨.inl rfl, ⟨h1, .inl h5⟩, h6⟩
  · refine CallQ.mono (h4.take 0 (by simp) (by simp)) ?_
    rintro r S1 ⟨p, h5, h6, h7, h8⟩
    exact ⟨.inr ⟨p, h5⟩, ⟨h1, .inr ⟨q, h3, h7⟩⟩, h8⟩
theorem DE.left {S : St} {lo c : Nat} (h : DE S lo c) : CallQ Try.prog CC 18 [.ptr c 0] S fun r S1 => r = .int .i64 0 ∧ S1 = S := by
  obtain ⟨h1, h2 | ⟨q, h3, h4⟩⟩ := h
  · exact f18m0 S c h2
  · exact h4.left (by simp) (by simp)
theorem new0 (S : St) (v : AV) (hv : v = .nils ∨ ∃ t, v = .lst [] t) : CallQ Try.prog CC 9 [v] S fun r S1 => ∃ c, r = .ptr c 0 ∧ DE S1 S.next c ∧ Keep S S1 := by
  rcases hv with rfl | ⟨t, rfl⟩
  · refine CallQ.mono (f9n S) ?_
    rintro r S1 ⟨c, rfl, h1, h2, k⟩
    exact ⟨c, rfl, ⟨h2, .inl h1⟩, k⟩
  · refine CallQ.mono (f9h S _ [] (.inl ⟨_, _, rfl⟩) (by simp) (fun _ _ => rfl)) ?_
    rintro r S1 ⟨c, q, w, rfl, ⟨rfl, h1, h2⟩, h3, h4, h5, h6, k⟩
    exact ⟨c, rfl, ⟨h4, .inr ⟨q, h5, h3, h1, h6, h2⟩⟩, k⟩
theorem wrap_ex (z : Int) : ∃ c : UInt8, IntKind.u8.wrap z = (c.toNat : Int) := by
  have h : 0 ≤ IntKind.u8.wrap z ∧ IntKind.u8.wrap z < 256 := by simp [IntKind.wrap, IntKind.bits, IntKind.signed]; omega
  refine ⟨UInt8.ofNat (IntKind.u8.wrap z).toNat, ?_⟩
  rw [UInt8.toNat_ofNat']
  omega
theorem upd_ex (bs : List UInt8) (i : Nat) (Z : Int) (n : Nat) (hl : bs.length = n) (b : Nat) (S : St) : ∃ bs2 : List UInt8, bs2.length = n ∧ (S.set b (some (.cells (setsA (bs.map u8) (0 + i * 1) [.int .u8 (IntKind.u8.wrap Z)])))).mem b = some (.cells (bs2.map u8)) := by
  obtain ⟨c, hc⟩ := wrap_ex Z
  refine ⟨bs.set i c, by simpa using hl, ?_⟩
  rw [mem_set]
  have : setsA (bs.map u8) (0 + i * 1) [.int .u8 (IntKind.u8.wrap Z)] = (bs.set i c).map u8 := by
    show (bs.map u8).set (0 + i * 1) (.int .u8 (IntKind.u8.wrap Z)) = _
    rw [hc, List.map_set, Nat.zero_add, Nat.mul_one]; rfl
  rw [this]
theorem set_ne {S : St} {a j : Nat} {x : Option Blk} (h : j ≠ a) : (S.set a x).mem j = S.mem j := by simp [St.set, upd, h]
theorem eq29b : eqF Try.prog 29 (.agg [.int .i64 2, .int .i64 0]) (.agg [.int .i64 2, ofLeaf (.int .i64 0)]) = some true := by kernel_rfl
theorem t6 (bs : List UInt8) (hl : bs.length ≤ 2 ^ 47) (v : AV) (hv : Elems v (bs.map u8)) (n : Int) (S : St) : CallQ Try.prog CC 6 [v, .int .i64 n] S fun r S1 => r = .bool true := by
  refine CallQ.of rfl (by kernel_rfl : Try.prog.funcs[6]? = some Try.f6) rfl (by decide) ?_
  conv => whnf
  have hdn : ∀ b, (S.new b).next = S.next + 1 := fun _ => rfl
  rw [hdn]
  generalize hS1 : (S.new _).new _ = S1
  have a1 : S1.cells S.next = some [.bool false, .nils, .int .i64 0, .int .i64 0, .int .i64 0] := by rw [← hS1]; exact cells_new_ne (cells_new _ _) (by show S.next ≠ S.next + 1; omega)
  have a2 : S1.cells (S.next + 1) = some [.nul, .ptr S.next 0] := by rw [← hS1]; exact cells_new _ _
  have n1 : S1.next = S.next + 2 := by rw [← hS1]; rfl
  clear hS1
  refine CodeQ.loop (fun (i : Nat) => pat 112 [(0, v), (1, .int .i64 n), (15, .hnd (S.next + 1) 0 2 1), (16, .int .i64 2), (17, .int .i64 i)]) (fun m i S2 => i + m = 2 ∧ Keep S1 S2) ?_ 2 0 _ _ ⟨rfl, .refl _⟩ ⟨rfl, rfl, rfl, rfl, rfl, trivial⟩
  rintro m i S2 d ⟨hi, k2⟩
  have b1 := (cells_keep k2 (j := S.next) (by omega)).trans a1
  have b2 := (cells_keep k2 (j := S.next + 1) (by omega)).trans a2
  have n2 := k2.next
  conv => whnf
  refine br (fun h => ?on) (fun h => ?off)
  case on =>
    obtain ⟨w, hw, hg⟩ : ∃ w, Nob S2 w ∧ ([.nul, .ptr S.next 0] : List AV)[0 + i * 1]? = some w := by
      obtain rfl | rfl : i = 0 ∨ i = 1 := by omega
      · exact ⟨.nul, .inl rfl, rfl⟩
      · exact ⟨.ptr S.next 0, .inr ⟨S.next, rfl, by omega, b1⟩, rfl⟩
    have hww : w = .nul ∨ w = .ptr S.next 0 := by
      obtain rfl | rfl : i = 0 ∨ i = 1 := by omega
      · exact .inl (Option.some.inj hg).symm
      · exact .inr (Option.some.inj hg).symm
    have c1 := f16n S2 w hw n
    have c2 := fun S3 (k : Keep S2 S3) => f10n S3 w (hw.keep k)
    have c3 := fun S3 (k : Keep S2 S3) => f17n S3 w (hw.keep k) n
    have c4 := fun S3 (k : Keep S2 S3) => f12n S3 w (hw.keep k)
    have c5 := fun S3 (k : Keep S2 S3) => f18n S3 w (hw.keep k)
    have c6 := fun S3 (k : Keep S2 S3) => f11n S3 w (hw.keep k)
    clear hw
    conv => whnf
    refine ⟨by omega, by omega, ?_⟩
    conv => whnf
    refine ⟨_, b2, partF_of hg ?_⟩
    rcases hww with rfl | rfl
    all_goals
      conv => whnf
      refine CallQ.mono c1 ?_
      rintro r S3 ⟨rfl, k3⟩
      conv => whnf
      refine brNe (fun h => absurd rfl h) (fun _ => ?_)
      conv => whnf
      refine CallQ.mono (c2 S3 k3) ?_
      rintro r S4 ⟨rfl, k4⟩
      have k4 := k3.trans k4
      conv => whnf
      refine brNe (fun h => absurd rfl h) (fun _ => ?_)
      conv => whnf
      refine CallQ.mono (c3 S4 k4) ?_
      rintro r S5 ⟨rfl, k5⟩
      have k5 := k4.trans k5
      conv => whnf
      refine brNe (fun h => absurd rfl h) (fun _ => ?_)
      conv => whnf
      refine CallQ.mono (c4 S5 k5) ?_
      rintro r S6 ⟨rfl, k6⟩
      have k6 := k5.trans k6
      conv => whnf
      refine brNe (fun h => absurd rfl h) (fun _ => ?_)
      conv => whnf
      refine CallQ.mono (c5 S6 k6) ?_
      rintro r S7 ⟨rfl, k7⟩
      have k7 := k6.trans k7
      conv => whnf
      refine brNe (fun h => absurd rfl h) (fun _ => ?_)
      conv => whnf
      refine CallQ.mono (c6 S7 k7) ?_
      rintro r S8 ⟨rfl, k8⟩
      have k8 := k7.trans k8
      conv => whnf
      rw [eq29b]
      intro c hc
      obtain rfl : c = false := by rw [hc]; rfl
      conv => whnf
      refine ⟨m - 1, i + 1, by omega, ⟨by omega, k2.trans k8⟩, ⟨rfl, rfl, rfl, rfl, ?_, trivial⟩⟩
      rw [wrap_i64 (by omega) (by omega)]; try rfl
  conv => whnf
  clear a1 a2 b1 b2 n1 n2 k2 h hi hdn
  clear S1
  by_cases hbs : bs = []
  · subst hbs
    have hv0 : v = .nils ∨ ∃ t, v = .lst [] t := by
      rcases hv with ⟨rfl, _⟩ | ⟨t, rfl⟩
      · exact .inl rfl
      · exact .inr ⟨t, rfl⟩
    have hnew := fun S => new0 S v hv0
    have hown : builtinA Try.prog CC 6 .append #[22, 22] [.nils, v] S2 = some (.ret .nils, S2) := own0 v S2 (by rcases hv0 with rfl | ⟨t, rfl⟩ <;> rfl)
    clear hv
    obtain ⟨VV, hVV⟩ : ∃ VV, VV = v := ⟨_, rfl⟩
    rcases hv0 with rfl | ⟨t, rfl⟩
    all_goals
      refine ⟨_, _, hown, ?_⟩
      conv => whnf
      refine CallQ.mono (f9n S2) ?_
      rintro r S3 ⟨c, rfl, h1, h2, k3⟩
      conv => whnf
      refine CallQ.mono (hnew S3) ?_
      rintro r S4 ⟨e, rfl, h3, k4⟩
      have hce : c < S3.next := h1.1
      have h1 := h1.keep k4
      conv => whnf
      intro b hb
      subst hb
      conv => whnf
      intro b hb
      subst hb
      conv => whnf
      refine CallQ.mono (f17z S4 c h1) ?_
      rintro r S5 ⟨rfl, h5, h6⟩
      have h3 := h3.frame h6.1 fun j h7 h8 => h6.2 j h8 (by omega)
      clear h1 k3 k4 h6
      conv => whnf
      refine CodeQ.loop (fun (i : Nat) => pat 112 [(0, VV), (7, .nils), (8, .ptr c 0), (9, .ptr e 0), (10, .nils), (72, .int .i64 0), (73, .int .i64 0)]) (fun m i S6 => S6 = S5) ?_ 0 0 _ _ rfl ⟨hVV.symm, rfl, rfl, rfl, rfl, rfl, rfl, trivial⟩
      rintro m i S6 d rfl
      subst hVV
      conv => whnf
      refine br (fun h => by exfalso; omega) (fun _ => ?_)
      conv => whnf
      have hy : elemsA (S6.new (.cells (([9] : List UInt8).map u8))) false 1 (.hnd S6.next 0 1 1) = some (([9] : List UInt8).map u8) := elems_hnd (full := [9]) (off := 0) (n := 1) (cells_new _ _) (by decide)
      refine ⟨_, _, own1 (.hnd S6.next 0 1 1) [9] (by simp) (by simp) _ hy, ?_⟩
      generalize hS7 : (S6.new _).new _ = S7
      have k7 : Keep S6 S7 := by rw [← hS7]; exact ((Keep.refl S6).new _).new _
      clear hS7 hy
      have h5 := h5.keep k7
      have h3 := h3.frame k7.next fun j _ h8 => k7.mem j h8
      clear k7
      conv => whnf
      refine CallQ.mono h3.take ?_
      rintro r S8 ⟨_, h9, h10⟩
      have hce2 : c ≠ e := by have := h3.1; omega
      have h5 : Cu S8 c .nils 0 := ⟨by have := h5.1; have := h10.1; omega, by have := h10.2 c h5.1 hce2; unfold St.cells; rw [this]; exact h5.2⟩
      clear h3 h10
      rename_i hr8
      have hr8' : (∃ q, r = .hnd q 0 0 1) ∨ r = .nils := by
        rcases hr8 with rfl | ⟨p, rfl, _⟩
        · exact .inr rfl
        · exact .inl ⟨p, rfl⟩
      clear hr8
      rcases hr8' with ⟨q8, rfl⟩ | rfl
      all_goals
        conv => whnf
        refine CodeQ.loop (fun (i : Nat) => pat 112 [(7, .nils), (8, .ptr c 0), (9, .ptr e 0), (92, .int .i64 0), (93, .int .i64 0)]) (fun m i S6 => S6 = S8) ?_ 0 0 _ _ rfl ⟨rfl, rfl, rfl, rfl, rfl, trivial⟩
        rintro m i S9 d rfl
        conv => whnf
        refine br (fun h => by exfalso; omega) (fun _ => ?_)
        conv => whnf
        refine CallQ.mono (f18m0 S9 c h5) ?_
        rintro r SA ⟨rfl, rfl⟩
        conv => whnf
        refine CallQ.mono (f17z SA c h5) ?_
        rintro r SB ⟨rfl, h11, h12⟩
        have h9 := h9.frame h12.1 fun j h7 h8 => h12.2 j h8 (by omega)
        conv => whnf
        refine CallQ.mono h9.left ?_
        rintro r SC ⟨rfl, rfl⟩
        conv => whnf
        refine CallQ.mono h9.take ?_
        rintro r SD ⟨hr, _, _⟩
        have hr' : ∃ w, r = w ∧ (w = .nils ∨ ∃ p, w = .hnd p 0 0 1) ∧ CallQ Try.prog CC 14 [.nils, w] SD fun r S1 => r = .bool true ∧ S1 = SD := by
          rcases hr with rfl | ⟨p, hp⟩
          · exact ⟨_, rfl, .inl rfl, f14zz SD⟩
          · exact ⟨_, rfl, .inr ⟨p, hp.1⟩, f14z SD p _ hp⟩
        clear hr
        obtain ⟨w, rfl, hw, hsame⟩ := hr'
        rcases hw with rfl | ⟨p, rfl⟩
        all_goals
          conv => whnf
          refine CallQ.mono hsame ?_
          rintro r SE ⟨rfl, rfl⟩
          conv => whnf
          refine CallQ.mono (t13 SE) ?_
          rintro r SF ⟨rfl, rfl⟩
          conv => whnf
          rfl
  obtain ⟨t, rfl⟩ : ∃ t, v = .lst (bs.map u8) t := by
    rcases hv with ⟨_, h⟩ | h
    · exact absurd (by simpa using h) hbs
    · exact h
  have hlen : 1 ≤ bs.length := by have := List.length_pos_iff.2 hbs; omega
  refine ⟨_, _, own1 _ bs hbs (by omega) S2 rfl, ?_⟩
  obtain ⟨o, ho⟩ : ∃ o, o = S2.next := ⟨_, rfl⟩
  rw [← ho]
  generalize hS3 : S2.new _ = S3
  have mo : S3.mem o = some (.cells (bs.map u8)) := by rw [← hS3, ho]; exact mem_new _ _
  have lo : o < S3.next := by rw [← hS3, ho]; exact Nat.lt_succ_self _
  clear hS3 ho
  conv => whnf
  refine CallQ.mono (f9h S3 (.hnd o 0 bs.length 1) bs (.inr ⟨_, _, _, rfl⟩) (by omega) fun S1 k => ?_) ?_
  · have := elems_hnd (S := S1) (p := o) (off := 0) (n := bs.length) (full := bs) (cells_of_mem ((k.mem o lo).trans mo)) (by omega)
    simpa using this
  rintro r S4 ⟨c, qc, wc, rfl, ⟨rfl, c1, c2⟩, c3, c4, c5, c6, k4⟩
  have lc : Liv S4 c qc bs 0 := ⟨c3, c1, c6, c2⟩
  have mo := (k4.mem o lo).trans mo
  have n4 := k4.next
  clear c1 c2
  conv => whnf
  refine CallQ.mono (f9h S4 (.lst (bs.map u8) t) bs (.inl ⟨_, _, rfl⟩) (by omega) fun _ _ => rfl) ?_
  rintro r S5 ⟨e, qe, we, rfl, ⟨rfl, e1, e2⟩, e3, e4, e5, e6, k5⟩
  have le : Liv S5 e qe bs 0 := ⟨e3, e1, e6, e2⟩
  have lc' := lc
  have lc := lc.frame k5.next (k5.mem c lc.1.1) (k5.mem qc lc.2.1)
  have mo := (k5.mem o (by omega)).trans mo
  have n5 := k5.next
  have bc : c < S4.next ∧ qc < S4.next := ⟨lc'.1.1, lc'.2.1⟩
  clear lc' e1 e2 e3 c3
  conv => whnf
  intro b hb
  subst hb
  conv => whnf
  intro b hb
  subst hb
  conv => whnf
  have emin : (if (1 : Int) < ((bs.map u8).length : Int) then (1 : Int) else ((bs.map u8).length : Int)) = ((1 : Nat) : Int) := by
    rw [List.length_map]
    split <;> omega
  have be : e < S5.next ∧ qe < S5.next := ⟨le.1.1, le.2.1⟩
  rw [emin]
  refine CallQ.mono (lc.take 1 (by omega) (by omega)) ?_
  rintro r S6 ⟨px, ⟨rfl, x1, x2⟩, x3, lc, b6⟩
  have le := le.frame b6.1 (b6.2 e le.1.1 (by omega)) (b6.2 qe le.2.1 (by omega))
  have mo := (b6.2 o (by omega) (by omega)).trans mo
  have n6 := b6.1
  have bx : c < px ∧ qc < px ∧ e < px ∧ qe < px ∧ o < px := ⟨by omega, by omega, by omega, by omega, by omega⟩
  clear b6
  have ex : ((bs.drop 0).take 1).length = 1 := by simp; omega
  generalize (bs.drop 0).take 1 = xs at *
  rw [ex]
  conv => whnf
  refine CodeQ.loop (fun (i : Nat) => pat 112 [(0, .lst (bs.map u8) t), (7, .hnd o 0 bs.length 1), (8, .ptr c 0), (9, .ptr e 0), (10, .hnd px 0 1 1), (72, .int .i64 1), (73, .int .i64 i)])
    (fun m i S7 => i + m = 1 ∧ S7.next = S6.next ∧ (∀ j, j ≠ px → S7.mem j = S6.mem j) ∧ ∃ ys : List UInt8, ys.length = 1 ∧ S7.mem px = some (.cells (ys.map u8))) ?_ 1 0 _ _ ⟨by omega, rfl, fun _ _ => rfl, xs, ex, x2⟩ ⟨rfl, rfl, rfl, rfl, rfl, rfl, rfl, trivial⟩
  rintro m i S7 d ⟨hi, hn, hsm, ys, hl2, hmA⟩
  conv => whnf
  refine br (fun h => ?on1) (fun h => ?off1)
  case on1 =>
    have hlt : i < ys.length := by omega
    have hget : (ys.map u8)[0 + i * 1]? = some (u8 ys[i]) := by rw [Nat.zero_add, Nat.mul_one]; simp [hlt]
    generalize ys[i] = x at *
    conv => whnf
    refine ⟨by omega, by omega, ?_⟩
    conv => whnf
    refine ⟨_, cells_of_mem hmA, partF_of hget ?_⟩
    conv => whnf
    refine ⟨by omega, by omega, ?_⟩
    conv => whnf
    refine ⟨_, _, cells_of_mem hmA, if_pos ⟨rfl, rfl, by show 0 + i * 1 + 1 ≤ _; simp; omega⟩, ?_⟩
    conv => whnf
    refine ⟨m - 1, i + 1, by omega, ⟨by omega, hn, fun j hj => by rw [set_ne hj]; exact hsm j hj, upd_ex ys i _ _ hl2 px S7⟩, ⟨rfl, rfl, rfl, rfl, rfl, rfl, ?_, trivial⟩⟩
    rw [wrap_i64 (by omega) (by omega)]; try rfl
  conv => whnf
  have lc := lc.frame (by omega) (hsm c (by omega)) (hsm qc (by omega))
  have le := le.frame (by omega) (hsm e (by omega)) (hsm qe (by omega))
  have mo := (hsm o (by omega)).trans mo
  have bx2 : px < S7.next := by omega
  clear hsm x2 hn
  have hap := append_b47 (C := CC) (f := 6) (ds := ys) (bs := [9]) (rest := []) (y := .hnd S7.next 0 1 1) el22 (S := S7.new (.cells (([9] : List UInt8).map u8))) (n := px) (by rw [List.append_nil]; exact cells_new_ne (cells_of_mem hmA) (by omega)) rfl (elems_hnd (full := [9]) (off := 0) (n := 1) (cells_new _ _) (by decide)) (by simp) (by simp; omega)
  rw [hl2] at hap
  refine ⟨_, _, hap, ?_⟩
  generalize hS8 : (St.set _ px none).new _ = S8
  have k8 : S7.next ≤ S8.next ∧ ∀ j, j < S7.next → j ≠ px → S8.mem j = S7.mem j := by
    rw [← hS8]
    exact ⟨by show S7.next ≤ S7.next + 1 + 1; omega, fun j h1 h2 => mem_new_ne ((set_ne h2).trans (mem_new_ne rfl (by omega))) (by show j ≠ S7.next + 1; omega)⟩
  clear hS8 hap
  have lc := lc.frame k8.1 (k8.2 c (by omega) (by omega)) (k8.2 qc (by omega) (by omega))
  have le := le.frame k8.1 (k8.2 e (by omega) (by omega)) (k8.2 qe (by omega) (by omega))
  have mo := (k8.2 o (by omega) (by omega)).trans mo
  have n8 := k8.1
  clear k8
  conv => whnf
  rw [emin]
  refine CallQ.mono (le.take 1 (by omega) (by omega)) ?_
  rintro r S9 ⟨py, ⟨rfl, y1, y2⟩, y3, le, b9⟩
  have lc := lc.frame b9.1 (b9.2 c (by omega) (by omega)) (b9.2 qc (by omega) (by omega))
  have mo := (b9.2 o (by omega) (by omega)).trans mo
  clear y2
  conv => whnf
  refine CodeQ.loop (fun (i : Nat) => pat 112 [(7, .hnd o 0 bs.length 1), (8, .ptr c 0), (9, .ptr e 0), (92, .int .i64 (bs.length : Nat)), (93, .int .i64 i)])
    (fun m i SA => i + m = bs.length ∧ SA.next = S9.next ∧ (∀ j, j ≠ o → SA.mem j = S9.mem j) ∧ ∃ cs : List AV, cs.length = bs.length ∧ SA.mem o = some (.cells cs)) ?_ bs.length 0 _ _ ⟨by omega, rfl, fun _ _ => rfl, _, by simp, mo⟩ ⟨rfl, rfl, rfl, rfl, rfl, trivial⟩
  rintro m i SA d ⟨hi, hn, hsm, cs, hl3, hmo⟩
  conv => whnf
  refine br (fun h => ?on2) (fun h => ?off2)
  case on2 =>
    conv => whnf
    refine ⟨by omega, by omega, ?_⟩
    conv => whnf
    refine ⟨_, _, cells_of_mem hmo, if_pos ⟨rfl, rfl, by show 0 + i * 1 + 1 ≤ _; omega⟩, ?_⟩
    conv => whnf
    refine ⟨m - 1, i + 1, by omega, ⟨by omega, hn, fun j hj => by rw [set_ne hj]; exact hsm j hj, cs.set (0 + i * 1) (.int .u8 7), by simpa using hl3, mem_set _ _ _⟩, ⟨rfl, rfl, rfl, rfl, ?_, trivial⟩⟩
    rw [wrap_i64 (by omega) (by omega)]; try rfl
  conv => whnf
  have lc := lc.frame (by omega) (hsm c (by omega)) (hsm qc (by omega))
  have le := le.frame (by omega) (hsm e (by omega)) (hsm qe (by omega))
  refine CallQ.mono (lc.left (by omega) (by omega)) ?_
  rintro r SB ⟨rfl, rfl⟩
  conv => whnf
  refine CallQ.mono (lc.take (bs.length - (0 + 1)) (by omega) (by omega)) ?_
  rintro r SC ⟨p1, ⟨rfl, p11, p12⟩, p13, _, bC⟩
  have le' := le.frame bC.1 (bC.2 e le.1.1 (by omega)) (bC.2 qe le.2.1 (by omega))
  conv => whnf
  refine CallQ.mono (le'.left (by omega) (by omega)) ?_
  rintro r SD ⟨rfl, rfl⟩
  conv => whnf
  refine CallQ.mono (le'.take (bs.length - (0 + 1)) (by omega) (by omega)) ?_
  rintro r SE ⟨p2, ⟨rfl, p21, p22⟩, p23, _, bE⟩
  have hs := f14h SE p1 p2 _ _ _ _ ⟨rfl, by have := bE.1; omega, (bE.2 p1 p11 (by have := le.1.1; omega)).trans p12⟩ ⟨rfl, p21, p22⟩
  rw [decide_eq_true rfl] at hs
  conv => whnf
  refine CallQ.mono hs ?_
  rintro r SF ⟨rfl, rfl⟩
  conv => whnf
  refine CallQ.mono (t13 SF) ?_
  rintro r SG ⟨rfl, rfl⟩
  conv => whnf
  rfl
end Go.Proofs.Ytkbfappjlolmaaa
