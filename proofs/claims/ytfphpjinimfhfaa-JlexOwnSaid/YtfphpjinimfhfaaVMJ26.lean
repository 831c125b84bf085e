import Derived.Test.YtfphpjinimfhfaaVMJ25
namespace Go.Proofs.Ytfphpjinimfhfaa
open Go.Proofs.Ytfphpjinimfhfaa.VM Go.RowKit
set_option maxRecDepth 100000
set_option linter.unusedVariables false
set_option maxHeartbeats 4000000
theorem cut_nil : sliceA Try.prog 25 .nils (some (.int .i64 0)) none none = some .nils := by kernel_rfl
theorem Chain.len {bs : List UInt8} : ∀ {l : List Tk} {p e : Nat}, Chain bs p l e → p + l.length ≤ e
  | [], p, e, h => by cases h; simp
  | t :: l, p, e, ⟨h1, h2, _, _, _, _, h7⟩ => by have := h7.len; simp; omega
theorem gap_part {bs : List UInt8} {p q : Nat} (h : GapsAt bs p q) (hq : q ≤ bs.length) : ∀ (j : Nat) (hj : j < ((bs.take q).drop p).length), hasB gaps ((bs.take q).drop p)[j] = true := fun j hj => by
  have hj2 : p + j < q := by simp at hj; omega
  have := h (p + j) (by omega) hj2
  rw [List.getD_eq_getElem?_getD, List.getElem?_eq_getElem (by omega)] at this
  rw [List.getElem_drop, List.getElem_take]
  exact this
theorem t4 (bs : List UInt8) (hl : bs.length ≤ 2 ^ 47) (v : AV) (hv : Elems v (bs.map u8)) (S : St) :
    CallQ Try.prog (JC false) 4 [v] S fun r S1 => r = .bool true := by
  have hal : ∀ {S Q}, Q (.bool true) S → CallQ Try.prog (JC false) 10 [] S Q := fun q => CallQ.intr (g := aliveG) rfl rfl q
  refine CallQ.ofQ rfl (by kernel_rfl : Try.prog.funcs[4]? = some Try.f4) rfl (by decide) ?_
  refine CodeQ.seq (CodeQ.wp ?_)
  conv => whnf
  refine CodeQ.seq (CodeQ.wp ?_)
  conv => whnf
  refine CallQ.mono (t11 bs hl v hv S) ?_
  rintro r S1 ⟨k1, hr⟩
  obtain ⟨l, w, f, rfl, hwf⟩ := hr.out
  conv => whnf
  refine ⟨_, _, cells_new _ _, store_agg rfl rfl rfl, ?_⟩
  conv => whnf
  generalize hS2 : (S1.new _).set _ _ = S2
  have c2 : S2.cells S1.next = some [.int .i64 w, .int .i64 f] := by rw [← hS2, cells_set]
  have n2 : S2.next = S1.next + 1 := by rw [← hS2]; rfl
  clear hS2
  refine CodeQ.seq (CodeQ.wp ?_)
  conv => whnf
  clear hr
  rcases hv with ⟨rfl, hnil⟩ | ⟨t, rfl⟩
  · obtain rfl : bs = [] := by simpa using hnil
    have hwf2 : w = 0 ∧ f = 0 ∧ (l = .nils ∨ l = .lst [] .lost) := by
      rcases hwf with ⟨q, _⟩ | ⟨_, rfl, rfl, h⟩
      · exact absurd q (by decide)
      · exact ⟨rfl, rfl, h.imp (fun q => q.1) (fun q => q)⟩
    obtain ⟨rfl, rfl, hl2⟩ := hwf2
    refine CodeQ.seq (CodeQ.wp ?_)
    rcases hl2 with rfl | rfl
    all_goals
      conv => whnf
      refine CodeQ.wp ?_
      conv => whnf
      refine CodeQ.round ?_
      conv => whnf
      refine br (fun hh => absurd hh (by decide)) (fun _ => ?_)
      conv => whnf
      refine CodeQ.wp ?_
      conv => whnf
      refine ⟨_, c2, ?_⟩
      conv => whnf
      rw [eqFault]
      refine brB (fun hw => absurd hw (by decide)) (fun hw => ?_)
      conv => whnf
      refine ⟨.nils, cut_nil, ?_⟩
      conv => whnf
      refine CodeQ.round ?_
      conv => whnf
      refine br (fun hh => absurd hh (by decide)) (fun _ => ?_)
      conv => whnf
      refine hal ?_
      conv => whnf
      rfl
  have hT : ∃ (T : List Tk) (e : Nat), ((l = .nils ∧ T = []) ∨ l = .lst (T.map Tk.v) .lost) ∧ Chain bs 0 T e ∧ e ≤ bs.length ∧ ((w == 0 && (f == 0 && true)) = true → GapsAt bs e bs.length) ∧ ((w == 0 && (f == 0 && true)) = false → w = 8 ∨ ((e : Int) ≤ f ∧ f ≤ bs.length)) := by
    rcases hwf with ⟨_, rfl, rfl, rfl⟩ | ⟨_, rfl, rfl, h⟩
    · exact ⟨[], 0, .inl ⟨rfl, rfl⟩, rfl, Nat.zero_le _, fun q => absurd q (by decide), fun _ => .inl rfl⟩
    · obtain ⟨e, h1, h2, h3, h4⟩ := lex_chain bs
      exact ⟨_, e, h, h1, h2, h3, fun q => .inr (h4 q)⟩
  clear hwf
  obtain ⟨T, e, hlT, hch, hel, hwell, hbad⟩ := hT
  have hTb := hch.len
  refine CodeQ.cut (fun (u : Unit) => pat 103 [(0, .lst (bs.map u8) t), (4, .ptr S1.next 0), (5, .int .i64 e)]) (fun _ S3 => S3.cells S1.next = some [.int .i64 w, .int .i64 f]) ?_ ?_
  · refine CodeQ.seq (CodeQ.wp ?_)
    rcases hlT with ⟨rfl, rfl⟩ | rfl
    · conv => whnf
      refine CodeQ.wp ?_
      conv => whnf
      refine CodeQ.round ?_
      conv => whnf
      refine br (fun hh => absurd hh (by decide)) (fun _ => ?_)
      conv => whnf
      obtain rfl : 0 = e := hch
      exact ⟨(), c2, ⟨rfl, rfl, rfl, trivial⟩⟩
    conv => whnf
    refine CodeQ.wp ?_
    conv => whnf
    refine CodeQ.loop (fun (q : Nat × Nat) => pat 103 [(0, .lst (bs.map u8) t), (4, .ptr S1.next 0), (5, .int .i64 q.2), (17, .lst (T.map Tk.v) .lost), (18, .int .i64 (T.map Tk.v).length), (19, .int .i64 q.1)])
      (fun m q S3 => S2.next ≤ S3.next ∧ S3.cells S1.next = some [.int .i64 w, .int .i64 f] ∧ q.1 ≤ T.length ∧ m = T.length - q.1 ∧ Chain bs q.2 (T.drop q.1) e) ?_ _ (0, 0) _ _ ⟨Nat.le_refl _, c2, Nat.zero_le _, rfl, hch⟩ ⟨rfl, rfl, rfl, rfl, rfl, rfl, trivial⟩
    rintro m ⟨i, p⟩ S3 d ⟨n3, c3, hi, hm, hc⟩
    dsimp only at *
    conv => whnf
    have hTl : (T.map Tk.v).length = T.length := by simp
    refine br (fun h1 => ?_) (fun h1 => ?_)
    rotate_left
    · have h1 : T.length ≤ i := by rw [hTl] at h1; omega
      rw [List.drop_eq_nil_of_le h1] at hc
      obtain rfl : p = e := hc
      conv => whnf
      exact ⟨(), c3, ⟨rfl, rfl, rfl, trivial⟩⟩
    have h1 : i < T.length := by rw [hTl] at h1; omega
    rw [List.drop_eq_getElem_cons h1] at hc
    have hti : (T.map Tk.v)[i]? = some T[i].v := by rw [List.getElem?_map, List.getElem?_eq_getElem h1]; rfl
    generalize T[i] = tk at *
    obtain ⟨g1, g2, g3, g4, g5, g6, g7⟩ := hc
    conv => whnf
    refine ⟨by omega, tk.v, hti, rfl, ?_⟩
    conv => whnf
    refine ⟨_, _, cells_new _ _, store_agg rfl rfl rfl, ?_⟩
    conv => whnf
    generalize hS4 : (S3.new _).set _ _ = S4
    have k4 : Low S3.next S3 S4 := by rw [← hS4]; exact ((Low.refl _ S3).new (Nat.le_refl _) _).set _ _ (Nat.le_refl _)
    have c4 : S4.cells S1.next = some [.int .i64 w, .int .i64 f] := by rw [k4.cells (by omega)]; exact c3
    have e4 : S4.cells S3.next = some (tokC tk.k tk.fr tk.to tk.s) := by rw [← hS4, cells_set]; rfl
    have n4 : S3.next ≤ S4.next := k4.1
    clear hS4 k4
    refine ⟨_, e4, ?_⟩
    conv => whnf
    refine br (fun hh => absurd hh (by omega)) (fun _ => ?_)
    conv => whnf
    refine ⟨_, e4, ?_⟩
    conv => whnf
    refine ⟨_, e4, ?_⟩
    conv => whnf
    refine br (fun hh => absurd hh (by omega)) (fun _ => ?_)
    conv => whnf
    refine ⟨_, e4, ?_⟩
    conv => whnf
    refine br (fun hh => absurd hh (by simp; omega)) (fun _ => ?_)
    conv => whnf
    refine ⟨_, e4, ?_⟩
    conv => whnf
    refine br (fun hh => absurd hh (by omega)) (fun _ => ?_)
    conv => whnf
    refine ⟨_, e4, ?_⟩
    conv => whnf
    refine br (fun hh => absurd hh (by omega)) (fun _ => ?_)
    conv => whnf
    refine ⟨_, e4, ?_⟩
    conv => whnf
    obtain ⟨t2, ht2⟩ := cut_fromto bs t p tk.fr g1 (by omega) tk.fr rfl
    refine ⟨_, ht2, ?_⟩
    conv => whnf
    have hX := gap_part g6 (by omega)
    have hXb : ((bs.take tk.fr).drop p).length ≤ bs.length := by simp; omega
    generalize (bs.take tk.fr).drop p = X at *
    refine CodeQ.loop (fun (j : Nat) => pat 103 [(0, .lst (bs.map u8) t), (4, .ptr S1.next 0), (5, .int .i64 p), (7, .ptr S3.next 0), (17, .lst (T.map Tk.v) .lost), (18, .int .i64 (T.map Tk.v).length), (19, .int .i64 i), (55, .lst (X.map u8) t2), (56, .int .i64 (X.map u8).length), (57, .int .i64 j)])
      (fun m j S5 => S5 = S4 ∧ m = X.length - j) ?_ _ 0 _ _ ⟨rfl, rfl⟩ ⟨rfl, rfl, rfl, rfl, rfl, rfl, rfl, rfl, rfl, rfl, trivial⟩
    rintro m2 j S5 d2 ⟨rfl, hm2⟩
    dsimp only at *
    have hXl : (X.map u8).length = X.length := by simp
    conv => whnf
    refine br (fun h5 => ?_) (fun h5 => ?_)
    · rw [hXl] at h5
      have h5 : j < X.length := by omega
      conv => whnf
      refine ⟨by omega, _, idx_u8 X j h5, rfl, ?_⟩
      conv => whnf
      refine CallQ.mono (t12 X[j] S5 (hX j h5)) ?_
      rintro r S6 ⟨rfl, rfl⟩
      conv => whnf
      refine ⟨X.length - (j + 1), j + 1, by omega, ⟨rfl, rfl⟩, ⟨rfl, rfl, rfl, rfl, rfl, rfl, rfl, rfl, rfl, ?_, trivial⟩⟩
      rw [wrap_i64 (by omega) (by omega)]; rfl
    · conv => whnf
      refine ⟨_, e4, ?_⟩
      conv => whnf
      refine ⟨T.length - (i + 1), (i + 1, tk.to), by omega, ⟨by omega, c4, h1, rfl, g7⟩, ⟨rfl, rfl, rfl, rfl, rfl, ?_, trivial⟩⟩
      rw [wrap_i64 (by omega) (by omega)]; rfl
  · rintro u d S3 c3
    refine CodeQ.seq (CodeQ.wp ?_)
    conv => whnf
    refine ⟨_, c3, ?_⟩
    conv => whnf
    rw [eqFault]
    refine brB (fun hw => ?_) (fun hw => ?_)
    · have hw : (w == 0 && (f == 0 && true)) = false := by cases q : (w == 0 && (f == 0 && true)) <;> simp_all
      conv => whnf
      refine ⟨_, c3, ?_⟩
      conv => whnf
      refine brEq (fun h8 => ?_) (fun h8 => ?_)
      · conv => whnf
        refine hal ?_
        conv => whnf
        rfl
      have hb := (hbad hw).resolve_left h8
      conv => whnf
      refine ⟨_, c3, ?_⟩
      conv => whnf
      refine br (fun _ => ?_) (fun hh => absurd hb.1 hh)
      conv => whnf
      refine ⟨_, c3, ?_⟩
      conv => whnf
      refine br (fun _ => ?_) (fun hh => absurd (by simp; omega) hh)
      conv => whnf
      refine hal ?_
      conv => whnf
      rfl
    have hw : (w == 0 && (f == 0 && true)) = true := by cases q : (w == 0 && (f == 0 && true)) <;> simp_all
    have hg := gap_part (hwell hw) (Nat.le_refl _)
    rw [List.take_length] at hg
    conv => whnf
    refine CodeQ.wp ?_
    conv => whnf
    obtain ⟨t2, ht2⟩ := cut_from bs t e hel
    refine ⟨_, ht2, ?_⟩
    conv => whnf
    have hXb : (bs.drop e).length ≤ bs.length := by simp
    generalize bs.drop e = X at *
    refine CodeQ.loop (fun (j : Nat) => pat 103 [(92, .lst (X.map u8) t2), (93, .int .i64 (X.map u8).length), (94, .int .i64 j)])
      (fun m j S5 => m = X.length - j) ?_ _ 0 _ _ rfl ⟨rfl, rfl, rfl, trivial⟩
    rintro m2 j S5 d2 hm2
    dsimp only at *
    have hXl : (X.map u8).length = X.length := by simp
    conv => whnf
    refine br (fun h5 => ?_) (fun h5 => ?_)
    · rw [hXl] at h5
      have h5 : j < X.length := by omega
      conv => whnf
      refine ⟨by omega, _, idx_u8 X j h5, rfl, ?_⟩
      conv => whnf
      refine CallQ.mono (t12 X[j] S5 (hg j h5)) ?_
      rintro r S6 ⟨rfl, rfl⟩
      conv => whnf
      refine ⟨X.length - (j + 1), j + 1, by omega, rfl, ⟨rfl, rfl, ?_, trivial⟩⟩
      rw [wrap_i64 (by omega) (by omega)]; rfl
    · conv => whnf
      refine hal ?_
      conv => whnf
      rfl
end Go.Proofs.Ytfphpjinimfhfaa
