import Derived.Test.YtiknkngdfdmkbaaDoorVML8
namespace Go.Proofs.YtiknkngdfdmkbaaDoor
open Go.Proofs.YtiknkngdfdmkbaaDoor.VM
set_option maxRecDepth 100000
set_option linter.unusedVariables false

theorem t9 (ls : List Ls) (hls : ∀ l ∈ ls, l.Ok) (s : AV) (hs : Elems s (ls.map Ls.v)) (S : St) :
    CallQ Tryd.prog LC 9 [s] S fun r S1 => Keep S S1 ∧ ∃ v, r = .tuple [v, .int .i64 (bErr ls)] ∧ Elems v ((bBytes ls).map u8) := by
  refine CallQ.of rfl (by kernel_rfl : Tryd.prog.funcs[9]? = some Tryd.f9) rfl (by decide) ?_
  have shedE : ∀ {S : St} {v : AV} {xs : List AV}, Own S S v xs → Elems v xs := fun h => h.elems
  rcases hs with ⟨rfl, hps⟩ | ⟨t, rfl⟩
  · obtain rfl : ls = [] := by simpa using hps
    conv => whnf
    intro c hc
    simp at hc
    subst hc
    conv => whnf
    refine CallQ.mono (t21 [] .nils (.inl ⟨rfl, rfl⟩) 0 (by decide) (by simp) S) ?_
    rintro v S1 ⟨h1, h2⟩
    conv => whnf
    refine CodeQ.loop (fun (i : Nat) => pat 61 [(0, .nils), (4, v), (5, .int .i64 0)]) (fun m i S3 => S3 = S1) ?_ 0 0 _ _ rfl ⟨rfl, rfl, rfl, trivial⟩
    intro m i S3 d e
    subst e
    conv => whnf
    intro c hc
    simp at hc
    subst hc
    conv => whnf
    refine ⟨h2, _, rfl, ?_⟩
    rw [List.nil_append, short_eq (by decide)] at h1
    rcases h1 with ⟨rfl, h⟩ | ⟨n, _, _, rfl, _⟩
    · exact .inl ⟨rfl, by simpa [bBytes, bErr, build] using h⟩
    · exact .inr ⟨.lost, by simp [bBytes, bErr, build, AV.shed, AV.shedLeaf]⟩
  conv => whnf
  intro c hc
  cases c
  rotate_left
  · conv => whnf
    have hc : 2048 < ls.length := by simp at hc; omega
    exact ⟨.refl _, _, by show AV.tuple [.nils, .int .i64 8] = .tuple [.nils, .int .i64 _]; simp [bErr, hc], .inl ⟨rfl, by simp [bBytes, bErr, hc]⟩⟩
  have hc : ls.length ≤ 2048 := by simp at hc; omega
  have hnb : ¬ 2048 < ls.length := by omega
  conv => whnf
  have e1 : IntKind.u64.wrap ((List.map Ls.v ls).length : Int) = (ls.length : Int) := by rw [List.length_map]; exact wrap_u64 (by omega) (by omega)
  rw [e1]
  refine CallQ.mono (t21 [] .nils (.inl ⟨rfl, rfl⟩) ls.length (by omega) (by simp) S) ?_
  rintro v S1 ⟨h1, h2⟩
  rw [List.nil_append, short_eq (by omega)] at h1
  conv => whnf
  refine CodeQ.loop (fun (q : Nat × AV) => pat 61 [(0, .lst (ls.map Ls.v) t), (4, q.2), (5, .int .i64 q.1)])
    (fun m q S3 => q.1 + m = ls.length ∧ Own S S3 q.2 ((curShort ls.length ++ (ls.take q.1).flatMap lossB).map u8) ∧ Keep S S3 ∧ ∀ l ∈ ls.take q.1, l.may = true) ?_ ls.length (0, v) _ _
    ⟨by simp, by simpa using h1, h2, by simp⟩ ⟨rfl, rfl, rfl, trivial⟩
  rintro m ⟨i, v⟩ S3 d ⟨k1, k4, k5, kmay⟩
  dsimp only at k1 k4 kmay ⊢
  conv => whnf
  intro c hc2
  simp at hc2
  cases c
  · simp at hc2
    conv => whnf
    obtain rfl : i = ls.length := by omega
    rw [List.take_length] at k4 kmay
    have hm : ¬ ∃ l ∈ ls, l.may = false := fun ⟨l, hl, h⟩ => by rw [kmay l hl] at h; cases h
    have herr : bErr ls = 0 := by simp only [bErr, if_neg hnb, if_neg hm]
    have hby : bBytes ls = build ls := by simp [bBytes, herr]
    refine ⟨k5, _, by show _ = AV.tuple [_, .int .i64 _]; rw [herr]; rfl, ?_⟩
    rw [hby]
    rcases k4 with ⟨rfl, h⟩ | ⟨n, _, _, rfl, _⟩
    · exact .inl ⟨rfl, h⟩
    · exact .inr ⟨.lost, rfl⟩
  simp at hc2
  have hi : i < ls.length := by omega
  conv => whnf
  refine ⟨by omega, Ls.v ls[i], by simp [hi], rfl, ?_⟩
  obtain ⟨l, hl⟩ : ∃ l, l = ls[i] := ⟨_, rfl⟩
  have hlm : l ∈ ls := by rw [hl]; simp
  have hlo := hls l hlm
  rw [← hl]
  conv => whnf
  have hleaf : [l.s, AV.int .i64 l.kind, AV.int .u64 l.n].all AV.leafOk = true := by
    rcases hlo.path with ⟨h, _⟩ | ⟨_, h⟩ <;> simp [h, AV.leafOk]
  refine ⟨_, _, cells_new _ _, store_agg rfl rfl hleaf, ?_⟩
  conv => whnf
  refine ⟨_, cells_set _ _ _, ?_⟩
  conv => whnf
  obtain ⟨S4, hS4⟩ : ∃ S4, S4 = (S3.new (.cells [.nils, .int .i64 0, .int .u64 0])).set S3.next (some (.cells [l.s, .int .i64 l.kind, .int .u64 l.n])) := ⟨_, rfl⟩
  have hkk : Keep S3 S4 := by rw [hS4]; exact ((Keep.refl S3).new _).set _ _ (Nat.le_refl _)
  have hx4 : S4.cells S3.next = some [l.s, .int .i64 l.kind, .int .u64 l.n] := by rw [hS4]; exact cells_set _ _ _
  have hn4 : S4.next = S3.next + 1 := by rw [hS4]; rfl
  have hg : (S3.new (.cells [ofLeaf (.slice none 0 0), ofLeaf (.int .i64 0), ofLeaf (.int .u64 0)])).set S3.next (some (.cells [l.s, .int .i64 l.kind, .int .u64 l.n])) = S4 := hS4.symm
  rw [hg]
  refine CallQ.mono (t22' l hlo S4) ?_
  rintro _ S4 ⟨rfl, rfl⟩
  cases hmay : l.may
  · conv => whnf
    have hm : ∃ l ∈ ls, l.may = false := ⟨l, hlm, hmay⟩
    have h2 : ¬ 2048 < ls.length := by omega
    exact ⟨k5.trans hkk, _, by show AV.tuple [.nils, .int .i64 1] = .tuple [.nils, .int .i64 _]; simp only [bErr, if_neg h2, if_pos hm]; rfl, .inl ⟨rfl, by simp [bBytes, bErr, h2, hm]⟩⟩
  obtain ⟨m1, m2, m3, m4⟩ := may_facts hmay
  conv => whnf
  refine ⟨[0, 1, 2, 3, 5, 6, 8, 9, 10, 11, 4, 7, 12, 13], [(4, [6, 9, 11]), (7, [9, 11])], by kernel_rfl, by kernel_rfl, by kernel_rfl, ?_⟩
  conv => whnf
  refine ⟨_, hx4, ?_⟩
  conv => whnf
  refine ⟨_, hx4, ?_⟩
  conv => whnf
  refine ⟨_, hx4, ?_⟩
  have hk1 := wrapu (x := l.kind) (by omega) (by omega)
  have hkn : l.kind.toNat < 2 ^ 64 := by omega
  have efin : IntKind.i64.wrap ((i : Int) + 1) = ((i + 1 : Nat) : Int) := by rw [wrap_i64 (by omega) (by omega)]; omega
  have hlc : ∀ {n : Nat}, n < 2 ^ 64 → (curShort n).length ≤ 10 := curShort_len
  have hl1 := hlc hkn
  have hl2 := hlc hlo.num
  have hl3 := hlc (n := l.ps.length) (by omega)
  have hl4 := curs_len l.ps m4
  have hout : (curShort ls.length ++ (ls.take i).flatMap lossB).length ≤ 2 ^ 30 := by
    have h1 := lossBs_len (ls.take i) (fun x hx => hls x (List.mem_of_mem_take hx)) kmay
    have h2 := curShort_len (n := ls.length) (by omega)
    rw [List.length_take] at h1
    have : min i ls.length * 670 ≤ 2048 * 670 := Nat.mul_le_mul_right _ (by omega)
    rw [List.length_append]
    omega
  have hmay' : ∀ x ∈ ls.take (i + 1), x.may = true := by
    intro x hx
    rw [List.take_succ_eq_append_getElem hi] at hx
    rcases List.mem_append.1 hx with hx | hx
    · exact kmay x hx
    · obtain rfl : x = ls[i] := by simpa using hx
      rw [← hl]; exact hmay
  have rd : ∀ {S5 : St}, Keep S4 S5 → S5.cells S3.next = some [l.s, .int .i64 l.kind, .int .u64 l.n] := fun h => by
    unfold St.cells at *
    rw [h.mem S3.next (by omega)]; exact hx4
  rcases hlo.path with ⟨hs0, hp0⟩ | ⟨t', hs0⟩
  · have hp0 : l.ps = [] := by simpa using hp0
    rw [hs0] at rd ⊢
    conv => whnf
    rw [hk1]
    refine CallQ.mono (t21 [] .nils (.inl ⟨rfl, rfl⟩) l.kind.toNat hkn (by simp) S4) ?_
    rintro b1 S5 ⟨a1, a2⟩
    conv => whnf
    have r1 := rd a2
    refine ⟨stab_load rfl rfl rfl rfl rfl (by show (S5.cells S3.next).bind _ = _; rw [r1]; rfl), stab_load rfl rfl rfl rfl rfl (by show (S5.cells S3.next).bind _ = _; rw [r1]; rfl), ⟨_, rfl, .inr ⟨_, _, _, rfl, rfl, rfl, rfl⟩⟩, ?_⟩
    conv => whnf
    refine CallQ.mono (t21 _ b1 a1.elems l.n hlo.num (by rw [short_eq hkn]; simp; omega) S5) ?_
    rintro b2 S6 ⟨b1, b2⟩
    conv => whnf
    have r2 := rd (a2.trans b2)
    refine ⟨stab_load rfl rfl rfl rfl rfl (by show (S6.cells S3.next).bind _ = _; rw [r2]; rfl), ⟨_, rfl, .inr ⟨_, _, _, rfl, rfl, rfl, rfl⟩⟩, ?_⟩
    conv => whnf
    refine CallQ.mono (t21 _ _ b1.elems 0 (by decide) (by rw [short_eq hkn, short_eq hlo.num]; simp; omega) S6) ?_
    rintro b3 S7 ⟨c1, c2⟩
    conv => whnf
    have r3 := rd ((a2.trans b2).trans c2)
    refine CodeQ.loop (fun (_ : Nat) => pat 61 [(0, .lst (ls.map Ls.v) t), (4, v), (5, .int .i64 i), (6, .ptr S3.next 0), (7, b3), (8, .int .i64 0)]) (fun _ _ S8 => S8 = S7) ?_ 0 0 _ _ rfl ⟨rfl, rfl, rfl, rfl, rfl, rfl, trivial⟩
    intro m' i' S8 d e
    subst e
    conv => whnf
    refine ⟨_, r3, ?_⟩
    conv => whnf
    intro c hc
    simp at hc
    subst hc
    conv => whnf
    have hks : Keep S3 S8 := hkk.trans ((a2.trans b2).trans c2)
    rw [short_eq hkn, short_eq hlo.num, short_eq (by decide)] at c1
    obtain ⟨r, S9, q1, q2, q3⟩ := Own.append (f := 9) (C := LC) el23 rfl (Own.keep k4 hks) (k5.trans hks) (c1.elems.run S8 false 1) (shed_u8 _) (wellA_u8 _) (wellA_u8 _) (by rw [List.length_map, List.length_map]; simp; simp at hout; have := hlc (n := 0) (by decide); omega)
    refine ⟨r, S9, q1, ?_⟩
    conv => whnf
    refine ⟨m - 1, (i + 1, r), by omega, ⟨by show i + 1 + _ = _; omega, ?_, q3, hmay'⟩, ⟨rfl, rfl, by rw [efin], trivial⟩⟩
    rw [take_flat _ _ _ hi, ← hl]
    simpa [lossB, hp0] using q2
  · rw [hs0] at rd ⊢
    conv => whnf
    rw [hk1]
    refine CallQ.mono (t21 [] .nils (.inl ⟨rfl, rfl⟩) l.kind.toNat hkn (by simp) S4) ?_
    rintro b1 S5 ⟨a1, a2⟩
    conv => whnf
    have r1 := rd a2
    refine ⟨stab_load rfl rfl rfl rfl rfl (by show (S5.cells S3.next).bind _ = _; rw [r1]; rfl), stab_load rfl rfl rfl rfl rfl (by show (S5.cells S3.next).bind _ = _; rw [r1]; rfl), ⟨_, rfl, .inr ⟨_, _, _, rfl, rfl, rfl, rfl⟩⟩, ?_⟩
    conv => whnf
    refine CallQ.mono (t21 _ b1 a1.elems l.n hlo.num (by rw [short_eq hkn]; simp; omega) S5) ?_
    rintro b2 S6 ⟨b1, b2⟩
    conv => whnf
    have r2 := rd (a2.trans b2)
    refine ⟨stab_load rfl rfl rfl rfl rfl (by show (S6.cells S3.next).bind _ = _; rw [r2]; rfl), ⟨_, rfl, .inr ⟨_, _, _, rfl, rfl, rfl, rfl⟩⟩, ?_⟩
    conv => whnf
    have e7 : IntKind.u64.wrap ((List.map I64 l.ps).length : Int) = (l.ps.length : Int) := by rw [List.length_map]; exact wrap_u64 (by omega) (by omega)
    rw [e7]
    refine CallQ.mono (t21 _ _ b1.elems l.ps.length (by omega) (by rw [short_eq hkn, short_eq hlo.num]; simp; omega) S6) ?_
    rintro b3 S7 ⟨c1, c2⟩
    rw [short_eq hkn, short_eq hlo.num, short_eq (by omega)] at c1
    conv => whnf
    refine CodeQ.loop (fun (q : Nat × AV) => pat 61 [(0, .lst (ls.map Ls.v) t), (4, v), (5, .int .i64 i), (6, .ptr S3.next 0), (7, q.2), (8, .int .i64 q.1)])
      (fun m' q S8 => q.1 + m' = l.ps.length ∧ Keep S4 S8 ∧ Elems q.2 ((curShort l.kind.toNat ++ curShort l.n ++ curShort l.ps.length ++ (l.ps.take q.1).flatMap fun p => curShort p.toNat).map u8)) ?_ l.ps.length (0, b3) _ _
      ⟨by simp, (a2.trans b2).trans c2, by simpa using c1.elems⟩ ⟨rfl, rfl, rfl, rfl, rfl, rfl, trivial⟩
    rintro m' ⟨j, b⟩ S8 d ⟨g1, g2, g3⟩
    dsimp only at g1 g3 ⊢
    have r3 := rd g2
    conv => whnf
    refine ⟨_, r3, ?_⟩
    conv => whnf
    intro c hc
    simp at hc
    have hks : Keep S3 S8 := hkk.trans g2
    have hl8 : ((l.ps.take j).flatMap fun p => curShort p.toNat).length ≤ 640 := by
      have h1 := curs_len (l.ps.take j) (fun x hx => m4 x (List.mem_of_mem_take hx))
      rw [List.length_take] at h1
      omega
    cases c
    · simp at hc
      conv => whnf
      obtain rfl : j = l.ps.length := by omega
      rw [List.take_length] at g3 hl8
      obtain ⟨r, S9, q1, q2, q3⟩ := Own.append (f := 9) (C := LC) el23 rfl (Own.keep k4 hks) (k5.trans hks) (g3.run S8 false 1) (shed_u8 _) (wellA_u8 _) (wellA_u8 _) (by
        simp only [List.length_map, List.length_append] at hout ⊢; omega)
      refine ⟨r, S9, q1, ?_⟩
      conv => whnf
      refine ⟨m - 1, (i + 1, r), by omega, ⟨by show i + 1 + _ = _; omega, ?_, q3, hmay'⟩, ⟨rfl, rfl, by rw [efin], trivial⟩⟩
      rw [take_flat _ _ _ hi, ← hl]
      simpa [lossB] using q2
    · simp at hc
      conv => whnf
      refine ⟨_, r3, ?_⟩
      have hp := m4 l.ps[j] (by simp)
      conv => whnf
      refine ⟨by omega, I64 l.ps[j], by simp [hc], rfl, ?_⟩
      conv => whnf
      have e8 := wrapu (x := l.ps[j]) hp.1 (by omega)
      rw [e8]
      refine CallQ.mono (t21 _ b g3 l.ps[j].toNat (by omega) (by simp only [List.length_append] at hl8 ⊢; omega) S8) ?_
      rintro b4 S9 ⟨f1, f2⟩
      rw [short_eq (by omega)] at f1
      conv => whnf
      have e9 : IntKind.i64.wrap ((j : Int) + 1) = ((j + 1 : Nat) : Int) := by rw [wrap_i64 (by omega) (by omega)]; omega
      refine ⟨m' - 1, (j + 1, b4), by omega, ⟨by show j + 1 + _ = _; omega, g2.trans f2, ?_⟩, ⟨rfl, rfl, rfl, rfl, rfl, by rw [e9], trivial⟩⟩
      rw [take_flat _ _ _ hc]
      simpa using f1.elems
end Go.Proofs.YtiknkngdfdmkbaaDoor
