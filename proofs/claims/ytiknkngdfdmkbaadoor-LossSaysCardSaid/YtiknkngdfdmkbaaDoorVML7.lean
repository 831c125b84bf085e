import Derived.Test.YtiknkngdfdmkbaaDoorVML6
namespace Go.Proofs.YtiknkngdfdmkbaaDoor
open Go.Proofs.YtiknkngdfdmkbaaDoor.VM
set_option maxRecDepth 100000
set_option linter.unusedVariables false

def lossB (l : Ls) : List UInt8 := curShort l.kind.toNat ++ curShort l.n ++ curShort l.ps.length ++ l.ps.flatMap fun p => curShort p.toNat
def build (ls : List Ls) : List UInt8 := curShort ls.length ++ ls.flatMap lossB
def bErr (ls : List Ls) : Nat := if 2048 < ls.length then 8 else if ∃ l ∈ ls, l.may = false then 1 else 0
def bBytes (ls : List Ls) : List UInt8 := if bErr ls = 0 then build ls else []

theorem may_facts {l : Ls} (h : l.may = true) : 1 ≤ l.kind ∧ l.kind ≤ 6 ∧ l.ps.length ≤ 64 ∧ ∀ p ∈ l.ps, 0 ≤ p ∧ p ≤ 4095 := by
  simpa [Ls.may, mayL] using h
theorem curs_len (ps : List Int) (h : ∀ p ∈ ps, 0 ≤ p ∧ p ≤ 4095) : (ps.flatMap fun p => curShort p.toNat).length ≤ ps.length * 10 := by
  induction ps with
  | nil => simp
  | cons p ps ih =>
    have h1 := ih (fun q hq => h q (by simp [hq]))
    have h2 := h p (by simp)
    have := curShort_len (n := p.toNat) (by omega)
    simp only [List.flatMap_cons, List.length_append, List.length_cons]
    omega
theorem lossB_len {l : Ls} (hl : l.Ok) (h : l.may = true) : (lossB l).length ≤ 670 := by
  obtain ⟨h1, h2, h3, h4⟩ := may_facts h
  have a := curs_len l.ps h4
  have b := curShort_len (n := l.kind.toNat) (by omega)
  have c := curShort_len hl.num
  have d := curShort_len (n := l.ps.length) (by omega)
  simp only [lossB, List.length_append]
  omega
theorem lossBs_len : ∀ (ls : List Ls), (∀ l ∈ ls, l.Ok) → (∀ l ∈ ls, l.may = true) → (ls.flatMap lossB).length ≤ ls.length * 670
  | [], _, _ => by simp
  | l :: ls, h1, h2 => by
    have := lossBs_len ls (fun x hx => h1 x (by simp [hx])) (fun x hx => h2 x (by simp [hx]))
    have h3 := lossB_len (h1 l (by simp)) (h2 l (by simp))
    simp only [List.flatMap_cons, List.length_append, List.length_cons]
    omega
theorem take_flat {α β : Type} (f : α → List β) (xs : List α) (i : Nat) (h : i < xs.length) : (xs.take (i + 1)).flatMap f = (xs.take i).flatMap f ++ f xs[i] := by
  rw [List.take_succ_eq_append_getElem h, List.flatMap_append]
  simp
theorem wrapu {x : Int} (h : 0 ≤ x) (h2 : x < 2 ^ 64) : IntKind.u64.wrap x = ((x.toNat : Nat) : Int) := by
  rw [wrap_u64 h (by omega)]; omega

theorem t8 (ls : List Ls) (hls : ∀ l ∈ ls, l.Ok) (s : AV) (hs : Elems s (ls.map Ls.v)) (S : St) :
    CallQ Tryd.prog LC 8 [s] S fun r S1 => Keep S S1 ∧ ∃ v, r = .tuple [v, .int .i64 (bErr ls)] ∧ Elems v ((bBytes ls).map u8) := by
  refine CallQ.of rfl (by kernel_rfl : Tryd.prog.funcs[8]? = some Tryd.f8) rfl (by decide) ?_
  rcases hs with ⟨rfl, hps⟩ | ⟨t, rfl⟩
  · obtain rfl : ls = [] := by simpa using hps
    conv => whnf
    intro c hc
    simp at hc
    subst hc
    conv => whnf
    refine CallQ.mono (t16 [] (by simp) (by simp) .nils (.inl ⟨rfl, rfl⟩) S) ?_
    rintro v S1 ⟨rfl, rfl⟩
    rw [decide_eq_false (by simp : ¬ ∃ l ∈ ([] : List Ls), l.may = false)]
    conv => whnf
    refine CallQ.mono (t19 S1 (S1.new (.cells [.nils])) S1.next 0 .nils [] (by decide) (.inl ⟨rfl, rfl⟩) ((Keep.refl S1).new _) (Nat.le_refl _) (Nat.lt_succ_self _) (cells_new _ _) (by simp)) ?_
    rintro r S2 ⟨rfl, v', h1, h2, h3, h4, h5⟩
    conv => whnf
    refine CodeQ.loop (fun (i : Nat) => pat 58 [(4, .ptr S1.next 0), (24, .int .i64 0), (25, .int .i64 0)]) (fun m i S3 => S3 = S2) ?_ 0 0 _ _ rfl ⟨rfl, rfl, rfl, trivial⟩
    intro m i S3 d e
    subst e
    conv => whnf
    intro c hc
    simp at hc
    subst hc
    conv => whnf
    refine ⟨_, h1, ?_⟩
    conv => whnf
    refine ⟨h3, _, rfl, ?_⟩
    rcases h2 with ⟨rfl, h⟩ | ⟨n, _, _, rfl, _⟩
    · exact .inl ⟨rfl, by simpa [bBytes, bErr, build] using h⟩
    · exact .inr ⟨.lost, by simp [bBytes, bErr, build, AV.shed, AV.shedLeaf]⟩
  conv => whnf
  intro c hc
  simp at hc
  cases c
  rotate_left
  · conv => whnf
    have hc : 2048 < ls.length := by simp at hc; omega
    exact ⟨.refl _, _, by show AV.tuple [.nils, .int .i64 8] = .tuple [.nils, .int .i64 _]; simp [bErr, hc], .inl ⟨rfl, by simp [bBytes, bErr, hc]⟩⟩
  have hc : ls.length ≤ 2048 := by simp at hc; omega
  conv => whnf
  refine CallQ.mono (t16 ls hls hc _ (.inr ⟨t, rfl⟩) S) ?_
  rintro v S1 ⟨rfl, rfl⟩
  by_cases hm : ∃ l ∈ ls, l.may = false
  · rw [decide_eq_true hm]
    conv => whnf
    have h2 : ¬ 2048 < ls.length := by omega
    exact ⟨.refl _, _, by show AV.tuple [.nils, .int .i64 1] = .tuple [.nils, .int .i64 _]; simp [bErr, h2, hm], .inl ⟨rfl, by simp [bBytes, bErr, h2, hm]⟩⟩
  rw [decide_eq_false hm]
  have herr : bErr ls = 0 := by
    have h2 : ¬ 2048 < ls.length := by omega
    simp only [bErr, if_neg h2, if_neg hm]
  have hby : bBytes ls = build ls := by simp [bBytes, herr]
  have hmay : ∀ l ∈ ls, l.may = true := fun l hl => by
    cases h : l.may
    · exact absurd ⟨l, hl, h⟩ hm
    · rfl
  conv => whnf
  have e1 : IntKind.u64.wrap ((List.map Ls.v ls).length : Int) = (ls.length : Int) := by rw [List.length_map]; exact wrap_u64 (by omega) (by omega)
  rw [e1]
  refine CallQ.mono (t19 S1 (S1.new (.cells [.nils])) S1.next ls.length .nils [] (by omega) (.inl ⟨rfl, rfl⟩) ((Keep.refl S1).new _) (Nat.le_refl _) (Nat.lt_succ_self _) (cells_new _ _) (by simp)) ?_
  rintro r S2 ⟨rfl, v', h1, h2, h3, h4, h5⟩
  conv => whnf
  have hn1 : S1.next < S2.next := h4
  refine CodeQ.loop (fun (i : Nat) => pat 58 [(4, .ptr S1.next 0), (5, .func (.func 19) [] [.ptr S1.next 0]), (23, .lst (ls.map Ls.v) t), (24, .int .i64 ls.length), (25, .int .i64 i)])
    (fun m i S3 => i + m = ls.length ∧ S1.next < S3.next ∧ ∃ v, S3.cells S1.next = some [v] ∧ Own S1 S3 v ((curShort ls.length ++ (ls.take i).flatMap lossB).map u8) ∧ Keep S1 S3) ?_ ls.length 0 _ _
    ⟨by omega, hn1, v', h1, by simpa using h2, h3⟩ ⟨rfl, rfl, rfl, by simp, rfl, trivial⟩
  clear h1 h2 h3 h4 h5 hn1
  rintro m i S3 d ⟨k1, k2, v, k3, k4, k5⟩
  conv => whnf
  intro c hc2
  simp at hc2
  cases c
  · simp at hc2
    conv => whnf
    refine ⟨_, k3, ?_⟩
    conv => whnf
    refine ⟨k5, _, by show _ = AV.tuple [_, .int .i64 _]; rw [herr]; rfl, ?_⟩
    rw [hby]
    obtain rfl : i = ls.length := by omega
    rw [List.take_length] at k4
    rcases k4 with ⟨rfl, h⟩ | ⟨n, _, _, rfl, _⟩
    · exact .inl ⟨rfl, h⟩
    · exact .inr ⟨.lost, rfl⟩
  simp at hc2
  have hi : i < ls.length := by omega
  conv => whnf
  refine ⟨by omega, Ls.v ls[i], by simp [hi], rfl, ?_⟩
  obtain ⟨l, hl⟩ : ∃ l, l = ls[i] := ⟨_, rfl⟩
  have hlm : l ∈ ls := by rw [hl]; simp
  have hlo := hls l hlm
  obtain ⟨m1, m2, m3, m4⟩ := may_facts (hmay l hlm)
  rw [← hl]
  conv => whnf
  have hleaf : [l.s, AV.int .i64 l.kind, AV.int .u64 l.n].all AV.leafOk = true := by
    rcases hlo.path with ⟨h, _⟩ | ⟨_, h⟩ <;> simp [h, AV.leafOk]
  refine ⟨_, _, cells_new _ _, store_agg rfl rfl hleaf, ?_⟩
  conv => whnf
  refine ⟨_, cells_set _ _ _, ?_⟩
  conv => whnf
  have hk1 := wrapu (x := l.kind) (by omega) (by omega)
  rw [hk1]
  obtain ⟨acc, hacc⟩ : ∃ acc, acc = curShort ls.length ++ (ls.take i).flatMap lossB := ⟨_, rfl⟩
  have hal : acc.length ≤ 2 ^ 30 := by
    have h1 := lossBs_len (ls.take i) (fun x hx => hls x (List.mem_of_mem_take hx)) (fun x hx => hmay x (List.mem_of_mem_take hx))
    have h2 := curShort_len (n := ls.length) (by omega)
    rw [List.length_take] at h1
    have : min i ls.length * 670 ≤ 2048 * 670 := Nat.mul_le_mul_right _ (by omega)
    rw [hacc, List.length_append]
    omega
  rw [← hacc] at k4
  have hkk : Keep S3 ((S3.new (.cells [.nils, .int .i64 0, .int .u64 0])).set S3.next (some (.cells [l.s, .int .i64 l.kind, .int .u64 l.n]))) := ((Keep.refl S3).new _).set _ _ (Nat.le_refl _)
  refine CallQ.mono (t19 S1 _ S1.next l.kind.toNat v acc (by omega) (Own.keep k4 hkk) (k5.trans hkk) (Nat.le_refl _) (by show S1.next < S3.next + 1; omega) (cells_set_ne (cells_new_ne k3 (by omega)) (by omega)) (by omega)) ?_
  rintro r S5 ⟨rfl, v5, a1, a2, a3, a4, a5⟩
  have a4' : S3.next + 1 ≤ S5.next := a4
  have a6 := a5 S3.next _ (Nat.lt_succ_self _) (by omega) (cells_set _ _ _)
  conv => whnf
  refine ⟨_, a6, ?_⟩
  conv => whnf
  refine CallQ.mono (t19 S1 S5 S1.next l.n v5 _ hlo.num a2 a3 (Nat.le_refl _) (by omega) a1 (by have := curShort_len (n := l.kind.toNat) (by omega); simp; omega)) ?_
  rintro r S6 ⟨rfl, v6, b1, b2, b3, b4, b5⟩
  have b6 := b5 S3.next _ (by omega) (by omega) a6
  conv => whnf
  refine ⟨_, b6, ?_⟩
  have hlen : (acc ++ curShort l.kind.toNat ++ curShort l.n).length ≤ 2 ^ 31 := by
    have := curShort_len (n := l.kind.toNat) (by omega)
    have := curShort_len hlo.num
    simp only [List.length_append]; omega
  have efin : IntKind.i64.wrap ((i : Int) + 1) = ((i + 1 : Nat) : Int) := by rw [wrap_i64 (by omega) (by omega)]; omega
  have eacc : curShort ls.length ++ (ls.take (i + 1)).flatMap lossB = acc ++ curShort l.kind.toNat ++ curShort l.n ++ curShort l.ps.length ++ l.ps.flatMap fun p => curShort p.toNat := by
    rw [take_flat _ _ _ hi, ← List.append_assoc, ← hacc, ← hl]
    simp [lossB]
  rcases hlo.path with ⟨hs0, hp0⟩ | ⟨t', hs0⟩
  · have hp0 : l.ps = [] := by simpa using hp0
    rw [hs0]
    rw [hs0] at b6
    conv => whnf
    refine CallQ.mono (t19 S1 S6 S1.next 0 v6 _ (by decide) b2 b3 (Nat.le_refl _) (by omega) b1 (by omega)) ?_
    rintro r S7 ⟨rfl, v7, c1, c2, c3, c4, c5⟩
    have c6 := c5 S3.next _ (by omega) (by omega) b6
    conv => whnf
    refine ⟨_, c6, ?_⟩
    conv => whnf
    refine CodeQ.loop (fun (_ : Nat) => pat 58 [(4, .ptr S1.next 0), (5, .func (.func 19) [] [.ptr S1.next 0]), (23, .lst (ls.map Ls.v) t), (24, .int .i64 ls.length), (25, .int .i64 i), (46, .int .i64 0), (47, .int .i64 0)])
      (fun _ _ S8 => S8 = S7) ?_ 0 0 _ _ rfl ⟨rfl, rfl, rfl, by simp, rfl, rfl, rfl, trivial⟩
    intro m' i' S8 d e
    subst e
    conv => whnf
    intro c hc
    simp at hc
    subst hc
    conv => whnf
    refine ⟨m - 1, i + 1, by omega, ⟨by omega, by omega, v7, c1, ?_, c3⟩, ⟨rfl, rfl, rfl, rfl, by rw [efin], trivial⟩⟩
    rw [eacc, hp0]
    simpa using c2
  · rw [hs0]
    rw [hs0] at b6
    conv => whnf
    have e7 : IntKind.u64.wrap ((List.map I64 l.ps).length : Int) = (l.ps.length : Int) := by rw [List.length_map]; exact wrap_u64 (by omega) (by omega)
    rw [e7]
    refine CallQ.mono (t19 S1 S6 S1.next l.ps.length v6 _ (by omega) b2 b3 (Nat.le_refl _) (by omega) b1 (by omega)) ?_
    rintro r S7 ⟨rfl, v7, c1, c2, c3, c4, c5⟩
    have c6 := c5 S3.next _ (by omega) (by omega) b6
    conv => whnf
    refine ⟨_, c6, ?_⟩
    conv => whnf
    refine CodeQ.loop (fun (j : Nat) => pat 58 [(4, .ptr S1.next 0), (5, .func (.func 19) [] [.ptr S1.next 0]), (23, .lst (ls.map Ls.v) t), (24, .int .i64 ls.length), (25, .int .i64 i), (45, .lst (l.ps.map I64) t'), (46, .int .i64 l.ps.length), (47, .int .i64 j)])
      (fun m' j S8 => j + m' = l.ps.length ∧ S1.next < S8.next ∧ ∃ v, S8.cells S1.next = some [v] ∧ Own S1 S8 v ((acc ++ curShort l.kind.toNat ++ curShort l.n ++ curShort l.ps.length ++ (l.ps.take j).flatMap fun p => curShort p.toNat).map u8) ∧ Keep S1 S8) ?_ l.ps.length 0 _ _
      ⟨by omega, by omega, v7, c1, by simpa using c2, c3⟩ ⟨rfl, rfl, rfl, by simp, rfl, rfl, by simp, rfl, trivial⟩
    rintro m' j S8 d ⟨g1, g2, v8, g3, g4, g5⟩
    conv => whnf
    intro c hc
    simp at hc
    cases c
    · simp at hc
      conv => whnf
      obtain rfl : j = l.ps.length := by omega
      refine ⟨m - 1, i + 1, by omega, ⟨by omega, g2, v8, g3, ?_, g5⟩, ⟨rfl, rfl, rfl, rfl, by rw [efin], trivial⟩⟩
      rw [eacc]
      simpa using g4
    · simp at hc
      conv => whnf
      have hp := m4 l.ps[j] (by simp)
      refine ⟨by omega, I64 l.ps[j], by simp [hc], rfl, ?_⟩
      conv => whnf
      have e8 := wrapu (x := l.ps[j]) hp.1 (by omega)
      rw [e8]
      have hl8 : (acc ++ curShort l.kind.toNat ++ curShort l.n ++ curShort l.ps.length ++ (l.ps.take j).flatMap fun p => curShort p.toNat).length ≤ 2 ^ 32 := by
        have h1 := curs_len (l.ps.take j) (fun x hx => m4 x (List.mem_of_mem_take hx))
        have h2 := curShort_len (n := l.ps.length) (by omega)
        rw [List.length_take] at h1
        rw [List.length_append, List.length_append]
        omega
      refine CallQ.mono (t19 S1 S8 S1.next l.ps[j].toNat v8 _ (by omega) g4 g5 (Nat.le_refl _) g2 g3 (by omega)) ?_
      rintro r S9 ⟨rfl, v9, q1, q2, q3, q4, q5⟩
      conv => whnf
      have e9 : IntKind.i64.wrap ((j : Int) + 1) = ((j + 1 : Nat) : Int) := by rw [wrap_i64 (by omega) (by omega)]; omega
      refine ⟨m' - 1, j + 1, by omega, ⟨by omega, by omega, v9, q1, ?_, q3⟩, ⟨rfl, rfl, rfl, rfl, rfl, rfl, rfl, by rw [e9], trivial⟩⟩
      rw [take_flat _ _ _ hc]
      simpa using q2
end Go.Proofs.YtiknkngdfdmkbaaDoor
