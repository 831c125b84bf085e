import Derived.Test.YtmkmakokgfigoaaDoorVMO3
namespace Go.Proofs.YtmkmakokgfigoaaDoor
open Go.Proofs.YtmkmakokgfigoaaDoor.VM
set_option maxRecDepth 100000
set_option linter.unusedVariables false
set_option linter.unusedSimpArgs false

theorem But.cells {c rb : Nat} {S S1 : St} (h : But c rb S S1) {j : Nat} {cs : List AV} (hc : S.cells j = some cs) (hj : j < S.next) (h1 : j ≠ c) (h2 : j ≠ rb) : S1.cells j = some cs := by
  unfold St.cells at *; rw [h.mem j hj h1 h2]; exact hc
theorem nd_leaf (kind : Int) (n : Nat) (neg : Bool) (dg : List UInt8) (ex : Int) (tx : List UInt8) (fb fk fd : Sl) (a b c : List AV) : [AV.int .i64 kind, .int .u64 n, .bool neg, .str dg, .int .i64 ex, .str tx, slV fb a, slV fk b, slV fd c].all AV.leafOk = true := by cases fb <;> cases fk <;> cases fd <;> rfl
theorem slV_leaf (f : Sl) (xs : List AV) : (slV f xs).leafOk = true := by cases f <;> rfl
theorem cells_keep {S S1 : St} (h : Keep S S1) {j : Nat} (hj : j < S.next) : S1.cells j = S.cells j := by unfold St.cells; rw [h.mem j hj]
def I (n : Nat) : AV := .int .i64 n
/-- What walk leaves. -/
def WRes (sz dp s p d c e : Nat) (S : St) (r : AV) (S1 : St) : Prop :=
  But sz dp S S1 ∧ ∃ s' p' : Nat, S1.cells sz = some [.int .i64 s'] ∧ S1.cells dp = some [.int .i64 p'] ∧ ((s + c ≤ 1024 ∧ r = .bool true ∧ s' = s + c ∧ p' = max p (d + e - 1)) ∨ (1024 < s + c ∧ r = .bool false))

set_option maxHeartbeats 2000000 in
theorem t36 : ∀ (m : Nat) (x : Nd), x.Ok → cnt x ≤ m → ∀ (S : St) (sz dp s p d : Nat), S.cells sz = some [.int .i64 s] → S.cells dp = some [.int .i64 p] → sz < S.next → dp < S.next → sz ≠ dp → s ≤ 1024 → d ≤ s + 1 → 1 ≤ d →
    CallQ Tryd.prog TC 36 [x.v, .int .i64 d, .func (.func 41) [] [.ptr sz 0, .ptr dp 0]] S fun r S1 => WRes sz dp s p d (cnt x) (dep x) S r S1 := by
  intro m
  induction m with
  | zero => intro x _ hx; have := cnt_pos x; omega
  | succ m ih =>
  intro x hx hm S sz dp s p d h1 h2 hsz hdp hne hs hd hd1
  have t := t41 x
  obtain ⟨kind, n, neg, dg, ex, tx, fb, bs, fk, keys, fd, kids⟩ := x
  obtain ⟨ok1, ok2, ok3, ok4, ok5, ok6, ok7, ok8⟩ := hx
  rw [oks_iff] at ok7 ok8
  simp only [cnt] at hm
  refine CallQ.of rfl (by kernel_rfl : Tryd.prog.funcs[36]? = some Tryd.f36) rfl (by decide) ?_
  conv => whnf
  refine CallQ.mono (t S sz dp s p d h1 h2 hne (by omega)) ?_
  rintro _ S1 ⟨rfl, g1, g2, b1⟩
  have hn1 := b1.next
  by_cases hs1 : s + 1 ≤ 1024
  rotate_left
  · rw [decide_eq_false hs1]
    conv => whnf
    exact ⟨b1, _, _, g1, g2, .inr ⟨by simp only [cnt]; omega, rfl⟩⟩
  rw [decide_eq_true hs1]
  -- what a list of nodes leaves
  have kid : ∀ (y : Nd), (y ∈ keys ∨ y ∈ kids) → ∀ (S : St) (s p : Nat), S.cells sz = some [.int .i64 s] → S.cells dp = some [.int .i64 p] → sz < S.next → dp < S.next → s ≤ 1024 → d + 1 ≤ s + 1 →
      CallQ Tryd.prog TC 36 [y.v, .int .i64 (d + 1 : Nat), .func (.func 41) [] [.ptr sz 0, .ptr dp 0]] S fun r S1 => WRes sz dp s p (d + 1) (cnt y) (dep y) S r S1 := by
    intro y hy S s p a1 a2 a3 a4 a5 a6
    have hc : cnt y ≤ m := by
      rcases hy with hy | hy
      · have := cnt_mem hy; omega
      · have := cnt_mem hy; omega
    have hok : y.Ok := by
      rcases hy with hy | hy
      · exact ok7 y hy
      · exact ok8 y hy
    exact ih y hok hc S sz dp s p (d + 1) a1 a2 a3 a4 hne a5 a6 (by omega)
  have ed : IntKind.i64.wrap ((d : Int) + 1) = ((d + 1 : Nat) : Int) := by rw [wrap_i64 (by omega) (by omega)]; omega
  conv => whnf
  intro c hc
  rcases fk with _ | tk <;> rcases fd with _ | td
  · have hk0 := ok2 rfl
    have hd0 := ok3 rfl
    subst hk0
    subst hd0
    cases c
    · conv => whnf
      refine CodeQ.loop (fun (j : Nat) => pat 82 [(1, .int .i64 d), (2, .func (.func 41) [] [.ptr sz 0, .ptr dp 0]), (62, .lst [.nils, .nils] .full), (63, .int .i64 2), (64, .int .i64 j)])
        (fun m j S2 => j + m = 2 ∧ But sz dp S S2 ∧ ∃ s2 p2 : Nat, S2.cells sz = some [.int .i64 s2] ∧ S2.cells dp = some [.int .i64 p2] ∧ s2 = s + 1 + (if 0 < j then cnts [] else 0) + (if 1 < j then cnts [] else 0) ∧ s2 ≤ 1024 ∧
          p2 = max (max p d) (d + max (if 0 < j then deps [] else 0) (if 1 < j then deps [] else 0))) ?_ 2 0 _ _
        ⟨by omega, b1, s + 1, max p d, g1, g2, (by first | omega | (simp; done) | (simp; omega)), hs1, (by first | omega | (simp; done) | (simp; omega))⟩ ⟨rfl, rfl, rfl, rfl, rfl, trivial⟩
      rintro m2 j S2 d' ⟨q0, q1, s2, p2, q2, q3, q4, q5, q6⟩
      have z1 : cnts [] = 0 := rfl
      have z2 : deps [] = 0 := rfl
      have hn2 := q1.next
      conv => whnf
      intro cj hcj
      have hj : j = 0 ∨ j = 1 ∨ j = 2 := by omega
      rcases hj with rfl | rfl | rfl
      · simp at hcj
        subst hcj
        obtain rfl : m2 = 2 := by omega
        rw [if_neg (by decide), if_neg (by decide)] at q4 q6
        conv => whnf
        refine ⟨by decide, _, rfl, rfl, ?_⟩
        conv => whnf
        refine CodeQ.loop (fun (i : Nat) => pat 82 [(1, .int .i64 d), (2, .func (.func 41) [] [.ptr sz 0, .ptr dp 0]), (62, .lst [.nils, .nils] .full), (63, .int .i64 2), (64, .int .i64 0), (69, .int .i64 0), (70, .int .i64 0)]) (fun m' i S3 => S3 = S2) ?_ 0 0 _ _ rfl ⟨rfl, rfl, rfl, rfl, rfl, rfl, rfl, trivial⟩
        rintro m' i S3 d2 rfl
        conv => whnf
        intro c3 hc3
        simp at hc3
        subst hc3
        conv => whnf
        refine ⟨1, 1, by omega, ⟨by omega, q1, s2, p2, q2, q3, (by first | (simp [cnts]; done) | (simp [cnts]; omega) | omega), q5, (by first | (simp [deps]; done) | (simp [deps]; omega) | omega)⟩, ⟨rfl, rfl, rfl, rfl, rfl, trivial⟩⟩
      · simp at hcj
        subst hcj
        obtain rfl : m2 = 1 := by omega
        rw [if_pos (by decide), if_neg (by decide)] at q4 q6
        conv => whnf
        refine ⟨by decide, _, rfl, rfl, ?_⟩
        conv => whnf
        refine CodeQ.loop (fun (i : Nat) => pat 82 [(1, .int .i64 d), (2, .func (.func 41) [] [.ptr sz 0, .ptr dp 0]), (62, .lst [.nils, .nils] .full), (63, .int .i64 2), (64, .int .i64 1), (69, .int .i64 0), (70, .int .i64 0)]) (fun m' i S3 => S3 = S2) ?_ 0 0 _ _ rfl ⟨rfl, rfl, rfl, rfl, rfl, rfl, rfl, trivial⟩
        rintro m' i S3 d2 rfl
        conv => whnf
        intro c3 hc3
        simp at hc3
        subst hc3
        conv => whnf
        refine ⟨0, 2, by omega, ⟨by omega, q1, s2, p2, q2, q3, (by first | (simp [cnts]; done) | (simp [cnts]; omega) | omega), q5, (by first | (simp [deps]; done) | (simp [deps]; omega) | omega)⟩, ⟨rfl, rfl, rfl, rfl, rfl, trivial⟩⟩
      · simp at hcj
        subst hcj
        conv => whnf
        rw [if_pos (by decide), if_pos (by decide)] at q4 q6
        refine ⟨q1, s2, p2, q2, q3, .inl ⟨?_, rfl, ?_, ?_⟩⟩
        · simp only [cnt]; omega
        · simp only [cnt]; omega
        · simp only [dep]; omega
    · conv => whnf
      intro c2 h2'
      cases c2
      · conv => whnf
        refine CodeQ.loop (fun (j : Nat) => pat 82 [(1, .int .i64 d), (2, .func (.func 41) [] [.ptr sz 0, .ptr dp 0]), (62, .lst [.nils, .nils] .full), (63, .int .i64 2), (64, .int .i64 j)])
          (fun m j S2 => j + m = 2 ∧ But sz dp S S2 ∧ ∃ s2 p2 : Nat, S2.cells sz = some [.int .i64 s2] ∧ S2.cells dp = some [.int .i64 p2] ∧ s2 = s + 1 + (if 0 < j then cnts [] else 0) + (if 1 < j then cnts [] else 0) ∧ s2 ≤ 1024 ∧
            p2 = max (max p d) (d + max (if 0 < j then deps [] else 0) (if 1 < j then deps [] else 0))) ?_ 2 0 _ _
          ⟨by omega, b1, s + 1, max p d, g1, g2, (by first | omega | (simp; done) | (simp; omega)), hs1, (by first | omega | (simp; done) | (simp; omega))⟩ ⟨rfl, rfl, rfl, rfl, rfl, trivial⟩
        rintro m2 j S2 d' ⟨q0, q1, s2, p2, q2, q3, q4, q5, q6⟩
        have z1 : cnts [] = 0 := rfl
        have z2 : deps [] = 0 := rfl
        have hn2 := q1.next
        conv => whnf
        intro cj hcj
        have hj : j = 0 ∨ j = 1 ∨ j = 2 := by omega
        rcases hj with rfl | rfl | rfl
        · simp at hcj
          subst hcj
          obtain rfl : m2 = 2 := by omega
          rw [if_neg (by decide), if_neg (by decide)] at q4 q6
          conv => whnf
          refine ⟨by decide, _, rfl, rfl, ?_⟩
          conv => whnf
          refine CodeQ.loop (fun (i : Nat) => pat 82 [(1, .int .i64 d), (2, .func (.func 41) [] [.ptr sz 0, .ptr dp 0]), (62, .lst [.nils, .nils] .full), (63, .int .i64 2), (64, .int .i64 0), (69, .int .i64 0), (70, .int .i64 0)]) (fun m' i S3 => S3 = S2) ?_ 0 0 _ _ rfl ⟨rfl, rfl, rfl, rfl, rfl, rfl, rfl, trivial⟩
          rintro m' i S3 d2 rfl
          conv => whnf
          intro c3 hc3
          simp at hc3
          subst hc3
          conv => whnf
          refine ⟨1, 1, by omega, ⟨by omega, q1, s2, p2, q2, q3, (by first | (simp [cnts]; done) | (simp [cnts]; omega) | omega), q5, (by first | (simp [deps]; done) | (simp [deps]; omega) | omega)⟩, ⟨rfl, rfl, rfl, rfl, rfl, trivial⟩⟩
        · simp at hcj
          subst hcj
          obtain rfl : m2 = 1 := by omega
          rw [if_pos (by decide), if_neg (by decide)] at q4 q6
          conv => whnf
          refine ⟨by decide, _, rfl, rfl, ?_⟩
          conv => whnf
          refine CodeQ.loop (fun (i : Nat) => pat 82 [(1, .int .i64 d), (2, .func (.func 41) [] [.ptr sz 0, .ptr dp 0]), (62, .lst [.nils, .nils] .full), (63, .int .i64 2), (64, .int .i64 1), (69, .int .i64 0), (70, .int .i64 0)]) (fun m' i S3 => S3 = S2) ?_ 0 0 _ _ rfl ⟨rfl, rfl, rfl, rfl, rfl, rfl, rfl, trivial⟩
          rintro m' i S3 d2 rfl
          conv => whnf
          intro c3 hc3
          simp at hc3
          subst hc3
          conv => whnf
          refine ⟨0, 2, by omega, ⟨by omega, q1, s2, p2, q2, q3, (by first | (simp [cnts]; done) | (simp [cnts]; omega) | omega), q5, (by first | (simp [deps]; done) | (simp [deps]; omega) | omega)⟩, ⟨rfl, rfl, rfl, rfl, rfl, trivial⟩⟩
        · simp at hcj
          subst hcj
          conv => whnf
          rw [if_pos (by decide), if_pos (by decide)] at q4 q6
          refine ⟨q1, s2, p2, q2, q3, .inl ⟨?_, rfl, ?_, ?_⟩⟩
          · simp only [cnt]; omega
          · simp only [cnt]; omega
          · simp only [dep]; omega
      · conv => whnf
        refine CodeQ.loop (fun (i : Nat) => pat 82 [(31, .int .i64 0), (32, .int .i64 0)]) (fun m' i S3 => S3 = S1) ?_ 0 0 _ _ rfl ⟨by first | rfl | simp [vs_map], rfl, trivial⟩
        rintro m' i S3 d2 rfl
        conv => whnf
        intro c3 hc3
        simp at hc3
        subst hc3
        conv => whnf
        exact ⟨b1, s + 1, max p d, g1, g2, .inl ⟨by simp [cnt, cnts]; omega, rfl, by simp [cnt, cnts], by simp [dep, deps]⟩⟩
  · have hk0 := ok2 rfl
    subst hk0
    cases c
    · conv => whnf
      refine CodeQ.loop (fun (j : Nat) => pat 82 [(1, .int .i64 d), (2, .func (.func 41) [] [.ptr sz 0, .ptr dp 0]), (62, .lst [.nils, .lst (Nd.vs kids) .lost] .full), (63, .int .i64 2), (64, .int .i64 j)])
        (fun m j S2 => j + m = 2 ∧ But sz dp S S2 ∧ ∃ s2 p2 : Nat, S2.cells sz = some [.int .i64 s2] ∧ S2.cells dp = some [.int .i64 p2] ∧ s2 = s + 1 + (if 0 < j then cnts [] else 0) + (if 1 < j then cnts kids else 0) ∧ s2 ≤ 1024 ∧
          p2 = max (max p d) (d + max (if 0 < j then deps [] else 0) (if 1 < j then deps kids else 0))) ?_ 2 0 _ _
        ⟨by omega, b1, s + 1, max p d, g1, g2, (by first | omega | (simp; done) | (simp; omega)), hs1, (by first | omega | (simp; done) | (simp; omega))⟩ ⟨rfl, rfl, rfl, rfl, rfl, trivial⟩
      rintro m2 j S2 d' ⟨q0, q1, s2, p2, q2, q3, q4, q5, q6⟩
      have z1 : cnts [] = 0 := rfl
      have z2 : deps [] = 0 := rfl
      have hn2 := q1.next
      conv => whnf
      intro cj hcj
      have hj : j = 0 ∨ j = 1 ∨ j = 2 := by omega
      rcases hj with rfl | rfl | rfl
      · simp at hcj
        subst hcj
        obtain rfl : m2 = 2 := by omega
        rw [if_neg (by decide), if_neg (by decide)] at q4 q6
        conv => whnf
        refine ⟨by decide, _, rfl, rfl, ?_⟩
        conv => whnf
        refine CodeQ.loop (fun (i : Nat) => pat 82 [(1, .int .i64 d), (2, .func (.func 41) [] [.ptr sz 0, .ptr dp 0]), (62, .lst [.nils, .lst (Nd.vs kids) .lost] .full), (63, .int .i64 2), (64, .int .i64 0), (69, .int .i64 0), (70, .int .i64 0)]) (fun m' i S3 => S3 = S2) ?_ 0 0 _ _ rfl ⟨rfl, rfl, rfl, rfl, rfl, rfl, rfl, trivial⟩
        rintro m' i S3 d2 rfl
        conv => whnf
        intro c3 hc3
        simp at hc3
        subst hc3
        conv => whnf
        refine ⟨1, 1, by omega, ⟨by omega, q1, s2, p2, q2, q3, (by first | (simp [cnts]; done) | (simp [cnts]; omega) | omega), q5, (by first | (simp [deps]; done) | (simp [deps]; omega) | omega)⟩, ⟨rfl, rfl, rfl, rfl, rfl, trivial⟩⟩
      · simp at hcj
        subst hcj
        obtain rfl : m2 = 1 := by omega
        rw [if_pos (by decide), if_neg (by decide)] at q4 q6
        conv => whnf
        refine ⟨by decide, _, rfl, rfl, ?_⟩
        conv => whnf

        refine CodeQ.loop (fun (i : Nat) => pat 82 [(1, .int .i64 d), (2, .func (.func 41) [] [.ptr sz 0, .ptr dp 0]), (62, .lst [.nils, .lst (Nd.vs kids) .lost] .full), (63, .int .i64 2), (64, .int .i64 1), (68, .lst (Nd.vs kids) .lost), (69, .int .i64 (kids.length : Nat)), (70, .int .i64 i)])
          (fun m' i S3 => i + m' = kids.length ∧ But sz dp S S3 ∧ ∃ s3 p3 : Nat, S3.cells sz = some [.int .i64 s3] ∧ S3.cells dp = some [.int .i64 p3] ∧ s3 = s2 + cnts (kids.take i) ∧ s3 ≤ 1024 ∧ p3 = max p2 (d + deps (kids.take i))) ?_ kids.length 0 _ _
          ⟨by simp, q1, s2, p2, q2, q3, by simp [cnts], q5, by simp [deps]; omega⟩ ⟨rfl, rfl, rfl, rfl, rfl, rfl, by simp [vs_map], rfl, trivial⟩
        rintro m' i S3 d2 ⟨u1, u2, s3, p3, u3, u4, u5, u6, u7⟩
        conv => whnf
        intro c3 hc3
        simp [vs_map] at hc3
        cases c3
        · simp at hc3
          obtain rfl : i = kids.length := by omega
          rw [List.take_length] at u5 u7
          conv => whnf
          refine ⟨0, 2, by omega, ⟨by omega, u2, s3, p3, u3, u4, (by first | (simp; done) | (simp; omega) | omega), u6, (by first | (simp; done) | (simp; omega) | omega)⟩, ⟨rfl, rfl, rfl, rfl, rfl, trivial⟩⟩
        simp at hc3
        conv => whnf
        have hmem : kids[i] ∈ kids := by simp
        have hcs := cnts_take kids i hc3
        have hds := deps_take kids i hc3
        have hcl := cnts_le kids (i + 1)
        obtain ⟨y, hy⟩ : ∃ y, y = kids[i] := ⟨_, rfl⟩
        rw [← hy] at hmem hcs hds
        have hget : (Nd.vs kids)[i]? = some y.v := by rw [vs_map, hy]; simp [hc3]
        have ky := kid y (.inr hmem)
        have hdy := dep_pos y
        obtain ⟨kind', n', neg', dg', ex', tx', fb', bs', fk', keys', fd', kids'⟩ := y
        refine ⟨by omega, _, hget, rfl, ?_⟩
        conv => whnf
        refine ⟨_, _, cells_new _ _, store_agg rfl rfl (nd_leaf ..), ?_⟩
        conv => whnf
        generalize hS4 : (S3.new _).set S3.next _ = S4
        have kk4 : Keep S3 S4 := by rw [← hS4]; exact ((Keep.refl S3).new _).set _ _ (Nat.le_refl _)
        have x4 : S4.cells S3.next = some [.int .i64 kind', .int .u64 n', .bool neg', .str dg', .int .i64 ex', .str tx', slV fb' (bs'.map u8), slV fk' (Nd.vs keys'), slV fd' (Nd.vs kids')] := by rw [← hS4]; exact cells_set _ _ _
        refine ⟨_, x4, ?_⟩
        conv => whnf
        rw [ed]
        have hn3 := u2.next
        have hn4 := kk4.next
        refine CallQ.mono (ky S4 s3 p3 (by rw [cells_keep kk4 (by omega)]; exact u3) (by rw [cells_keep kk4 (by omega)]; exact u4) (by omega) (by omega) u6 (by omega)) ?_
        rintro r S5 ⟨w1, s5, p5, w2, w3, w4⟩
        have w1' : But sz dp S S5 := (u2.trans (.of kk4)).trans w1
        rcases w4 with ⟨w5, rfl, w6, w7⟩ | ⟨w5, rfl⟩
        · conv => whnf
          refine ⟨m' - 1, i + 1, by omega, ⟨by omega, w1', s5, p5, w2, w3, by omega, by omega, by omega⟩, ⟨rfl, rfl, rfl, rfl, rfl, rfl, rfl, ?_, trivial⟩⟩
          rw [wrap_i64 (by omega) (by omega)]; rfl
        · conv => whnf
          exact ⟨w1', s5, p5, w2, w3, .inr ⟨by simp only [cnt]; omega, rfl⟩⟩
      · simp at hcj
        subst hcj
        conv => whnf
        rw [if_pos (by decide), if_pos (by decide)] at q4 q6
        refine ⟨q1, s2, p2, q2, q3, .inl ⟨?_, rfl, ?_, ?_⟩⟩
        · simp only [cnt]; omega
        · simp only [cnt]; omega
        · simp only [dep]; omega
    · conv => whnf
      intro c2 h2'
      cases c2
      · conv => whnf
        refine CodeQ.loop (fun (j : Nat) => pat 82 [(1, .int .i64 d), (2, .func (.func 41) [] [.ptr sz 0, .ptr dp 0]), (62, .lst [.nils, .lst (Nd.vs kids) .lost] .full), (63, .int .i64 2), (64, .int .i64 j)])
          (fun m j S2 => j + m = 2 ∧ But sz dp S S2 ∧ ∃ s2 p2 : Nat, S2.cells sz = some [.int .i64 s2] ∧ S2.cells dp = some [.int .i64 p2] ∧ s2 = s + 1 + (if 0 < j then cnts [] else 0) + (if 1 < j then cnts kids else 0) ∧ s2 ≤ 1024 ∧
            p2 = max (max p d) (d + max (if 0 < j then deps [] else 0) (if 1 < j then deps kids else 0))) ?_ 2 0 _ _
          ⟨by omega, b1, s + 1, max p d, g1, g2, (by first | omega | (simp; done) | (simp; omega)), hs1, (by first | omega | (simp; done) | (simp; omega))⟩ ⟨rfl, rfl, rfl, rfl, rfl, trivial⟩
        rintro m2 j S2 d' ⟨q0, q1, s2, p2, q2, q3, q4, q5, q6⟩
        have z1 : cnts [] = 0 := rfl
        have z2 : deps [] = 0 := rfl
        have hn2 := q1.next
        conv => whnf
        intro cj hcj
        have hj : j = 0 ∨ j = 1 ∨ j = 2 := by omega
        rcases hj with rfl | rfl | rfl
        · simp at hcj
          subst hcj
          obtain rfl : m2 = 2 := by omega
          rw [if_neg (by decide), if_neg (by decide)] at q4 q6
          conv => whnf
          refine ⟨by decide, _, rfl, rfl, ?_⟩
          conv => whnf
          refine CodeQ.loop (fun (i : Nat) => pat 82 [(1, .int .i64 d), (2, .func (.func 41) [] [.ptr sz 0, .ptr dp 0]), (62, .lst [.nils, .lst (Nd.vs kids) .lost] .full), (63, .int .i64 2), (64, .int .i64 0), (69, .int .i64 0), (70, .int .i64 0)]) (fun m' i S3 => S3 = S2) ?_ 0 0 _ _ rfl ⟨rfl, rfl, rfl, rfl, rfl, rfl, rfl, trivial⟩
          rintro m' i S3 d2 rfl
          conv => whnf
          intro c3 hc3
          simp at hc3
          subst hc3
          conv => whnf
          refine ⟨1, 1, by omega, ⟨by omega, q1, s2, p2, q2, q3, (by first | (simp [cnts]; done) | (simp [cnts]; omega) | omega), q5, (by first | (simp [deps]; done) | (simp [deps]; omega) | omega)⟩, ⟨rfl, rfl, rfl, rfl, rfl, trivial⟩⟩
        · simp at hcj
          subst hcj
          obtain rfl : m2 = 1 := by omega
          rw [if_pos (by decide), if_neg (by decide)] at q4 q6
          conv => whnf
          refine ⟨by decide, _, rfl, rfl, ?_⟩
          conv => whnf

          refine CodeQ.loop (fun (i : Nat) => pat 82 [(1, .int .i64 d), (2, .func (.func 41) [] [.ptr sz 0, .ptr dp 0]), (62, .lst [.nils, .lst (Nd.vs kids) .lost] .full), (63, .int .i64 2), (64, .int .i64 1), (68, .lst (Nd.vs kids) .lost), (69, .int .i64 (kids.length : Nat)), (70, .int .i64 i)])
            (fun m' i S3 => i + m' = kids.length ∧ But sz dp S S3 ∧ ∃ s3 p3 : Nat, S3.cells sz = some [.int .i64 s3] ∧ S3.cells dp = some [.int .i64 p3] ∧ s3 = s2 + cnts (kids.take i) ∧ s3 ≤ 1024 ∧ p3 = max p2 (d + deps (kids.take i))) ?_ kids.length 0 _ _
            ⟨by simp, q1, s2, p2, q2, q3, by simp [cnts], q5, by simp [deps]; omega⟩ ⟨rfl, rfl, rfl, rfl, rfl, rfl, by simp [vs_map], rfl, trivial⟩
          rintro m' i S3 d2 ⟨u1, u2, s3, p3, u3, u4, u5, u6, u7⟩
          conv => whnf
          intro c3 hc3
          simp [vs_map] at hc3
          cases c3
          · simp at hc3
            obtain rfl : i = kids.length := by omega
            rw [List.take_length] at u5 u7
            conv => whnf
            refine ⟨0, 2, by omega, ⟨by omega, u2, s3, p3, u3, u4, (by first | (simp; done) | (simp; omega) | omega), u6, (by first | (simp; done) | (simp; omega) | omega)⟩, ⟨rfl, rfl, rfl, rfl, rfl, trivial⟩⟩
          simp at hc3
          conv => whnf
          have hmem : kids[i] ∈ kids := by simp
          have hcs := cnts_take kids i hc3
          have hds := deps_take kids i hc3
          have hcl := cnts_le kids (i + 1)
          obtain ⟨y, hy⟩ : ∃ y, y = kids[i] := ⟨_, rfl⟩
          rw [← hy] at hmem hcs hds
          have hget : (Nd.vs kids)[i]? = some y.v := by rw [vs_map, hy]; simp [hc3]
          have ky := kid y (.inr hmem)
          have hdy := dep_pos y
          obtain ⟨kind', n', neg', dg', ex', tx', fb', bs', fk', keys', fd', kids'⟩ := y
          refine ⟨by omega, _, hget, rfl, ?_⟩
          conv => whnf
          refine ⟨_, _, cells_new _ _, store_agg rfl rfl (nd_leaf ..), ?_⟩
          conv => whnf
          generalize hS4 : (S3.new _).set S3.next _ = S4
          have kk4 : Keep S3 S4 := by rw [← hS4]; exact ((Keep.refl S3).new _).set _ _ (Nat.le_refl _)
          have x4 : S4.cells S3.next = some [.int .i64 kind', .int .u64 n', .bool neg', .str dg', .int .i64 ex', .str tx', slV fb' (bs'.map u8), slV fk' (Nd.vs keys'), slV fd' (Nd.vs kids')] := by rw [← hS4]; exact cells_set _ _ _
          refine ⟨_, x4, ?_⟩
          conv => whnf
          rw [ed]
          have hn3 := u2.next
          have hn4 := kk4.next
          refine CallQ.mono (ky S4 s3 p3 (by rw [cells_keep kk4 (by omega)]; exact u3) (by rw [cells_keep kk4 (by omega)]; exact u4) (by omega) (by omega) u6 (by omega)) ?_
          rintro r S5 ⟨w1, s5, p5, w2, w3, w4⟩
          have w1' : But sz dp S S5 := (u2.trans (.of kk4)).trans w1
          rcases w4 with ⟨w5, rfl, w6, w7⟩ | ⟨w5, rfl⟩
          · conv => whnf
            refine ⟨m' - 1, i + 1, by omega, ⟨by omega, w1', s5, p5, w2, w3, by omega, by omega, by omega⟩, ⟨rfl, rfl, rfl, rfl, rfl, rfl, rfl, ?_, trivial⟩⟩
            rw [wrap_i64 (by omega) (by omega)]; rfl
          · conv => whnf
            exact ⟨w1', s5, p5, w2, w3, .inr ⟨by simp only [cnt]; omega, rfl⟩⟩
        · simp at hcj
          subst hcj
          conv => whnf
          rw [if_pos (by decide), if_pos (by decide)] at q4 q6
          refine ⟨q1, s2, p2, q2, q3, .inl ⟨?_, rfl, ?_, ?_⟩⟩
          · simp only [cnt]; omega
          · simp only [cnt]; omega
          · simp only [dep]; omega
      · have hd0 : kids = [] := by
          rcases kids with _ | ⟨y0, l0⟩
          · rfl
          · exfalso; simp [vs_map] at h2'; try omega
        subst hd0

        conv => whnf
        refine CodeQ.loop (fun (i : Nat) => pat 82 [(31, .int .i64 0), (32, .int .i64 0)]) (fun m' i S3 => S3 = S1) ?_ 0 0 _ _ rfl ⟨by first | rfl | simp [vs_map], rfl, trivial⟩
        rintro m' i S3 d2 rfl
        conv => whnf
        intro c3 hc3
        simp at hc3
        subst hc3
        conv => whnf
        exact ⟨b1, s + 1, max p d, g1, g2, .inl ⟨by simp [cnt, cnts]; omega, rfl, by simp [cnt, cnts], by simp [dep, deps]⟩⟩
  · have hd0 := ok3 rfl
    subst hd0
    cases c
    · conv => whnf
      refine CodeQ.loop (fun (j : Nat) => pat 82 [(1, .int .i64 d), (2, .func (.func 41) [] [.ptr sz 0, .ptr dp 0]), (62, .lst [.lst (Nd.vs keys) .lost, .nils] .full), (63, .int .i64 2), (64, .int .i64 j)])
        (fun m j S2 => j + m = 2 ∧ But sz dp S S2 ∧ ∃ s2 p2 : Nat, S2.cells sz = some [.int .i64 s2] ∧ S2.cells dp = some [.int .i64 p2] ∧ s2 = s + 1 + (if 0 < j then cnts keys else 0) + (if 1 < j then cnts [] else 0) ∧ s2 ≤ 1024 ∧
          p2 = max (max p d) (d + max (if 0 < j then deps keys else 0) (if 1 < j then deps [] else 0))) ?_ 2 0 _ _
        ⟨by omega, b1, s + 1, max p d, g1, g2, (by first | omega | (simp; done) | (simp; omega)), hs1, (by first | omega | (simp; done) | (simp; omega))⟩ ⟨rfl, rfl, rfl, rfl, rfl, trivial⟩
      rintro m2 j S2 d' ⟨q0, q1, s2, p2, q2, q3, q4, q5, q6⟩
      have z1 : cnts [] = 0 := rfl
      have z2 : deps [] = 0 := rfl
      have hn2 := q1.next
      conv => whnf
      intro cj hcj
      have hj : j = 0 ∨ j = 1 ∨ j = 2 := by omega
      rcases hj with rfl | rfl | rfl
      · simp at hcj
        subst hcj
        obtain rfl : m2 = 2 := by omega
        rw [if_neg (by decide), if_neg (by decide)] at q4 q6
        conv => whnf
        refine ⟨by decide, _, rfl, rfl, ?_⟩
        conv => whnf

        refine CodeQ.loop (fun (i : Nat) => pat 82 [(1, .int .i64 d), (2, .func (.func 41) [] [.ptr sz 0, .ptr dp 0]), (62, .lst [.lst (Nd.vs keys) .lost, .nils] .full), (63, .int .i64 2), (64, .int .i64 0), (68, .lst (Nd.vs keys) .lost), (69, .int .i64 (keys.length : Nat)), (70, .int .i64 i)])
          (fun m' i S3 => i + m' = keys.length ∧ But sz dp S S3 ∧ ∃ s3 p3 : Nat, S3.cells sz = some [.int .i64 s3] ∧ S3.cells dp = some [.int .i64 p3] ∧ s3 = s2 + cnts (keys.take i) ∧ s3 ≤ 1024 ∧ p3 = max p2 (d + deps (keys.take i))) ?_ keys.length 0 _ _
          ⟨by simp, q1, s2, p2, q2, q3, by simp [cnts], q5, by simp [deps]; omega⟩ ⟨rfl, rfl, rfl, rfl, rfl, rfl, by simp [vs_map], rfl, trivial⟩
        rintro m' i S3 d2 ⟨u1, u2, s3, p3, u3, u4, u5, u6, u7⟩
        conv => whnf
        intro c3 hc3
        simp [vs_map] at hc3
        cases c3
        · simp at hc3
          obtain rfl : i = keys.length := by omega
          rw [List.take_length] at u5 u7
          conv => whnf
          refine ⟨1, 1, by omega, ⟨by omega, u2, s3, p3, u3, u4, (by first | (simp; done) | (simp; omega) | omega), u6, (by first | (simp; done) | (simp; omega) | omega)⟩, ⟨rfl, rfl, rfl, rfl, rfl, trivial⟩⟩
        simp at hc3
        conv => whnf
        have hmem : keys[i] ∈ keys := by simp
        have hcs := cnts_take keys i hc3
        have hds := deps_take keys i hc3
        have hcl := cnts_le keys (i + 1)
        obtain ⟨y, hy⟩ : ∃ y, y = keys[i] := ⟨_, rfl⟩
        rw [← hy] at hmem hcs hds
        have hget : (Nd.vs keys)[i]? = some y.v := by rw [vs_map, hy]; simp [hc3]
        have ky := kid y (.inl hmem)
        have hdy := dep_pos y
        obtain ⟨kind', n', neg', dg', ex', tx', fb', bs', fk', keys', fd', kids'⟩ := y
        refine ⟨by omega, _, hget, rfl, ?_⟩
        conv => whnf
        refine ⟨_, _, cells_new _ _, store_agg rfl rfl (nd_leaf ..), ?_⟩
        conv => whnf
        generalize hS4 : (S3.new _).set S3.next _ = S4
        have kk4 : Keep S3 S4 := by rw [← hS4]; exact ((Keep.refl S3).new _).set _ _ (Nat.le_refl _)
        have x4 : S4.cells S3.next = some [.int .i64 kind', .int .u64 n', .bool neg', .str dg', .int .i64 ex', .str tx', slV fb' (bs'.map u8), slV fk' (Nd.vs keys'), slV fd' (Nd.vs kids')] := by rw [← hS4]; exact cells_set _ _ _
        refine ⟨_, x4, ?_⟩
        conv => whnf
        rw [ed]
        have hn3 := u2.next
        have hn4 := kk4.next
        refine CallQ.mono (ky S4 s3 p3 (by rw [cells_keep kk4 (by omega)]; exact u3) (by rw [cells_keep kk4 (by omega)]; exact u4) (by omega) (by omega) u6 (by omega)) ?_
        rintro r S5 ⟨w1, s5, p5, w2, w3, w4⟩
        have w1' : But sz dp S S5 := (u2.trans (.of kk4)).trans w1
        rcases w4 with ⟨w5, rfl, w6, w7⟩ | ⟨w5, rfl⟩
        · conv => whnf
          refine ⟨m' - 1, i + 1, by omega, ⟨by omega, w1', s5, p5, w2, w3, by omega, by omega, by omega⟩, ⟨rfl, rfl, rfl, rfl, rfl, rfl, rfl, ?_, trivial⟩⟩
          rw [wrap_i64 (by omega) (by omega)]; rfl
        · conv => whnf
          exact ⟨w1', s5, p5, w2, w3, .inr ⟨by simp only [cnt]; omega, rfl⟩⟩
      · simp at hcj
        subst hcj
        obtain rfl : m2 = 1 := by omega
        rw [if_pos (by decide), if_neg (by decide)] at q4 q6
        conv => whnf
        refine ⟨by decide, _, rfl, rfl, ?_⟩
        conv => whnf
        refine CodeQ.loop (fun (i : Nat) => pat 82 [(1, .int .i64 d), (2, .func (.func 41) [] [.ptr sz 0, .ptr dp 0]), (62, .lst [.lst (Nd.vs keys) .lost, .nils] .full), (63, .int .i64 2), (64, .int .i64 1), (69, .int .i64 0), (70, .int .i64 0)]) (fun m' i S3 => S3 = S2) ?_ 0 0 _ _ rfl ⟨rfl, rfl, rfl, rfl, rfl, rfl, rfl, trivial⟩
        rintro m' i S3 d2 rfl
        conv => whnf
        intro c3 hc3
        simp at hc3
        subst hc3
        conv => whnf
        refine ⟨0, 2, by omega, ⟨by omega, q1, s2, p2, q2, q3, (by first | (simp [cnts]; done) | (simp [cnts]; omega) | omega), q5, (by first | (simp [deps]; done) | (simp [deps]; omega) | omega)⟩, ⟨rfl, rfl, rfl, rfl, rfl, trivial⟩⟩
      · simp at hcj
        subst hcj
        conv => whnf
        rw [if_pos (by decide), if_pos (by decide)] at q4 q6
        refine ⟨q1, s2, p2, q2, q3, .inl ⟨?_, rfl, ?_, ?_⟩⟩
        · simp only [cnt]; omega
        · simp only [cnt]; omega
        · simp only [dep]; omega
    · conv => whnf
      intro c2 h2'
      cases c2
      · conv => whnf
        refine CodeQ.loop (fun (j : Nat) => pat 82 [(1, .int .i64 d), (2, .func (.func 41) [] [.ptr sz 0, .ptr dp 0]), (62, .lst [.lst (Nd.vs keys) .lost, .nils] .full), (63, .int .i64 2), (64, .int .i64 j)])
          (fun m j S2 => j + m = 2 ∧ But sz dp S S2 ∧ ∃ s2 p2 : Nat, S2.cells sz = some [.int .i64 s2] ∧ S2.cells dp = some [.int .i64 p2] ∧ s2 = s + 1 + (if 0 < j then cnts keys else 0) + (if 1 < j then cnts [] else 0) ∧ s2 ≤ 1024 ∧
            p2 = max (max p d) (d + max (if 0 < j then deps keys else 0) (if 1 < j then deps [] else 0))) ?_ 2 0 _ _
          ⟨by omega, b1, s + 1, max p d, g1, g2, (by first | omega | (simp; done) | (simp; omega)), hs1, (by first | omega | (simp; done) | (simp; omega))⟩ ⟨rfl, rfl, rfl, rfl, rfl, trivial⟩
        rintro m2 j S2 d' ⟨q0, q1, s2, p2, q2, q3, q4, q5, q6⟩
        have z1 : cnts [] = 0 := rfl
        have z2 : deps [] = 0 := rfl
        have hn2 := q1.next
        conv => whnf
        intro cj hcj
        have hj : j = 0 ∨ j = 1 ∨ j = 2 := by omega
        rcases hj with rfl | rfl | rfl
        · simp at hcj
          subst hcj
          obtain rfl : m2 = 2 := by omega
          rw [if_neg (by decide), if_neg (by decide)] at q4 q6
          conv => whnf
          refine ⟨by decide, _, rfl, rfl, ?_⟩
          conv => whnf

          refine CodeQ.loop (fun (i : Nat) => pat 82 [(1, .int .i64 d), (2, .func (.func 41) [] [.ptr sz 0, .ptr dp 0]), (62, .lst [.lst (Nd.vs keys) .lost, .nils] .full), (63, .int .i64 2), (64, .int .i64 0), (68, .lst (Nd.vs keys) .lost), (69, .int .i64 (keys.length : Nat)), (70, .int .i64 i)])
            (fun m' i S3 => i + m' = keys.length ∧ But sz dp S S3 ∧ ∃ s3 p3 : Nat, S3.cells sz = some [.int .i64 s3] ∧ S3.cells dp = some [.int .i64 p3] ∧ s3 = s2 + cnts (keys.take i) ∧ s3 ≤ 1024 ∧ p3 = max p2 (d + deps (keys.take i))) ?_ keys.length 0 _ _
            ⟨by simp, q1, s2, p2, q2, q3, by simp [cnts], q5, by simp [deps]; omega⟩ ⟨rfl, rfl, rfl, rfl, rfl, rfl, by simp [vs_map], rfl, trivial⟩
          rintro m' i S3 d2 ⟨u1, u2, s3, p3, u3, u4, u5, u6, u7⟩
          conv => whnf
          intro c3 hc3
          simp [vs_map] at hc3
          cases c3
          · simp at hc3
            obtain rfl : i = keys.length := by omega
            rw [List.take_length] at u5 u7
            conv => whnf
            refine ⟨1, 1, by omega, ⟨by omega, u2, s3, p3, u3, u4, (by first | (simp; done) | (simp; omega) | omega), u6, (by first | (simp; done) | (simp; omega) | omega)⟩, ⟨rfl, rfl, rfl, rfl, rfl, trivial⟩⟩
          simp at hc3
          conv => whnf
          have hmem : keys[i] ∈ keys := by simp
          have hcs := cnts_take keys i hc3
          have hds := deps_take keys i hc3
          have hcl := cnts_le keys (i + 1)
          obtain ⟨y, hy⟩ : ∃ y, y = keys[i] := ⟨_, rfl⟩
          rw [← hy] at hmem hcs hds
          have hget : (Nd.vs keys)[i]? = some y.v := by rw [vs_map, hy]; simp [hc3]
          have ky := kid y (.inl hmem)
          have hdy := dep_pos y
          obtain ⟨kind', n', neg', dg', ex', tx', fb', bs', fk', keys', fd', kids'⟩ := y
          refine ⟨by omega, _, hget, rfl, ?_⟩
          conv => whnf
          refine ⟨_, _, cells_new _ _, store_agg rfl rfl (nd_leaf ..), ?_⟩
          conv => whnf
          generalize hS4 : (S3.new _).set S3.next _ = S4
          have kk4 : Keep S3 S4 := by rw [← hS4]; exact ((Keep.refl S3).new _).set _ _ (Nat.le_refl _)
          have x4 : S4.cells S3.next = some [.int .i64 kind', .int .u64 n', .bool neg', .str dg', .int .i64 ex', .str tx', slV fb' (bs'.map u8), slV fk' (Nd.vs keys'), slV fd' (Nd.vs kids')] := by rw [← hS4]; exact cells_set _ _ _
          refine ⟨_, x4, ?_⟩
          conv => whnf
          rw [ed]
          have hn3 := u2.next
          have hn4 := kk4.next
          refine CallQ.mono (ky S4 s3 p3 (by rw [cells_keep kk4 (by omega)]; exact u3) (by rw [cells_keep kk4 (by omega)]; exact u4) (by omega) (by omega) u6 (by omega)) ?_
          rintro r S5 ⟨w1, s5, p5, w2, w3, w4⟩
          have w1' : But sz dp S S5 := (u2.trans (.of kk4)).trans w1
          rcases w4 with ⟨w5, rfl, w6, w7⟩ | ⟨w5, rfl⟩
          · conv => whnf
            refine ⟨m' - 1, i + 1, by omega, ⟨by omega, w1', s5, p5, w2, w3, by omega, by omega, by omega⟩, ⟨rfl, rfl, rfl, rfl, rfl, rfl, rfl, ?_, trivial⟩⟩
            rw [wrap_i64 (by omega) (by omega)]; rfl
          · conv => whnf
            exact ⟨w1', s5, p5, w2, w3, .inr ⟨by simp only [cnt]; omega, rfl⟩⟩
        · simp at hcj
          subst hcj
          obtain rfl : m2 = 1 := by omega
          rw [if_pos (by decide), if_neg (by decide)] at q4 q6
          conv => whnf
          refine ⟨by decide, _, rfl, rfl, ?_⟩
          conv => whnf
          refine CodeQ.loop (fun (i : Nat) => pat 82 [(1, .int .i64 d), (2, .func (.func 41) [] [.ptr sz 0, .ptr dp 0]), (62, .lst [.lst (Nd.vs keys) .lost, .nils] .full), (63, .int .i64 2), (64, .int .i64 1), (69, .int .i64 0), (70, .int .i64 0)]) (fun m' i S3 => S3 = S2) ?_ 0 0 _ _ rfl ⟨rfl, rfl, rfl, rfl, rfl, rfl, rfl, trivial⟩
          rintro m' i S3 d2 rfl
          conv => whnf
          intro c3 hc3
          simp at hc3
          subst hc3
          conv => whnf
          refine ⟨0, 2, by omega, ⟨by omega, q1, s2, p2, q2, q3, (by first | (simp [cnts]; done) | (simp [cnts]; omega) | omega), q5, (by first | (simp [deps]; done) | (simp [deps]; omega) | omega)⟩, ⟨rfl, rfl, rfl, rfl, rfl, trivial⟩⟩
        · simp at hcj
          subst hcj
          conv => whnf
          rw [if_pos (by decide), if_pos (by decide)] at q4 q6
          refine ⟨q1, s2, p2, q2, q3, .inl ⟨?_, rfl, ?_, ?_⟩⟩
          · simp only [cnt]; omega
          · simp only [cnt]; omega
          · simp only [dep]; omega
      · have hk0 : keys = [] := by
          rcases keys with _ | ⟨y0, l0⟩
          · rfl
          · exfalso; simp [vs_map] at h2'; try omega
        subst hk0

        conv => whnf
        refine CodeQ.loop (fun (i : Nat) => pat 82 [(31, .int .i64 0), (32, .int .i64 0)]) (fun m' i S3 => S3 = S1) ?_ 0 0 _ _ rfl ⟨by first | rfl | simp [vs_map], rfl, trivial⟩
        rintro m' i S3 d2 rfl
        conv => whnf
        intro c3 hc3
        simp at hc3
        subst hc3
        conv => whnf
        exact ⟨b1, s + 1, max p d, g1, g2, .inl ⟨by simp [cnt, cnts]; omega, rfl, by simp [cnt, cnts], by simp [dep, deps]⟩⟩
  · cases c
    · conv => whnf
      refine CodeQ.loop (fun (j : Nat) => pat 82 [(1, .int .i64 d), (2, .func (.func 41) [] [.ptr sz 0, .ptr dp 0]), (62, .lst [.lst (Nd.vs keys) .lost, .lst (Nd.vs kids) .lost] .full), (63, .int .i64 2), (64, .int .i64 j)])
        (fun m j S2 => j + m = 2 ∧ But sz dp S S2 ∧ ∃ s2 p2 : Nat, S2.cells sz = some [.int .i64 s2] ∧ S2.cells dp = some [.int .i64 p2] ∧ s2 = s + 1 + (if 0 < j then cnts keys else 0) + (if 1 < j then cnts kids else 0) ∧ s2 ≤ 1024 ∧
          p2 = max (max p d) (d + max (if 0 < j then deps keys else 0) (if 1 < j then deps kids else 0))) ?_ 2 0 _ _
        ⟨by omega, b1, s + 1, max p d, g1, g2, (by first | omega | (simp; done) | (simp; omega)), hs1, (by first | omega | (simp; done) | (simp; omega))⟩ ⟨rfl, rfl, rfl, rfl, rfl, trivial⟩
      rintro m2 j S2 d' ⟨q0, q1, s2, p2, q2, q3, q4, q5, q6⟩
      have z1 : cnts [] = 0 := rfl
      have z2 : deps [] = 0 := rfl
      have hn2 := q1.next
      conv => whnf
      intro cj hcj
      have hj : j = 0 ∨ j = 1 ∨ j = 2 := by omega
      rcases hj with rfl | rfl | rfl
      · simp at hcj
        subst hcj
        obtain rfl : m2 = 2 := by omega
        rw [if_neg (by decide), if_neg (by decide)] at q4 q6
        conv => whnf
        refine ⟨by decide, _, rfl, rfl, ?_⟩
        conv => whnf

        refine CodeQ.loop (fun (i : Nat) => pat 82 [(1, .int .i64 d), (2, .func (.func 41) [] [.ptr sz 0, .ptr dp 0]), (62, .lst [.lst (Nd.vs keys) .lost, .lst (Nd.vs kids) .lost] .full), (63, .int .i64 2), (64, .int .i64 0), (68, .lst (Nd.vs keys) .lost), (69, .int .i64 (keys.length : Nat)), (70, .int .i64 i)])
          (fun m' i S3 => i + m' = keys.length ∧ But sz dp S S3 ∧ ∃ s3 p3 : Nat, S3.cells sz = some [.int .i64 s3] ∧ S3.cells dp = some [.int .i64 p3] ∧ s3 = s2 + cnts (keys.take i) ∧ s3 ≤ 1024 ∧ p3 = max p2 (d + deps (keys.take i))) ?_ keys.length 0 _ _
          ⟨by simp, q1, s2, p2, q2, q3, by simp [cnts], q5, by simp [deps]; omega⟩ ⟨rfl, rfl, rfl, rfl, rfl, rfl, by simp [vs_map], rfl, trivial⟩
        rintro m' i S3 d2 ⟨u1, u2, s3, p3, u3, u4, u5, u6, u7⟩
        conv => whnf
        intro c3 hc3
        simp [vs_map] at hc3
        cases c3
        · simp at hc3
          obtain rfl : i = keys.length := by omega
          rw [List.take_length] at u5 u7
          conv => whnf
          refine ⟨1, 1, by omega, ⟨by omega, u2, s3, p3, u3, u4, (by first | (simp; done) | (simp; omega) | omega), u6, (by first | (simp; done) | (simp; omega) | omega)⟩, ⟨rfl, rfl, rfl, rfl, rfl, trivial⟩⟩
        simp at hc3
        conv => whnf
        have hmem : keys[i] ∈ keys := by simp
        have hcs := cnts_take keys i hc3
        have hds := deps_take keys i hc3
        have hcl := cnts_le keys (i + 1)
        obtain ⟨y, hy⟩ : ∃ y, y = keys[i] := ⟨_, rfl⟩
        rw [← hy] at hmem hcs hds
        have hget : (Nd.vs keys)[i]? = some y.v := by rw [vs_map, hy]; simp [hc3]
        have ky := kid y (.inl hmem)
        have hdy := dep_pos y
        obtain ⟨kind', n', neg', dg', ex', tx', fb', bs', fk', keys', fd', kids'⟩ := y
        refine ⟨by omega, _, hget, rfl, ?_⟩
        conv => whnf
        refine ⟨_, _, cells_new _ _, store_agg rfl rfl (nd_leaf ..), ?_⟩
        conv => whnf
        generalize hS4 : (S3.new _).set S3.next _ = S4
        have kk4 : Keep S3 S4 := by rw [← hS4]; exact ((Keep.refl S3).new _).set _ _ (Nat.le_refl _)
        have x4 : S4.cells S3.next = some [.int .i64 kind', .int .u64 n', .bool neg', .str dg', .int .i64 ex', .str tx', slV fb' (bs'.map u8), slV fk' (Nd.vs keys'), slV fd' (Nd.vs kids')] := by rw [← hS4]; exact cells_set _ _ _
        refine ⟨_, x4, ?_⟩
        conv => whnf
        rw [ed]
        have hn3 := u2.next
        have hn4 := kk4.next
        refine CallQ.mono (ky S4 s3 p3 (by rw [cells_keep kk4 (by omega)]; exact u3) (by rw [cells_keep kk4 (by omega)]; exact u4) (by omega) (by omega) u6 (by omega)) ?_
        rintro r S5 ⟨w1, s5, p5, w2, w3, w4⟩
        have w1' : But sz dp S S5 := (u2.trans (.of kk4)).trans w1
        rcases w4 with ⟨w5, rfl, w6, w7⟩ | ⟨w5, rfl⟩
        · conv => whnf
          refine ⟨m' - 1, i + 1, by omega, ⟨by omega, w1', s5, p5, w2, w3, by omega, by omega, by omega⟩, ⟨rfl, rfl, rfl, rfl, rfl, rfl, rfl, ?_, trivial⟩⟩
          rw [wrap_i64 (by omega) (by omega)]; rfl
        · conv => whnf
          exact ⟨w1', s5, p5, w2, w3, .inr ⟨by simp only [cnt]; omega, rfl⟩⟩
      · simp at hcj
        subst hcj
        obtain rfl : m2 = 1 := by omega
        rw [if_pos (by decide), if_neg (by decide)] at q4 q6
        conv => whnf
        refine ⟨by decide, _, rfl, rfl, ?_⟩
        conv => whnf

        refine CodeQ.loop (fun (i : Nat) => pat 82 [(1, .int .i64 d), (2, .func (.func 41) [] [.ptr sz 0, .ptr dp 0]), (62, .lst [.lst (Nd.vs keys) .lost, .lst (Nd.vs kids) .lost] .full), (63, .int .i64 2), (64, .int .i64 1), (68, .lst (Nd.vs kids) .lost), (69, .int .i64 (kids.length : Nat)), (70, .int .i64 i)])
          (fun m' i S3 => i + m' = kids.length ∧ But sz dp S S3 ∧ ∃ s3 p3 : Nat, S3.cells sz = some [.int .i64 s3] ∧ S3.cells dp = some [.int .i64 p3] ∧ s3 = s2 + cnts (kids.take i) ∧ s3 ≤ 1024 ∧ p3 = max p2 (d + deps (kids.take i))) ?_ kids.length 0 _ _
          ⟨by simp, q1, s2, p2, q2, q3, by simp [cnts], q5, by simp [deps]; omega⟩ ⟨rfl, rfl, rfl, rfl, rfl, rfl, by simp [vs_map], rfl, trivial⟩
        rintro m' i S3 d2 ⟨u1, u2, s3, p3, u3, u4, u5, u6, u7⟩
        conv => whnf
        intro c3 hc3
        simp [vs_map] at hc3
        cases c3
        · simp at hc3
          obtain rfl : i = kids.length := by omega
          rw [List.take_length] at u5 u7
          conv => whnf
          refine ⟨0, 2, by omega, ⟨by omega, u2, s3, p3, u3, u4, (by first | (simp; done) | (simp; omega) | omega), u6, (by first | (simp; done) | (simp; omega) | omega)⟩, ⟨rfl, rfl, rfl, rfl, rfl, trivial⟩⟩
        simp at hc3
        conv => whnf
        have hmem : kids[i] ∈ kids := by simp
        have hcs := cnts_take kids i hc3
        have hds := deps_take kids i hc3
        have hcl := cnts_le kids (i + 1)
        obtain ⟨y, hy⟩ : ∃ y, y = kids[i] := ⟨_, rfl⟩
        rw [← hy] at hmem hcs hds
        have hget : (Nd.vs kids)[i]? = some y.v := by rw [vs_map, hy]; simp [hc3]
        have ky := kid y (.inr hmem)
        have hdy := dep_pos y
        obtain ⟨kind', n', neg', dg', ex', tx', fb', bs', fk', keys', fd', kids'⟩ := y
        refine ⟨by omega, _, hget, rfl, ?_⟩
        conv => whnf
        refine ⟨_, _, cells_new _ _, store_agg rfl rfl (nd_leaf ..), ?_⟩
        conv => whnf
        generalize hS4 : (S3.new _).set S3.next _ = S4
        have kk4 : Keep S3 S4 := by rw [← hS4]; exact ((Keep.refl S3).new _).set _ _ (Nat.le_refl _)
        have x4 : S4.cells S3.next = some [.int .i64 kind', .int .u64 n', .bool neg', .str dg', .int .i64 ex', .str tx', slV fb' (bs'.map u8), slV fk' (Nd.vs keys'), slV fd' (Nd.vs kids')] := by rw [← hS4]; exact cells_set _ _ _
        refine ⟨_, x4, ?_⟩
        conv => whnf
        rw [ed]
        have hn3 := u2.next
        have hn4 := kk4.next
        refine CallQ.mono (ky S4 s3 p3 (by rw [cells_keep kk4 (by omega)]; exact u3) (by rw [cells_keep kk4 (by omega)]; exact u4) (by omega) (by omega) u6 (by omega)) ?_
        rintro r S5 ⟨w1, s5, p5, w2, w3, w4⟩
        have w1' : But sz dp S S5 := (u2.trans (.of kk4)).trans w1
        rcases w4 with ⟨w5, rfl, w6, w7⟩ | ⟨w5, rfl⟩
        · conv => whnf
          refine ⟨m' - 1, i + 1, by omega, ⟨by omega, w1', s5, p5, w2, w3, by omega, by omega, by omega⟩, ⟨rfl, rfl, rfl, rfl, rfl, rfl, rfl, ?_, trivial⟩⟩
          rw [wrap_i64 (by omega) (by omega)]; rfl
        · conv => whnf
          exact ⟨w1', s5, p5, w2, w3, .inr ⟨by simp only [cnt]; omega, rfl⟩⟩
      · simp at hcj
        subst hcj
        conv => whnf
        rw [if_pos (by decide), if_pos (by decide)] at q4 q6
        refine ⟨q1, s2, p2, q2, q3, .inl ⟨?_, rfl, ?_, ?_⟩⟩
        · simp only [cnt]; omega
        · simp only [cnt]; omega
        · simp only [dep]; omega
    · conv => whnf
      intro c2 h2'
      cases c2
      · conv => whnf
        refine CodeQ.loop (fun (j : Nat) => pat 82 [(1, .int .i64 d), (2, .func (.func 41) [] [.ptr sz 0, .ptr dp 0]), (62, .lst [.lst (Nd.vs keys) .lost, .lst (Nd.vs kids) .lost] .full), (63, .int .i64 2), (64, .int .i64 j)])
          (fun m j S2 => j + m = 2 ∧ But sz dp S S2 ∧ ∃ s2 p2 : Nat, S2.cells sz = some [.int .i64 s2] ∧ S2.cells dp = some [.int .i64 p2] ∧ s2 = s + 1 + (if 0 < j then cnts keys else 0) + (if 1 < j then cnts kids else 0) ∧ s2 ≤ 1024 ∧
            p2 = max (max p d) (d + max (if 0 < j then deps keys else 0) (if 1 < j then deps kids else 0))) ?_ 2 0 _ _
          ⟨by omega, b1, s + 1, max p d, g1, g2, (by first | omega | (simp; done) | (simp; omega)), hs1, (by first | omega | (simp; done) | (simp; omega))⟩ ⟨rfl, rfl, rfl, rfl, rfl, trivial⟩
        rintro m2 j S2 d' ⟨q0, q1, s2, p2, q2, q3, q4, q5, q6⟩
        have z1 : cnts [] = 0 := rfl
        have z2 : deps [] = 0 := rfl
        have hn2 := q1.next
        conv => whnf
        intro cj hcj
        have hj : j = 0 ∨ j = 1 ∨ j = 2 := by omega
        rcases hj with rfl | rfl | rfl
        · simp at hcj
          subst hcj
          obtain rfl : m2 = 2 := by omega
          rw [if_neg (by decide), if_neg (by decide)] at q4 q6
          conv => whnf
          refine ⟨by decide, _, rfl, rfl, ?_⟩
          conv => whnf

          refine CodeQ.loop (fun (i : Nat) => pat 82 [(1, .int .i64 d), (2, .func (.func 41) [] [.ptr sz 0, .ptr dp 0]), (62, .lst [.lst (Nd.vs keys) .lost, .lst (Nd.vs kids) .lost] .full), (63, .int .i64 2), (64, .int .i64 0), (68, .lst (Nd.vs keys) .lost), (69, .int .i64 (keys.length : Nat)), (70, .int .i64 i)])
            (fun m' i S3 => i + m' = keys.length ∧ But sz dp S S3 ∧ ∃ s3 p3 : Nat, S3.cells sz = some [.int .i64 s3] ∧ S3.cells dp = some [.int .i64 p3] ∧ s3 = s2 + cnts (keys.take i) ∧ s3 ≤ 1024 ∧ p3 = max p2 (d + deps (keys.take i))) ?_ keys.length 0 _ _
            ⟨by simp, q1, s2, p2, q2, q3, by simp [cnts], q5, by simp [deps]; omega⟩ ⟨rfl, rfl, rfl, rfl, rfl, rfl, by simp [vs_map], rfl, trivial⟩
          rintro m' i S3 d2 ⟨u1, u2, s3, p3, u3, u4, u5, u6, u7⟩
          conv => whnf
          intro c3 hc3
          simp [vs_map] at hc3
          cases c3
          · simp at hc3
            obtain rfl : i = keys.length := by omega
            rw [List.take_length] at u5 u7
            conv => whnf
            refine ⟨1, 1, by omega, ⟨by omega, u2, s3, p3, u3, u4, (by first | (simp; done) | (simp; omega) | omega), u6, (by first | (simp; done) | (simp; omega) | omega)⟩, ⟨rfl, rfl, rfl, rfl, rfl, trivial⟩⟩
          simp at hc3
          conv => whnf
          have hmem : keys[i] ∈ keys := by simp
          have hcs := cnts_take keys i hc3
          have hds := deps_take keys i hc3
          have hcl := cnts_le keys (i + 1)
          obtain ⟨y, hy⟩ : ∃ y, y = keys[i] := ⟨_, rfl⟩
          rw [← hy] at hmem hcs hds
          have hget : (Nd.vs keys)[i]? = some y.v := by rw [vs_map, hy]; simp [hc3]
          have ky := kid y (.inl hmem)
          have hdy := dep_pos y
          obtain ⟨kind', n', neg', dg', ex', tx', fb', bs', fk', keys', fd', kids'⟩ := y
          refine ⟨by omega, _, hget, rfl, ?_⟩
          conv => whnf
          refine ⟨_, _, cells_new _ _, store_agg rfl rfl (nd_leaf ..), ?_⟩
          conv => whnf
          generalize hS4 : (S3.new _).set S3.next _ = S4
          have kk4 : Keep S3 S4 := by rw [← hS4]; exact ((Keep.refl S3).new _).set _ _ (Nat.le_refl _)
          have x4 : S4.cells S3.next = some [.int .i64 kind', .int .u64 n', .bool neg', .str dg', .int .i64 ex', .str tx', slV fb' (bs'.map u8), slV fk' (Nd.vs keys'), slV fd' (Nd.vs kids')] := by rw [← hS4]; exact cells_set _ _ _
          refine ⟨_, x4, ?_⟩
          conv => whnf
          rw [ed]
          have hn3 := u2.next
          have hn4 := kk4.next
          refine CallQ.mono (ky S4 s3 p3 (by rw [cells_keep kk4 (by omega)]; exact u3) (by rw [cells_keep kk4 (by omega)]; exact u4) (by omega) (by omega) u6 (by omega)) ?_
          rintro r S5 ⟨w1, s5, p5, w2, w3, w4⟩
          have w1' : But sz dp S S5 := (u2.trans (.of kk4)).trans w1
          rcases w4 with ⟨w5, rfl, w6, w7⟩ | ⟨w5, rfl⟩
          · conv => whnf
            refine ⟨m' - 1, i + 1, by omega, ⟨by omega, w1', s5, p5, w2, w3, by omega, by omega, by omega⟩, ⟨rfl, rfl, rfl, rfl, rfl, rfl, rfl, ?_, trivial⟩⟩
            rw [wrap_i64 (by omega) (by omega)]; rfl
          · conv => whnf
            exact ⟨w1', s5, p5, w2, w3, .inr ⟨by simp only [cnt]; omega, rfl⟩⟩
        · simp at hcj
          subst hcj
          obtain rfl : m2 = 1 := by omega
          rw [if_pos (by decide), if_neg (by decide)] at q4 q6
          conv => whnf
          refine ⟨by decide, _, rfl, rfl, ?_⟩
          conv => whnf

          refine CodeQ.loop (fun (i : Nat) => pat 82 [(1, .int .i64 d), (2, .func (.func 41) [] [.ptr sz 0, .ptr dp 0]), (62, .lst [.lst (Nd.vs keys) .lost, .lst (Nd.vs kids) .lost] .full), (63, .int .i64 2), (64, .int .i64 1), (68, .lst (Nd.vs kids) .lost), (69, .int .i64 (kids.length : Nat)), (70, .int .i64 i)])
            (fun m' i S3 => i + m' = kids.length ∧ But sz dp S S3 ∧ ∃ s3 p3 : Nat, S3.cells sz = some [.int .i64 s3] ∧ S3.cells dp = some [.int .i64 p3] ∧ s3 = s2 + cnts (kids.take i) ∧ s3 ≤ 1024 ∧ p3 = max p2 (d + deps (kids.take i))) ?_ kids.length 0 _ _
            ⟨by simp, q1, s2, p2, q2, q3, by simp [cnts], q5, by simp [deps]; omega⟩ ⟨rfl, rfl, rfl, rfl, rfl, rfl, by simp [vs_map], rfl, trivial⟩
          rintro m' i S3 d2 ⟨u1, u2, s3, p3, u3, u4, u5, u6, u7⟩
          conv => whnf
          intro c3 hc3
          simp [vs_map] at hc3
          cases c3
          · simp at hc3
            obtain rfl : i = kids.length := by omega
            rw [List.take_length] at u5 u7
            conv => whnf
            refine ⟨0, 2, by omega, ⟨by omega, u2, s3, p3, u3, u4, (by first | (simp; done) | (simp; omega) | omega), u6, (by first | (simp; done) | (simp; omega) | omega)⟩, ⟨rfl, rfl, rfl, rfl, rfl, trivial⟩⟩
          simp at hc3
          conv => whnf
          have hmem : kids[i] ∈ kids := by simp
          have hcs := cnts_take kids i hc3
          have hds := deps_take kids i hc3
          have hcl := cnts_le kids (i + 1)
          obtain ⟨y, hy⟩ : ∃ y, y = kids[i] := ⟨_, rfl⟩
          rw [← hy] at hmem hcs hds
          have hget : (Nd.vs kids)[i]? = some y.v := by rw [vs_map, hy]; simp [hc3]
          have ky := kid y (.inr hmem)
          have hdy := dep_pos y
          obtain ⟨kind', n', neg', dg', ex', tx', fb', bs', fk', keys', fd', kids'⟩ := y
          refine ⟨by omega, _, hget, rfl, ?_⟩
          conv => whnf
          refine ⟨_, _, cells_new _ _, store_agg rfl rfl (nd_leaf ..), ?_⟩
          conv => whnf
          generalize hS4 : (S3.new _).set S3.next _ = S4
          have kk4 : Keep S3 S4 := by rw [← hS4]; exact ((Keep.refl S3).new _).set _ _ (Nat.le_refl _)
          have x4 : S4.cells S3.next = some [.int .i64 kind', .int .u64 n', .bool neg', .str dg', .int .i64 ex', .str tx', slV fb' (bs'.map u8), slV fk' (Nd.vs keys'), slV fd' (Nd.vs kids')] := by rw [← hS4]; exact cells_set _ _ _
          refine ⟨_, x4, ?_⟩
          conv => whnf
          rw [ed]
          have hn3 := u2.next
          have hn4 := kk4.next
          refine CallQ.mono (ky S4 s3 p3 (by rw [cells_keep kk4 (by omega)]; exact u3) (by rw [cells_keep kk4 (by omega)]; exact u4) (by omega) (by omega) u6 (by omega)) ?_
          rintro r S5 ⟨w1, s5, p5, w2, w3, w4⟩
          have w1' : But sz dp S S5 := (u2.trans (.of kk4)).trans w1
          rcases w4 with ⟨w5, rfl, w6, w7⟩ | ⟨w5, rfl⟩
          · conv => whnf
            refine ⟨m' - 1, i + 1, by omega, ⟨by omega, w1', s5, p5, w2, w3, by omega, by omega, by omega⟩, ⟨rfl, rfl, rfl, rfl, rfl, rfl, rfl, ?_, trivial⟩⟩
            rw [wrap_i64 (by omega) (by omega)]; rfl
          · conv => whnf
            exact ⟨w1', s5, p5, w2, w3, .inr ⟨by simp only [cnt]; omega, rfl⟩⟩
        · simp at hcj
          subst hcj
          conv => whnf
          rw [if_pos (by decide), if_pos (by decide)] at q4 q6
          refine ⟨q1, s2, p2, q2, q3, .inl ⟨?_, rfl, ?_, ?_⟩⟩
          · simp only [cnt]; omega
          · simp only [cnt]; omega
          · simp only [dep]; omega
      · have hll : keys.length = kids.length := by simp [vs_map] at h2'; omega
        conv => whnf
        refine CodeQ.loop (fun (i : Nat) => pat 82 [(1, .int .i64 d), (2, .func (.func 41) [] [.ptr sz 0, .ptr dp 0]), (3, .cptr [.int .i64 kind, .int .u64 n, .bool neg, .str dg, .int .i64 ex, .str tx, slV fb (bs.map u8), .lst (Nd.vs keys) tk, .lst (Nd.vs kids) td] 0), (31, .int .i64 (keys.length : Nat)), (32, .int .i64 i)])
          (fun m' i S3 => i + m' = keys.length ∧ But sz dp S S3 ∧ ∃ s3 p3 : Nat, S3.cells sz = some [.int .i64 s3] ∧ S3.cells dp = some [.int .i64 p3] ∧ s3 = s + 1 + cnts (keys.take i) + cnts (kids.take i) ∧ s3 ≤ 1024 ∧ p3 = max (max p d) (d + max (deps (keys.take i)) (deps (kids.take i)))) ?_ keys.length 0 _ _
          ⟨by simp, b1, s + 1, max p d, g1, g2, by simp [cnts], hs1, (by first | (simp [deps]; done) | (simp [deps]; omega))⟩ ⟨rfl, rfl, rfl, by simp [vs_map], rfl, trivial⟩
        rintro m' i S3 d2 ⟨u1, u2, s3, p3, u3, u4, u5, u6, u7⟩
        have hn3 := u2.next
        conv => whnf
        intro c3 hc3
        simp [vs_map] at hc3
        cases c3
        · simp at hc3
          obtain rfl : i = keys.length := by omega
          conv => whnf
          rw [List.take_length] at u5 u7
          rw [hll, List.take_length] at u5 u7
          refine ⟨u2, s3, p3, u3, u4, .inl ⟨by simp only [cnt]; omega, rfl, by simp only [cnt]; omega, by simp only [dep]; omega⟩⟩
        simp at hc3
        have hc4 : i < kids.length := by omega
        conv => whnf
        have hcs := cnts_take keys i hc3
        have hds := deps_take keys i hc3
        have hcl := cnts_le keys (i + 1)
        have hcs2 := cnts_take kids i hc4
        have hds2 := deps_take kids i hc4
        have hcl2 := cnts_le kids (i + 1)
        have ky := kid keys[i] (.inl (by simp))
        have kz := kid kids[i] (.inr (by simp))
        have hget : (Nd.vs keys)[i]? = some keys[i].v := by rw [vs_map]; simp [hc3]
        have hget2 : (Nd.vs kids)[i]? = some kids[i].v := by rw [vs_map]; simp [hc4]
        have hp1 := dep_pos keys[i]
        have hp2 := dep_pos kids[i]
        generalize keys[i] = y at *
        generalize kids[i] = z at *
        obtain ⟨kind', n', neg', dg', ex', tx', fb', bs', fk', keys', fd', kids'⟩ := y
        obtain ⟨kind2, n2, neg2, dg2, ex2, tx2, fb2, bs2, fk2, keys2, fd2, kids2⟩ := z
        refine ⟨by omega, _, hget, rfl, ?_⟩
        conv => whnf
        rw [ed]
        refine CallQ.mono (ky S3 s3 p3 u3 u4 (by omega) (by omega) u6 (by omega)) ?_
        rintro r S5 ⟨w1, s5, p5, w2, w3, w4⟩
        have w1' : But sz dp S S5 := u2.trans w1
        have hn5 := w1'.next
        rcases w4 with ⟨w5, rfl, w6, w7⟩ | ⟨w5, rfl⟩
        rotate_left
        · conv => whnf
          exact ⟨w1', s5, p5, w2, w3, .inr ⟨by simp only [cnt]; omega, rfl⟩⟩
        conv => whnf
        refine ⟨by omega, _, hget2, rfl, ?_⟩
        conv => whnf
        rw [ed]
        refine CallQ.mono (kz S5 s5 p5 w2 w3 (by omega) (by omega) (by omega) (by omega)) ?_
        rintro r S6 ⟨v1, s6, p6, v2, v3, v4⟩
        have v1' : But sz dp S S6 := w1'.trans v1
        rcases v4 with ⟨v5, rfl, v6, v7⟩ | ⟨v5, rfl⟩
        rotate_left
        · conv => whnf
          exact ⟨v1', s6, p6, v2, v3, .inr ⟨by simp only [cnt]; omega, rfl⟩⟩
        conv => whnf
        refine ⟨m' - 1, i + 1, by omega, ⟨by omega, v1', s6, p6, v2, v3, by omega, by omega, by omega⟩, ⟨rfl, rfl, rfl, rfl, ?_, trivial⟩⟩
        rw [wrap_i64 (by omega) (by omega)]; rfl
end Go.Proofs.YtmkmakokgfigoaaDoor
