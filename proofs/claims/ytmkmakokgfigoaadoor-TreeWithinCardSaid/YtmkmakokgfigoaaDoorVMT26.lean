import Derived.Test.YtmkmakokgfigoaaDoorVMT25
namespace Go.Proofs.YtmkmakokgfigoaaDoor
open Go.Proofs.YtmkmakokgfigoaaDoor.VM Go.RowKit
set_option maxRecDepth 100000
set_option linter.unusedVariables false
set_option linter.unusedSimpArgs false
/-- What is in the two variables. -/
def Lk (ep bp : Nat) (s : Int × Bool) (S : St) : Prop := S.cells ep = some [.int .i64 s.1] ∧ S.cells bp = some [.bool s.2]
/-- What walk leaves. -/
def WR (ep bp : Nat) (l : List Pl) (s : Int × Bool) (S : St) (r : AV) (S1 : St) : Prop :=
  But ep bp S S1 ∧ Lk ep bp (runL l s).1 S1 ∧ r = .bool (runL l s).2
theorem runL_stop {a b : List Pl} {s : Int × Bool} (h : (runL a s).2 = false) : runL (a ++ b) s = runL a s := by rw [runL_app, h, if_neg (by decide)]
theorem runL_on {a b : List Pl} {s : Int × Bool} (h : (runL a s).2 = true) : runL (a ++ b) s = runL b (runL a s).1 := by rw [runL_app, if_pos h]
theorem Lk.keep {ep bp : Nat} {s : Int × Bool} {S S1 : St} (h : Lk ep bp s S) (k : Keep S S1) (h1 : ep < S.next) (h2 : bp < S.next) : Lk ep bp s S1 := ⟨by rw [cells_keep k h1]; exact h.1, by rw [cells_keep k h2]; exact h.2⟩
theorem flat_take {xs : List Nd} {i : Nat} (h : i < xs.length) : ((wls (ers xs)).take (i + 1)).flatten = ((wls (ers xs)).take i).flatten ++ wl (er xs[i]) := by
  have hl : i < (wls (ers xs)).length := by rw [wls_map, ers_map]; simpa using h
  rw [List.take_succ_eq_append_getElem hl, List.flatten_append]
  simp [wls_map, ers_map]
theorem flat_all (xs : List Nd) : (wls (ers xs)).take xs.length = wls (ers xs) := List.take_of_length_le (by rw [wls_map, ers_map]; simp)
theorem inter_step {xs ys : List Nd} {i : Nat} (h : i < xs.length) (k : i < ys.length) : inter ((wls (ers xs)).take (i + 1)) ((wls (ers ys)).take (i + 1)) = inter ((wls (ers xs)).take i) ((wls (ers ys)).take i) ++ (wl (er xs[i]) ++ wl (er ys[i])) := by
  rw [inter_take _ _ _ (by rw [wls_map, ers_map]; simpa using h) (by rw [wls_map, ers_map]; simpa using k)]
  simp [wls_map, ers_map]
/-- What is seen ahead of a kid. -/
def Pre (x : Nd) (l : List Pl) : Prop := True
theorem split_take {l m : List Pl} {s : Int × Bool} (h : ∃ t, m = l ++ t) (hf : (runL l s).2 = false) : runL m s = runL l s := by
  obtain ⟨t, rfl⟩ := h; exact runL_stop hf
theorem flat_pre (L : List (List Pl)) (i : Nat) : ∃ t, L.flatten = (L.take i).flatten ++ t := ⟨(L.drop i).flatten, by rw [← List.flatten_append, List.take_append_drop]⟩
theorem inter_pre {α : Type} : ∀ (L M : List (List α)) (i : Nat), ∃ t, inter L M = inter (L.take i) (M.take i) ++ t
  | _, _, 0 => ⟨_, by simp [inter]; rfl⟩
  | [], M, i + 1 => ⟨[], by simp [inter]⟩
  | a :: L, [], i + 1 => ⟨[], by simp [inter]⟩
  | a :: L, b :: M, i + 1 => by
    obtain ⟨t, ht⟩ := inter_pre L M i
    exact ⟨t, by simp [inter, ht]⟩
theorem len_ers (xs : List Nd) : (ers xs).length = xs.length := by rw [ers_map]; simp

set_option maxHeartbeats 4000000 in
theorem w36 (hv : ∀ (x : Nd) (d : Nat) (S : St) (ep bp : Nat) (s : Int × Bool), x.Ok → Sb (er x) → Lk ep bp s S → ep < S.next → bp < S.next → ep ≠ bp →
      CallQ Tryd.prog TC 37 [x.v, .int .i64 d, .ptr ep 0, .ptr bp 0] S fun r S1 => WR ep bp [er x] s S r S1) :
    ∀ (m : Nat) (x : Nd), x.Ok → Sb (er x) → cnt x ≤ m → ∀ (S : St) (ep bp d : Nat) (s : Int × Bool), Lk ep bp s S → ep < S.next → bp < S.next → ep ≠ bp → d + m ≤ 2 ^ 40 →
    CallQ Tryd.prog TC 36 [x.v, .int .i64 d, .func (.func 37) [] [.ptr ep 0, .ptr bp 0]] S fun r S1 => WR ep bp (wl (er x)) s S r S1 := by
  intro m
  induction m with
  | zero => intro x _ _ hx; have := cnt_pos x; omega
  | succ m ih =>
  intro x hx hsb hm S ep bp d s h1 hsz hdp hne hd
  have t := hv x d S ep bp s hx hsb h1 hsz hdp hne
  have hwl : wl (er x) = er x :: (wl (er x)).tail := by obtain ⟨kind, n, neg, dg, ex, tx, fb, bs, fk, keys, fd, kids⟩ := x; rfl
  obtain ⟨W, hW⟩ : ∃ W, W = wl (er x) := ⟨_, rfl⟩
  rw [← hW]
  have hW0 : ∃ t, W = [er x] ++ t := ⟨(wl (er x)).tail, by rw [hW]; exact hwl⟩
  obtain ⟨kind, n, neg, dg, ex, tx, fb, bs, fk, keys, fd, kids⟩ := x
  obtain ⟨ok1, ok2, ok3, ok4, ok5, ok6, ok7, ok8⟩ := hx
  rw [oks_iff] at ok7 ok8
  simp only [cnt] at hm
  simp only [er, Sb, sbs_iff, ers_map] at hsb
  obtain ⟨_, _, sb7, sb8⟩ := hsb
  have hseq : ¬ (kind = 8 ∧ keys.length = kids.length) → W = [er (.mk kind n neg dg ex tx fb bs fk keys fd kids)] ++ (wls (ers keys)).flatten ++ (wls (ers kids)).flatten := fun h => by
    rw [hW]; simp only [er, wl]; rw [if_neg (by rw [len_ers, len_ers]; exact h)]; simp
  have hint : kind = 8 ∧ keys.length = kids.length → W = [er (.mk kind n neg dg ex tx fb bs fk keys fd kids)] ++ inter (wls (ers keys)) (wls (ers kids)) := fun h => by
    rw [hW]; simp only [er, wl]; rw [if_pos (by rw [len_ers, len_ers]; exact h)]; simp
  clear hW hwl
  obtain ⟨E, hE⟩ : ∃ E, E = [er (.mk kind n neg dg ex tx fb bs fk keys fd kids)] := ⟨_, rfl⟩
  rw [← hE] at hseq hint t hW0
  clear hE
  refine CallQ.of rfl (by kernel_rfl : Tryd.prog.funcs[36]? = some Tryd.f36) rfl (by decide) ?_
  conv => whnf
  refine CallQ.mono t ?_
  rintro _ S1 ⟨b1, g1, rfl⟩
  have hn1 := b1.next
  cases hgo : (runL E s).2
  · conv => whnf
    refine ⟨b1, ?_, ?_⟩
    · rw [split_take hW0 hgo]; exact g1
    · rw [split_take hW0 hgo, hgo]; rfl
  have kid : ∀ (y : Nd), (y ∈ keys ∨ y ∈ kids) → ∀ (S : St) (s : Int × Bool), Lk ep bp s S → ep < S.next → bp < S.next →
      CallQ Tryd.prog TC 36 [y.v, .int .i64 (d + 1 : Nat), .func (.func 37) [] [.ptr ep 0, .ptr bp 0]] S fun r S1 => WR ep bp (wl (er y)) s S r S1 := by
    intro y hy S s a1 a3 a4
    have hc : cnt y ≤ m := by
      rcases hy with hy | hy
      · have := cnt_mem hy; omega
      · have := cnt_mem hy; omega
    have hok : y.Ok := by
      rcases hy with hy | hy
      · exact ok7 y hy
      · exact ok8 y hy
    have hsy : Sb (er y) := by
      rcases hy with hy | hy
      · exact sb7 _ (List.mem_map.2 ⟨y, hy, rfl⟩)
      · exact sb8 _ (List.mem_map.2 ⟨y, hy, rfl⟩)
    exact ih y hok hsy hc S ep bp (d + 1) s a1 a3 a4 hne (by omega)
  have ed : IntKind.i64.wrap ((d : Int) + 1) = ((d + 1 : Nat) : Int) := by rw [wrap_i64 (by omega) (by omega)]; omega
  conv => whnf
  intro c hc
  rcases fk with _ | tk <;> rcases fd with _ | td
  · have hk0 := ok2 rfl
    have hd0 := ok3 rfl
    subst hk0
    subst hd0
    cases c
    · have hsq := hseq (fun q => absurd q.1 (by simpa using hc))
      conv => whnf
      refine CodeQ.loop (fun (j : Nat) => pat 82 [(1, .int .i64 d), (2, .func (.func 37) [] [.ptr ep 0, .ptr bp 0]), (62, .lst [.nils, .nils] .full), (63, .int .i64 2), (64, .int .i64 j)])
        (fun m j S2 => j + m = 2 ∧ But ep bp S S2 ∧ (runL (E ++ (if 0 < j then (wls (ers [])).flatten else []) ++ (if 1 < j then (wls (ers [])).flatten else [])) s).2 = true ∧ Lk ep bp (runL (E ++ (if 0 < j then (wls (ers [])).flatten else []) ++ (if 1 < j then (wls (ers [])).flatten else [])) s).1 S2) ?_ 2 0 _ _
        ⟨by omega, b1, by simpa using hgo, by simpa using g1⟩ ⟨rfl, rfl, rfl, rfl, rfl, trivial⟩
      rintro m2 j S2 d' ⟨q0, q1, q2, q3⟩
      have hn2 := q1.next
      conv => whnf
      intro cj hcj
      have hj : j = 0 ∨ j = 1 ∨ j = 2 := by omega
      rcases hj with rfl | rfl | rfl
      · simp at hcj
        subst hcj
        obtain rfl : m2 = 2 := by omega
        rw [if_neg (by decide), if_neg (by decide), List.append_nil, List.append_nil] at q2 q3
        conv => whnf
        refine ⟨by decide, _, rfl, rfl, ?_⟩
        conv => whnf
        refine CodeQ.loop (fun (i : Nat) => pat 82 [(1, .int .i64 d), (2, .func (.func 37) [] [.ptr ep 0, .ptr bp 0]), (62, .lst [.nils, .nils] .full), (63, .int .i64 2), (64, .int .i64 0), (69, .int .i64 0), (70, .int .i64 0)]) (fun m' i S3 => S3 = S2) ?_ 0 0 _ _ rfl ⟨rfl, rfl, rfl, rfl, rfl, rfl, rfl, trivial⟩
        rintro m' i S3 d2 rfl
        conv => whnf
        intro c3 hc3
        simp at hc3
        subst hc3
        conv => whnf
        refine ⟨1, 1, by omega, ⟨by omega, q1, by simpa [ers, wls] using q2, by simpa [ers, wls] using q3⟩, ⟨rfl, rfl, rfl, rfl, rfl, trivial⟩⟩
      · simp at hcj
        subst hcj
        obtain rfl : m2 = 1 := by omega
        rw [if_pos (by decide), if_neg (by decide), List.append_nil] at q2 q3
        conv => whnf
        refine ⟨by decide, _, rfl, rfl, ?_⟩
        conv => whnf
        refine CodeQ.loop (fun (i : Nat) => pat 82 [(1, .int .i64 d), (2, .func (.func 37) [] [.ptr ep 0, .ptr bp 0]), (62, .lst [.nils, .nils] .full), (63, .int .i64 2), (64, .int .i64 1), (69, .int .i64 0), (70, .int .i64 0)]) (fun m' i S3 => S3 = S2) ?_ 0 0 _ _ rfl ⟨rfl, rfl, rfl, rfl, rfl, rfl, rfl, trivial⟩
        rintro m' i S3 d2 rfl
        conv => whnf
        intro c3 hc3
        simp at hc3
        subst hc3
        conv => whnf
        refine ⟨0, 2, by omega, ⟨by omega, q1, by simpa [ers, wls] using q2, by simpa [ers, wls] using q3⟩, ⟨rfl, rfl, rfl, rfl, rfl, trivial⟩⟩
      · simp at hcj
        subst hcj
        conv => whnf
        rw [if_pos (by decide), if_pos (by decide), ← hsq] at q2 q3
        exact ⟨q1, q3, by rw [q2]; rfl⟩
    · conv => whnf
      intro c2 h2'
      cases c2
      · have hsq := hseq (fun q => absurd q.2 (by simp [vs_map] at h2'; first | done | (simp; omega) | omega | (simpa using h2')))
        conv => whnf
        refine CodeQ.loop (fun (j : Nat) => pat 82 [(1, .int .i64 d), (2, .func (.func 37) [] [.ptr ep 0, .ptr bp 0]), (62, .lst [.nils, .nils] .full), (63, .int .i64 2), (64, .int .i64 j)])
          (fun m j S2 => j + m = 2 ∧ But ep bp S S2 ∧ (runL (E ++ (if 0 < j then (wls (ers [])).flatten else []) ++ (if 1 < j then (wls (ers [])).flatten else [])) s).2 = true ∧ Lk ep bp (runL (E ++ (if 0 < j then (wls (ers [])).flatten else []) ++ (if 1 < j then (wls (ers [])).flatten else [])) s).1 S2) ?_ 2 0 _ _
          ⟨by omega, b1, by simpa using hgo, by simpa using g1⟩ ⟨rfl, rfl, rfl, rfl, rfl, trivial⟩
        rintro m2 j S2 d' ⟨q0, q1, q2, q3⟩
        have hn2 := q1.next
        conv => whnf
        intro cj hcj
        have hj : j = 0 ∨ j = 1 ∨ j = 2 := by omega
        rcases hj with rfl | rfl | rfl
        · simp at hcj
          subst hcj
          obtain rfl : m2 = 2 := by omega
          rw [if_neg (by decide), if_neg (by decide), List.append_nil, List.append_nil] at q2 q3
          conv => whnf
          refine ⟨by decide, _, rfl, rfl, ?_⟩
          conv => whnf
          refine CodeQ.loop (fun (i : Nat) => pat 82 [(1, .int .i64 d), (2, .func (.func 37) [] [.ptr ep 0, .ptr bp 0]), (62, .lst [.nils, .nils] .full), (63, .int .i64 2), (64, .int .i64 0), (69, .int .i64 0), (70, .int .i64 0)]) (fun m' i S3 => S3 = S2) ?_ 0 0 _ _ rfl ⟨rfl, rfl, rfl, rfl, rfl, rfl, rfl, trivial⟩
          rintro m' i S3 d2 rfl
          conv => whnf
          intro c3 hc3
          simp at hc3
          subst hc3
          conv => whnf
          refine ⟨1, 1, by omega, ⟨by omega, q1, by simpa [ers, wls] using q2, by simpa [ers, wls] using q3⟩, ⟨rfl, rfl, rfl, rfl, rfl, trivial⟩⟩
        · simp at hcj
          subst hcj
          obtain rfl : m2 = 1 := by omega
          rw [if_pos (by decide), if_neg (by decide), List.append_nil] at q2 q3
          conv => whnf
          refine ⟨by decide, _, rfl, rfl, ?_⟩
          conv => whnf
          refine CodeQ.loop (fun (i : Nat) => pat 82 [(1, .int .i64 d), (2, .func (.func 37) [] [.ptr ep 0, .ptr bp 0]), (62, .lst [.nils, .nils] .full), (63, .int .i64 2), (64, .int .i64 1), (69, .int .i64 0), (70, .int .i64 0)]) (fun m' i S3 => S3 = S2) ?_ 0 0 _ _ rfl ⟨rfl, rfl, rfl, rfl, rfl, rfl, rfl, trivial⟩
          rintro m' i S3 d2 rfl
          conv => whnf
          intro c3 hc3
          simp at hc3
          subst hc3
          conv => whnf
          refine ⟨0, 2, by omega, ⟨by omega, q1, by simpa [ers, wls] using q2, by simpa [ers, wls] using q3⟩, ⟨rfl, rfl, rfl, rfl, rfl, trivial⟩⟩
        · simp at hcj
          subst hcj
          conv => whnf
          rw [if_pos (by decide), if_pos (by decide), ← hsq] at q2 q3
          exact ⟨q1, q3, by rw [q2]; rfl⟩
      · have hin := hint ⟨by simpa using hc.symm, by first | rfl | (simp; done)⟩
        conv => whnf
        refine CodeQ.loop (fun (i : Nat) => pat 82 [(31, .int .i64 0), (32, .int .i64 0)]) (fun m' i S3 => S3 = S1) ?_ 0 0 _ _ rfl ⟨by first | rfl | simp [vs_map], rfl, trivial⟩
        rintro m' i S3 d2 rfl
        conv => whnf
        intro c3 hc3
        simp at hc3
        subst hc3
        conv => whnf
        have hWE : W = E := by rw [hin]; simp [ers, wls, inter]
        exact ⟨b1, by rw [hWE]; exact g1, by rw [hWE, hgo]; rfl⟩
  · have hk0 := ok2 rfl
    subst hk0
    cases c
    · have hsq := hseq (fun q => absurd q.1 (by simpa using hc))
      conv => whnf
      refine CodeQ.loop (fun (j : Nat) => pat 82 [(1, .int .i64 d), (2, .func (.func 37) [] [.ptr ep 0, .ptr bp 0]), (62, .lst [.nils, .lst (Nd.vs kids) .lost] .full), (63, .int .i64 2), (64, .int .i64 j)])
        (fun m j S2 => j + m = 2 ∧ But ep bp S S2 ∧ (runL (E ++ (if 0 < j then (wls (ers [])).flatten else []) ++ (if 1 < j then (wls (ers kids)).flatten else [])) s).2 = true ∧ Lk ep bp (runL (E ++ (if 0 < j then (wls (ers [])).flatten else []) ++ (if 1 < j then (wls (ers kids)).flatten else [])) s).1 S2) ?_ 2 0 _ _
        ⟨by omega, b1, by simpa using hgo, by simpa using g1⟩ ⟨rfl, rfl, rfl, rfl, rfl, trivial⟩
      rintro m2 j S2 d' ⟨q0, q1, q2, q3⟩
      have hn2 := q1.next
      conv => whnf
      intro cj hcj
      have hj : j = 0 ∨ j = 1 ∨ j = 2 := by omega
      rcases hj with rfl | rfl | rfl
      · simp at hcj
        subst hcj
        obtain rfl : m2 = 2 := by omega
        rw [if_neg (by decide), if_neg (by decide), List.append_nil, List.append_nil] at q2 q3
        conv => whnf
        refine ⟨by decide, _, rfl, rfl, ?_⟩
        conv => whnf
        refine CodeQ.loop (fun (i : Nat) => pat 82 [(1, .int .i64 d), (2, .func (.func 37) [] [.ptr ep 0, .ptr bp 0]), (62, .lst [.nils, .lst (Nd.vs kids) .lost] .full), (63, .int .i64 2), (64, .int .i64 0), (69, .int .i64 0), (70, .int .i64 0)]) (fun m' i S3 => S3 = S2) ?_ 0 0 _ _ rfl ⟨rfl, rfl, rfl, rfl, rfl, rfl, rfl, trivial⟩
        rintro m' i S3 d2 rfl
        conv => whnf
        intro c3 hc3
        simp at hc3
        subst hc3
        conv => whnf
        refine ⟨1, 1, by omega, ⟨by omega, q1, by simpa [ers, wls] using q2, by simpa [ers, wls] using q3⟩, ⟨rfl, rfl, rfl, rfl, rfl, trivial⟩⟩
      · simp at hcj
        subst hcj
        obtain rfl : m2 = 1 := by omega
        rw [if_pos (by decide), if_neg (by decide), List.append_nil] at q2 q3
        conv => whnf
        refine ⟨by decide, _, rfl, rfl, ?_⟩
        conv => whnf

        refine CodeQ.loop (fun (i : Nat) => pat 82 [(1, .int .i64 d), (2, .func (.func 37) [] [.ptr ep 0, .ptr bp 0]), (62, .lst [.nils, .lst (Nd.vs kids) .lost] .full), (63, .int .i64 2), (64, .int .i64 1), (68, .lst (Nd.vs kids) .lost), (69, .int .i64 (kids.length : Nat)), (70, .int .i64 i)])
          (fun m' i S3 => i + m' = kids.length ∧ But ep bp S S3 ∧ (runL ((E ++ (wls (ers [])).flatten) ++ ((wls (ers kids)).take i).flatten) s).2 = true ∧ Lk ep bp (runL ((E ++ (wls (ers [])).flatten) ++ ((wls (ers kids)).take i).flatten) s).1 S3) ?_ kids.length 0 _ _
          ⟨by simp, q1, by simpa using q2, by simpa using q3⟩ ⟨rfl, rfl, rfl, rfl, rfl, rfl, by simp [vs_map], rfl, trivial⟩
        rintro m' i S3 d2 ⟨u1, u2, u3, u4⟩
        conv => whnf
        intro c3 hc3
        simp [vs_map] at hc3
        cases c3
        · simp at hc3
          obtain rfl : i = kids.length := by omega
          rw [flat_all] at u3 u4
          conv => whnf
          refine ⟨0, 2, by omega, ⟨by omega, u2, by simpa using u3, by simpa using u4⟩, ⟨rfl, rfl, rfl, rfl, rfl, trivial⟩⟩
        simp at hc3
        conv => whnf
        have hmem : kids[i] ∈ kids := by simp
        have hft := flat_take hc3
        have hpre := flat_pre (wls (ers kids)) (i + 1)
        obtain ⟨y, hy⟩ : ∃ y, y = kids[i] := ⟨_, rfl⟩
        rw [← hy] at hmem hft
        have hget : (Nd.vs kids)[i]? = some y.v := by rw [vs_map, hy]; simp [hc3]
        have ky := kid y (.inr hmem)
        obtain ⟨wy, hwy⟩ : ∃ wy, wy = wl (er y) := ⟨_, rfl⟩
        rw [← hwy] at ky hft
        clear hwy
        obtain ⟨kind', n', neg', dg', ex', tx', fb', bs', fk', keys', fd', kids'⟩ := y
        refine ⟨by omega, _, hget, rfl, ?_⟩
        conv => whnf
        refine ⟨_, _, cells_new _ _, store_agg rfl rfl (nd_leaf ..), ?_⟩
        conv => whnf
        generalize hS4 : (S3.new _).set S3.next _ = S4
        have kk4 : Keep S3 S4 := by rw [← hS4]; exact ((Keep.refl S3).new _).set _ _ (Nat.le_refl _)
        have x4 : S4.cells S3.next = some [.int .i64 kind', .int .u64 n', .bool neg', .str dg', .int .i64 ex', .str tx', slV fb' (bs'.map u8), slV fk' (Nd.vs keys'), slV fd' (Nd.vs kids')] := by rw [← hS4]; exact cells_set _ _ _
        refine ⟨_, x4, ?_⟩
        conv => whnf
        rw [ed]
        have hn3 := u2.next
        have hn4 := kk4.next
        refine CallQ.mono (ky S4 _ (u4.keep kk4 (by omega) (by omega)) (by omega) (by omega)) ?_
        rintro r S5 ⟨w1, w2, rfl⟩
        have w1' : But ep bp S S5 := (u2.trans (.of kk4)).trans w1
        rw [← runL_on u3, List.append_assoc, ← hft] at w2 ⊢
        cases hgo5 : (runL ((E ++ (wls (ers [])).flatten) ++ ((wls (ers kids)).take (i + 1)).flatten) s).2
        · conv => whnf
          have hst : runL W s = runL ((E ++ (wls (ers [])).flatten) ++ ((wls (ers kids)).take (i + 1)).flatten) s := split_take (by obtain ⟨t1, ht1⟩ := hpre; exact ⟨t1, by rw [hsq, ht1]; simp only [List.append_assoc]⟩) hgo5
          refine ⟨w1', ?_, ?_⟩
          · rw [hst]; exact w2
          · rw [hst, hgo5]; rfl
        · conv => whnf
          refine ⟨m' - 1, i + 1, by omega, ⟨by omega, w1', hgo5, w2⟩, ⟨rfl, rfl, rfl, rfl, rfl, rfl, rfl, ?_, trivial⟩⟩
          rw [wrap_i64 (by omega) (by omega)]; rfl
      · simp at hcj
        subst hcj
        conv => whnf
        rw [if_pos (by decide), if_pos (by decide), ← hsq] at q2 q3
        exact ⟨q1, q3, by rw [q2]; rfl⟩
    · conv => whnf
      intro c2 h2'
      cases c2
      · have hsq := hseq (fun q => absurd q.2 (by simp [vs_map] at h2'; first | done | (simp; omega) | omega | (simpa using h2')))
        conv => whnf
        refine CodeQ.loop (fun (j : Nat) => pat 82 [(1, .int .i64 d), (2, .func (.func 37) [] [.ptr ep 0, .ptr bp 0]), (62, .lst [.nils, .lst (Nd.vs kids) .lost] .full), (63, .int .i64 2), (64, .int .i64 j)])
          (fun m j S2 => j + m = 2 ∧ But ep bp S S2 ∧ (runL (E ++ (if 0 < j then (wls (ers [])).flatten else []) ++ (if 1 < j then (wls (ers kids)).flatten else [])) s).2 = true ∧ Lk ep bp (runL (E ++ (if 0 < j then (wls (ers [])).flatten else []) ++ (if 1 < j then (wls (ers kids)).flatten else [])) s).1 S2) ?_ 2 0 _ _
          ⟨by omega, b1, by simpa using hgo, by simpa using g1⟩ ⟨rfl, rfl, rfl, rfl, rfl, trivial⟩
        rintro m2 j S2 d' ⟨q0, q1, q2, q3⟩
        have hn2 := q1.next
        conv => whnf
        intro cj hcj
        have hj : j = 0 ∨ j = 1 ∨ j = 2 := by omega
        rcases hj with rfl | rfl | rfl
        · simp at hcj
          subst hcj
          obtain rfl : m2 = 2 := by omega
          rw [if_neg (by decide), if_neg (by decide), List.append_nil, List.append_nil] at q2 q3
          conv => whnf
          refine ⟨by decide, _, rfl, rfl, ?_⟩
          conv => whnf
          refine CodeQ.loop (fun (i : Nat) => pat 82 [(1, .int .i64 d), (2, .func (.func 37) [] [.ptr ep 0, .ptr bp 0]), (62, .lst [.nils, .lst (Nd.vs kids) .lost] .full), (63, .int .i64 2), (64, .int .i64 0), (69, .int .i64 0), (70, .int .i64 0)]) (fun m' i S3 => S3 = S2) ?_ 0 0 _ _ rfl ⟨rfl, rfl, rfl, rfl, rfl, rfl, rfl, trivial⟩
          rintro m' i S3 d2 rfl
          conv => whnf
          intro c3 hc3
          simp at hc3
          subst hc3
          conv => whnf
          refine ⟨1, 1, by omega, ⟨by omega, q1, by simpa [ers, wls] using q2, by simpa [ers, wls] using q3⟩, ⟨rfl, rfl, rfl, rfl, rfl, trivial⟩⟩
        · simp at hcj
          subst hcj
          obtain rfl : m2 = 1 := by omega
          rw [if_pos (by decide), if_neg (by decide), List.append_nil] at q2 q3
          conv => whnf
          refine ⟨by decide, _, rfl, rfl, ?_⟩
          conv => whnf

          refine CodeQ.loop (fun (i : Nat) => pat 82 [(1, .int .i64 d), (2, .func (.func 37) [] [.ptr ep 0, .ptr bp 0]), (62, .lst [.nils, .lst (Nd.vs kids) .lost] .full), (63, .int .i64 2), (64, .int .i64 1), (68, .lst (Nd.vs kids) .lost), (69, .int .i64 (kids.length : Nat)), (70, .int .i64 i)])
            (fun m' i S3 => i + m' = kids.length ∧ But ep bp S S3 ∧ (runL ((E ++ (wls (ers [])).flatten) ++ ((wls (ers kids)).take i).flatten) s).2 = true ∧ Lk ep bp (runL ((E ++ (wls (ers [])).flatten) ++ ((wls (ers kids)).take i).flatten) s).1 S3) ?_ kids.length 0 _ _
            ⟨by simp, q1, by simpa using q2, by simpa using q3⟩ ⟨rfl, rfl, rfl, rfl, rfl, rfl, by simp [vs_map], rfl, trivial⟩
          rintro m' i S3 d2 ⟨u1, u2, u3, u4⟩
          conv => whnf
          intro c3 hc3
          simp [vs_map] at hc3
          cases c3
          · simp at hc3
            obtain rfl : i = kids.length := by omega
            rw [flat_all] at u3 u4
            conv => whnf
            refine ⟨0, 2, by omega, ⟨by omega, u2, by simpa using u3, by simpa using u4⟩, ⟨rfl, rfl, rfl, rfl, rfl, trivial⟩⟩
          simp at hc3
          conv => whnf
          have hmem : kids[i] ∈ kids := by simp
          have hft := flat_take hc3
          have hpre := flat_pre (wls (ers kids)) (i + 1)
          obtain ⟨y, hy⟩ : ∃ y, y = kids[i] := ⟨_, rfl⟩
          rw [← hy] at hmem hft
          have hget : (Nd.vs kids)[i]? = some y.v := by rw [vs_map, hy]; simp [hc3]
          have ky := kid y (.inr hmem)
          obtain ⟨wy, hwy⟩ : ∃ wy, wy = wl (er y) := ⟨_, rfl⟩
          rw [← hwy] at ky hft
          clear hwy
          obtain ⟨kind', n', neg', dg', ex', tx', fb', bs', fk', keys', fd', kids'⟩ := y
          refine ⟨by omega, _, hget, rfl, ?_⟩
          conv => whnf
          refine ⟨_, _, cells_new _ _, store_agg rfl rfl (nd_leaf ..), ?_⟩
          conv => whnf
          generalize hS4 : (S3.new _).set S3.next _ = S4
          have kk4 : Keep S3 S4 := by rw [← hS4]; exact ((Keep.refl S3).new _).set _ _ (Nat.le_refl _)
          have x4 : S4.cells S3.next = some [.int .i64 kind', .int .u64 n', .bool neg', .str dg', .int .i64 ex', .str tx', slV fb' (bs'.map u8), slV fk' (Nd.vs keys'), slV fd' (Nd.vs kids')] := by rw [← hS4]; exact cells_set _ _ _
          refine ⟨_, x4, ?_⟩
          conv => whnf
          rw [ed]
          have hn3 := u2.next
          have hn4 := kk4.next
          refine CallQ.mono (ky S4 _ (u4.keep kk4 (by omega) (by omega)) (by omega) (by omega)) ?_
          rintro r S5 ⟨w1, w2, rfl⟩
          have w1' : But ep bp S S5 := (u2.trans (.of kk4)).trans w1
          rw [← runL_on u3, List.append_assoc, ← hft] at w2 ⊢
          cases hgo5 : (runL ((E ++ (wls (ers [])).flatten) ++ ((wls (ers kids)).take (i + 1)).flatten) s).2
          · conv => whnf
            have hst : runL W s = runL ((E ++ (wls (ers [])).flatten) ++ ((wls (ers kids)).take (i + 1)).flatten) s := split_take (by obtain ⟨t1, ht1⟩ := hpre; exact ⟨t1, by rw [hsq, ht1]; simp only [List.append_assoc]⟩) hgo5
            refine ⟨w1', ?_, ?_⟩
            · rw [hst]; exact w2
            · rw [hst, hgo5]; rfl
          · conv => whnf
            refine ⟨m' - 1, i + 1, by omega, ⟨by omega, w1', hgo5, w2⟩, ⟨rfl, rfl, rfl, rfl, rfl, rfl, rfl, ?_, trivial⟩⟩
            rw [wrap_i64 (by omega) (by omega)]; rfl
        · simp at hcj
          subst hcj
          conv => whnf
          rw [if_pos (by decide), if_pos (by decide), ← hsq] at q2 q3
          exact ⟨q1, q3, by rw [q2]; rfl⟩
      · have hd0 : kids = [] := by
          rcases kids with _ | ⟨y0, l0⟩
          · rfl
          · exfalso; simp [vs_map] at h2'; try omega
        subst hd0

        have hin := hint ⟨by simpa using hc.symm, by first | rfl | (simp; done)⟩
        conv => whnf
        refine CodeQ.loop (fun (i : Nat) => pat 82 [(31, .int .i64 0), (32, .int .i64 0)]) (fun m' i S3 => S3 = S1) ?_ 0 0 _ _ rfl ⟨by first | rfl | simp [vs_map], rfl, trivial⟩
        rintro m' i S3 d2 rfl
        conv => whnf
        intro c3 hc3
        simp at hc3
        subst hc3
        conv => whnf
        have hWE : W = E := by rw [hin]; simp [ers, wls, inter]
        exact ⟨b1, by rw [hWE]; exact g1, by rw [hWE, hgo]; rfl⟩
  · have hd0 := ok3 rfl
    subst hd0
    cases c
    · have hsq := hseq (fun q => absurd q.1 (by simpa using hc))
      conv => whnf
      refine CodeQ.loop (fun (j : Nat) => pat 82 [(1, .int .i64 d), (2, .func (.func 37) [] [.ptr ep 0, .ptr bp 0]), (62, .lst [.lst (Nd.vs keys) .lost, .nils] .full), (63, .int .i64 2), (64, .int .i64 j)])
        (fun m j S2 => j + m = 2 ∧ But ep bp S S2 ∧ (runL (E ++ (if 0 < j then (wls (ers keys)).flatten else []) ++ (if 1 < j then (wls (ers [])).flatten else [])) s).2 = true ∧ Lk ep bp (runL (E ++ (if 0 < j then (wls (ers keys)).flatten else []) ++ (if 1 < j then (wls (ers [])).flatten else [])) s).1 S2) ?_ 2 0 _ _
        ⟨by omega, b1, by simpa using hgo, by simpa using g1⟩ ⟨rfl, rfl, rfl, rfl, rfl, trivial⟩
      rintro m2 j S2 d' ⟨q0, q1, q2, q3⟩
      have hn2 := q1.next
      conv => whnf
      intro cj hcj
      have hj : j = 0 ∨ j = 1 ∨ j = 2 := by omega
      rcases hj with rfl | rfl | rfl
      · simp at hcj
        subst hcj
        obtain rfl : m2 = 2 := by omega
        rw [if_neg (by decide), if_neg (by decide), List.append_nil, List.append_nil] at q2 q3
        conv => whnf
        refine ⟨by decide, _, rfl, rfl, ?_⟩
        conv => whnf

        refine CodeQ.loop (fun (i : Nat) => pat 82 [(1, .int .i64 d), (2, .func (.func 37) [] [.ptr ep 0, .ptr bp 0]), (62, .lst [.lst (Nd.vs keys) .lost, .nils] .full), (63, .int .i64 2), (64, .int .i64 0), (68, .lst (Nd.vs keys) .lost), (69, .int .i64 (keys.length : Nat)), (70, .int .i64 i)])
          (fun m' i S3 => i + m' = keys.length ∧ But ep bp S S3 ∧ (runL (E ++ ((wls (ers keys)).take i).flatten) s).2 = true ∧ Lk ep bp (runL (E ++ ((wls (ers keys)).take i).flatten) s).1 S3) ?_ keys.length 0 _ _
          ⟨by simp, q1, by simpa using q2, by simpa using q3⟩ ⟨rfl, rfl, rfl, rfl, rfl, rfl, by simp [vs_map], rfl, trivial⟩
        rintro m' i S3 d2 ⟨u1, u2, u3, u4⟩
        conv => whnf
        intro c3 hc3
        simp [vs_map] at hc3
        cases c3
        · simp at hc3
          obtain rfl : i = keys.length := by omega
          rw [flat_all] at u3 u4
          conv => whnf
          refine ⟨1, 1, by omega, ⟨by omega, u2, by simpa using u3, by simpa using u4⟩, ⟨rfl, rfl, rfl, rfl, rfl, trivial⟩⟩
        simp at hc3
        conv => whnf
        have hmem : keys[i] ∈ keys := by simp
        have hft := flat_take hc3
        have hpre := flat_pre (wls (ers keys)) (i + 1)
        obtain ⟨y, hy⟩ : ∃ y, y = keys[i] := ⟨_, rfl⟩
        rw [← hy] at hmem hft
        have hget : (Nd.vs keys)[i]? = some y.v := by rw [vs_map, hy]; simp [hc3]
        have ky := kid y (.inl hmem)
        obtain ⟨wy, hwy⟩ : ∃ wy, wy = wl (er y) := ⟨_, rfl⟩
        rw [← hwy] at ky hft
        clear hwy
        obtain ⟨kind', n', neg', dg', ex', tx', fb', bs', fk', keys', fd', kids'⟩ := y
        refine ⟨by omega, _, hget, rfl, ?_⟩
        conv => whnf
        refine ⟨_, _, cells_new _ _, store_agg rfl rfl (nd_leaf ..), ?_⟩
        conv => whnf
        generalize hS4 : (S3.new _).set S3.next _ = S4
        have kk4 : Keep S3 S4 := by rw [← hS4]; exact ((Keep.refl S3).new _).set _ _ (Nat.le_refl _)
        have x4 : S4.cells S3.next = some [.int .i64 kind', .int .u64 n', .bool neg', .str dg', .int .i64 ex', .str tx', slV fb' (bs'.map u8), slV fk' (Nd.vs keys'), slV fd' (Nd.vs kids')] := by rw [← hS4]; exact cells_set _ _ _
        refine ⟨_, x4, ?_⟩
        conv => whnf
        rw [ed]
        have hn3 := u2.next
        have hn4 := kk4.next
        refine CallQ.mono (ky S4 _ (u4.keep kk4 (by omega) (by omega)) (by omega) (by omega)) ?_
        rintro r S5 ⟨w1, w2, rfl⟩
        have w1' : But ep bp S S5 := (u2.trans (.of kk4)).trans w1
        rw [← runL_on u3, List.append_assoc, ← hft] at w2 ⊢
        cases hgo5 : (runL (E ++ ((wls (ers keys)).take (i + 1)).flatten) s).2
        · conv => whnf
          have hst : runL W s = runL (E ++ ((wls (ers keys)).take (i + 1)).flatten) s := split_take (by obtain ⟨t1, ht1⟩ := hpre; exact ⟨t1 ++ (wls (ers [])).flatten, by rw [hsq, ht1]; simp only [List.append_assoc]⟩) hgo5
          refine ⟨w1', ?_, ?_⟩
          · rw [hst]; exact w2
          · rw [hst, hgo5]; rfl
        · conv => whnf
          refine ⟨m' - 1, i + 1, by omega, ⟨by omega, w1', hgo5, w2⟩, ⟨rfl, rfl, rfl, rfl, rfl, rfl, rfl, ?_, trivial⟩⟩
          rw [wrap_i64 (by omega) (by omega)]; rfl
      · simp at hcj
        subst hcj
        obtain rfl : m2 = 1 := by omega
        rw [if_pos (by decide), if_neg (by decide), List.append_nil] at q2 q3
        conv => whnf
        refine ⟨by decide, _, rfl, rfl, ?_⟩
        conv => whnf
        refine CodeQ.loop (fun (i : Nat) => pat 82 [(1, .int .i64 d), (2, .func (.func 37) [] [.ptr ep 0, .ptr bp 0]), (62, .lst [.lst (Nd.vs keys) .lost, .nils] .full), (63, .int .i64 2), (64, .int .i64 1), (69, .int .i64 0), (70, .int .i64 0)]) (fun m' i S3 => S3 = S2) ?_ 0 0 _ _ rfl ⟨rfl, rfl, rfl, rfl, rfl, rfl, rfl, trivial⟩
        rintro m' i S3 d2 rfl
        conv => whnf
        intro c3 hc3
        simp at hc3
        subst hc3
        conv => whnf
        refine ⟨0, 2, by omega, ⟨by omega, q1, by simpa [ers, wls] using q2, by simpa [ers, wls] using q3⟩, ⟨rfl, rfl, rfl, rfl, rfl, trivial⟩⟩
      · simp at hcj
        subst hcj
        conv => whnf
        rw [if_pos (by decide), if_pos (by decide), ← hsq] at q2 q3
        exact ⟨q1, q3, by rw [q2]; rfl⟩
    · conv => whnf
      intro c2 h2'
      cases c2
      · have hsq := hseq (fun q => absurd q.2 (by simp [vs_map] at h2'; first | done | (simp; omega) | omega | (simpa using h2')))
        conv => whnf
        refine CodeQ.loop (fun (j : Nat) => pat 82 [(1, .int .i64 d), (2, .func (.func 37) [] [.ptr ep 0, .ptr bp 0]), (62, .lst [.lst (Nd.vs keys) .lost, .nils] .full), (63, .int .i64 2), (64, .int .i64 j)])
          (fun m j S2 => j + m = 2 ∧ But ep bp S S2 ∧ (runL (E ++ (if 0 < j then (wls (ers keys)).flatten else []) ++ (if 1 < j then (wls (ers [])).flatten else [])) s).2 = true ∧ Lk ep bp (runL (E ++ (if 0 < j then (wls (ers keys)).flatten else []) ++ (if 1 < j then (wls (ers [])).flatten else [])) s).1 S2) ?_ 2 0 _ _
          ⟨by omega, b1, by simpa using hgo, by simpa using g1⟩ ⟨rfl, rfl, rfl, rfl, rfl, trivial⟩
        rintro m2 j S2 d' ⟨q0, q1, q2, q3⟩
        have hn2 := q1.next
        conv => whnf
        intro cj hcj
        have hj : j = 0 ∨ j = 1 ∨ j = 2 := by omega
        rcases hj with rfl | rfl | rfl
        · simp at hcj
          subst hcj
          obtain rfl : m2 = 2 := by omega
          rw [if_neg (by decide), if_neg (by decide), List.append_nil, List.append_nil] at q2 q3
          conv => whnf
          refine ⟨by decide, _, rfl, rfl, ?_⟩
          conv => whnf

          refine CodeQ.loop (fun (i : Nat) => pat 82 [(1, .int .i64 d), (2, .func (.func 37) [] [.ptr ep 0, .ptr bp 0]), (62, .lst [.lst (Nd.vs keys) .lost, .nils] .full), (63, .int .i64 2), (64, .int .i64 0), (68, .lst (Nd.vs keys) .lost), (69, .int .i64 (keys.length : Nat)), (70, .int .i64 i)])
            (fun m' i S3 => i + m' = keys.length ∧ But ep bp S S3 ∧ (runL (E ++ ((wls (ers keys)).take i).flatten) s).2 = true ∧ Lk ep bp (runL (E ++ ((wls (ers keys)).take i).flatten) s).1 S3) ?_ keys.length 0 _ _
            ⟨by simp, q1, by simpa using q2, by simpa using q3⟩ ⟨rfl, rfl, rfl, rfl, rfl, rfl, by simp [vs_map], rfl, trivial⟩
          rintro m' i S3 d2 ⟨u1, u2, u3, u4⟩
          conv => whnf
          intro c3 hc3
          simp [vs_map] at hc3
          cases c3
          · simp at hc3
            obtain rfl : i = keys.length := by omega
            rw [flat_all] at u3 u4
            conv => whnf
            refine ⟨1, 1, by omega, ⟨by omega, u2, by simpa using u3, by simpa using u4⟩, ⟨rfl, rfl, rfl, rfl, rfl, trivial⟩⟩
          simp at hc3
          conv => whnf
          have hmem : keys[i] ∈ keys := by simp
          have hft := flat_take hc3
          have hpre := flat_pre (wls (ers keys)) (i + 1)
          obtain ⟨y, hy⟩ : ∃ y, y = keys[i] := ⟨_, rfl⟩
          rw [← hy] at hmem hft
          have hget : (Nd.vs keys)[i]? = some y.v := by rw [vs_map, hy]; simp [hc3]
          have ky := kid y (.inl hmem)
          obtain ⟨wy, hwy⟩ : ∃ wy, wy = wl (er y) := ⟨_, rfl⟩
          rw [← hwy] at ky hft
          clear hwy
          obtain ⟨kind', n', neg', dg', ex', tx', fb', bs', fk', keys', fd', kids'⟩ := y
          refine ⟨by omega, _, hget, rfl, ?_⟩
          conv => whnf
          refine ⟨_, _, cells_new _ _, store_agg rfl rfl (nd_leaf ..), ?_⟩
          conv => whnf
          generalize hS4 : (S3.new _).set S3.next _ = S4
          have kk4 : Keep S3 S4 := by rw [← hS4]; exact ((Keep.refl S3).new _).set _ _ (Nat.le_refl _)
          have x4 : S4.cells S3.next = some [.int .i64 kind', .int .u64 n', .bool neg', .str dg', .int .i64 ex', .str tx', slV fb' (bs'.map u8), slV fk' (Nd.vs keys'), slV fd' (Nd.vs kids')] := by rw [← hS4]; exact cells_set _ _ _
          refine ⟨_, x4, ?_⟩
          conv => whnf
          rw [ed]
          have hn3 := u2.next
          have hn4 := kk4.next
          refine CallQ.mono (ky S4 _ (u4.keep kk4 (by omega) (by omega)) (by omega) (by omega)) ?_
          rintro r S5 ⟨w1, w2, rfl⟩
          have w1' : But ep bp S S5 := (u2.trans (.of kk4)).trans w1
          rw [← runL_on u3, List.append_assoc, ← hft] at w2 ⊢
          cases hgo5 : (runL (E ++ ((wls (ers keys)).take (i + 1)).flatten) s).2
          · conv => whnf
            have hst : runL W s = runL (E ++ ((wls (ers keys)).take (i + 1)).flatten) s := split_take (by obtain ⟨t1, ht1⟩ := hpre; exact ⟨t1 ++ (wls (ers [])).flatten, by rw [hsq, ht1]; simp only [List.append_assoc]⟩) hgo5
            refine ⟨w1', ?_, ?_⟩
            · rw [hst]; exact w2
            · rw [hst, hgo5]; rfl
          · conv => whnf
            refine ⟨m' - 1, i + 1, by omega, ⟨by omega, w1', hgo5, w2⟩, ⟨rfl, rfl, rfl, rfl, rfl, rfl, rfl, ?_, trivial⟩⟩
            rw [wrap_i64 (by omega) (by omega)]; rfl
        · simp at hcj
          subst hcj
          obtain rfl : m2 = 1 := by omega
          rw [if_pos (by decide), if_neg (by decide), List.append_nil] at q2 q3
          conv => whnf
          refine ⟨by decide, _, rfl, rfl, ?_⟩
          conv => whnf
          refine CodeQ.loop (fun (i : Nat) => pat 82 [(1, .int .i64 d), (2, .func (.func 37) [] [.ptr ep 0, .ptr bp 0]), (62, .lst [.lst (Nd.vs keys) .lost, .nils] .full), (63, .int .i64 2), (64, .int .i64 1), (69, .int .i64 0), (70, .int .i64 0)]) (fun m' i S3 => S3 = S2) ?_ 0 0 _ _ rfl ⟨rfl, rfl, rfl, rfl, rfl, rfl, rfl, trivial⟩
          rintro m' i S3 d2 rfl
          conv => whnf
          intro c3 hc3
          simp at hc3
          subst hc3
          conv => whnf
          refine ⟨0, 2, by omega, ⟨by omega, q1, by simpa [ers, wls] using q2, by simpa [ers, wls] using q3⟩, ⟨rfl, rfl, rfl, rfl, rfl, trivial⟩⟩
        · simp at hcj
          subst hcj
          conv => whnf
          rw [if_pos (by decide), if_pos (by decide), ← hsq] at q2 q3
          exact ⟨q1, q3, by rw [q2]; rfl⟩
      · have hk0 : keys = [] := by
          rcases keys with _ | ⟨y0, l0⟩
          · rfl
          · exfalso; simp [vs_map] at h2'; try omega
        subst hk0

        have hin := hint ⟨by simpa using hc.symm, by first | rfl | (simp; done)⟩
        conv => whnf
        refine CodeQ.loop (fun (i : Nat) => pat 82 [(31, .int .i64 0), (32, .int .i64 0)]) (fun m' i S3 => S3 = S1) ?_ 0 0 _ _ rfl ⟨by first | rfl | simp [vs_map], rfl, trivial⟩
        rintro m' i S3 d2 rfl
        conv => whnf
        intro c3 hc3
        simp at hc3
        subst hc3
        conv => whnf
        have hWE : W = E := by rw [hin]; simp [ers, wls, inter]
        exact ⟨b1, by rw [hWE]; exact g1, by rw [hWE, hgo]; rfl⟩
  · cases c
    · have hsq := hseq (fun q => absurd q.1 (by simpa using hc))
      conv => whnf
      refine CodeQ.loop (fun (j : Nat) => pat 82 [(1, .int .i64 d), (2, .func (.func 37) [] [.ptr ep 0, .ptr bp 0]), (62, .lst [.lst (Nd.vs keys) .lost, .lst (Nd.vs kids) .lost] .full), (63, .int .i64 2), (64, .int .i64 j)])
        (fun m j S2 => j + m = 2 ∧ But ep bp S S2 ∧ (runL (E ++ (if 0 < j then (wls (ers keys)).flatten else []) ++ (if 1 < j then (wls (ers kids)).flatten else [])) s).2 = true ∧ Lk ep bp (runL (E ++ (if 0 < j then (wls (ers keys)).flatten else []) ++ (if 1 < j then (wls (ers kids)).flatten else [])) s).1 S2) ?_ 2 0 _ _
        ⟨by omega, b1, by simpa using hgo, by simpa using g1⟩ ⟨rfl, rfl, rfl, rfl, rfl, trivial⟩
      rintro m2 j S2 d' ⟨q0, q1, q2, q3⟩
      have hn2 := q1.next
      conv => whnf
      intro cj hcj
      have hj : j = 0 ∨ j = 1 ∨ j = 2 := by omega
      rcases hj with rfl | rfl | rfl
      · simp at hcj
        subst hcj
        obtain rfl : m2 = 2 := by omega
        rw [if_neg (by decide), if_neg (by decide), List.append_nil, List.append_nil] at q2 q3
        conv => whnf
        refine ⟨by decide, _, rfl, rfl, ?_⟩
        conv => whnf

        refine CodeQ.loop (fun (i : Nat) => pat 82 [(1, .int .i64 d), (2, .func (.func 37) [] [.ptr ep 0, .ptr bp 0]), (62, .lst [.lst (Nd.vs keys) .lost, .lst (Nd.vs kids) .lost] .full), (63, .int .i64 2), (64, .int .i64 0), (68, .lst (Nd.vs keys) .lost), (69, .int .i64 (keys.length : Nat)), (70, .int .i64 i)])
          (fun m' i S3 => i + m' = keys.length ∧ But ep bp S S3 ∧ (runL (E ++ ((wls (ers keys)).take i).flatten) s).2 = true ∧ Lk ep bp (runL (E ++ ((wls (ers keys)).take i).flatten) s).1 S3) ?_ keys.length 0 _ _
          ⟨by simp, q1, by simpa using q2, by simpa using q3⟩ ⟨rfl, rfl, rfl, rfl, rfl, rfl, by simp [vs_map], rfl, trivial⟩
        rintro m' i S3 d2 ⟨u1, u2, u3, u4⟩
        conv => whnf
        intro c3 hc3
        simp [vs_map] at hc3
        cases c3
        · simp at hc3
          obtain rfl : i = keys.length := by omega
          rw [flat_all] at u3 u4
          conv => whnf
          refine ⟨1, 1, by omega, ⟨by omega, u2, by simpa using u3, by simpa using u4⟩, ⟨rfl, rfl, rfl, rfl, rfl, trivial⟩⟩
        simp at hc3
        conv => whnf
        have hmem : keys[i] ∈ keys := by simp
        have hft := flat_take hc3
        have hpre := flat_pre (wls (ers keys)) (i + 1)
        obtain ⟨y, hy⟩ : ∃ y, y = keys[i] := ⟨_, rfl⟩
        rw [← hy] at hmem hft
        have hget : (Nd.vs keys)[i]? = some y.v := by rw [vs_map, hy]; simp [hc3]
        have ky := kid y (.inl hmem)
        obtain ⟨wy, hwy⟩ : ∃ wy, wy = wl (er y) := ⟨_, rfl⟩
        rw [← hwy] at ky hft
        clear hwy
        obtain ⟨kind', n', neg', dg', ex', tx', fb', bs', fk', keys', fd', kids'⟩ := y
        refine ⟨by omega, _, hget, rfl, ?_⟩
        conv => whnf
        refine ⟨_, _, cells_new _ _, store_agg rfl rfl (nd_leaf ..), ?_⟩
        conv => whnf
        generalize hS4 : (S3.new _).set S3.next _ = S4
        have kk4 : Keep S3 S4 := by rw [← hS4]; exact ((Keep.refl S3).new _).set _ _ (Nat.le_refl _)
        have x4 : S4.cells S3.next = some [.int .i64 kind', .int .u64 n', .bool neg', .str dg', .int .i64 ex', .str tx', slV fb' (bs'.map u8), slV fk' (Nd.vs keys'), slV fd' (Nd.vs kids')] := by rw [← hS4]; exact cells_set _ _ _
        refine ⟨_, x4, ?_⟩
        conv => whnf
        rw [ed]
        have hn3 := u2.next
        have hn4 := kk4.next
        refine CallQ.mono (ky S4 _ (u4.keep kk4 (by omega) (by omega)) (by omega) (by omega)) ?_
        rintro r S5 ⟨w1, w2, rfl⟩
        have w1' : But ep bp S S5 := (u2.trans (.of kk4)).trans w1
        rw [← runL_on u3, List.append_assoc, ← hft] at w2 ⊢
        cases hgo5 : (runL (E ++ ((wls (ers keys)).take (i + 1)).flatten) s).2
        · conv => whnf
          have hst : runL W s = runL (E ++ ((wls (ers keys)).take (i + 1)).flatten) s := split_take (by obtain ⟨t1, ht1⟩ := hpre; exact ⟨t1 ++ (wls (ers kids)).flatten, by rw [hsq, ht1]; simp only [List.append_assoc]⟩) hgo5
          refine ⟨w1', ?_, ?_⟩
          · rw [hst]; exact w2
          · rw [hst, hgo5]; rfl
        · conv => whnf
          refine ⟨m' - 1, i + 1, by omega, ⟨by omega, w1', hgo5, w2⟩, ⟨rfl, rfl, rfl, rfl, rfl, rfl, rfl, ?_, trivial⟩⟩
          rw [wrap_i64 (by omega) (by omega)]; rfl
      · simp at hcj
        subst hcj
        obtain rfl : m2 = 1 := by omega
        rw [if_pos (by decide), if_neg (by decide), List.append_nil] at q2 q3
        conv => whnf
        refine ⟨by decide, _, rfl, rfl, ?_⟩
        conv => whnf

        refine CodeQ.loop (fun (i : Nat) => pat 82 [(1, .int .i64 d), (2, .func (.func 37) [] [.ptr ep 0, .ptr bp 0]), (62, .lst [.lst (Nd.vs keys) .lost, .lst (Nd.vs kids) .lost] .full), (63, .int .i64 2), (64, .int .i64 1), (68, .lst (Nd.vs kids) .lost), (69, .int .i64 (kids.length : Nat)), (70, .int .i64 i)])
          (fun m' i S3 => i + m' = kids.length ∧ But ep bp S S3 ∧ (runL ((E ++ (wls (ers keys)).flatten) ++ ((wls (ers kids)).take i).flatten) s).2 = true ∧ Lk ep bp (runL ((E ++ (wls (ers keys)).flatten) ++ ((wls (ers kids)).take i).flatten) s).1 S3) ?_ kids.length 0 _ _
          ⟨by simp, q1, by simpa using q2, by simpa using q3⟩ ⟨rfl, rfl, rfl, rfl, rfl, rfl, by simp [vs_map], rfl, trivial⟩
        rintro m' i S3 d2 ⟨u1, u2, u3, u4⟩
        conv => whnf
        intro c3 hc3
        simp [vs_map] at hc3
        cases c3
        · simp at hc3
          obtain rfl : i = kids.length := by omega
          rw [flat_all] at u3 u4
          conv => whnf
          refine ⟨0, 2, by omega, ⟨by omega, u2, by simpa using u3, by simpa using u4⟩, ⟨rfl, rfl, rfl, rfl, rfl, trivial⟩⟩
        simp at hc3
        conv => whnf
        have hmem : kids[i] ∈ kids := by simp
        have hft := flat_take hc3
        have hpre := flat_pre (wls (ers kids)) (i + 1)
        obtain ⟨y, hy⟩ : ∃ y, y = kids[i] := ⟨_, rfl⟩
        rw [← hy] at hmem hft
        have hget : (Nd.vs kids)[i]? = some y.v := by rw [vs_map, hy]; simp [hc3]
        have ky := kid y (.inr hmem)
        obtain ⟨wy, hwy⟩ : ∃ wy, wy = wl (er y) := ⟨_, rfl⟩
        rw [← hwy] at ky hft
        clear hwy
        obtain ⟨kind', n', neg', dg', ex', tx', fb', bs', fk', keys', fd', kids'⟩ := y
        refine ⟨by omega, _, hget, rfl, ?_⟩
        conv => whnf
        refine ⟨_, _, cells_new _ _, store_agg rfl rfl (nd_leaf ..), ?_⟩
        conv => whnf
        generalize hS4 : (S3.new _).set S3.next _ = S4
        have kk4 : Keep S3 S4 := by rw [← hS4]; exact ((Keep.refl S3).new _).set _ _ (Nat.le_refl _)
        have x4 : S4.cells S3.next = some [.int .i64 kind', .int .u64 n', .bool neg', .str dg', .int .i64 ex', .str tx', slV fb' (bs'.map u8), slV fk' (Nd.vs keys'), slV fd' (Nd.vs kids')] := by rw [← hS4]; exact cells_set _ _ _
        refine ⟨_, x4, ?_⟩
        conv => whnf
        rw [ed]
        have hn3 := u2.next
        have hn4 := kk4.next
        refine CallQ.mono (ky S4 _ (u4.keep kk4 (by omega) (by omega)) (by omega) (by omega)) ?_
        rintro r S5 ⟨w1, w2, rfl⟩
        have w1' : But ep bp S S5 := (u2.trans (.of kk4)).trans w1
        rw [← runL_on u3, List.append_assoc, ← hft] at w2 ⊢
        cases hgo5 : (runL ((E ++ (wls (ers keys)).flatten) ++ ((wls (ers kids)).take (i + 1)).flatten) s).2
        · conv => whnf
          have hst : runL W s = runL ((E ++ (wls (ers keys)).flatten) ++ ((wls (ers kids)).take (i + 1)).flatten) s := split_take (by obtain ⟨t1, ht1⟩ := hpre; exact ⟨t1, by rw [hsq, ht1]; simp only [List.append_assoc]⟩) hgo5
          refine ⟨w1', ?_, ?_⟩
          · rw [hst]; exact w2
          · rw [hst, hgo5]; rfl
        · conv => whnf
          refine ⟨m' - 1, i + 1, by omega, ⟨by omega, w1', hgo5, w2⟩, ⟨rfl, rfl, rfl, rfl, rfl, rfl, rfl, ?_, trivial⟩⟩
          rw [wrap_i64 (by omega) (by omega)]; rfl
      · simp at hcj
        subst hcj
        conv => whnf
        rw [if_pos (by decide), if_pos (by decide), ← hsq] at q2 q3
        exact ⟨q1, q3, by rw [q2]; rfl⟩
    · conv => whnf
      intro c2 h2'
      cases c2
      · have hsq := hseq (fun q => absurd q.2 (by simp [vs_map] at h2'; first | done | (simp; omega) | omega | (simpa using h2')))
        conv => whnf
        refine CodeQ.loop (fun (j : Nat) => pat 82 [(1, .int .i64 d), (2, .func (.func 37) [] [.ptr ep 0, .ptr bp 0]), (62, .lst [.lst (Nd.vs keys) .lost, .lst (Nd.vs kids) .lost] .full), (63, .int .i64 2), (64, .int .i64 j)])
          (fun m j S2 => j + m = 2 ∧ But ep bp S S2 ∧ (runL (E ++ (if 0 < j then (wls (ers keys)).flatten else []) ++ (if 1 < j then (wls (ers kids)).flatten else [])) s).2 = true ∧ Lk ep bp (runL (E ++ (if 0 < j then (wls (ers keys)).flatten else []) ++ (if 1 < j then (wls (ers kids)).flatten else [])) s).1 S2) ?_ 2 0 _ _
          ⟨by omega, b1, by simpa using hgo, by simpa using g1⟩ ⟨rfl, rfl, rfl, rfl, rfl, trivial⟩
        rintro m2 j S2 d' ⟨q0, q1, q2, q3⟩
        have hn2 := q1.next
        conv => whnf
        intro cj hcj
        have hj : j = 0 ∨ j = 1 ∨ j = 2 := by omega
        rcases hj with rfl | rfl | rfl
        · simp at hcj
          subst hcj
          obtain rfl : m2 = 2 := by omega
          rw [if_neg (by decide), if_neg (by decide), List.append_nil, List.append_nil] at q2 q3
          conv => whnf
          refine ⟨by decide, _, rfl, rfl, ?_⟩
          conv => whnf

          refine CodeQ.loop (fun (i : Nat) => pat 82 [(1, .int .i64 d), (2, .func (.func 37) [] [.ptr ep 0, .ptr bp 0]), (62, .lst [.lst (Nd.vs keys) .lost, .lst (Nd.vs kids) .lost] .full), (63, .int .i64 2), (64, .int .i64 0), (68, .lst (Nd.vs keys) .lost), (69, .int .i64 (keys.length : Nat)), (70, .int .i64 i)])
            (fun m' i S3 => i + m' = keys.length ∧ But ep bp S S3 ∧ (runL (E ++ ((wls (ers keys)).take i).flatten) s).2 = true ∧ Lk ep bp (runL (E ++ ((wls (ers keys)).take i).flatten) s).1 S3) ?_ keys.length 0 _ _
            ⟨by simp, q1, by simpa using q2, by simpa using q3⟩ ⟨rfl, rfl, rfl, rfl, rfl, rfl, by simp [vs_map], rfl, trivial⟩
          rintro m' i S3 d2 ⟨u1, u2, u3, u4⟩
          conv => whnf
          intro c3 hc3
          simp [vs_map] at hc3
          cases c3
          · simp at hc3
            obtain rfl : i = keys.length := by omega
            rw [flat_all] at u3 u4
            conv => whnf
            refine ⟨1, 1, by omega, ⟨by omega, u2, by simpa using u3, by simpa using u4⟩, ⟨rfl, rfl, rfl, rfl, rfl, trivial⟩⟩
          simp at hc3
          conv => whnf
          have hmem : keys[i] ∈ keys := by simp
          have hft := flat_take hc3
          have hpre := flat_pre (wls (ers keys)) (i + 1)
          obtain ⟨y, hy⟩ : ∃ y, y = keys[i] := ⟨_, rfl⟩
          rw [← hy] at hmem hft
          have hget : (Nd.vs keys)[i]? = some y.v := by rw [vs_map, hy]; simp [hc3]
          have ky := kid y (.inl hmem)
          obtain ⟨wy, hwy⟩ : ∃ wy, wy = wl (er y) := ⟨_, rfl⟩
          rw [← hwy] at ky hft
          clear hwy
          obtain ⟨kind', n', neg', dg', ex', tx', fb', bs', fk', keys', fd', kids'⟩ := y
          refine ⟨by omega, _, hget, rfl, ?_⟩
          conv => whnf
          refine ⟨_, _, cells_new _ _, store_agg rfl rfl (nd_leaf ..), ?_⟩
          conv => whnf
          generalize hS4 : (S3.new _).set S3.next _ = S4
          have kk4 : Keep S3 S4 := by rw [← hS4]; exact ((Keep.refl S3).new _).set _ _ (Nat.le_refl _)
          have x4 : S4.cells S3.next = some [.int .i64 kind', .int .u64 n', .bool neg', .str dg', .int .i64 ex', .str tx', slV fb' (bs'.map u8), slV fk' (Nd.vs keys'), slV fd' (Nd.vs kids')] := by rw [← hS4]; exact cells_set _ _ _
          refine ⟨_, x4, ?_⟩
          conv => whnf
          rw [ed]
          have hn3 := u2.next
          have hn4 := kk4.next
          refine CallQ.mono (ky S4 _ (u4.keep kk4 (by omega) (by omega)) (by omega) (by omega)) ?_
          rintro r S5 ⟨w1, w2, rfl⟩
          have w1' : But ep bp S S5 := (u2.trans (.of kk4)).trans w1
          rw [← runL_on u3, List.append_assoc, ← hft] at w2 ⊢
          cases hgo5 : (runL (E ++ ((wls (ers keys)).take (i + 1)).flatten) s).2
          · conv => whnf
            have hst : runL W s = runL (E ++ ((wls (ers keys)).take (i + 1)).flatten) s := split_take (by obtain ⟨t1, ht1⟩ := hpre; exact ⟨t1 ++ (wls (ers kids)).flatten, by rw [hsq, ht1]; simp only [List.append_assoc]⟩) hgo5
            refine ⟨w1', ?_, ?_⟩
            · rw [hst]; exact w2
            · rw [hst, hgo5]; rfl
          · conv => whnf
            refine ⟨m' - 1, i + 1, by omega, ⟨by omega, w1', hgo5, w2⟩, ⟨rfl, rfl, rfl, rfl, rfl, rfl, rfl, ?_, trivial⟩⟩
            rw [wrap_i64 (by omega) (by omega)]; rfl
        · simp at hcj
          subst hcj
          obtain rfl : m2 = 1 := by omega
          rw [if_pos (by decide), if_neg (by decide), List.append_nil] at q2 q3
          conv => whnf
          refine ⟨by decide, _, rfl, rfl, ?_⟩
          conv => whnf

          refine CodeQ.loop (fun (i : Nat) => pat 82 [(1, .int .i64 d), (2, .func (.func 37) [] [.ptr ep 0, .ptr bp 0]), (62, .lst [.lst (Nd.vs keys) .lost, .lst (Nd.vs kids) .lost] .full), (63, .int .i64 2), (64, .int .i64 1), (68, .lst (Nd.vs kids) .lost), (69, .int .i64 (kids.length : Nat)), (70, .int .i64 i)])
            (fun m' i S3 => i + m' = kids.length ∧ But ep bp S S3 ∧ (runL ((E ++ (wls (ers keys)).flatten) ++ ((wls (ers kids)).take i).flatten) s).2 = true ∧ Lk ep bp (runL ((E ++ (wls (ers keys)).flatten) ++ ((wls (ers kids)).take i).flatten) s).1 S3) ?_ kids.length 0 _ _
            ⟨by simp, q1, by simpa using q2, by simpa using q3⟩ ⟨rfl, rfl, rfl, rfl, rfl, rfl, by simp [vs_map], rfl, trivial⟩
          rintro m' i S3 d2 ⟨u1, u2, u3, u4⟩
          conv => whnf
          intro c3 hc3
          simp [vs_map] at hc3
          cases c3
          · simp at hc3
            obtain rfl : i = kids.length := by omega
            rw [flat_all] at u3 u4
            conv => whnf
            refine ⟨0, 2, by omega, ⟨by omega, u2, by simpa using u3, by simpa using u4⟩, ⟨rfl, rfl, rfl, rfl, rfl, trivial⟩⟩
          simp at hc3
          conv => whnf
          have hmem : kids[i] ∈ kids := by simp
          have hft := flat_take hc3
          have hpre := flat_pre (wls (ers kids)) (i + 1)
          obtain ⟨y, hy⟩ : ∃ y, y = kids[i] := ⟨_, rfl⟩
          rw [← hy] at hmem hft
          have hget : (Nd.vs kids)[i]? = some y.v := by rw [vs_map, hy]; simp [hc3]
          have ky := kid y (.inr hmem)
          obtain ⟨wy, hwy⟩ : ∃ wy, wy = wl (er y) := ⟨_, rfl⟩
          rw [← hwy] at ky hft
          clear hwy
          obtain ⟨kind', n', neg', dg', ex', tx', fb', bs', fk', keys', fd', kids'⟩ := y
          refine ⟨by omega, _, hget, rfl, ?_⟩
          conv => whnf
          refine ⟨_, _, cells_new _ _, store_agg rfl rfl (nd_leaf ..), ?_⟩
          conv => whnf
          generalize hS4 : (S3.new _).set S3.next _ = S4
          have kk4 : Keep S3 S4 := by rw [← hS4]; exact ((Keep.refl S3).new _).set _ _ (Nat.le_refl _)
          have x4 : S4.cells S3.next = some [.int .i64 kind', .int .u64 n', .bool neg', .str dg', .int .i64 ex', .str tx', slV fb' (bs'.map u8), slV fk' (Nd.vs keys'), slV fd' (Nd.vs kids')] := by rw [← hS4]; exact cells_set _ _ _
          refine ⟨_, x4, ?_⟩
          conv => whnf
          rw [ed]
          have hn3 := u2.next
          have hn4 := kk4.next
          refine CallQ.mono (ky S4 _ (u4.keep kk4 (by omega) (by omega)) (by omega) (by omega)) ?_
          rintro r S5 ⟨w1, w2, rfl⟩
          have w1' : But ep bp S S5 := (u2.trans (.of kk4)).trans w1
          rw [← runL_on u3, List.append_assoc, ← hft] at w2 ⊢
          cases hgo5 : (runL ((E ++ (wls (ers keys)).flatten) ++ ((wls (ers kids)).take (i + 1)).flatten) s).2
          · conv => whnf
            have hst : runL W s = runL ((E ++ (wls (ers keys)).flatten) ++ ((wls (ers kids)).take (i + 1)).flatten) s := split_take (by obtain ⟨t1, ht1⟩ := hpre; exact ⟨t1, by rw [hsq, ht1]; simp only [List.append_assoc]⟩) hgo5
            refine ⟨w1', ?_, ?_⟩
            · rw [hst]; exact w2
            · rw [hst, hgo5]; rfl
          · conv => whnf
            refine ⟨m' - 1, i + 1, by omega, ⟨by omega, w1', hgo5, w2⟩, ⟨rfl, rfl, rfl, rfl, rfl, rfl, rfl, ?_, trivial⟩⟩
            rw [wrap_i64 (by omega) (by omega)]; rfl
        · simp at hcj
          subst hcj
          conv => whnf
          rw [if_pos (by decide), if_pos (by decide), ← hsq] at q2 q3
          exact ⟨q1, q3, by rw [q2]; rfl⟩
      · have hll : keys.length = kids.length := by simp [vs_map] at h2'; omega
        have hin := hint ⟨by simpa using hc.symm, hll⟩
        conv => whnf
        refine CodeQ.loop (fun (i : Nat) => pat 82 [(1, .int .i64 d), (2, .func (.func 37) [] [.ptr ep 0, .ptr bp 0]), (3, .cptr [.int .i64 kind, .int .u64 n, .bool neg, .str dg, .int .i64 ex, .str tx, slV fb (bs.map u8), .lst (Nd.vs keys) tk, .lst (Nd.vs kids) td] 0), (31, .int .i64 (keys.length : Nat)), (32, .int .i64 i)])
          (fun m' i S3 => i + m' = keys.length ∧ But ep bp S S3 ∧ (runL (E ++ inter ((wls (ers keys)).take i) ((wls (ers kids)).take i)) s).2 = true ∧ Lk ep bp (runL (E ++ inter ((wls (ers keys)).take i) ((wls (ers kids)).take i)) s).1 S3) ?_ keys.length 0 _ _
          ⟨by simp, b1, by simpa [inter] using hgo, by simpa [inter] using g1⟩ ⟨rfl, rfl, rfl, by simp [vs_map], rfl, trivial⟩
        rintro m' i S3 d2 ⟨u1, u2, u3, u4⟩
        have hn3 := u2.next
        conv => whnf
        intro c3 hc3
        simp [vs_map] at hc3
        cases c3
        · simp at hc3
          obtain rfl : i = keys.length := by omega
          conv => whnf
          rw [flat_all, hll, flat_all, ← hin] at u3 u4
          exact ⟨u2, u4, by rw [u3]; rfl⟩
        simp at hc3
        have hc4 : i < kids.length := by omega
        conv => whnf
        have hft := inter_step hc3 hc4
        have hpre := inter_pre (wls (ers keys)) (wls (ers kids)) (i + 1)
        have ky := kid keys[i] (.inl (by simp))
        have kz := kid kids[i] (.inr (by simp))
        have hget : (Nd.vs keys)[i]? = some keys[i].v := by rw [vs_map]; simp [hc3]
        have hget2 : (Nd.vs kids)[i]? = some kids[i].v := by rw [vs_map]; simp [hc4]
        generalize keys[i] = y at *
        generalize kids[i] = z at *
        obtain ⟨wy, hwy⟩ : ∃ wy, wy = wl (er y) := ⟨_, rfl⟩
        obtain ⟨wz, hwz⟩ : ∃ wz, wz = wl (er z) := ⟨_, rfl⟩
        rw [← hwy] at ky hft
        rw [← hwz] at kz hft
        clear hwy hwz
        obtain ⟨t1, ht1⟩ := hpre
        obtain ⟨kind', n', neg', dg', ex', tx', fb', bs', fk', keys', fd', kids'⟩ := y
        obtain ⟨kind2, n2, neg2, dg2, ex2, tx2, fb2, bs2, fk2, keys2, fd2, kids2⟩ := z
        refine ⟨by omega, _, hget, rfl, ?_⟩
        conv => whnf
        rw [ed]
        refine CallQ.mono (ky S3 _ u4 (by omega) (by omega)) ?_
        rintro r S5 ⟨w1, w2, rfl⟩
        have w1' : But ep bp S S5 := u2.trans w1
        have hn5 := w1'.next
        rw [← runL_on u3] at w2 ⊢
        cases hgo5 : (runL (E ++ inter ((wls (ers keys)).take i) ((wls (ers kids)).take i) ++ wy) s).2
        · conv => whnf
          have hst : runL W s = runL (E ++ inter ((wls (ers keys)).take i) ((wls (ers kids)).take i) ++ wy) s := split_take ⟨wz ++ t1, by rw [hin, ht1, hft]; simp only [List.append_assoc]⟩ hgo5
          refine ⟨w1', ?_, ?_⟩
          · rw [hst]; exact w2
          · rw [hst, hgo5]; rfl
        conv => whnf
        refine ⟨by omega, _, hget2, rfl, ?_⟩
        conv => whnf
        rw [ed]
        refine CallQ.mono (kz S5 _ w2 (by omega) (by omega)) ?_
        rintro r S6 ⟨v1, v2, rfl⟩
        have v1' : But ep bp S S6 := w1'.trans v1
        rw [← runL_on hgo5] at v2 ⊢
        have hj6 : E ++ inter ((wls (ers keys)).take i) ((wls (ers kids)).take i) ++ wy ++ wz = E ++ inter ((wls (ers keys)).take (i + 1)) ((wls (ers kids)).take (i + 1)) := by rw [hft]; simp only [List.append_assoc]
        rw [hj6] at v2 ⊢
        cases hgo6 : (runL (E ++ inter ((wls (ers keys)).take (i + 1)) ((wls (ers kids)).take (i + 1))) s).2
        · conv => whnf
          have hst : runL W s = runL (E ++ inter ((wls (ers keys)).take (i + 1)) ((wls (ers kids)).take (i + 1))) s := split_take ⟨t1, by rw [hin, ht1]; simp only [List.append_assoc]⟩ hgo6
          refine ⟨v1', ?_, ?_⟩
          · rw [hst]; exact v2
          · rw [hst, hgo6]; rfl
        conv => whnf
        refine ⟨m' - 1, i + 1, by omega, ⟨by omega, v1', hgo6, v2⟩, ⟨rfl, rfl, rfl, rfl, ?_, trivial⟩⟩
        rw [wrap_i64 (by omega) (by omega)]; rfl
end Go.Proofs.YtmkmakokgfigoaaDoor
