import Derived.Test.YtmkmakokgfigoaaDoorVMT12
import Derived.Test.YtmkmakokgfigoaaDoorVMCut
namespace Go.Proofs.YtmkmakokgfigoaaDoor
open Go.Proofs.YtmkmakokgfigoaaDoor.VM
set_option maxRecDepth 100000
set_option linter.unusedVariables false
set_option maxHeartbeats 2000000

theorem conv_u8 (S : St) (bs : List UInt8) (t : Tip) : convertA Tryd.prog S 23 9 (.lst (bs.map u8) t) = some (.str bs) := by
  have h : convertA Tryd.prog S 23 9 (.lst (bs.map u8) t) = (bytesOfA (bs.map u8)).map .str := rfl
  rw [h, bytesOfA_u8]; rfl
theorem ers_take {xs : List Nd} {i : Nat} (h : i < xs.length) : ers (xs.take (i + 1)) = ers (xs.take i) ++ [er xs[i]] := by
  rw [ers_map, ers_map, List.take_succ_eq_append_getElem h, List.map_append]; rfl
theorem ers_at {xs ys : List Nd} {i : Nat} (h1 : i < xs.length) (h2 : i < ys.length) (h : er xs[i] ≠ er ys[i]) : ers xs ≠ ers ys := fun e => by
  rw [ers_map, ers_map] at e
  have := congrArg (fun l => l[i]?) e
  simp [h1, h2] at this
  exact h this
theorem ers_len {xs ys : List Nd} (h : ers xs = ers ys) : xs.length = ys.length := by
  rw [ers_map, ers_map] at h; simpa using congrArg List.length h

open Classical in
theorem t30_step (N : Nat) (H : ∀ x y : Nd, x.Ok → y.Ok → cnt x ≤ N → ∀ S, CallQ Tryd.prog TC 30 [x.v, y.v] S fun r S1 => r = .bool (sameB x y) ∧ Keep S S1) (x y : Nd) (hx : x.Ok) (hy : y.Ok) (hN : cnt x ≤ N + 1) (S : St) : CallQ Tryd.prog TC 30 [x.v, y.v] S fun r S1 => r = .bool (sameB x y) ∧ Keep S S1 := by
    have ih : ∀ (xs ys : List Nd), cnts xs ≤ N → Nd.Oks xs → Nd.Oks ys → ∀ i (h1 : i < xs.length) (h2 : i < ys.length), ∀ S, CallQ Tryd.prog TC 30 [xs[i].v, ys[i].v] S fun r S1 => r = .bool (sameB xs[i] ys[i]) ∧ Keep S S1 :=
      fun xs ys h h1 h2 i q1 q2 S => H _ _ (oks_iff.1 h1 _ (List.getElem_mem q1)) (oks_iff.1 h2 _ (List.getElem_mem q2)) (Nat.le_trans (cnt_mem (List.getElem_mem q1)) h) S
    have fls : er x ≠ er y → AV.bool false = .bool (sameB x y) := fun h => by rw [sameB, decide_eq_false h]
    have tru : er x = er y → AV.bool true = .bool (sameB x y) := fun h => by rw [sameB, decide_eq_true h]
    obtain ⟨kind, n, neg, dg, ex, tx, fb, bs, fk, keys, fd, kids⟩ := x
    obtain ⟨kind', n', neg', dg', ex', tx', fb', bs', fk', keys', fd', kids'⟩ := y
    obtain ⟨x1, x2, x3, x4, x5, x6, x7, x8⟩ := hx
    obtain ⟨y1, y2, y3, y4, y5, y6, y7, y8⟩ := hy
    simp only [cnt] at hN
    simp only [er, ne_eq, Pl.mk.injEq] at fls tru
    have ihk := ih keys keys' (by omega) x7 y7
    have ihd := ih kids kids' (by omega) x8 y8
    refine CallQ.ofQ rfl (by kernel_rfl : Tryd.prog.funcs[30]? = some Tryd.f30) rfl (by decide) ?_
    refine CodeQ.seq (CodeQ.wp ?_)
    conv => whnf
    refine CodeQ.cut (fun (u : Unit) => pat 112 [(2, .cptr [.int .i64 kind, .int .u64 n, .bool neg, .str dg, .int .i64 ex, .str tx, slV fb (bs.map u8), slV fk (Nd.vs keys), slV fd (Nd.vs kids)] 0), (3, .cptr [.int .i64 kind', .int .u64 n', .bool neg', .str dg', .int .i64 ex', .str tx', slV fb' (bs'.map u8), slV fk' (Nd.vs keys'), slV fd' (Nd.vs kids')] 0)]) (fun _ S1 => S1 = S ∧ (kind = kind' ∧ n = n' ∧ neg = neg' ∧ dg = dg' ∧ ex = ex' ∧ tx = tx' ∧ bs = bs' ∧ keys.length = keys'.length ∧ kids.length = kids'.length)) (CodeQ.wp ?_) ?_
    · clear ihk ihd ih tru
      conv => whnf
      intro c1 hc1
      cases c1
      rotate_left
      · conv => whnf
        exact ⟨fls (fun e => by simp [e] at hc1), .refl _⟩
      conv => whnf
      intro c2 hc2
      cases c2
      rotate_left
      · conv => whnf
        exact ⟨fls (fun e => by simp [e] at hc2), .refl _⟩
      conv => whnf
      intro c3 hc3
      cases c3
      rotate_left
      · conv => whnf
        exact ⟨fls (fun e => by simp [e] at hc3), .refl _⟩
      conv => whnf
      intro c4 hc4
      cases c4
      rotate_left
      · conv => whnf
        exact ⟨fls (fun e => by simp [e] at hc4), .refl _⟩
      conv => whnf
      intro c5 hc5
      cases c5
      rotate_left
      · conv => whnf
        exact ⟨fls (fun e => by simp [e] at hc5), .refl _⟩
      conv => whnf
      intro c6 hc6
      cases c6
      rotate_left
      · conv => whnf
        exact ⟨fls (fun e => by simp [e] at hc6), .refl _⟩
      have a6 : kind = kind' ∧ n = n' ∧ neg = neg' ∧ dg = dg' ∧ ex = ex' ∧ tx = tx' := by
        simp at hc1 hc2 hc3 hc4 hc5 hc6
        exact ⟨hc1, by omega, hc3, hc4, hc5, hc6⟩
      obtain ⟨a1, a2, a3, a4, a5, a6⟩ := a6
      clear hc1 hc2 hc3 hc4 hc5 hc6
      have fls7 : bs ≠ bs' → AV.bool false = .bool (sameB (.mk kind n neg dg ex tx fb bs fk keys fd kids) (.mk kind' n' neg' dg' ex' tx' fb' bs' fk' keys' fd' kids')) := fun h => fls (fun e => h e.2.2.2.2.2.2.1)
      have fls8 : keys.length ≠ keys'.length → AV.bool false = .bool (sameB (.mk kind n neg dg ex tx fb bs fk keys fd kids) (.mk kind' n' neg' dg' ex' tx' fb' bs' fk' keys' fd' kids')) := fun h => fls (fun e => h (ers_len e.2.2.2.2.2.2.2.1))
      have fls9 : kids.length ≠ kids'.length → AV.bool false = .bool (sameB (.mk kind n neg dg ex tx fb bs fk keys fd kids) (.mk kind' n' neg' dg' ex' tx' fb' bs' fk' keys' fd' kids')) := fun h => fls (fun e => h (ers_len e.2.2.2.2.2.2.2.2))
      clear fls
      cases fb <;> cases fb'
      all_goals conv => whnf
      all_goals try (refine ⟨.str bs, conv_u8 _ _ _, ?_⟩; conv => whnf)
      all_goals try (refine ⟨.str bs', conv_u8 _ _ _, ?_⟩; conv => whnf)
      all_goals
        intro c7 hc7
        have b7 : c7 = true ↔ bs ≠ bs' := by rw [hc7]; simp [x1, y1]
        clear hc7
        cases c7
        case' true =>
          conv => whnf
          exact ⟨fls7 (b7.1 rfl), .refl _⟩
        case' false =>
          have a7 : bs = bs' := by simpa using b7
          clear b7 fls7
          cases fk <;> cases fk'
        all_goals
          conv => whnf
          intro c8 hc8
          have b8 : c8 = true ↔ keys.length ≠ keys'.length := by rw [hc8]; simp [x2, y2, vs_len]; try omega
          clear hc8
          cases c8
          case' true =>
            conv => whnf
            exact ⟨fls8 (b8.1 rfl), .refl _⟩
          case' false =>
            have a8 : keys.length = keys'.length := by simpa using b8
            clear b8 fls8
            cases fd <;> cases fd'
          all_goals
            conv => whnf
            intro c9 hc9
            have b9 : c9 = true ↔ kids.length ≠ kids'.length := by rw [hc9]; simp [x3, y3, vs_len]; try omega
            clear hc9
            cases c9
            case' true =>
              conv => whnf
              exact ⟨fls9 (b9.1 rfl), .refl _⟩
            case' false =>
              have a9 : kids.length = kids'.length := by simpa using b9
              clear b9 fls9
              conv => whnf
              exact ⟨(), ⟨rfl, a1, a2, a3, a4, a5, a6, a7, a8, a9⟩, rfl, rfl, trivial⟩
    · rintro ⟨⟩ d S1 ⟨rfl, a1, a2, a3, a4, a5, a6, a7, a8, a9⟩
      refine CodeQ.cut (fun (u : Unit) => pat 112 [(2, .cptr [.int .i64 kind, .int .u64 n, .bool neg, .str dg, .int .i64 ex, .str tx, slV fb (bs.map u8), slV fk (Nd.vs keys), slV fd (Nd.vs kids)] 0), (3, .cptr [.int .i64 kind', .int .u64 n', .bool neg', .str dg', .int .i64 ex', .str tx', slV fb' (bs'.map u8), slV fk' (Nd.vs keys'), slV fd' (Nd.vs kids')] 0)]) (fun _ S2 => Keep S1 S2 ∧ ers keys = ers keys') (CodeQ.wp ?_) ?_
      · conv => whnf
        refine CodeQ.loop (fun (i : Nat) => pat 112 [(2, .cptr [.int .i64 kind, .int .u64 n, .bool neg, .str dg, .int .i64 ex, .str tx, slV fb (bs.map u8), slV fk (Nd.vs keys), slV fd (Nd.vs kids)] 0), (3, .cptr [.int .i64 kind', .int .u64 n', .bool neg', .str dg', .int .i64 ex', .str tx', slV fb' (bs'.map u8), slV fk' (Nd.vs keys'), slV fd' (Nd.vs kids')] 0), (5, .int .i64 i)]) (fun m i S3 => Keep S1 S3 ∧ i + m = keys.length ∧ ers (keys.take i) = ers (keys'.take i)) ?_ keys.length 0 _ _ ⟨.refl _, by omega, by simp⟩ ⟨rfl, rfl, rfl, trivial⟩
        rintro m i S3 d ⟨k3, hi, he⟩
        by_cases hlt : i < keys.length
        · have hlt' : i < keys'.length := by omega
          have hcall := ihk i hlt hlt' S3
          have g1 := vs_at hlt
          have g2 := vs_at hlt'
          have e1 := ers_take hlt
          have e2 := ers_take hlt'
          have e3 := ers_at hlt hlt'
          cases fk with
          | nil => rw [x2 rfl] at hlt; simp at hlt
          | lst t =>
          cases fk' with
          | nil => rw [y2 rfl] at hlt'; simp at hlt'
          | lst t' =>
          conv => whnf
          intro c hc
          obtain rfl : c = true := by rw [hc]; exact decide_eq_true (by rw [vs_len]; omega)
          conv => whnf
          generalize keys[i] = x at *
          generalize keys'[i] = y at *
          obtain ⟨kind1, n1, neg1, dg1, ex1, tx1, fb1, bs1, fk1, keys1, fd1, kids1⟩ := x
          obtain ⟨kind2, n2, neg2, dg2, ex2, tx2, fb2, bs2, fk2, keys2, fd2, kids2⟩ := y
          refine ⟨[0, 1, 2, 3, 4, 5, 6, 7, 8, 9, 10, 11], [], by kernel_rfl, by kernel_rfl, by kernel_rfl, ?_⟩
          conv => whnf
          refine ⟨by omega, _, g1, rfl, ?_⟩
          conv => whnf
          refine ⟨by omega, _, g2, rfl, ?_⟩
          conv => whnf
          refine CallQ.mono hcall ?_
          rintro r S4 ⟨rfl, k4⟩
          by_cases hs : er (.mk kind1 n1 neg1 dg1 ex1 tx1 fb1 bs1 fk1 keys1 fd1 kids1) = er (.mk kind2 n2 neg2 dg2 ex2 tx2 fb2 bs2 fk2 keys2 fd2 kids2)
          · rw [show sameB (.mk kind1 n1 neg1 dg1 ex1 tx1 fb1 bs1 fk1 keys1 fd1 kids1) (.mk kind2 n2 neg2 dg2 ex2 tx2 fb2 bs2 fk2 keys2 fd2 kids2) = true by rw [sameB, decide_eq_true hs]]
            conv => whnf
            refine ⟨m - 1, i + 1, by omega, ⟨k3.trans k4, by omega, by rw [e1, e2, he, hs]⟩, ⟨rfl, rfl, ?_, trivial⟩⟩
            rw [wrap_i64 (by omega) (by omega)]; try rfl
          · rw [show sameB (.mk kind1 n1 neg1 dg1 ex1 tx1 fb1 bs1 fk1 keys1 fd1 kids1) (.mk kind2 n2 neg2 dg2 ex2 tx2 fb2 bs2 fk2 keys2 fd2 kids2) = false by rw [sameB, decide_eq_false hs]]
            conv => whnf
            exact ⟨fls (fun e => e3 hs e.2.2.2.2.2.2.2.1), k3.trans k4⟩
        · cases fk
          all_goals
            conv => whnf
            intro c hc
            obtain rfl : c = false := by rw [hc]; first | exact decide_eq_false (by rw [vs_len]; omega) | exact decide_eq_false (by omega)
            conv => whnf
            refine ⟨(), ⟨k3, ?_⟩, rfl, rfl, trivial⟩
            rwa [List.take_of_length_le (by omega), List.take_of_length_le (by omega)] at he
      · rintro ⟨⟩ d S2 ⟨k1, a10⟩
        refine CodeQ.cut (fun (u : Unit) => pat 112 [(2, .cptr [.int .i64 kind, .int .u64 n, .bool neg, .str dg, .int .i64 ex, .str tx, slV fb (bs.map u8), slV fk (Nd.vs keys), slV fd (Nd.vs kids)] 0), (3, .cptr [.int .i64 kind', .int .u64 n', .bool neg', .str dg', .int .i64 ex', .str tx', slV fb' (bs'.map u8), slV fk' (Nd.vs keys'), slV fd' (Nd.vs kids')] 0)]) (fun _ S2 => Keep S1 S2 ∧ ers kids = ers kids') (CodeQ.wp ?_) ?_
        · conv => whnf
          refine CodeQ.loop (fun (i : Nat) => pat 112 [(2, .cptr [.int .i64 kind, .int .u64 n, .bool neg, .str dg, .int .i64 ex, .str tx, slV fb (bs.map u8), slV fk (Nd.vs keys), slV fd (Nd.vs kids)] 0), (3, .cptr [.int .i64 kind', .int .u64 n', .bool neg', .str dg', .int .i64 ex', .str tx', slV fb' (bs'.map u8), slV fk' (Nd.vs keys'), slV fd' (Nd.vs kids')] 0), (6, .int .i64 i)]) (fun m i S3 => Keep S1 S3 ∧ i + m = kids.length ∧ ers (kids.take i) = ers (kids'.take i)) ?_ kids.length 0 _ _ ⟨k1, by omega, by simp⟩ ⟨rfl, rfl, rfl, trivial⟩
          rintro m i S3 d ⟨k3, hi, he⟩
          by_cases hlt : i < kids.length
          · have hlt' : i < kids'.length := by omega
            have hcall := ihd i hlt hlt' S3
            have g1 := vs_at hlt
            have g2 := vs_at hlt'
            have e1 := ers_take hlt
            have e2 := ers_take hlt'
            have e3 := ers_at hlt hlt'
            cases fd with
            | nil => rw [x3 rfl] at hlt; simp at hlt
            | lst t =>
            cases fd' with
            | nil => rw [y3 rfl] at hlt'; simp at hlt'
            | lst t' =>
            conv => whnf
            intro c hc
            obtain rfl : c = true := by rw [hc]; exact decide_eq_true (by rw [vs_len]; omega)
            conv => whnf
            generalize kids[i] = x at *
            generalize kids'[i] = y at *
            obtain ⟨kind1, n1, neg1, dg1, ex1, tx1, fb1, bs1, fk1, keys1, fd1, kids1⟩ := x
            obtain ⟨kind2, n2, neg2, dg2, ex2, tx2, fb2, bs2, fk2, keys2, fd2, kids2⟩ := y
            refine ⟨[0, 1, 2, 3, 4, 5, 6, 7, 8, 9, 10, 11], [], by kernel_rfl, by kernel_rfl, by kernel_rfl, ?_⟩
            conv => whnf
            refine ⟨by omega, _, g1, rfl, ?_⟩
            conv => whnf
            refine ⟨by omega, _, g2, rfl, ?_⟩
            conv => whnf
            refine CallQ.mono hcall ?_
            rintro r S4 ⟨rfl, k4⟩
            by_cases hs : er (.mk kind1 n1 neg1 dg1 ex1 tx1 fb1 bs1 fk1 keys1 fd1 kids1) = er (.mk kind2 n2 neg2 dg2 ex2 tx2 fb2 bs2 fk2 keys2 fd2 kids2)
            · rw [show sameB (.mk kind1 n1 neg1 dg1 ex1 tx1 fb1 bs1 fk1 keys1 fd1 kids1) (.mk kind2 n2 neg2 dg2 ex2 tx2 fb2 bs2 fk2 keys2 fd2 kids2) = true by rw [sameB, decide_eq_true hs]]
              conv => whnf
              refine ⟨m - 1, i + 1, by omega, ⟨k3.trans k4, by omega, by rw [e1, e2, he, hs]⟩, ⟨rfl, rfl, ?_, trivial⟩⟩
              rw [wrap_i64 (by omega) (by omega)]; try rfl
            · rw [show sameB (.mk kind1 n1 neg1 dg1 ex1 tx1 fb1 bs1 fk1 keys1 fd1 kids1) (.mk kind2 n2 neg2 dg2 ex2 tx2 fb2 bs2 fk2 keys2 fd2 kids2) = false by rw [sameB, decide_eq_false hs]]
              conv => whnf
              exact ⟨fls (fun e => e3 hs e.2.2.2.2.2.2.2.2), k3.trans k4⟩
          · cases fd
            all_goals
              conv => whnf
              intro c hc
              obtain rfl : c = false := by rw [hc]; first | exact decide_eq_false (by rw [vs_len]; omega) | exact decide_eq_false (by omega)
              conv => whnf
              refine ⟨(), ⟨k3, ?_⟩, rfl, rfl, trivial⟩
              rwa [List.take_of_length_le (by omega), List.take_of_length_le (by omega)] at he
        · rintro ⟨⟩ d S3 ⟨k3, a11⟩
          refine CodeQ.wp ?_
          conv => whnf
          exact ⟨tru ⟨a1, a2, a3, a4, a5, a6, a7, a10, a11⟩, k3⟩
theorem t30 : ∀ (N : Nat) (x y : Nd), x.Ok → y.Ok → cnt x ≤ N → ∀ S, CallQ Tryd.prog TC 30 [x.v, y.v] S fun r S1 => r = .bool (sameB x y) ∧ Keep S S1
  | 0, x, y, _, _, h, _ => by have := cnt_pos x; omega
  | N + 1, x, y, hx, hy, hN, S => t30_step N (t30 N) x y hx hy hN S
theorem t13 (x y : Nd) (hx : x.Ok) (hy : y.Ok) (S : St) : CallQ Tryd.prog TC 13 [x.v, y.v] S fun r S1 => r = .bool (SameB x y) ∧ Keep S S1 := by
  have t1 := t11 x hx
  have t2 := t11 y hy
  have t3 := t30 (cnt x) x y hx hy (Nat.le_refl _)
  have ht : SameB x y = (few x && few y && sameB x y) := rfl
  generalize SameB x y = sb at *
  generalize few x = fx at *
  generalize few y = fy at *
  generalize sameB x y = sm at *
  obtain ⟨kind, n, neg, dg, ex, tx, fb, bs, fk, keys, fd, kids⟩ := x
  obtain ⟨kind', n', neg', dg', ex', tx', fb', bs', fk', keys', fd', kids'⟩ := y
  refine CallQ.of rfl (by kernel_rfl : Tryd.prog.funcs[13]? = some Tryd.f13) rfl (by decide) ?_
  conv => whnf
  refine CallQ.mono (t1 S) ?_
  rintro r S1 ⟨rfl, k1⟩
  cases fx
  · conv => whnf
    exact ⟨by rw [ht]; rfl, k1⟩
  conv => whnf
  refine CallQ.mono (t2 S1) ?_
  rintro r S2 ⟨rfl, k2⟩
  cases fy
  · conv => whnf
    exact ⟨by rw [ht]; rfl, k1.trans k2⟩
  conv => whnf
  refine CallQ.mono (t3 S2) ?_
  rintro r S3 ⟨rfl, k3⟩
  conv => whnf
  exact ⟨by rw [ht]; cases sm <;> rfl, (k1.trans k2).trans k3⟩
end Go.Proofs.YtmkmakokgfigoaaDoor
