import Derived.Test.YtfphpjinimfhfaaVMJ7
namespace Go.Proofs.Ytfphpjinimfhfaa
open Go.Proofs.Ytfphpjinimfhfaa.VM Go.RowKit
set_option maxRecDepth 100000
set_option linter.unusedVariables false
set_option maxHeartbeats 2000000
/-- How many bytes, and where it goes wrong. -/
def firstV (o : Int × Int × Int) : AV := .tuple [.int .i64 (if o.2.2 < 0 then o.2.1 else 0), .int .i64 o.2.2]
theorem len_more (c : Int) (h : c < 128 ∨ 194 ≤ c ∧ c ≤ 244) : lenF c = moreF c + 1 := by
  unfold lenF moreF; repeat' split
  all_goals omega
theorem t27 (h : Bool) (b : UInt8) (bs : List UInt8) (t : Tip) (hl : bs.length ≤ 2 ^ 47) (S : St) :
    CallQ Try.prog (JC h) 27 [.lst ((b :: bs).map u8) t] S fun r S1 => S1 = S ∧ r = firstV (oneS (ib (b :: bs))) := by
  have hb := b.toNat_lt
  refine CallQ.of rfl (by kernel_rfl : Try.prog.funcs[27]? = some Try.f27) rfl (by decide) ?_
  conv => whnf
  refine ⟨by decide, _, rfl, rfl, ?_⟩
  conv => whnf
  refine CallQ.intr (g := lengthG) rfl (if_pos ⟨by omega, by omega⟩) ?_
  obtain ⟨c, hc⟩ : ∃ c : Int, c = (b.toNat : Int) := ⟨_, rfl⟩
  have hib : ib (b :: bs) = c :: ib bs := by rw [hc]; rfl
  rw [hib, ← hc]
  have c0 : 0 ≤ c ∧ c < 256 := by omega
  by_cases hok : c < 128 ∨ 194 ≤ c ∧ c ≤ 244
  rotate_left
  · have e : lenF c = 0 := by unfold lenF; rw [if_neg (by omega), if_pos (by omega)]
    rw [e]
    conv => whnf
    refine brEq (fun _ => ?_) (fun h => absurd rfl h)
    conv => whnf
    refine ⟨rfl, ?_⟩
    simp only [oneS]
    rw [if_neg (by omega), if_pos (by omega)]
    rfl
  have hc3 : (moreF c = 0 ∨ moreF c = 1 ∨ moreF c = 2 ∨ moreF c = 3) := by
    unfold moreF; repeat' split
    all_goals omega
  have hone := one_res c (ib bs) hok
  have hlo : fromF c = loS c ∨ moreF c = 0 := by
    by_cases h1 : c < 128
    · exact .inr (by unfold moreF; rw [if_pos h1])
    · exact .inl (by unfold fromF; rw [if_neg (by omega)])
  have hhi : toF c = hiS c ∨ moreF c = 0 := by
    by_cases h1 : c < 128
    · exact .inr (by unfold moreF; rw [if_pos h1])
    · exact .inl (by unfold toF; rw [if_neg (by omega)])
  rw [len_more c hok]
  obtain ⟨mn, hmn⟩ : ∃ mn : Nat, moreF c = (mn : Int) ∧ mn ≤ 3 := ⟨(moreF c).toNat, by omega, by omega⟩
  obtain ⟨hmn, hmn3⟩ := hmn
  rw [hmn, Int.toNat_natCast] at hone
  rw [hmn] at hlo hhi ⊢
  conv => whnf
  refine brEq (fun h => absurd h (by omega)) (fun _ => ?_)
  conv => whnf
  refine CodeQ.loop (fun (q : Nat × Int) => pat 51 [(0, .lst ((b :: bs).map u8) t), (4, .int .i64 ((mn : Int) + 1)), (5, .int .i64 ((q.1 + 1 : Nat) : Int))])
    (fun k q S2 => S2 = S ∧ q.1 + k = mn ∧ q.1 ≤ bs.length ∧ oneS (c :: ib bs) = resS k ((q.1 + 1 : Nat) : Int) q.2 (if q.1 = 0 then fromF c else 128) (if q.1 = 0 then toF c else 191) ((ib bs).drop q.1)) ?_ mn (0, bitsF c) _ _ ⟨rfl, by simp, by simp, hone.symm⟩ ⟨rfl, rfl, rfl, trivial⟩
  clear hone
  rintro k ⟨i, r⟩ S2 d ⟨rfl, q1, q2, q4⟩
  dsimp only at *
  rw [q4]
  clear q4
  conv => whnf
  refine br (fun hle => ?_) (fun hle => ?_)
  rotate_left
  · obtain rfl : k = 0 := by omega
    conv => whnf
    refine ⟨rfl, ?_⟩
    simp only [resS, firstV]
    have : (mn : Int) + 1 = ((i + 1 : Nat) : Int) := by omega
    rw [this]; rfl
  obtain ⟨k, rfl⟩ : ∃ k', k = k' + 1 := ⟨k - 1, by omega⟩
  conv => whnf
  refine br (fun he => ?_) (fun he => ?_)
  · have he2 : bs.length = i := by simp at he; omega
    conv => whnf
    refine ⟨rfl, ?_⟩
    rw [show (ib bs).drop i = [] from List.drop_eq_nil_iff.2 (by rw [ib_len]; omega)]
    have e : ∀ fr to, resS (k + 1) ((i + 1 : Nat) : Int) r fr to [] = (0, 0, ((i + 1 : Nat) : Int)) := fun _ _ => rfl
    rw [e]; simp only [firstV]; rw [if_neg (by omega)]
    show AV.tuple [.int .i64 0, .int .i64 (((b :: bs).map u8).length : Nat)] = _
    rw [show ((b :: bs).map u8).length = i + 1 by simp [he2]]
  have hlt : i < bs.length := by simp at he; omega
  have hx := (bs[i]).toNat_lt
  have hdr : (ib bs).drop i = ((bs[i]).toNat : Int) :: (ib bs).drop (i + 1) := by
    rw [List.drop_eq_getElem_cons (by rw [ib_len]; exact hlt)]
    simp [ib]
  have g1 : ((b :: bs).map u8)[((i + 1 : Nat) : Int).toNat]? = some (u8 bs[i]) := by
    rw [Int.toNat_natCast]; simp [hlt]
  rw [hdr]
  generalize bs[i] = x at *
  have step : ∀ lo hi : Int, lo = (if i = 0 then fromF c else 128) → hi = (if i = 0 then toF c else 191) →
      ((x.toNat : Int) < lo → firstV (resS (k + 1) ((i + 1 : Nat) : Int) r (if i = 0 then fromF c else 128) (if i = 0 then toF c else 191) (((x.toNat : Nat) : Int) :: (ib bs).drop (i + 1))) = .tuple [.int .i64 0, .int .i64 ((i + 1 : Nat) : Int)]) ∧
      ((x.toNat : Int) > hi → firstV (resS (k + 1) ((i + 1 : Nat) : Int) r (if i = 0 then fromF c else 128) (if i = 0 then toF c else 191) (((x.toNat : Nat) : Int) :: (ib bs).drop (i + 1))) = .tuple [.int .i64 0, .int .i64 ((i + 1 : Nat) : Int)]) ∧
      (¬ (x.toNat : Int) < lo → ¬ (x.toNat : Int) > hi → resS (k + 1) ((i + 1 : Nat) : Int) r (if i = 0 then fromF c else 128) (if i = 0 then toF c else 191) (((x.toNat : Nat) : Int) :: (ib bs).drop (i + 1)) = resS k ((i + 1 + 1 : Nat) : Int) (r * 64 + (x.toNat : Int) % 64) (if i + 1 = 0 then fromF c else 128) (if i + 1 = 0 then toF c else 191) ((ib bs).drop (i + 1))) := by
    intro lo hi h1 h2
    rw [← h1, ← h2]
    refine ⟨fun a => ?_, fun a => ?_, fun a b => ?_⟩
    · have e : resS (k + 1) ((i + 1 : Nat) : Int) r lo hi (((x.toNat : Nat) : Int) :: (ib bs).drop (i + 1)) = (0, 0, ((i + 1 : Nat) : Int)) := by simp only [resS]; rw [if_pos (.inl a)]
      rw [e]; simp only [firstV]; rw [if_neg (by omega)]
    · have e : resS (k + 1) ((i + 1 : Nat) : Int) r lo hi (((x.toNat : Nat) : Int) :: (ib bs).drop (i + 1)) = (0, 0, ((i + 1 : Nat) : Int)) := by simp only [resS]; rw [if_pos (.inr a)]
      rw [e]; simp only [firstV]; rw [if_neg (by omega)]
    · rw [if_neg (by omega), if_neg (by omega)]
      simp only [resS]; rw [if_neg (by omega)]
      rfl
  have fin : ∀ lo hi : Int, lo = (if i = 0 then fromF c else 128) → hi = (if i = 0 then toF c else 191) → True := fun _ _ _ _ => trivial
  conv => whnf
  refine brEq (fun hi1 => ?_) (fun hi1 => ?_)
  · have hi0 : i = 0 := by omega
    rw [if_pos hi0, if_pos hi0] at step
    obtain ⟨s1, s2, s3⟩ := step (loS c) (hiS c) (by rcases hlo with h | h; exact h.symm; omega) (by rcases hhi with h | h; exact h.symm; omega)
    conv => whnf
    refine ⟨[0, 1, 2, 4, 5, 6, 3, 7, 8, 9], [(3, [6])], by kernel_rfl, by kernel_rfl, by kernel_rfl, ?_⟩
    conv => whnf
    refine ⟨by decide, _, rfl, rfl, ?_⟩
    conv => whnf
    refine ⟨by decide, _, rfl, rfl, ?_⟩
    conv => whnf
    refine CallQ.intr (g := leastG) rfl (if_pos ⟨by omega, by omega⟩) ?_
    conv => whnf
    refine ⟨⟨_, rfl, .inr ⟨_, _, _, rfl, rfl, rfl, rfl⟩⟩, ?_⟩
    conv => whnf
    refine CallQ.intr (g := mostG) rfl (if_pos ⟨by omega, by omega⟩) ?_
    rw [← hc]
    conv => whnf
    refine ⟨by omega, _, g1, rfl, ?_⟩
    conv => whnf
    refine br (fun d1 => ?_) (fun d1 => ?_)
    · conv => whnf
      refine ⟨rfl, ?_⟩
      rw [if_pos hi0, if_pos hi0]
      exact (s1 d1).symm
    conv => whnf
    refine ⟨by omega, _, g1, rfl, ?_⟩
    conv => whnf
    refine br (fun d2 => ?_) (fun d2 => ?_)
    · conv => whnf
      refine ⟨rfl, ?_⟩
      rw [if_pos hi0, if_pos hi0]
      exact (s2 d2).symm
    conv => whnf
    refine ⟨k, (i + 1, r * 64 + (x.toNat : Int) % 64), by omega, ⟨rfl, by dsimp only; omega, by dsimp only; omega, by rw [if_pos hi0, if_pos hi0]; exact s3 d1 d2⟩, ⟨rfl, rfl, ?_, trivial⟩⟩
    rw [wrap_i64 (by omega) (by omega)]; rfl
  · have hi0 : ¬ i = 0 := by omega
    rw [if_neg hi0, if_neg hi0] at step
    obtain ⟨s1, s2, s3⟩ := step 128 191 rfl rfl
    conv => whnf
    refine ⟨by omega, _, g1, rfl, ?_⟩
    conv => whnf
    refine br (fun d1 => ?_) (fun d1 => ?_)
    · conv => whnf
      refine ⟨rfl, ?_⟩
      rw [if_neg hi0, if_neg hi0]
      exact (s1 d1).symm
    conv => whnf
    refine ⟨by omega, _, g1, rfl, ?_⟩
    conv => whnf
    refine br (fun d2 => ?_) (fun d2 => ?_)
    · conv => whnf
      refine ⟨rfl, ?_⟩
      rw [if_neg hi0, if_neg hi0]
      exact (s2 d2).symm
    conv => whnf
    refine ⟨k, (i + 1, r * 64 + (x.toNat : Int) % 64), by omega, ⟨rfl, by dsimp only; omega, by dsimp only; omega, by rw [if_neg hi0, if_neg hi0]; exact s3 d1 d2⟩, ⟨rfl, rfl, ?_, trivial⟩⟩
    rw [wrap_i64 (by omega) (by omega)]; rfl

theorem t28 (h : Bool) (bs : List UInt8) (t : Tip) (h1 : 1 ≤ bs.length) (h4 : bs.length ≤ 4) (S : St) :
    CallQ Try.prog (JC h) 28 [.lst (bs.map u8) t] S fun r S1 => S1 = S ∧ ∃ k, r = .int .i64 k := by
  refine CallQ.of rfl (by kernel_rfl : Try.prog.funcs[28]? = some Try.f28) rfl (by decide) ?_
  match bs, h1, h4 with
  | [a], _, _ =>
    conv => whnf
    refine brEq (fun _ => ?_) (fun h => absurd rfl h)
    conv => whnf
    refine ⟨by decide, _, rfl, rfl, ?_⟩
    conv => whnf
    exact ⟨rfl, _, rfl⟩
  | [a, b], _, _ =>
    conv => whnf
    refine brEq (fun h => absurd h (by simp)) (fun _ => ?_)
    conv => whnf
    refine brEq (fun _ => ?_) (fun h => absurd rfl h)
    conv => whnf
    refine ⟨[0, 1, 2, 3, 4, 5, 6, 7, 8, 9, 10, 11, 12], [], by kernel_rfl, by kernel_rfl, by kernel_rfl, ?_⟩
    conv => whnf
    repeat first | (refine ⟨by decide, _, rfl, rfl, ?_⟩; conv => whnf) | (refine ⟨by decide, ?_⟩; conv => whnf)
    exact ⟨rfl, _, rfl⟩
  | [a, b, c], _, _ =>
    conv => whnf
    refine brEq (fun h => absurd h (by simp)) (fun _ => ?_)
    conv => whnf
    refine brEq (fun h => absurd h (by simp)) (fun _ => ?_)
    conv => whnf
    refine brEq (fun _ => ?_) (fun h => absurd rfl h)
    conv => whnf
    refine ⟨[0, 1, 2, 3, 4, 5, 6, 7, 8, 9, 10, 11, 12, 13, 14, 15, 16, 17, 18, 19], [], by kernel_rfl, by kernel_rfl, by kernel_rfl, ?_⟩
    conv => whnf
    repeat first | (refine ⟨by decide, _, rfl, rfl, ?_⟩; conv => whnf) | (refine ⟨by decide, ?_⟩; conv => whnf)
    exact ⟨rfl, _, rfl⟩
  | [a, b, c, d], _, _ =>
    conv => whnf
    refine brEq (fun h => absurd h (by simp)) (fun _ => ?_)
    conv => whnf
    refine brEq (fun h => absurd h (by simp)) (fun _ => ?_)
    conv => whnf
    refine brEq (fun h => absurd h (by simp)) (fun _ => ?_)
    conv => whnf
    refine ⟨[0, 1, 2, 3, 4, 5, 6, 7, 8, 9, 10, 11, 12, 13, 14, 15, 16, 17, 18, 19, 20, 21, 22, 23, 24, 25, 26], [], by kernel_rfl, by kernel_rfl, by kernel_rfl, ?_⟩
    conv => whnf
    repeat first | (refine ⟨by decide, _, rfl, rfl, ?_⟩; conv => whnf) | (refine ⟨by decide, ?_⟩; conv => whnf)
    exact ⟨rfl, _, rfl⟩

theorem elR : Elem Try.prog 38 21 1 4 false (.int .i32 0) := ⟨by kernel_rfl, by kernel_rfl, by kernel_rfl, by kernel_rfl, by kernel_rfl, rfl, by decide⟩
theorem cut_fromto (bs : List UInt8) (t : Tip) (p q : Nat) (hp : p ≤ q) (hq : q ≤ bs.length) (b : Int) (hb : b = q) : ∃ t', sliceA Try.prog 25 (.lst (bs.map u8) t) (some (.int .i64 p)) (some (.int .i64 b)) none = some (.lst (((bs.take q).drop p).map u8) t') := by
  subst hb
  unfold sliceA
  simp only [und25, sz5, Option.bind_some, headOk_u8, if_true, boundA]
  rw [if_pos ⟨by omega, by simp; omega⟩]
  simp only [Option.bind_some, Int.toNat_natCast]
  rw [if_pos ⟨by omega, by omega⟩]
  simp only [Option.bind_some, Int.toNat_natCast]
  exact ⟨_, by rw [List.map_drop, List.map_take]⟩
theorem t15 (h : Bool) (bs : List UInt8) (hl : bs.length ≤ 2 ^ 40) (v : AV) (hv : Elems v (bs.map u8)) (S : St) :
    CallQ Try.prog (JC h) 15 [v] S fun r S1 => Keep S S1 ∧ ∃ l, r = .tuple [l, faultV (telS (ib bs) 0)] ∧ l.shed = l ∧ l.known = true := by
  refine CallQ.of rfl (by kernel_rfl : Try.prog.funcs[15]? = some Try.f15) rfl (by decide) ?_
  rcases hv with ⟨rfl, hnil⟩ | ⟨t, rfl⟩
  · obtain rfl : bs = [] := by simpa using hnil
    conv => whnf
    refine CodeQ.round ?_
    conv => whnf
    refine br (fun h => absurd h (by decide)) (fun _ => ?_)
    conv => whnf
    refine ⟨_, _, cells_new _ _, store_agg rfl rfl rfl, ?_⟩
    conv => whnf
    refine ⟨.agg [.int .i64 0, .int .i64 0], by show (St.cells _ S.next).bind _ = _; rw [cells_set]; rfl, ?_⟩
    conv => whnf
    exact ⟨((Keep.refl S).new _).set _ _ (Nat.le_refl _), _, rfl, rfl, rfl⟩
  conv => whnf
  generalize hS1 : S.new _ = S1
  have k1 : Keep S S1 := by rw [← hS1]; exact (Keep.refl S).new _
  have a1 : S1.cells S.next = some [.int .i64 0, .int .i64 0] := by rw [← hS1]; exact cells_new _ _
  have n1 : S1.next = S.next + 1 := by rw [← hS1]; rfl
  clear hS1
  refine CodeQ.loop (fun (q : Nat × AV) => pat 41 [(0, .lst (bs.map u8) t), (3, .ptr S.next 0), (4, q.2), (5, .int .i64 q.1)])
    (fun m q S2 => Keep S S2 ∧ S.next + 1 ≤ S2.next ∧ S2.cells S.next = some [.int .i64 0, .int .i64 0] ∧ q.1 ≤ bs.length ∧ m = bs.length - q.1 ∧ telS (ib bs) 0 = telS (ib bs) q.1 ∧ ∃ xs, OwnB 21 (S.next + 1) S2 q.2 xs ∧ xs.length ≤ q.1 ∧ wellA 1 xs = true) ?_ bs.length (0, .nils) _ _
    ⟨k1, by omega, a1, by simp, by simp, rfl, [], OwnB.nil _ _ _, by simp, rfl⟩ ⟨rfl, rfl, rfl, rfl, trivial⟩
  clear k1 a1 n1 S1
  rintro m ⟨p, v⟩ S2 d ⟨k2, n2, a2, q1, q2, q3, xs, hv, hx, hw⟩
  dsimp only at *
  rw [q3]
  clear q3
  conv => whnf
  refine br (fun hp => ?_) (fun hp => ?_)
  rotate_left
  · have hp : bs.length ≤ p := by simp at hp; omega
    have hvv := hv.elems
    rw [telS_end (by rw [ib_len]; exact hp)]
    rcases hvv with ⟨rfl, _⟩ | ⟨tp, rfl⟩
    all_goals
      conv => whnf
      refine ⟨_, _, a2, store_agg rfl rfl rfl, ?_⟩
      conv => whnf
      refine ⟨.agg [.int .i64 0, .int .i64 0], by show (St.cells _ S.next).bind _ = _; rw [cells_set]; rfl, ?_⟩
      conv => whnf
      exact ⟨k2.set _ _ (Nat.le_refl _), _, rfl, rfl, rfl⟩
  have hp : p < bs.length := by simp at hp; omega
  have hp' : p < (ib bs).length := by rw [ib_len]; exact hp
  have hg := telS_good (ib_byt bs) hp'
  have hbd := telS_bad hp'
  have hb1 : (oneS ((ib bs).drop p)).2.2 < 0 → _ := one_good ((ib_byt bs).drop p)
  have hfirst : ∀ t' S, CallQ Try.prog (JC h) 27 [.lst ((bs.drop p).map u8) t'] S fun r S1 => S1 = S ∧ r = firstV (oneS ((ib bs).drop p)) := by
    intro t' S
    rw [← ib_drop]
    cases hd : bs.drop p with
    | nil => have := congrArg List.length hd; simp at this; omega
    | cons b tl => exact t27 h b tl t' (by have := congrArg List.length hd; simp at this; omega) S
  have hdl : ((ib bs).drop p).length = bs.length - p := by rw [List.length_drop, ib_len]
  have hbad := @one_bad ((ib bs).drop p)
  rw [hdl] at hb1 hbad
  generalize oneS ((ib bs).drop p) = o at *
  obtain ⟨w1, n, w⟩ := o
  dsimp only at *
  conv => whnf
  obtain ⟨t', ht'⟩ := cut_from bs t p (by omega)
  refine ⟨_, ht', ?_⟩
  conv => whnf
  refine CallQ.mono (hfirst t' _) ?_
  rintro r S3 ⟨rfl, rfl⟩
  unfold firstV
  dsimp only
  by_cases hw0 : w < 0
  · obtain ⟨g1, g2, g3, g4, g5, g6⟩ := hb1 hw0
    rw [if_pos hw0, hg hw0]
    obtain ⟨n, rfl⟩ : ∃ k : Nat, n = (k : Int) := ⟨n.toNat, by omega⟩
    simp only [Int.toNat_natCast]
    conv => whnf
    refine br (fun hc => absurd hc (by omega)) (fun _ => ?_)
    conv => whnf
    obtain ⟨t2, ht2⟩ := cut_fromto bs t p (p + n) (by omega) (by omega) (IntKind.i64.wrap ((p : Int) + n)) (by rw [wrap_i64 (by omega) (by omega)]; omega)
    refine ⟨_, ht2, ?_⟩
    conv => whnf
    refine CallQ.mono (t28 h ((bs.take (p + n)).drop p) t2 (by simp; omega) (by simp; omega) S3) ?_
    rintro r S4 ⟨rfl, k, rfl⟩
    conv => whnf
    obtain ⟨r, S5, h1, h2, h3, h4, h5⟩ := OwnB.append (C := JC h) (f := 15) elR rfl hv (by omega) (show elemsA S4 false 1 (.lst [.int .i32 (IntKind.i32.wrap k)] .full) = some [.int .i32 (IntKind.i32.wrap k)] from rfl) rfl hw rfl (by simp; omega)
    refine ⟨r, S5, h1, ?_⟩
    obtain ⟨tg, rfl⟩ := h5 (by simp)
    conv => whnf
    refine ⟨bs.length - (p + n), (p + n, _), by omega, ⟨⟨by have := k2.next; have := h3.1; omega, fun j hj => by rw [h3.2 j (by omega), k2.mem j hj]⟩, by have := h3.1; omega, ?_, by dsimp only; omega, rfl, rfl, _, h2, by simp; omega, ?_⟩, ⟨rfl, rfl, rfl, ?_, trivial⟩⟩
    · rw [h3.cells (by omega)]; exact a2
    · unfold wellA at *; rw [List.all_append, hw]; rfl
    · rw [wrap_i64 (by omega) (by omega)]; rfl
  · rw [if_neg hw0, hbd hw0]
    obtain ⟨_, _, hwl⟩ := hbad hw0
    have hwl2 : w ≤ bs.length := Int.le_trans hwl (by omega)
    conv => whnf
    refine br (fun hc => ?_) (fun hc => absurd (show w ≥ 0 by omega) hc)
    conv => whnf
    refine ⟨_, _, a2, store_agg rfl rfl rfl, ?_⟩
    conv => whnf
    refine ⟨_, by show (St.cells _ S.next).bind _ = _; rw [cells_set]; rfl, ?_⟩
    conv => whnf
    refine ⟨k2.set _ _ (Nat.le_refl _), .nils, ?_, rfl, rfl⟩
    show AV.tuple [.nils, .agg [.int .i64 6, .int .i64 (IntKind.i64.wrap ((p : Int) + w))]] = _
    rw [wrap_i64 (by omega) (by omega)]
    rfl
end Go.Proofs.Ytfphpjinimfhfaa
