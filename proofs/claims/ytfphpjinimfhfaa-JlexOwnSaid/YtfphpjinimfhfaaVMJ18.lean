import Derived.Test.YtfphpjinimfhfaaVMJ17
namespace Go.Proofs.Ytfphpjinimfhfaa
open Go.Proofs.Ytfphpjinimfhfaa.VM Go.RowKit
set_option maxRecDepth 100000
set_option linter.unusedVariables false
set_option maxHeartbeats 4000000
theorem Bld.b1 {b : Nat} {S S1 : St} {n p : Nat} {bs : List UInt8} (h : BldJ b S n bs) (k : B1 p S S1) (hp : p < b) : BldJ b S1 n bs := h.mono k.next fun j hj hj2 => k.mem j hj2 (by omega)
theorem B1.low {p b : Nat} {S S1 S2 : St} (h : B1 p S S1) (k : Low b S1 S2) (hb : S.next ≤ b) : B1 p S S2 := ⟨Nat.le_trans h.next k.1, fun j hj hp => (k.2 j (by omega)).trans (h.mem j hj hp)⟩
theorem encU_len (r : Nat) : (encU r).length ≤ 4 := by have := enc_len r; simp [encU]; omega
theorem one_ge {l : List Int} (hb : Byt l) (h : ¬ (oneS l).2.2 < 0) : 0 ≤ (oneS l).2.2 := by omega
theorem textL_step (bs : List UInt8) (k : Nat) (x : Lx) (out : List UInt8) : textL bs (k + 1) x out =
    if x.well = false then (x, out)
    else if mayB bs [34] x = true then (x.up, out)
    else if (bs.getD x.at_ 0).toNat < 32 then textL bs k (wrongS bs.length x) out
    else if mayB bs [92] x = true then textL bs k (escS bs x.up).2 (if (escS bs x.up).2.well = true then out ++ encU (escS bs x.up).1.toNat else out)
    else if (oneS ((ib bs).drop x.at_)).2.1 = 0 then textL bs k (badU bs.length { x with at_ := x.at_ + (oneS ((ib bs).drop x.at_)).2.2.toNat }) out
    else textL bs k { x with at_ := x.at_ + (oneS ((ib bs).drop x.at_)).2.1.toNat } (out ++ encU (oneS ((ib bs).drop x.at_)).1.toNat) := rfl
theorem t29 (h : Bool) (p : Nat) (x : Lx) (bs : List UInt8) (t : Tip) (hl : bs.length ≤ 2 ^ 40) (hat : x.at_ ≤ bs.length) (S : St) (hp : p < S.next) (hc : S.cells p = some (x.cs (.lst (bs.map u8) t))) :
    CallQ Try.prog (JC h) 29 [.ptr p 0] S fun r S1 => r = .str (if (textS bs x).1.well = true then (textS bs x).2 else []) ∧ S1.cells p = some ((textS bs x).1.cs (.lst (bs.map u8) t)) ∧ B1 p S S1 ∧ (textS bs x).1.at_ ≤ bs.length := by
  have well := fun x S hc => t25 h p x (.lst (bs.map u8) t) S hc
  have wrong := fun x S hat hc => t38 h p x bs t hat S hc
  have may := fun set x S hc => t23 h set p x bs t (by omega) S hc
  have must := fun set x S hp hat hc => t37 h set p x bs t (by omega) hat S hp hc
  have peek := fun x S hc => t34 h p x bs t S hc
  have escape := fun x S hp hat hc => t46 h p x bs t (by omega) hat S hp hc
  refine CallQ.of rfl (by kernel_rfl : Try.prog.funcs[29]? = some Try.f29) rfl (by decide) ?_
  conv => whnf
  have c0 : (S.new (.own 46 [.nul, .nils])).cells p = some (x.cs (.lst (bs.map u8) t)) := cells_new_ne hc (by omega)
  refine CallQ.mono (must [34] x _ (by show p < S.next + 1; omega) hat c0) ?_
  rintro r S1 ⟨-, c1, b1⟩
  have n1 : S.next + 1 ≤ S1.next := b1.next
  have bl1 : BldJ S.next S1 S.next [] := Bld.b1 (⟨Nat.le_refl _, Nat.lt_succ_self _, .inl ⟨mem_new _ _, rfl⟩⟩ : BldJ S.next (S.new (.own 46 [.nul, .nils])) S.next []) b1 (by omega)
  have a1 : (mustS bs [34] x).at_ ≤ bs.length := must_le hat
  have b1' : B1 p S S1 := ((B1.refl p S).new _).trans b1
  have e0 : textS bs x = textL bs (bs.length + 2) (mustS bs [34] x) [] := rfl
  rw [e0]
  clear e0 c0 b1
  generalize mustS bs [34] x = x1 at *
  conv => whnf
  refine CodeQ.loop (fun (q : Lx × List UInt8) => pat 94 [(0, .ptr p 0), (3, .ptr S.next 0)])
    (fun m q S2 => S2.cells p = some (q.1.cs (.lst (bs.map u8) t)) ∧ B1 p S S2 ∧ BldJ S.next S2 S.next q.2 ∧ S.next + 1 ≤ S2.next ∧ q.1.at_ ≤ bs.length ∧ 1 ≤ m ∧ (q.1.well = true → bs.length - q.1.at_ + 2 ≤ m) ∧ q.2.length ≤ 4 * q.1.at_ ∧ textL bs (bs.length + 2) x1 [] = textL bs m q.1 q.2) ?_ (bs.length + 2) (x1, []) _ _
    ⟨c1, b1', bl1, n1, a1, by omega, fun _ => by dsimp only; omega, by simp, rfl⟩ ⟨rfl, rfl, trivial⟩
  clear c1 bl1 n1 a1 b1' hc hat
  rintro m ⟨y, out⟩ S2 d ⟨c2, b2, bl2, n2, a2, m1, m2, q4, q5⟩
  dsimp only at *
  rw [q5]
  clear q5
  obtain ⟨k, rfl⟩ : ∃ k, m = k + 1 := ⟨m - 1, by omega⟩
  have hstr : ∀ (S3 : St) (z : Lx), BldJ S.next S3 S.next out → bldStringG 5 [.ptr S.next 0] S3 = some (.str out, S3) := fun S3 z hb => bld_string hb (by omega)
  conv => whnf
  refine CallQ.mono (well y S2 c2) ?_
  rintro r S3 ⟨rfl, rfl⟩
  have wl := well y S3 c2
  rw [textL_step]
  cases hw : y.well
  · rw [hw] at wl
    rw [if_pos rfl, hw]
    conv => whnf
    refine CallQ.mono wl ?_
    rintro r S4 ⟨rfl, rfl⟩
    conv => whnf
    exact ⟨rfl, c2, b2, a2⟩
  rw [if_neg (by simp)]
  have m3 := m2 hw
  conv => whnf
  refine CallQ.mono (may [34] y S3 c2) ?_
  rintro r S4 ⟨rfl, c4, b4⟩
  cases hm : mayB bs [34] y
  rotate_left
  · rw [if_pos rfl]
    rw [may_up hm] at c4
    have hwu : y.up.well = true := hw
    have wl := well y.up S4 c4
    rw [hwu] at wl ⊢
    have bl4 := Bld.b1 bl2 b4 hp
    conv => whnf
    refine CallQ.mono wl ?_
    rintro r S5 ⟨rfl, rfl⟩
    conv => whnf
    refine CallQ.intr (g := bldStringG 5) rfl (hstr S5 y bl4) ?_
    conv => whnf
    exact ⟨rfl, c4, b2.trans b4, may_lt hm⟩
  rw [if_neg (by simp)]
  rw [may_no hm] at c4
  have bl4 := Bld.b1 bl2 b4 hp
  have b4' := b2.trans b4
  have n4 : S.next + 1 ≤ S4.next := by have := b4.next; omega
  clear b4 c2 b2 bl2 n2 wl hm
  conv => whnf
  refine CallQ.mono (peek y S4 c4) ?_
  rintro r S5 ⟨rfl, rfl⟩
  have hpk : y.at_ < bs.length ∨ bs.getD y.at_ 0 = 0 := by
    rcases Nat.lt_or_ge y.at_ bs.length with hx | hx
    · exact .inl hx
    · exact .inr (by simp [List.getD, List.getElem?_eq_none hx])
  generalize bs.getD y.at_ 0 = c at *
  have hcl := c.toNat_lt
  conv => whnf
  refine br (fun h32 => ?_) (fun h32 => ?_)
  · rw [if_pos (by omega)]
    conv => whnf
    refine CallQ.mono (wrong y S5 a2 c4) ?_
    rintro r S6 ⟨c6, b6⟩
    conv => whnf
    refine ⟨k, (wrongS bs.length y, out), by omega, ⟨c6, b4'.trans b6, Bld.b1 bl4 b6 hp, by have := b6.next; omega, by dsimp only; rw [wrong_at]; exact a2, by omega, fun hx => (by dsimp only at hx; rw [wrong_bad] at hx; cases hx), by dsimp only; rw [wrong_at]; exact q4, rfl⟩, ⟨rfl, rfl, trivial⟩⟩
  rw [if_neg (by omega)]
  have hlt : y.at_ < bs.length := by
    rcases hpk with hx | hx
    · exact hx
    · rw [hx] at h32; exact absurd (by decide) h32
  clear hpk
  conv => whnf
  refine CallQ.mono (may [92] y S5 c4) ?_
  rintro r S6 ⟨rfl, c6, b6⟩
  have n6 : S.next + 1 ≤ S6.next := by have := b6.next; omega
  have bl6 := Bld.b1 bl4 b6 hp
  have b6' := b4'.trans b6
  cases hm : mayB bs [92] y
  rotate_left
  · rw [if_pos rfl]
    rw [may_up hm] at c6
    have hlt2 := may_lt hm
    conv => whnf
    refine CallQ.mono (escape y.up S6 (by omega) hlt2 c6) ?_
    rintro r S7 ⟨rfl, c7, b7⟩
    have wl := well (escS bs y.up).2 S7 c7
    have hchr := @esc_chr bs y.up
    have hge := @esc_ge bs y.up
    have hle := esc_le (bs := bs) (x := y.up) hlt2
    have hup : y.up.at_ = y.at_ + 1 := rfl
    generalize escS bs y.up = es at *
    obtain ⟨r, z⟩ := es
    dsimp only at *
    have bl7 := Bld.b1 bl6 b7 hp
    have b7' := b6'.trans b7
    have n7 : S.next + 1 ≤ S7.next := by have := b7.next; omega
    conv => whnf
    refine CallQ.mono wl ?_
    rintro r' S8 ⟨rfl, rfl⟩
    cases hz : z.well
    · rw [if_neg (by simp)]
      conv => whnf
      exact ⟨k, (z, out), by omega, ⟨c7, b7', bl7, n7, hle, by omega, fun hx => (by dsimp only at hx; rw [hz] at hx; cases hx), by dsimp only; omega, rfl⟩, ⟨rfl, rfl, trivial⟩⟩
    · rw [if_pos rfl]
      have hr := hchr hz
      obtain ⟨rn, rfl⟩ : ∃ rn : Nat, r = (rn : Int) := ⟨r.toNat, by have := hr.1; omega⟩
      have hel := encU_len rn
      conv => whnf
      refine CallQ.mono (t21 h S.next S8 S.next out rn hr bl7 (by omega) (by omega)) ?_
      rintro r S9 ⟨k1, k2, k3⟩
      conv => whnf
      refine ⟨k, (z, out ++ encU rn), by omega, ⟨by rw [k2.cells hp]; exact c7, b7'.low k2 (Nat.le_refl _), k1.bld, by have := k2.1; omega, hle, by omega, fun _ => by dsimp only; omega, by dsimp only; rw [List.length_append]; omega, rfl⟩, ⟨rfl, rfl, trivial⟩⟩
  rw [if_neg (by simp)]
  rw [may_no hm] at c6
  have hlt' : y.at_ < (ib bs).length := by rw [ib_len]; exact hlt
  have hbyt := (ib_byt bs).drop y.at_
  have hne := drop_ne_nil hlt'
  have hgood : (oneS ((ib bs).drop y.at_)).2.2 < 0 → _ := one_good hbyt
  have hbad := @one_bad ((ib bs).drop y.at_)
  have hchr := runF_chr hbyt hne
  have htel := telS_bad (p := y.at_) hlt'
  have hnext : ∀ t' S, CallQ Try.prog (JC h) 47 [.lst ((bs.drop y.at_).map u8) t'] S fun r S1 => Keep S S1 ∧ r = .tuple [.int .i32 (oneS ((ib bs).drop y.at_)).1, .int .i64 (oneS ((ib bs).drop y.at_)).2.1] := by
    intro t' S
    rw [← ib_drop]
    cases hd : bs.drop y.at_ with
    | nil => have := congrArg List.length hd; simp at this; omega
    | cons b tl => exact t47 h b tl t' S
  have hcheck : ∀ t' S, ¬ (oneS ((ib bs).drop y.at_)).2.2 < 0 → CallQ Try.prog (JC h) 17 [.lst ((bs.drop y.at_).map u8) t'] S fun r S1 => Keep S S1 ∧ r = faultV (6, (oneS ((ib bs).drop y.at_)).2.2) := by
    intro t' S hw
    refine CallQ.mono (t17 h (bs.drop y.at_) (by simp; omega) _ (.inr ⟨t', rfl⟩) S) ?_
    rintro r S1 ⟨k, rfl⟩
    refine ⟨k, ?_⟩
    have e : telS (ib (bs.drop y.at_)) 0 = (6, (oneS ((ib bs).drop y.at_)).2.2) := by
      rw [ib_drop]
      have := telS_bad (l := (ib bs).drop y.at_) (p := 0) (List.length_pos_iff.2 hne)
      simp only [List.drop_zero] at this
      rw [this hw]
      simp
    rw [e]
  have hdl : ((ib bs).drop y.at_).length = bs.length - y.at_ := by rw [List.length_drop, ib_len]
  rw [hdl] at hgood hbad
  generalize oneS ((ib bs).drop y.at_) = o at *
  obtain ⟨v, n, w⟩ := o
  dsimp only at *
  conv => whnf
  refine ⟨[0, 1, 2, 3, 4, 5, 6, 7, 8, 9, 10, 11, 12, 13, 14], [], by kernel_rfl, by kernel_rfl, by kernel_rfl, ?_⟩
  conv => whnf
  refine ⟨_, c6, ?_⟩
  conv => whnf
  refine ⟨_, c6, ?_⟩
  conv => whnf
  obtain ⟨t', ht'⟩ := cut_from bs t y.at_ (by omega)
  refine ⟨_, ht', ?_⟩
  conv => whnf
  refine CallQ.mono (hnext t' S6) ?_
  rintro r S7 ⟨k7, rfl⟩
  by_cases hw0 : w < 0
  · obtain ⟨g1, g2, g3, g4, g5, g6⟩ := hgood hw0
    rw [if_neg (by omega)]
    obtain ⟨n, rfl⟩ : ∃ q : Nat, n = (q : Int) := ⟨n.toNat, by omega⟩
    obtain ⟨v, rfl⟩ : ∃ q : Nat, v = (q : Int) := ⟨v.toNat, by omega⟩
    simp only [Int.toNat_natCast]
    have bl7 := bl6.keep k7
    have n7 : S.next + 1 ≤ S7.next := by have := k7.next; omega
    have hel := encU_len v
    have henc := encU_len v
    have hel2 : (encU v).length ≤ 4 * n := by omega
    conv => whnf
    refine brEq (fun hz => absurd hz (by omega)) (fun _ => ?_)
    conv => whnf
    refine CallQ.mono (t21 h S.next S7 S.next out v (hchr hw0) bl7 (by omega) (by omega)) ?_
    rintro r S8 ⟨k1, k2, k3⟩
    have c8 : S8.cells p = some (y.cs (.lst (bs.map u8) t)) := by rw [k2.cells hp, kcells k7 (by omega)]; exact c6
    conv => whnf
    refine ⟨_, c8, ?_⟩
    conv => whnf
    refine ⟨_, _, c8, if_pos ⟨rfl, rfl, Nat.le_of_ble_eq_true rfl⟩, ?_⟩
    conv => whnf
    refine ⟨k, ({ y with at_ := y.at_ + n }, out ++ encU v), by omega, ⟨?_, ((b6'.trans (.of k7)).low k2 (Nat.le_refl _)).set _, ?_, by have := k2.1; show _ ≤ S8.next; omega, by dsimp only; omega, by omega, fun _ => by dsimp only; omega, by dsimp only; rw [List.length_append]; omega, rfl⟩, ⟨rfl, rfl, trivial⟩⟩
    · rw [cells_set]
      show some [_, AV.int .i64 (IntKind.i64.wrap ((y.at_ : Int) + n)), _, _] = _
      rw [wrap_i64 (by omega) (by omega)]
      rfl
    · exact k1.bld.mono (Nat.le_refl _) fun j hj hj2 => mem_set_ne rfl (by omega)
  · obtain ⟨rfl, rfl, hwl⟩ := hbad hw0
    rw [if_pos rfl]
    have hwl2 : w ≤ ((bs.length - y.at_ : Nat) : Int) := hwl
    obtain ⟨w, rfl⟩ : ∃ q : Nat, w = (q : Int) := ⟨w.toNat, by omega⟩
    simp only [Int.toNat_natCast]
    have bl7 := bl6.keep k7
    have n7 : S.next + 1 ≤ S7.next := by have := k7.next; omega
    have c7 : S7.cells p = some (y.cs (.lst (bs.map u8) t)) := by rw [kcells k7 (by omega)]; exact c6
    conv => whnf
    refine brEq (fun _ => ?_) (fun hz => absurd rfl hz)
    conv => whnf
    refine ⟨[0, 1, 2, 3, 4, 5, 6, 7, 8, 9, 10, 11], [], by kernel_rfl, by kernel_rfl, by kernel_rfl, ?_⟩
    conv => whnf
    refine ⟨_, c7, ?_⟩
    conv => whnf
    refine ⟨_, c7, ?_⟩
    conv => whnf
    obtain ⟨t2, ht2⟩ := cut_from bs t y.at_ (by omega)
    refine ⟨_, ht2, ?_⟩
    conv => whnf
    refine CallQ.mono (hcheck t2 S7 hw0) ?_
    rintro r S8 ⟨k8, rfl⟩
    have n8 : S7.next ≤ S8.next := k8.next
    conv => whnf
    refine ⟨_, _, cells_new _ _, store_agg rfl rfl rfl, ?_⟩
    conv => whnf
    generalize hS9 : (S8.new _).set S8.next _ = S9
    have k9 : Keep S8 S9 := by rw [← hS9]; exact ((Keep.refl S8).new _).set _ _ (Nat.le_refl _)
    have a9 : S9.cells S8.next = some [.int .i64 6, .int .i64 (w : Nat)] := by rw [← hS9]; exact cells_set _ _ _
    have n9 : S9.next = S8.next + 1 := by rw [← hS9]; rfl
    clear hS9
    have c9 : S9.cells p = some (y.cs (.lst (bs.map u8) t)) := by rw [kcells k9 (by omega), kcells k8 (by omega)]; exact c7
    have b9 : B1 p S S9 := b6'.trans (.of ((k7.trans k8).trans k9))
    have bl9 : BldJ S.next S9 S.next out := (bl7.keep k8).keep k9
    refine ⟨[0, 1, 2, 3, 4, 5, 6, 7, 8, 9], [], by kernel_rfl, by kernel_rfl, by kernel_rfl, ?_⟩
    conv => whnf
    refine ⟨_, c9, ?_⟩
    conv => whnf
    refine ⟨_, a9, ?_⟩
    conv => whnf
    refine ⟨_, _, c9, if_pos ⟨rfl, rfl, Nat.le_of_ble_eq_true rfl⟩, ?_⟩
    conv => whnf
    have c10 : (S9.set p (some (.cells (setsA (y.cs (.lst (bs.map u8) t)) 1 [.int .i64 (IntKind.i64.wrap ((y.at_ : Int) + (w : Nat)))])))).cells p = some ({ y with at_ := y.at_ + w : Lx }.cs (.lst (bs.map u8) t)) := by
      rw [cells_set, wrap_i64 (by omega) (by omega)]; rfl
    have hz : (⟨y.at_ + w, y.w, y.f⟩ : Lx).at_ ≤ bs.length := by show y.at_ + w ≤ _; omega
    refine CallQ.mono (wrong ⟨y.at_ + w, y.w, y.f⟩ _ hz c10) ?_
    rintro r S11 ⟨c11, b11⟩
    have n11 : S9.next ≤ S11.next := b11.next
    have b12 : B1 p S S11 := (b9.set _).trans b11
    have bl11 : BldJ S.next S11 S.next out := Bld.b1 (bl9.mono (S1 := S9.set p _) (Nat.le_refl _) fun j hj hj2 => mem_set_ne rfl (by omega)) b11 hp
    have hb9 := @wrong_bad bs.length ⟨y.at_ + w, y.w, y.f⟩
    have hat9 := wrong_at bs.length ⟨y.at_ + w, y.w, y.f⟩
    have hdef : badU bs.length ⟨y.at_ + w, y.w, y.f⟩ = if (wrongS bs.length ⟨y.at_ + w, y.w, y.f⟩).w = 5 then { wrongS bs.length ⟨y.at_ + w, y.w, y.f⟩ with w := 6 } else wrongS bs.length ⟨y.at_ + w, y.w, y.f⟩ := rfl
    rw [hdef]
    generalize wrongS bs.length ⟨y.at_ + w, y.w, y.f⟩ = z at *
    obtain ⟨zat, zw, zf⟩ := z
    dsimp only at *
    conv => whnf
    refine ⟨_, c11, ?_⟩
    conv => whnf
    refine brEq (fun h5 => ?_) (fun h5 => ?_)
    · rw [if_pos h5]
      conv => whnf
      refine ⟨_, _, c11, if_pos ⟨rfl, rfl, Nat.le_of_ble_eq_true rfl⟩, ?_⟩
      conv => whnf
      refine ⟨k, (⟨zat, 6, zf⟩, out), by omega, ⟨by rw [cells_set]; rfl, b12.set _, bl11.mono (Nat.le_refl _) fun j hj hj2 => mem_set_ne rfl (by omega), by show _ ≤ S11.next; omega, by dsimp only; omega, by omega, fun hx => (by dsimp only [Lx.well] at hx; simp at hx), by dsimp only; omega, rfl⟩, ⟨rfl, rfl, trivial⟩⟩
    · rw [if_neg h5]
      conv => whnf
      refine ⟨k, (⟨zat, zw, zf⟩, out), by omega, ⟨c11, b12, bl11, by omega, by dsimp only; omega, by omega, fun hx => (by dsimp only at hx; rw [hb9] at hx; cases hx), by dsimp only; omega, rfl⟩, ⟨rfl, rfl, trivial⟩⟩
end Go.Proofs.Ytfphpjinimfhfaa
