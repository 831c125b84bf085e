import Derived.Test.YtfphpjinimfhfaaVMJ21
namespace Go.Proofs.Ytfphpjinimfhfaa
open Go.Proofs.Ytfphpjinimfhfaa.VM Go.RowKit
set_option linter.unusedVariables false
theorem gd_esc {bs : List UInt8} {x : Lx} (h : Ok bs x) : Gd Prod.snd x.fr (fun b => escS b x) bs := by
  refine gd_ifmay (fun q => ?_) (fun _ => (gd_must h).map (fun y => ((0 : Int), y)) fun _ => rfl)
  have hx := fr_well (may_well q)
  refine Gd.ite (c := fun b => 0 ≤ Lib.indexByte escF (b.getD x.at_ 0)) (fun F b2 ha hs => by rw [ha.get (by omega)]) (fun _ => ?_) (fun _ => ?_)
  · have := gd_up q
    refine ⟨this.ok, this.ge, fun F b2 ha hf => ?_⟩
    have hs := Int.le_trans this.ge hf
    rw [ha.get (by omega)]
  · have h1 := ok_up q
    have h2 := gd_unit (bs := bs) false 4 0 0 h1.1
    refine Gd.less ?_ h1.2.1
    refine Gd.bind (g := fun b u => if u.1 / 1024 = 54 then if mayB b [92] u.2 = true then if mayB b [117] u.2.up = true then (65536 + ((u.1 : Int) - 55296) * 1024 + (unitS b true 4 0 0 u.2.up.up).1 - 56320, (unitS b true 4 0 0 u.2.up.up).2) else (((u.1 : Nat) : Int), mustS b [117] u.2.up) else (((u.1 : Nat) : Int), mustS b [92] u.2) else (((u.1 : Nat) : Int), u.2)) h2 ?_
    have h3 : Ok bs (unitS bs false 4 0 0 x.up).2 := h2.ok
    show Gd Prod.snd (unitS bs false 4 0 0 x.up).2.fr _ bs
    generalize unitS bs false 4 0 0 x.up = u at *
    obtain ⟨n, y⟩ := u
    dsimp only at *
    refine Gd.ite (c := fun _ => n / 1024 = 54) (fun F b2 ha hs => Iff.rfl) (fun _ => ?_) (fun _ => .pure h3 (Int.le_refl _))
    refine gd_ifmay (fun q2 => ?_) (fun _ => (gd_must h3).map (fun y => (((n : Nat) : Int), y)) fun _ => rfl)
    have h4 := ok_up q2
    refine Gd.less ?_ h4.2.1
    refine gd_ifmay (fun q3 => ?_) (fun _ => (gd_must h4.1).map (fun y => (((n : Nat) : Int), y)) fun _ => rfl)
    have h5 := ok_up q3
    refine Gd.less ?_ h5.2.1
    exact (gd_unit (bs := bs) true 4 0 0 h5.1).map (fun v => (65536 + ((n : Int) - 55296) * 1024 + v.1 - 56320, v.2)) fun _ => rfl
theorem one_pre {l m : List Int} (hb : Byt l) (h : (oneS l).2.2 < 0) (ht : m.take (oneS l).2.1.toNat = l.take (oneS l).2.1.toNat) : oneS m = oneS l := by
  have h3 : oneS (l.take (oneS l).2.1.toNat) = oneS l := one_self hb h
  have h4 := one_app (l := m.take (oneS l).2.1.toNat) (by rw [ht, h3]; exact h) (m.drop (oneS l).2.1.toNat)
  rw [List.take_append_drop, ht, h3] at h4
  exact h4
theorem bad_eq {n : Nat} {x : Lx} (hw : x.well = true) (hn : x.at_ < n) : badU n x = { x with w := 6, f := x.at_ } := by
  unfold badU; rw [wrong_eq hw hn]; rfl
theorem bad_bad {n : Nat} {x : Lx} : (badU n x).well = false := by
  unfold badU
  split
  · rfl
  · exact wrong_bad
theorem bad_f {n : Nat} {x : Lx} (hw : x.well = true) (hn : x.at_ ≤ n) : (badU n x).f = x.at_ := by
  unfold badU
  split
  · exact wrong_f hw hn
  · exact wrong_f hw hn
theorem bad_at {n : Nat} {x : Lx} : (badU n x).at_ = x.at_ := by
  unfold badU
  split
  · exact wrong_at n x
  · exact wrong_at n x
theorem moved_well {x : Lx} {k : Nat} : ({ x with at_ := k } : Lx).well = x.well := rfl
/-- Enough rounds for a text. -/
def fuelT (bs : List UInt8) (n : Nat) (x : Lx) : Prop := 1 ≤ n ∧ (x.well = true → bs.length - x.at_ + 2 ≤ n)
theorem gd_textL {bs : List UInt8} : ∀ (n : Nat) (x : Lx) (out : List UInt8), Ok bs x → fuelT bs n x →
    Ok bs (textL bs n x out).1 ∧ x.fr ≤ (textL bs n x out).1.fr ∧ ∀ F b2, Agr F bs b2 → (textL bs n x out).1.fr ≤ F → ∀ n2, fuelT b2 n2 x → textL b2 n2 x out = textL bs n x out
  | 0, x, out, h, hn => absurd hn.1 (by decide)
  | n + 1, x, out, h, hn => by
    have hu : ∀ {b2 n2}, fuelT b2 n2 x → ∃ k, n2 = k + 1 := fun {b2 n2} q => ⟨n2 - 1, by have := q.1; omega⟩
    rw [textL_step]
    cases hw : x.well
    · rw [if_pos rfl]
      refine ⟨h, Int.le_refl _, fun F b2 ha hf n2 h2 => ?_⟩
      obtain ⟨k, rfl⟩ := hu h2
      rw [textL_step, hw, if_pos rfl]
    rw [if_neg (by decide)]
    have hx := fr_well hw
    have hm := hn.2 hw
    have hbad : fuelT bs n (wrongS bs.length x) := ⟨by omega, fun q => by rw [wrong_bad] at q; cases q⟩
    cases hq : mayB bs [34] x
    rotate_left
    · rw [if_pos rfl]
      have h1 := ok_up hq
      refine ⟨h1.1, h1.2.1, fun F b2 ha hf n2 h2 => ?_⟩
      obtain ⟨k, rfl⟩ := hu h2
      rw [textL_step, hw, if_neg (by decide), may_same ha (Int.le_trans h1.2.1 hf), hq, if_pos rfl]
    rw [if_neg (by decide)]
    by_cases hlow : (bs.getD x.at_ 0).toNat < 32
    · rw [if_pos hlow]
      have h1 := gd_wrong h
      have h2 := gd_textL n (wrongS bs.length x) out h1.ok hbad
      refine ⟨h2.1, Int.le_trans h1.ge h2.2.1, fun F b2 ha hf n2 hn2 => ?_⟩
      have hF : (wrongS bs.length x).fr ≤ F := Int.le_trans h2.2.1 hf
      have hs : x.fr ≤ F := Int.le_trans h1.ge hF
      obtain ⟨k, rfl⟩ := hu hn2
      have := hn2.2 hw; have := ha.lb
      rw [textL_step, hw, if_neg (by decide), may_same ha hs, hq, if_neg (by decide), ha.get (by omega), if_pos hlow, h1.cut F b2 ha hF]
      exact h2.2.2 F b2 ha hf k ⟨by omega, fun q => by rw [wrong_bad] at q; cases q⟩
    rw [if_neg hlow]
    have hat : x.at_ < bs.length := by
      by_cases q : x.at_ < bs.length
      · exact q
      · exact absurd (by rw [List.getD_eq_getElem?_getD, List.getElem?_eq_none (by omega)]; decide) hlow
    cases hq2 : mayB bs [92] x
    rotate_left
    · rw [if_pos rfl]
      have h1 := ok_up hq2
      have h2 := gd_esc h1.1
      have hge := esc_ge (bs := bs) (x := x.up)
      have hxu : x.up.at_ = x.at_ + 1 := rfl
      have h3 := gd_textL n (escS bs x.up).2 (if (escS bs x.up).2.well = true then out ++ encU (escS bs x.up).1.toNat else out) h2.ok ⟨by omega, fun _ => by omega⟩
      have h13 := Int.le_trans h1.2.1 h2.ge
      refine ⟨h3.1, Int.le_trans h13 h3.2.1, fun F b2 ha hf n2 hn2 => ?_⟩
      have hF : (escS bs x.up).2.fr ≤ F := Int.le_trans h3.2.1 hf
      have hs : x.fr ≤ F := Int.le_trans h13 hF
      obtain ⟨k, rfl⟩ := hu hn2
      have := hn2.2 hw; have := ha.lb
      have he : escS b2 x.up = escS bs x.up := h2.cut F b2 ha hF
      rw [textL_step, hw, if_neg (by decide), may_same ha hs, hq, if_neg (by decide), ha.get (by omega), if_neg hlow, may_same ha hs, hq2, if_pos rfl, he]
      exact h3.2.2 F b2 ha hf k ⟨by omega, fun _ => by omega⟩
    rw [if_neg (by decide)]
    have hby : Byt ((ib bs).drop x.at_) := (ib_byt bs).drop _
    have hdl : ((ib bs).drop x.at_).length = bs.length - x.at_ := by rw [List.length_drop, ib_len]
    by_cases hc : (oneS ((ib bs).drop x.at_)).2.1 = 0
    · rw [if_pos hc]
      have hng : ¬ (oneS ((ib bs).drop x.at_)).2.2 < 0 := fun q => by have := one_good hby q; omega
      have hwl := one_bad hng
      have hcut := fun m q1 q2 => one_cut (m := m) hng q1 q2
      rw [hdl] at hwl hcut
      generalize hz : (oneS ((ib bs).drop x.at_)).2.2 = w at *
      have hw' : ({ x with at_ := x.at_ + w.toNat } : Lx).well = true := hw
      have h1 : (badU bs.length { x with at_ := x.at_ + w.toNat }).fr = ((x.at_ + w.toNat : Nat) : Int) := by rw [fr_bad bad_bad, bad_f hw' (by dsimp only; omega)]
      have h1o : Ok bs (badU bs.length { x with at_ := x.at_ + w.toNat }) := ⟨by rw [bad_at]; dsimp only; omega, by rw [h1]; omega⟩
      have h2 := gd_textL n _ out h1o ⟨by omega, fun q => by rw [bad_bad] at q; cases q⟩
      refine ⟨h2.1, Int.le_trans (by rw [h1]; omega) h2.2.1, fun F b2 ha hf n2 hn2 => ?_⟩
      have hF := Int.le_trans h2.2.1 hf
      rw [h1] at hF
      have hs : x.fr ≤ F := by omega
      obtain ⟨k, rfl⟩ := hu hn2
      have := hn2.2 hw; have := ha.lb; have := ha.la
      have he : oneS ((ib b2).drop x.at_) = oneS ((ib bs).drop x.at_) := hcut _ (by omega) (ha.cut (by omega))
      rw [textL_step, hw, if_neg (by decide), may_same ha hs, hq, if_neg (by decide), ha.get (by omega), if_neg hlow, may_same ha hs, hq2, if_neg (by decide), he, if_pos hc, hz, bad_eq hw' (by dsimp only; omega), ← bad_eq (n := bs.length) hw' (by dsimp only; omega)]
      exact h2.2.2 F b2 ha hf k ⟨by omega, fun q => by rw [bad_bad] at q; cases q⟩
    · rw [if_neg hc]
      have hg : (oneS ((ib bs).drop x.at_)).2.2 < 0 := by
        by_cases q : (oneS ((ib bs).drop x.at_)).2.2 < 0
        · exact q
        · exact absurd (one_bad q).2.1 hc
      have hgl := one_good hby hg
      rw [hdl] at hgl
      have hpre := fun m ht => one_pre (m := m) hby hg ht
      generalize hz : oneS ((ib bs).drop x.at_) = o at *
      obtain ⟨c, m, w⟩ := o
      dsimp only at *
      have h1f : ({ x with at_ := x.at_ + m.toNat } : Lx).fr = ((x.at_ + m.toNat : Nat) : Int) := fr_well (x := { x with at_ := x.at_ + m.toNat }) hw
      have h1 : Ok bs { x with at_ := x.at_ + m.toNat } := ⟨by dsimp only; omega, by rw [h1f]; omega⟩
      have h2 := gd_textL n _ (out ++ encU c.toNat) h1 ⟨by omega, fun _ => by dsimp only; omega⟩
      refine ⟨h2.1, Int.le_trans (by rw [h1f]; omega) h2.2.1, fun F b2 ha hf n2 hn2 => ?_⟩
      have hF := Int.le_trans h2.2.1 hf
      rw [h1f] at hF
      have hs : x.fr ≤ F := by omega
      obtain ⟨k, rfl⟩ := hu hn2
      have := hn2.2 hw; have := ha.lb; have := ha.la
      have he := hpre _ (ha.cut (by omega))
      rw [textL_step, hw, if_neg (by decide), may_same ha hs, hq, if_neg (by decide), ha.get (by omega), if_neg hlow, may_same ha hs, hq2, if_neg (by decide), he, if_neg hc]
      exact h2.2.2 F b2 ha hf k ⟨by omega, fun _ => by dsimp only; omega⟩
theorem gd_text {bs : List UInt8} {x : Lx} (h : Ok bs x) : Gd Prod.fst x.fr (fun b => textS b x) bs := by
  have h1 := gd_must (set := [34]) h
  refine Gd.bind (g := fun b y => textL b (b.length + 2) y []) h1 ?_
  have h2 := gd_textL (bs.length + 2) (mustS bs [34] x) [] h1.ok ⟨by omega, fun _ => by omega⟩
  exact ⟨h2.1, h2.2.1, fun F b2 ha hf => h2.2.2 F b2 ha hf _ ⟨by omega, fun _ => by omega⟩⟩
theorem gd_fold {bs : List UInt8} : ∀ (w : List UInt8) {x : Lx}, Ok bs x → Gd id x.fr (fun b => wordS b w x) bs
  | [], x, h => .pure h (Int.le_refl _)
  | c :: w, x, h => by
    have h1 := gd_must (set := [c]) h
    exact Gd.bind (g := fun b y => wordS b w y) h1 (gd_fold w h1.ok)
theorem gd_tok {bs : List UInt8} {x : Lx} (h : Ok bs x) (hw : x.well = true) : Gd Prod.fst x.fr (fun b => tokS b x) bs := by
  have hx := fr_well hw
  have hg : ∀ F b2, Agr F bs b2 → x.fr ≤ F → b2.getD x.at_ 0 = bs.getD x.at_ 0 := fun F b2 ha hs => ha.get (by omega)
  refine gd_ifmay (fun q => ?_) (fun _ => ?_)
  · have := gd_up q
    exact ⟨this.ok, this.ge, fun F b2 ha hf => by rw [hg F b2 ha (Int.le_trans this.ge hf)]⟩
  refine Gd.ite (c := fun b => b.getD x.at_ 0 = 34) (fun F b2 ha hs => by rw [hg F b2 ha hs]) (fun _ => (gd_text h).map (fun y => (y.1, (7 : Int), if y.1.well = true then y.2 else [])) fun _ => rfl) (fun _ => ?_)
  refine Gd.ite (c := fun b => b.getD x.at_ 0 = 45 ∨ 0 ≤ Lib.indexByte digs (b.getD x.at_ 0)) (fun F b2 ha hs => by rw [hg F b2 ha hs]) (fun _ => ?_) (fun _ => ?_)
  · refine Gd.bind (pr := id) (op := fun b => numS b x) (g := fun b y => if y.well = true then (y, (8 : Int), (b.take y.at_).drop x.at_) else (y, 0, [])) (gd_num h) ?_
    have h1 : Ok bs (numS bs x) := (gd_num h).ok
    generalize numS bs x = y at *
    show Gd Prod.fst y.fr (fun b => if y.well = true then (y, (8 : Int), (b.take y.at_).drop x.at_) else (y, 0, [])) bs
    refine Gd.ite (c := fun _ => y.well = true) (fun F b2 ha hs => Iff.rfl) (fun q => ⟨h1, Int.le_refl _, fun F b2 ha hf => ?_⟩) (fun _ => .pure h1 (Int.le_refl _))
    have hf : y.fr ≤ F := hf
    rw [fr_well q] at hf
    have e : b2.take y.at_ = bs.take y.at_ := by
      have := congrArg (List.take y.at_) ha.eq
      rw [List.take_take, List.take_take, Nat.min_eq_left (by omega)] at this
      exact this.symm
    try dsimp only
    rw [e]
  refine Gd.ite (c := fun b => b.getD x.at_ 0 = 116) (fun F b2 ha hs => by rw [hg F b2 ha hs]) (fun _ => (gd_fold wtrue h).map (fun y => (y, (9 : Int), ([] : List UInt8))) fun _ => rfl) (fun _ => ?_)
  refine Gd.ite (c := fun b => b.getD x.at_ 0 = 102) (fun F b2 ha hs => by rw [hg F b2 ha hs]) (fun _ => (gd_fold wfalse h).map (fun y => (y, (10 : Int), ([] : List UInt8))) fun _ => rfl) (fun _ => ?_)
  refine Gd.ite (c := fun b => b.getD x.at_ 0 = 110) (fun F b2 ha hs => by rw [hg F b2 ha hs]) (fun _ => (gd_fold wnull h).map (fun y => (y, (11 : Int), ([] : List UInt8))) fun _ => rfl) (fun _ => ?_)
  exact (gd_wrong h).map (fun y => (y, (0 : Int), ([] : List UInt8))) fun _ => rfl
theorem gd_lexL {bs : List UInt8} : ∀ (n : Nat) (x : Lx) (l : List Tk), Ok bs x → x.well = true → bs.length - x.at_ + 1 ≤ n →
    Ok bs (lexL bs n x l).1 ∧ x.fr ≤ (lexL bs n x l).1.fr ∧ ∀ F b2, Agr F bs b2 → (lexL bs n x l).1.fr ≤ F → ∀ n2, b2.length - x.at_ + 1 ≤ n2 → lexL b2 n2 x l = lexL bs n x l
  | 0, x, l, h, hw, hn => absurd hn (by omega)
  | n + 1, x, l, h, hw, hn => by
    have h1 := gd_many' (set := gaps) h
    have h1o : Ok bs (manyS bs gaps x) := h1.ok
    have hw1 : (manyS bs gaps x).well = true := by rw [many_well]; exact hw
    have hg1 := many_ge (bs := bs) (set := gaps) (x := x)
    have hc1 := h1.cut
    have hs1 : x.fr ≤ (manyS bs gaps x).fr := h1.ge
    rw [lexL_step]
    dsimp only [id] at hc1
    clear h1
    generalize manyS bs gaps x = y at *
    have hy := fr_well hw1
    have h2 := gd_tok h1o hw1
    have hgt := @tok_gt bs y
    have h2o : Ok bs (tokS bs y).1 := h2.ok
    have hc2 := h2.cut
    have hs2 : y.fr ≤ (tokS bs y).1.fr := h2.ge
    clear h2
    try dsimp only at hc2
    generalize tokS bs y = z at *
    by_cases he : y.at_ = bs.length
    · rw [if_pos he]
      refine ⟨h1o, hs1, fun F b2 ha hf n2 hn2 => ?_⟩
      have := ha.la
      have hf : y.fr ≤ F := hf
      omega
    rw [if_neg he]
    have hyl := h1o.at_
    cases hz : z.1.well
    · rw [if_pos rfl]
      refine ⟨h2o, Int.le_trans hs1 hs2, fun F b2 ha hf n2 hn2 => ?_⟩
      have hf : z.1.fr ≤ F := hf
      obtain ⟨k, rfl⟩ : ∃ k, n2 = k + 1 := ⟨n2 - 1, by omega⟩
      have := ha.lb
      rw [lexL_step, hc1 F b2 ha (by omega), if_neg (by omega), hc2 F b2 ha hf, hz, if_pos rfl]
    rw [if_neg (by decide)]
    have hgt := hgt hz
    have h3 := gd_lexL n z.1 (l ++ [⟨z.2.1, y.at_, z.1.at_, z.2.2⟩]) h2o hz (by omega)
    refine ⟨h3.1, Int.le_trans hs1 (Int.le_trans hs2 h3.2.1), fun F b2 ha hf n2 hn2 => ?_⟩
    have hz' := fr_well hz
    have hF := Int.le_trans h3.2.1 hf
    obtain ⟨k, rfl⟩ : ∃ k, n2 = k + 1 := ⟨n2 - 1, by omega⟩
    have := ha.lb
    rw [lexL_step, hc1 F b2 ha (by omega), if_neg (by omega), hc2 F b2 ha (by omega), hz, if_neg (by decide)]
    exact h3.2.2 F b2 ha hf k (by omega)
/-- The fault hangs on the bytes up to it alone. -/
theorem lex_first {bs b2 : List UInt8} (hw : (lexS bs).1.well = false) (ha : Agr (lexS bs).1.f bs b2) : lexS b2 = lexS bs :=
  (gd_lexL (bs.length + 1) ⟨0, 0, 0⟩ [] ⟨Nat.zero_le _, by show (0 : Int) ≤ _; omega⟩ rfl (by omega)).2.2 _ b2 ha (by rw [← fr_bad hw]; exact Int.le_refl _) _ (by omega)
end Go.Proofs.Ytfphpjinimfhfaa
