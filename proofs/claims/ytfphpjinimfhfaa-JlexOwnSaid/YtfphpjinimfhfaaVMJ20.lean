import Derived.Test.YtfphpjinimfhfaaVMJ19
namespace Go.Proofs.Ytfphpjinimfhfaa
open Go.Proofs.Ytfphpjinimfhfaa.VM Go.RowKit
set_option maxRecDepth 100000
set_option linter.unusedVariables false
set_option maxHeartbeats 8000000
def gaps : List UInt8 := [32, 9, 10, 13]
/-- A token: its kind, from where to where, its text. -/
structure Tk where
  k : Int
  fr : Nat
  to : Nat
  s : List UInt8
def Tk.v (x : Tk) : AV := .agg (tokC x.k x.fr x.to x.s)
/-- The tokens, with fuel. -/
def lexL (bs : List UInt8) : Nat → Lx → List Tk → Lx × List Tk
  | 0, x, l => (x, l)
  | n + 1, x, l =>
    if (manyS bs gaps x).at_ = bs.length then (manyS bs gaps x, l)
    else if (tokS bs (manyS bs gaps x)).1.well = false then ((tokS bs (manyS bs gaps x)).1, l)
    else lexL bs n (tokS bs (manyS bs gaps x)).1 (l ++ [⟨(tokS bs (manyS bs gaps x)).2.1, (manyS bs gaps x).at_, (tokS bs (manyS bs gaps x)).1.at_, (tokS bs (manyS bs gaps x)).2.2⟩])
theorem lexL_step (bs : List UInt8) (n : Nat) (x : Lx) (l : List Tk) : lexL bs (n + 1) x l =
    if (manyS bs gaps x).at_ = bs.length then (manyS bs gaps x, l)
    else if (tokS bs (manyS bs gaps x)).1.well = false then ((tokS bs (manyS bs gaps x)).1, l)
    else lexL bs n (tokS bs (manyS bs gaps x)).1 (l ++ [⟨(tokS bs (manyS bs gaps x)).2.1, (manyS bs gaps x).at_, (tokS bs (manyS bs gaps x)).1.at_, (tokS bs (manyS bs gaps x)).2.2⟩]) := rfl
def lexS (bs : List UInt8) : Lx × List Tk := lexL bs (bs.length + 1) ⟨0, 0, 0⟩ []

/-! ### who takes nothing goes wrong -/
theorem may_bad {bs set : List UInt8} {x : Lx} (h : x.well = false) : mayB bs set x = false := by unfold mayB; rw [h]; rfl
theorem must_bad {bs set : List UInt8} {x : Lx} (h : x.well = false) : (mustS bs set x).well = false := by rw [must_no (may_bad h)]; exact wrong_bad
theorem many_bad {bs set : List UInt8} {x : Lx} (h : x.well = false) : manyS bs set x = x := many_no (may_bad h)
theorem num2_bad {bs : List UInt8} {x : Lx} (h : x.well = false) : num2 bs x = x := by unfold num2; rw [may_bad h]; rfl
theorem num3_bad {bs : List UInt8} {x : Lx} (h : x.well = false) : num3 bs x = x := by unfold num3; rw [may_bad h]; rfl
theorem textL_bad {bs : List UInt8} {x : Lx} (h : x.well = false) (out : List UInt8) : ∀ n, textL bs n x out = (x, out)
  | 0 => rfl
  | n + 1 => by rw [textL_step, if_pos h]
theorem skip_well {bs set : List UInt8} : ∀ (n : Nat) {x : Lx}, (skipS bs set n x).well = x.well
  | 0, x => rfl
  | n + 1, x => by
    unfold skipS
    split
    · exact skip_well n (x := x.up)
    · rfl
theorem many_well {bs set : List UInt8} {x : Lx} : (manyS bs set x).well = x.well := skip_well _
theorem may_wl {bs set : List UInt8} {x : Lx} : (mayS bs set x).well = x.well := by
  unfold mayS
  split <;> rfl
theorem must_gt {bs set : List UInt8} {x : Lx} (h : (mustS bs set x).well = true) : x.at_ < (mustS bs set x).at_ := by
  rw [must_up (must_well h)]; exact Nat.lt_succ_self _
theorem num1_gt {bs : List UInt8} {x : Lx} (h : (num1 bs x).well = true) : x.at_ < (num1 bs x).at_ := by
  unfold num1 at h ⊢
  have h1 := @may_ge bs [45] x
  dsimp only at h ⊢
  split at h
  · rename_i hm
    rw [if_pos hm]
    rw [may_up hm]
    show x.at_ < (mayS bs [45] x).at_ + 1
    omega
  · rename_i hm
    rw [if_neg hm]
    split at h
    · rename_i hm2
      rw [if_pos hm2]
      have := many_ge (bs := bs) (set := digs) (x := mustS bs digs (mayS bs [45] x))
      rw [must_up hm2] at this ⊢
      have h3 : (mayS bs [45] x).up.at_ = (mayS bs [45] x).at_ + 1 := rfl
      omega
    · rename_i hm2
      exact absurd (must_well h) hm2
theorem num_gt {bs : List UInt8} {x : Lx} (h : (numS bs x).well = true) : x.at_ < (numS bs x).at_ := by
  unfold numS at h ⊢
  have h1 : (num1 bs x).well = true := by
    cases hw : (num1 bs x).well
    · rw [num2_bad hw, num3_bad hw, hw] at h; cases h
    · rfl
  have h2 := num1_gt h1
  have h3 := @num2_ge bs (num1 bs x)
  have h4 := @num3_ge bs (num2 bs (num1 bs x))
  omega
theorem textL_ge {bs : List UInt8} : ∀ (n : Nat) {x : Lx} {out : List UInt8}, x.at_ ≤ (textL bs n x out).1.at_
  | 0, x, out => Nat.le_refl _
  | n + 1, x, out => by
    rw [textL_step]
    split
    · exact Nat.le_refl _
    split
    · exact Nat.le_succ _
    split
    · exact Nat.le_trans (by rw [wrong_at]; exact Nat.le_refl _) (textL_ge n)
    split
    · exact Nat.le_trans (Nat.le_trans (Nat.le_succ _) (esc_ge (x := x.up))) (textL_ge n)
    split
    · refine Nat.le_trans ?_ (textL_ge n)
      unfold badU
      split
      · show x.at_ ≤ (wrongS _ _).at_
        rw [wrong_at]; exact Nat.le_add_right _ _
      · rw [wrong_at]; exact Nat.le_add_right _ _
    · refine Nat.le_trans ?_ (textL_ge n)
      exact Nat.le_add_right _ _
theorem text_gt {bs : List UInt8} {x : Lx} (h : (textS bs x).1.well = true) : x.at_ < (textS bs x).1.at_ := by
  unfold textS at h ⊢
  have h1 : (mustS bs [34] x).well = true := by
    cases hw : (mustS bs [34] x).well
    · rw [textL_bad hw] at h; rw [hw] at h; cases h
    · rfl
  exact Nat.lt_of_lt_of_le (must_gt h1) (textL_ge _)
theorem fold_bad {bs : List UInt8} : ∀ (w : List UInt8) {x : Lx}, x.well = false → (w.foldl (fun y ch => mustS bs [ch] y) x).well = false
  | [], x, h => h
  | c :: w, x, h => fold_bad w (must_bad h)
theorem fold_ge {bs : List UInt8} : ∀ (w : List UInt8) {x : Lx}, x.at_ ≤ (w.foldl (fun y ch => mustS bs [ch] y) x).at_
  | [], x => Nat.le_refl _
  | c :: w, x => Nat.le_trans must_ge (fold_ge w)
theorem fold_le {bs : List UInt8} : ∀ (w : List UInt8) {x : Lx}, x.at_ ≤ bs.length → (w.foldl (fun y ch => mustS bs [ch] y) x).at_ ≤ bs.length
  | [], x, h => h
  | c :: w, x, h => fold_le w (must_le h)
theorem word_gt {bs : List UInt8} {c : UInt8} {w : List UInt8} {x : Lx} (h : (wordS bs (c :: w) x).well = true) : x.at_ < (wordS bs (c :: w) x).at_ := by
  unfold wordS at h ⊢
  simp only [List.foldl_cons] at h ⊢
  have h1 : (mustS bs [c] x).well = true := by
    cases hw : (mustS bs [c] x).well
    · rw [fold_bad w hw] at h; cases h
    · rfl
  exact Nat.lt_of_lt_of_le (must_gt h1) (fold_ge w)
theorem tok_gt {bs : List UInt8} {x : Lx} (h : (tokS bs x).1.well = true) : x.at_ < (tokS bs x).1.at_ := by
  unfold tokS at h ⊢
  split at h
  · rename_i q; rw [if_pos q]; exact Nat.lt_succ_self _
  rename_i q; rw [if_neg q]
  split at h
  · rename_i q; rw [if_pos q]; exact text_gt h
  rename_i q; rw [if_neg q]
  split at h
  · rename_i q; rw [if_pos q]
    split at h
    · rename_i q; rw [if_pos q]; exact num_gt h
    · rename_i q; rw [if_neg q]; exact absurd h q
  rename_i q; rw [if_neg q]
  split at h
  · rename_i q; rw [if_pos q]; exact word_gt h
  rename_i q; rw [if_neg q]
  split at h
  · rename_i q; rw [if_pos q]; exact word_gt h
  rename_i q; rw [if_neg q]
  split at h
  · rename_i q; rw [if_pos q]; exact word_gt h
  · rw [wrong_bad] at h; cases h

theorem elT : Elem Try.prog 26 33 4 40 true (.agg (tokC 0 0 0 [])) := ⟨by kernel_rfl, by kernel_rfl, by kernel_rfl, by kernel_rfl, by kernel_rfl, rfl, by decide⟩
theorem shed_tk (l : List Tk) : (l.map Tk.v).map AV.shed = l.map Tk.v := by
  rw [List.map_map]
  exact List.map_congr_left fun x _ => rfl
theorem wellA_tk : ∀ l : List Tk, wellA 4 (l.map Tk.v) = true
  | [] => rfl
  | x :: l => by
    show (decide (x.v.cells.length = 4) && x.v.cells.all AV.leafOk && wellA 4 (l.map Tk.v)) = true
    rw [wellA_tk l]; rfl

theorem may_nil (h : Bool) (set : List UInt8) (p : Nat) (S : St) (hc : S.cells p = some ((⟨0, 0, 0⟩ : Lx).cs .nils)) :
    CallQ Try.prog (JC h) 23 [.ptr p 0, .str set] S fun r S1 => r = .bool false ∧ S1 = S := by
  have hw := t25 h p ⟨0, 0, 0⟩ .nils S hc
  refine CallQ.of rfl (by kernel_rfl : Try.prog.funcs[23]? = some Try.f23) rfl (by decide) ?_
  conv => whnf
  refine ⟨[0, 1, 2, 3, 4, 5, 6, 7, 8, 9, 10, 11, 12, 13, 14, 15, 16, 17, 18, 19, 20, 21, 22, 23, 24, 25, 26, 27, 28, 29], [], by kernel_rfl, by kernel_rfl, by kernel_rfl, ?_⟩
  conv => whnf
  refine CallQ.mono hw ?_
  rintro r S1 ⟨rfl, rfl⟩
  conv => whnf
  refine ⟨_, hc, ?_⟩
  conv => whnf
  refine ⟨_, hc, ?_⟩
  conv => whnf
  refine br (fun _ => ?_) (fun hh => absurd (by decide) hh)
  conv => whnf
  exact ⟨rfl, rfl⟩
/-- What Lex answers. -/
def LexR (bs : List UInt8) (r : AV) : Prop := if bs.length ≤ 4096 then ∃ v, r = .tuple [v, faultV ((lexS bs).1.w, (lexS bs).1.f)] ∧ ((v = .nils ∧ (lexS bs).2 = []) ∨ v = .lst ((lexS bs).2.map Tk.v) .lost) else r = .tuple [.nils, faultV (8, 0)]
theorem t11 (bs : List UInt8) (hl : bs.length ≤ 2 ^ 47) (v : AV) (hv : Elems v (bs.map u8)) (S : St) :
    CallQ Try.prog (JC false) 11 [v] S fun r S1 => Keep S S1 ∧ LexR bs r := by
  refine CallQ.ofQ rfl (by kernel_rfl : Try.prog.funcs[11]? = some Try.f11) rfl (by decide) ?_
  rcases hv with ⟨rfl, hnil⟩ | ⟨t, rfl⟩
  · obtain rfl : bs = [] := by simpa using hnil
    refine CodeQ.wp ?_
    conv => whnf
    refine br (fun hh => absurd hh (by decide)) (fun _ => ?_)
    conv => whnf
    have hdn : ∀ b, (S.new b).next = S.next + 1 := fun _ => rfl
    rw [hdn]
    generalize hS1 : (S.new _).new _ = S1
    have k1 : Keep S S1 := by rw [← hS1]; exact ((Keep.refl S).new _).new _
    have a1 : S1.cells S.next = some [.int .i64 0, .int .i64 0] := by rw [← hS1]; exact cells_new_ne (cells_new _ _) (by show S.next ≠ S.next + 1; omega)
    have a2 : S1.cells (S.next + 1) = some ((⟨0, 0, 0⟩ : Lx).cs .nils) := by rw [← hS1]; exact cells_new _ _
    clear hS1
    refine CodeQ.round ?_
    conv => whnf
    refine CodeQ.round ?_
    conv => whnf
    refine CallQ.mono (may_nil false gaps (S.next + 1) S1 a2) ?_
    rintro r S2 ⟨rfl, rfl⟩
    conv => whnf
    refine ⟨_, a2, ?_⟩
    conv => whnf
    refine brEq (fun _ => ?_) (fun hh => absurd rfl hh)
    conv => whnf
    refine ⟨[0, 1, 2, 3, 4, 5, 6], [], by kernel_rfl, by kernel_rfl, by kernel_rfl, ?_⟩
    conv => whnf
    refine ⟨_, a2, ?_⟩
    conv => whnf
    refine ⟨_, _, a1, store_agg rfl rfl rfl, ?_⟩
    conv => whnf
    refine ⟨.agg [.int .i64 0, .int .i64 0], by show (St.cells _ S.next).bind _ = _; rw [cells_set]; rfl, ?_⟩
    conv => whnf
    refine ⟨k1.set _ _ (Nat.le_refl _), ?_⟩
    unfold LexR
    rw [if_pos (by decide)]
    exact ⟨.nils, rfl, .inl ⟨rfl, rfl⟩⟩
  have hs0 : lexS bs = lexL bs (bs.length + 1) ⟨0, 0, 0⟩ [] := rfl
  have hR : ∀ r, bs.length ≤ 4096 → (∃ v, r = .tuple [v, faultV ((lexS bs).1.w, (lexS bs).1.f)] ∧ ((v = .nils ∧ (lexS bs).2 = []) ∨ v = .lst ((lexS bs).2.map Tk.v) .lost)) → LexR bs r := fun r a b => by unfold LexR; rw [if_pos a]; exact b
  rw [hs0] at hR
  clear hs0
  refine CodeQ.seq (CodeQ.wp ?_)
  conv => whnf
  refine CodeQ.seq (CodeQ.wp ?_)
  conv => whnf
  refine br (fun hbig => ?_) (fun hbig => ?_)
  · have hbig : ¬ bs.length ≤ 4096 := by simp at hbig; omega
    conv => whnf
    refine ⟨_, _, cells_new _ _, store_agg rfl rfl rfl, ?_⟩
    conv => whnf
    refine ⟨.agg [.int .i64 8, .int .i64 0], by show (St.cells _ S.next).bind _ = _; rw [cells_set]; rfl, ?_⟩
    conv => whnf
    refine ⟨((Keep.refl S).new _).set _ _ (Nat.le_refl _), ?_⟩
    unfold LexR
    rw [if_neg hbig]; rfl
  have hbig : bs.length ≤ 4096 := by simp at hbig; omega
  have hR := fun r => hR r hbig
  conv => whnf
  refine CodeQ.seq (CodeQ.wp ?_)
  conv => whnf
  have hdn : ∀ b, (S.new b).next = S.next + 1 := fun _ => rfl
  rw [hdn]
  generalize hS1 : (S.new _).new _ = S1
  have k1 : Low S.next S S1 := by rw [← hS1]; exact ((Low.refl _ S).new (Nat.le_refl _) _).new (by show S.next ≤ S.next + 1; omega) _
  have n1 : S1.next = S.next + 2 := by rw [← hS1]; rfl
  have a1 : S1.cells S.next = some [.int .i64 0, .int .i64 0] := by rw [← hS1]; exact cells_new_ne (cells_new _ _) (by show S.next ≠ S.next + 1; omega)
  have a2 : S1.cells (S.next + 1) = some ((⟨0, 0, 0⟩ : Lx).cs (.lst (bs.map u8) t)) := by rw [← hS1]; exact cells_new _ _
  clear hS1
  refine CodeQ.wp ?_
  conv => whnf
  have may := fun set x S' hc => t23 false set (S.next + 1) x bs t (by omega) S' hc
  generalize hL0 : lexL bs (bs.length + 1) ⟨0, 0, 0⟩ [] = L0 at hR
  refine CodeQ.loop (fun (q : Lx × AV) => pat 42 [(0, .lst (bs.map u8) t), (3, .ptr S.next 0), (4, .ptr (S.next + 1) 0), (5, q.2)])
    (fun m q S2 => Low S.next S S2 ∧ S.next + 2 ≤ S2.next ∧ S2.cells S.next = some [.int .i64 0, .int .i64 0] ∧ S2.cells (S.next + 1) = some (q.1.cs (.lst (bs.map u8) t)) ∧ q.1.well = true ∧ q.1.at_ ≤ bs.length ∧ bs.length - q.1.at_ + 1 ≤ m ∧ ∃ l, OwnB 33 (S.next + 2) S2 q.2 (l.map Tk.v) ∧ l.length ≤ q.1.at_ ∧ L0 = lexL bs m q.1 l) ?_ (bs.length + 1) (⟨0, 0, 0⟩, .nils) _ _
    ⟨k1, by omega, a1, a2, rfl, by simp, by simp, [], OwnB.nil _ _ _, by simp, hL0.symm⟩ ⟨rfl, rfl, rfl, rfl, trivial⟩
  clear k1 n1 a1 a2 S1 hL0
  rintro m ⟨x, v⟩ S2 d ⟨k2, n2, a2, c2, hw, hat, hm, l, hv, hll, hlx⟩
  dsimp only at *
  rw [hlx] at hR
  obtain ⟨m, rfl⟩ : ∃ k, m = k + 1 := ⟨m - 1, by omega⟩
  rw [lexL_step] at hR hlx
  have hmw := many_well (bs := bs) (set := gaps) (x := x)
  have hml := many_le (set := gaps) hat
  have hmg := many_ge (bs := bs) (set := gaps) (x := x)
  rw [hw] at hmw
  conv => whnf
  refine CodeQ.loop (fun (yy : Lx) => pat 42 [(0, .lst (bs.map u8) t), (3, .ptr S.next 0), (4, .ptr (S.next + 1) 0), (5, v)])
    (fun m9 yy S3 => S3.cells (S.next + 1) = some (yy.cs (.lst (bs.map u8) t)) ∧ B1 (S.next + 1) S2 S3 ∧ m9 = bs.length - yy.at_ ∧ manyS bs gaps x = manyS bs gaps yy) ?_ _ x _ _ ⟨c2, .refl _ _, rfl, rfl⟩ ⟨rfl, rfl, rfl, rfl, trivial⟩
  rintro m9 yy S3 d2 ⟨j1, j2, j3, j4⟩
  rw [j4] at hR hlx hmw hml hmg
  conv => whnf
  refine CallQ.mono (may gaps yy S3 j1) ?_
  rintro r S4 ⟨rfl, i1, i2⟩
  have i3 := j2.trans i2
  cases hm9 : mayB bs gaps yy
  rotate_left
  · rw [may_up hm9] at i1
    rw [many_up hm9] at hR hlx hmw hml hmg
    have := may_lt hm9
    conv => whnf
    exact ⟨_, yy.up, (by show bs.length - (yy.at_ + 1) < m9; omega), ⟨i1, i3, rfl, j4.trans (many_up hm9)⟩, ⟨rfl, rfl, rfl, rfl, trivial⟩⟩
  clear j4
  rw [may_no hm9] at i1
  rw [many_no hm9] at hR hlx hmw hml hmg
  have n4 : S.next + 2 ≤ S4.next := by have := i3.next; omega
  have k4 : Low S.next S S4 := k2.trans ⟨i3.next, fun j hj => i3.mem j (by omega) (by omega)⟩
  have a4 : S4.cells S.next = some [.int .i64 0, .int .i64 0] := by rw [i3.cells (by omega) (by omega)]; exact a2
  have v4 : OwnB 33 (S.next + 2) S4 v (l.map Tk.v) := hv.mono i3.next fun n h1 h2 _ => i3.mem n h2 (by omega)
  clear i2 i3 j1 j2 hv a2 k2 c2 n2
  conv => whnf
  refine ⟨_, i1, ?_⟩
  conv => whnf
  refine brEq (fun he => ?_) (fun he => ?_)
  · have he : yy.at_ = bs.length := by simp at he; omega
    simp only [if_pos he] at hR
    conv => whnf
    refine ⟨[0, 1, 2, 3, 4, 5, 6], [], by kernel_rfl, by kernel_rfl, by kernel_rfl, ?_⟩
    conv => whnf
    refine ⟨_, i1, ?_⟩
    conv => whnf
    refine ⟨_, _, a4, store_agg rfl rfl rfl, ?_⟩
    conv => whnf
    refine ⟨.agg [.int .i64 yy.w, .int .i64 yy.f], by show (St.cells _ S.next).bind _ = _; rw [cells_set]; rfl, ?_⟩
    rcases v4 with ⟨rfl, hl0⟩ | ⟨n, _, _, rfl, _⟩
    · conv => whnf
      refine ⟨(k4.set _ _ (Nat.le_refl _)).keep, ?_⟩
      exact hR _ ⟨.nils, rfl, .inl ⟨rfl, List.map_eq_nil_iff.1 hl0⟩⟩
    · conv => whnf
      refine ⟨(k4.set _ _ (Nat.le_refl _)).keep, ?_⟩
      exact hR _ ⟨_, rfl, .inr rfl⟩
  have he : yy.at_ ≠ bs.length := fun q => he (by simp [q])
  simp only [if_neg he] at hR hlx
  conv => whnf
  refine CallQ.mono (t24 false (S.next + 1) yy bs t (by omega) hml S4 (by omega) i1) ?_
  rintro r S5 ⟨rfl, c5, b5, l5⟩
  have n5 : S.next + 2 ≤ S5.next := by have := b5.next; omega
  have k5 : Low S.next S S5 := k4.trans ⟨b5.next, fun j hj => b5.mem j (by omega) (by omega)⟩
  have a5 : S5.cells S.next = some [.int .i64 0, .int .i64 0] := by rw [b5.cells (by omega) (by omega)]; exact a4
  have v5 : OwnB 33 (S.next + 2) S5 v (l.map Tk.v) := v4.mono b5.next fun n h1 h2 _ => b5.mem n h2 (by omega)
  have hgt := @tok_gt bs yy
  generalize hz : tokS bs yy = z at *
  clear b5 k4 a4 v4 i1 n4 S4
  conv => whnf
  refine ⟨_, _, cells_new _ _, store_agg rfl rfl rfl, ?_⟩
  conv => whnf
  refine CallQ.mono (t25 false (S.next + 1) z.1 (.lst (bs.map u8) t) _ (cells_set_ne (cells_new_ne c5 (by omega)) (by omega))) ?_
  rintro r S6 ⟨hS6, rfl⟩
  conv => whnf
  have n6 : S6.next = S5.next + 1 := by rw [hS6]; rfl
  have k6 : Low S5.next S5 S6 := by rw [hS6]; exact ((Low.refl _ S5).new (Nat.le_refl _) _).set _ _ (Nat.le_refl _)
  have e6 : S6.cells S5.next = some (tokC z.2.1 yy.at_ z.1.at_ z.2.2) := by rw [hS6, cells_set]
  have m6 : S6.mem S5.next = some (.cells (tokC z.2.1 yy.at_ z.1.at_ z.2.2)) := by rw [hS6]; exact mem_set _ _ _
  clear hS6
  have c6 : S6.cells (S.next + 1) = some (z.1.cs (.lst (bs.map u8) t)) := by rw [k6.cells (by omega)]; exact c5
  have a6 : S6.cells S.next = some [.int .i64 0, .int .i64 0] := by rw [k6.cells (by omega)]; exact a5
  have v6 : OwnB 33 (S.next + 2) S6 v (l.map Tk.v) := v5.mono (by omega) fun n _ hn _ => k6.2 n hn
  have k6' : Low S.next S S6 := k5.trans (k6.less (by omega))
  cases hz1 : z.1.well
  · simp only [if_pos hz1] at hR
    conv => whnf
    refine ⟨[0, 1, 2, 3, 4, 5, 6], [], by kernel_rfl, by kernel_rfl, by kernel_rfl, ?_⟩
    conv => whnf
    refine ⟨_, c6, ?_⟩
    conv => whnf
    refine ⟨_, _, a6, store_agg rfl rfl rfl, ?_⟩
    conv => whnf
    refine ⟨.agg [.int .i64 z.1.w, .int .i64 z.1.f], by show (St.cells _ S.next).bind _ = _; rw [cells_set]; rfl, ?_⟩
    rcases v6 with ⟨rfl, hl0⟩ | ⟨n, _, _, rfl, _⟩
    · conv => whnf
      refine ⟨(k6'.set _ _ (Nat.le_refl _)).keep, ?_⟩
      exact hR _ ⟨.nils, rfl, .inl ⟨rfl, List.map_eq_nil_iff.1 hl0⟩⟩
    · conv => whnf
      refine ⟨(k6'.set _ _ (Nat.le_refl _)).keep, ?_⟩
      exact hR _ ⟨_, rfl, .inr rfl⟩
  simp only [if_neg (show ¬ z.1.well = false by rw [hz1]; decide)] at hR hlx
  have hgt := hgt hz1
  conv => whnf
  refine ⟨_, e6, ?_⟩
  conv => whnf
  obtain ⟨r, S7, h1, h2, h3, h4, h5⟩ := OwnB.append (C := JC false) (f := 11) elT rfl v6 (by omega) (show elemsA S6 true 4 (.lst [Tk.v ⟨z.2.1, yy.at_, z.1.at_, z.2.2⟩] .full) = some ([(⟨z.2.1, yy.at_, z.1.at_, z.2.2⟩ : Tk)].map Tk.v) from rfl) (shed_tk _) (wellA_tk _) (wellA_tk _) (by simp; omega)
  refine ⟨r, S7, h1, ?_⟩
  obtain ⟨tg, rfl⟩ := h5 (by simp)
  conv => whnf
  refine ⟨m, (z.1, _), by omega, ⟨k6'.trans (h3.less (by omega)), by have := h3.1; omega, by rw [h3.cells (by omega)]; exact a6, by rw [h3.cells (by omega)]; exact c6, hz1, l5, by dsimp only; omega, l ++ [⟨z.2.1, yy.at_, z.1.at_, z.2.2⟩], by rw [List.map_append]; exact h2, by simp; omega, hlx⟩, ⟨rfl, rfl, rfl, rfl, trivial⟩⟩
end Go.Proofs.Ytfphpjinimfhfaa
