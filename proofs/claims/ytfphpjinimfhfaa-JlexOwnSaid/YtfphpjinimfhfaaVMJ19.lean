import Derived.Test.YtfphpjinimfhfaaVMJ18
namespace Go.Proofs.Ytfphpjinimfhfaa
open Go.Proofs.Ytfphpjinimfhfaa.VM Go.RowKit
set_option maxRecDepth 100000
set_option linter.unusedVariables false
set_option maxHeartbeats 8000000
def signs : List UInt8 := [123, 125, 91, 93, 58, 44]
def wtrue : List UInt8 := [116, 114, 117, 101]
def wfalse : List UInt8 := [102, 97, 108, 115, 101]
def wnull : List UInt8 := [110, 117, 108, 108]
def wordS (bs w : List UInt8) (x : Lx) : Lx := w.foldl (fun y ch => mustS bs [ch] y) x
/-- A token: the lexer behind it, its kind, its text. -/
def tokS (bs : List UInt8) (x : Lx) : Lx × Int × List UInt8 :=
  if mayB bs signs x = true then (x.up, Lib.indexByte signs (bs.getD x.at_ 0) + 1, [])
  else if bs.getD x.at_ 0 = 34 then ((textS bs x).1, 7, if (textS bs x).1.well = true then (textS bs x).2 else [])
  else if bs.getD x.at_ 0 = 45 ∨ 0 ≤ Lib.indexByte digs (bs.getD x.at_ 0) then (if (numS bs x).well = true then (numS bs x, 8, (bs.take (numS bs x).at_).drop x.at_) else (numS bs x, 0, []))
  else if bs.getD x.at_ 0 = 116 then (wordS bs wtrue x, 9, [])
  else if bs.getD x.at_ 0 = 102 then (wordS bs wfalse x, 10, [])
  else if bs.getD x.at_ 0 = 110 then (wordS bs wnull x, 11, [])
  else (wrongS bs.length x, 0, [])
theorem may_ge {bs set : List UInt8} {x : Lx} : x.at_ ≤ (mayS bs set x).at_ := by
  unfold mayS
  split
  · exact Nat.le_succ _
  · exact Nat.le_refl _
theorem skip_ge {bs set : List UInt8} : ∀ (n : Nat) {x : Lx}, x.at_ ≤ (skipS bs set n x).at_
  | 0, x => Nat.le_refl _
  | n + 1, x => by
    unfold skipS
    split
    · exact Nat.le_trans (Nat.le_succ _) (skip_ge n (x := x.up))
    · exact Nat.le_refl _
theorem many_ge {bs set : List UInt8} {x : Lx} : x.at_ ≤ (manyS bs set x).at_ := skip_ge _
theorem num1_ge {bs : List UInt8} {x : Lx} : x.at_ ≤ (num1 bs x).at_ := by
  unfold num1
  have h1 := @may_ge bs [45] x
  dsimp only
  split
  · exact Nat.le_trans h1 may_ge
  · split
    · exact Nat.le_trans (Nat.le_trans h1 must_ge) many_ge
    · exact Nat.le_trans h1 must_ge
theorem num2_ge {bs : List UInt8} {x : Lx} : x.at_ ≤ (num2 bs x).at_ := by
  unfold num2
  split
  · exact Nat.le_trans (Nat.le_trans may_ge must_ge) many_ge
  · exact Nat.le_refl _
theorem num3_ge {bs : List UInt8} {x : Lx} : x.at_ ≤ (num3 bs x).at_ := by
  unfold num3
  split
  · exact Nat.le_trans (Nat.le_trans (Nat.le_trans may_ge may_ge) must_ge) many_ge
  · exact Nat.le_refl _
theorem num_ge {bs : List UInt8} {x : Lx} : x.at_ ≤ (numS bs x).at_ := Nat.le_trans (Nat.le_trans num1_ge num2_ge) num3_ge
theorem num1_le {bs : List UInt8} {x : Lx} (h : x.at_ ≤ bs.length) : (num1 bs x).at_ ≤ bs.length := by
  unfold num1
  have h1 := may_le (set := [45]) h
  dsimp only
  split
  · exact may_le h1
  · split
    · exact many_le (must_le h1)
    · exact must_le h1
theorem num2_le {bs : List UInt8} {x : Lx} (h : x.at_ ≤ bs.length) : (num2 bs x).at_ ≤ bs.length := by
  unfold num2
  split
  · exact many_le (must_le (may_le h))
  · exact h
theorem num3_le {bs : List UInt8} {x : Lx} (h : x.at_ ≤ bs.length) : (num3 bs x).at_ ≤ bs.length := by
  unfold num3
  split
  · exact many_le (must_le (may_le (may_le h)))
  · exact h
theorem num_le {bs : List UInt8} {x : Lx} (h : x.at_ ≤ bs.length) : (numS bs x).at_ ≤ bs.length := num3_le (num2_le (num1_le h))
def tokC (k : Int) (fr to : Nat) (s : List UInt8) : List AV := [.int .i64 k, .int .i64 fr, .int .i64 to, .str s]
theorem t36 (h : Bool) (S : St) : CallQ Try.prog (JC h) 36 [] S fun r S1 => S1 = S ∧ r = .lst [.str wtrue, .str wfalse, .str wnull] .lost := by
  refine CallQ.of rfl (by kernel_rfl : Try.prog.funcs[36]? = some Try.f36) rfl (by decide) ?_
  conv => whnf
  exact ⟨rfl, rfl⟩

theorem t24 (h : Bool) (p : Nat) (x : Lx) (bs : List UInt8) (t : Tip) (hl : bs.length ≤ 2 ^ 40) (hat : x.at_ ≤ bs.length) (S : St) (hp : p < S.next) (hc : S.cells p = some (x.cs (.lst (bs.map u8) t))) :
    CallQ Try.prog (JC h) 24 [.ptr p 0] S fun r S1 => r = .agg (tokC (tokS bs x).2.1 x.at_ (tokS bs x).1.at_ (tokS bs x).2.2) ∧ S1.cells p = some ((tokS bs x).1.cs (.lst (bs.map u8) t)) ∧ B1 p S S1 ∧ (tokS bs x).1.at_ ≤ bs.length := by
  have well := fun x S hc => t25 h p x (.lst (bs.map u8) t) S hc
  have wrong := fun x S hat hc => t38 h p x bs t hat S hc
  have may := fun set x S hc => t23 h set p x bs t (by omega) S hc
  have must := fun set x S hp hat hc => t37 h set p x bs t (by omega) hat S hp hc
  have peek := fun x S hc => t34 h p x bs t S hc
  have text := fun x S hp hat hc => t29 h p x bs t hl hat S hp hc
  have number := fun x S hp hat hc => t35 h p x bs t (by omega) hat S hp hc
  refine CallQ.ofQ rfl (by kernel_rfl : Try.prog.funcs[24]? = some Try.f24) rfl (by decide) ?_
  refine CodeQ.seq (CodeQ.wp ?_)
  conv => whnf
  refine CodeQ.seq (CodeQ.wp ?_)
  conv => whnf
  refine ⟨_, cells_new_ne hc (by omega), ?_⟩
  conv => whnf
  refine ⟨_, _, cells_new _ _, store_agg rfl rfl rfl, ?_⟩
  have hdn : ∀ b, (S.new b).next = S.next + 1 := fun _ => rfl
  rw [hdn]
  obtain ⟨S1, hS1⟩ : ∃ S1, S1 = ((S.new (.cells [.int .i64 0, .int .i64 0, .int .i64 0, .str []])).new (.cells [.int .i64 0, .int .i64 0, .int .i64 0, .str []])).set (S.next + 1) (some (.cells [.int .i64 0, .int .i64 x.at_, .int .i64 0, .str []])) := ⟨_, rfl⟩
  have c1 : S1.cells p = some (x.cs (.lst (bs.map u8) t)) := by rw [hS1]; exact cells_set_ne (cells_new_ne (cells_new_ne hc (by omega)) (by show p ≠ S.next + 1; omega)) (by omega)
  have b1 : B1 p S S1 := by rw [hS1]; exact (((B1.refl p S).new _).new _).setN _ _ (by omega)
  have n1 : S.next + 2 ≤ S1.next := by rw [hS1]; exact Nat.le_refl _
  have g0 : S1.cells S.next = some [.int .i64 0, .int .i64 0, .int .i64 0, .str []] := by rw [hS1]; exact cells_set_ne (cells_new_ne (cells_new _ _) (by show S.next ≠ S.next + 1; omega)) (by omega)
  have g1 : S1.cells (S.next + 1) = some [.int .i64 0, .int .i64 x.at_, .int .i64 0, .str []] := by rw [hS1]; exact cells_set _ _ _
  conv => whnf
  refine CodeQ.seq (CodeQ.wp ?_)
  conv => whnf
  refine CallQ.mono (peek x _ (by rw [hS1] at c1; exact c1)) ?_
  rintro r S1' ⟨he, rfl⟩
  obtain rfl : S1' = S1 := he.trans hS1.symm
  clear hS1 he
  conv => whnf
  refine CodeQ.cut (fun (u : Unit) => pat 94 [(0, .ptr p 0), (2, .ptr S.next 0), (3, .ptr (S.next + 1) 0)])
    (fun _ S2 => B1 p S S2 ∧ S.next + 2 ≤ S2.next ∧ S2.cells S.next = some [.int .i64 0, .int .i64 0, .int .i64 0, .str []] ∧ S2.cells p = some ((tokS bs x).1.cs (.lst (bs.map u8) t)) ∧ S2.cells (S.next + 1) = some (tokC (tokS bs x).2.1 x.at_ 0 (tokS bs x).2.2) ∧ (tokS bs x).1.at_ ≤ bs.length) (CodeQ.wp ?_) ?_
  rotate_left
  · generalize tokS bs x = tk
    obtain ⟨y, k, s⟩ := tk
    clear c1 b1 n1 g0 g1
    rintro ⟨⟩ d S2 ⟨b2, n2, g0, c2, g1, l2⟩
    refine CodeQ.wp ?_
    conv => whnf
    refine ⟨_, c2, ?_⟩
    conv => whnf
    refine ⟨_, _, g1, if_pos ⟨rfl, rfl, Nat.le_of_ble_eq_true rfl⟩, ?_⟩
    conv => whnf
    refine ⟨_, cells_set _ _ _, ?_⟩
    conv => whnf
    refine ⟨_, _, cells_set_ne g0 (by omega), store_agg rfl rfl rfl, ?_⟩
    conv => whnf
    refine ⟨.agg (tokC k x.at_ y.at_ s), by show (St.cells _ S.next).bind _ = _; rw [cells_set]; rfl, ?_⟩
    conv => whnf
    exact ⟨rfl, cells_set_ne (cells_set_ne c2 (by omega)) (by omega), (b2.setN _ _ (by omega)).setN _ _ (Nat.le_refl _), l2⟩
  have hc34 : ∀ c : UInt8, ((c.toNat : Nat) : Int) = 34 → c = 34 := fun c hc => UInt8.toNat_inj.1 (by show c.toNat = 34; omega)
  have hc45 : ∀ c : UInt8, ((c.toNat : Nat) : Int) = 45 → c = 45 := fun c hc => UInt8.toNat_inj.1 (by show c.toNat = 45; omega)
  have e0 : tokS bs x = if mayB bs signs x = true then (x.up, Lib.indexByte signs (bs.getD x.at_ 0) + 1, [])
    else if bs.getD x.at_ 0 = 34 then ((textS bs x).1, 7, if (textS bs x).1.well = true then (textS bs x).2 else [])
    else if bs.getD x.at_ 0 = 45 ∨ 0 ≤ Lib.indexByte digs (bs.getD x.at_ 0) then (if (numS bs x).well = true then (numS bs x, 8, (bs.take (numS bs x).at_).drop x.at_) else (numS bs x, 0, []))
    else if bs.getD x.at_ 0 = 116 then (wordS bs wtrue x, 9, [])
    else if bs.getD x.at_ 0 = 102 then (wordS bs wfalse x, 10, [])
    else if bs.getD x.at_ 0 = 110 then (wordS bs wnull x, 11, [])
    else (wrongS bs.length x, 0, []) := rfl
  obtain ⟨c, hcc⟩ : ∃ c, c = bs.getD x.at_ 0 := ⟨_, rfl⟩
  rw [← hcc] at e0 ⊢
  conv => whnf
  refine CallQ.mono (may signs x S1' c1) ?_
  rintro r S2 ⟨rfl, c2, b2⟩
  have n2 := b2.next
  have b2' := b1.trans b2
  have g02 : S2.cells S.next = some [.int .i64 0, .int .i64 0, .int .i64 0, .str []] := by rw [b2.cells (by omega) (by omega)]; exact g0
  have g12 : S2.cells (S.next + 1) = some [.int .i64 0, .int .i64 x.at_, .int .i64 0, .str []] := by rw [b2.cells (by omega) (by omega)]; exact g1
  have n2' : S.next + 2 ≤ S2.next := by omega
  cases hm : mayB bs signs x
  rotate_left
  · rw [hm, if_pos rfl] at e0
    rw [may_up hm] at c2
    have hlt := may_lt hm
    conv => whnf
    refine CallQ.intr (g := idxByteG) rfl rfl ?_
    rw [toU8]
    conv => whnf
    refine ⟨_, _, g12, if_pos ⟨rfl, rfl, Nat.le_of_ble_eq_true rfl⟩, ?_⟩
    conv => whnf
    refine ⟨(), ⟨b2'.setN _ _ (by omega), n2', cells_set_ne g02 (by omega), ?_, ?_, ?_⟩, ⟨rfl, rfl, rfl, trivial⟩⟩
    · rw [e0]; exact cells_set_ne c2 (by omega)
    · rw [e0, cells_set]
      show some [AV.int .i64 (IntKind.i64.wrap (Lib.indexByte signs c + 1)), _, _, _] = _
      have hix : Lib.indexByte signs c < 6 ∧ -1 ≤ Lib.indexByte signs c := all_u8' (p := fun c => Lib.indexByte signs c < 6 ∧ -1 ≤ Lib.indexByte signs c) (by decide +kernel) c
      rw [wrap_i64 (by omega) (by omega)]
      rfl
    · rw [e0]; exact hlt
  rw [hm, if_neg (by simp)] at e0
  rw [may_no hm] at c2
  clear c1 b1 n1 g0 g1 b2 n2 hm
  conv => whnf
  refine brEq (fun h34 => ?_) (fun h34 => ?_)
  · rw [if_pos (hc34 c h34)] at e0
    conv => whnf
    refine CallQ.mono (text x S2 (by omega) hat c2) ?_
    rintro r S3 ⟨rfl, c3, b3, l3⟩
    have n3 := b3.next
    conv => whnf
    refine ⟨_, _, (by rw [b3.cells (by omega) (by omega)]; exact g12), if_pos ⟨rfl, rfl, Nat.le_of_ble_eq_true rfl⟩, ?_⟩
    conv => whnf
    refine ⟨_, _, cells_set _ _ _, if_pos ⟨rfl, rfl, Nat.le_of_ble_eq_true rfl⟩, ?_⟩
    conv => whnf
    refine ⟨(), ⟨((b2'.trans b3).setN _ _ (by omega)).setN _ _ (by omega), by show _ ≤ S3.next; omega, cells_set_ne (cells_set_ne (by rw [b3.cells (by omega) (by omega)]; exact g02) (by omega)) (by omega), ?_, ?_, ?_⟩, ⟨rfl, rfl, rfl, trivial⟩⟩
    · rw [e0]; exact cells_set_ne (cells_set_ne c3 (by omega)) (by omega)
    · rw [e0, cells_set]; rfl
    · rw [e0]; exact l3
  have h34' : ¬ c = 34 := fun e => h34 (by rw [e]; rfl)
  rw [if_neg h34'] at e0
  have num : ∀ {K : AV → St → Prop}, (∀ S3, S3.cells p = some ((numS bs x).cs (.lst (bs.map u8) t)) → B1 p S S3 → S.next + 2 ≤ S3.next → S3.cells S.next = some [.int .i64 0, .int .i64 0, .int .i64 0, .str []] → S3.cells (S.next + 1) = some [.int .i64 0, .int .i64 x.at_, .int .i64 0, .str []] → K (.tuple []) S3) → True := fun _ => trivial
  conv => whnf
  refine brEq (fun h45 => ?_) (fun h45 => ?_)
  · rw [if_pos (.inl (hc45 c h45))] at e0
    conv => whnf
    refine CallQ.mono (number x S2 (by omega) hat c2) ?_
    rintro r S3 ⟨c3, b3⟩
    have n3 := b3.next
    have g03 : S3.cells S.next = some [.int .i64 0, .int .i64 0, .int .i64 0, .str []] := by rw [b3.cells (by omega) (by omega)]; exact g02
    have g13 : S3.cells (S.next + 1) = some [.int .i64 0, .int .i64 x.at_, .int .i64 0, .str []] := by rw [b3.cells (by omega) (by omega)]; exact g12
    have nle := num_le (bs := bs) (x := x) hat
    have nge := @num_ge bs x
    have wl := well (numS bs x) S3 c3
    generalize numS bs x = y at *
    conv => whnf
    refine CallQ.mono wl ?_
    rintro r S4 ⟨rfl, rfl⟩
    cases hy : y.well
    · rw [hy, if_neg (by simp)] at e0
      conv => whnf
      refine ⟨(), ⟨b2'.trans b3, by omega, g03, ?_, ?_, ?_⟩, ⟨rfl, rfl, rfl, trivial⟩⟩
      · rw [e0]; exact c3
      · rw [e0]; exact g13
      · rw [e0]; exact nle
    · rw [hy, if_pos rfl] at e0
      conv => whnf
      refine ⟨[0, 1, 2, 3, 4, 5, 6, 7, 8, 9, 10, 11, 12, 13, 14, 15], [(13, [3, 9, 11])], by kernel_rfl, by kernel_rfl, by kernel_rfl, ?_⟩
      conv => whnf
      refine ⟨_, c3, ?_⟩
      conv => whnf
      refine ⟨_, g13, ?_⟩
      conv => whnf
      refine ⟨_, c3, ?_⟩
      conv => whnf
      obtain ⟨t3, ht3⟩ := cut_fromto bs t x.at_ y.at_ nge nle _ rfl
      refine ⟨_, ht3, ?_⟩
      conv => whnf
      refine ⟨_, conv_str _ _ _, ?_⟩
      conv => whnf
      refine ⟨_, _, g13, if_pos ⟨rfl, rfl, Nat.le_of_ble_eq_true rfl⟩, ?_⟩
      conv => whnf
      refine ⟨stab_load rfl rfl rfl rfl rfl (by show (St.cells _ p).bind _ = _; rw [cells_set_ne c3 (by omega)]; rfl), ?_⟩
      conv => whnf
      refine ⟨stab_load rfl rfl rfl rfl rfl (by show (St.cells _ p).bind _ = _; rw [cells_set_ne c3 (by omega)]; rfl), ?_⟩
      conv => whnf
      refine ⟨⟨_, rfl, .inr ⟨_, _, _, rfl, rfl, rfl, (by
        show ((convertA Try.prog _ 25 9 (.lst (((bs.take y.at_).drop x.at_).map u8) t3)).bind fun v => retA (v, _)) = _
        rw [conv_str]; rfl)⟩⟩, ?_⟩
      conv => whnf
      refine ⟨_, _, cells_set _ _ _, if_pos ⟨rfl, rfl, Nat.le_of_ble_eq_true rfl⟩, ?_⟩
      conv => whnf
      refine ⟨(), ⟨((b2'.trans b3).setN _ _ (by omega)).setN _ _ (by omega), by show _ ≤ S4.next; omega, cells_set_ne (cells_set_ne g03 (by omega)) (by omega), ?_, ?_, ?_⟩, ⟨rfl, rfl, rfl, trivial⟩⟩
      · rw [e0]; exact cells_set_ne (cells_set_ne c3 (by omega)) (by omega)
      · rw [e0, cells_set]; rfl
      · rw [e0]; exact nle
  have h45' : ¬ c = 45 := fun e => h45 (by rw [e]; rfl)
  conv => whnf
  refine CallQ.intr (g := idxByteG) rfl rfl ?_
  rw [toU8]
  have hD : Lib.indexByte [48, 49, 50, 51, 52, 53, 54, 55, 56, 57] c = Lib.indexByte digs c := rfl
  rw [hD]
  conv => whnf
  refine br (fun hdg => ?_) (fun hdg => ?_)
  · rw [if_pos (.inr hdg)] at e0
    conv => whnf
    refine CallQ.mono (number x S2 (by omega) hat c2) ?_
    rintro r S3 ⟨c3, b3⟩
    have n3 := b3.next
    have g03 : S3.cells S.next = some [.int .i64 0, .int .i64 0, .int .i64 0, .str []] := by rw [b3.cells (by omega) (by omega)]; exact g02
    have g13 : S3.cells (S.next + 1) = some [.int .i64 0, .int .i64 x.at_, .int .i64 0, .str []] := by rw [b3.cells (by omega) (by omega)]; exact g12
    have nle := num_le (bs := bs) (x := x) hat
    have nge := @num_ge bs x
    have wl := well (numS bs x) S3 c3
    generalize numS bs x = y at *
    conv => whnf
    refine CallQ.mono wl ?_
    rintro r S4 ⟨rfl, rfl⟩
    cases hy : y.well
    · rw [hy, if_neg (by simp)] at e0
      conv => whnf
      refine ⟨(), ⟨b2'.trans b3, by omega, g03, ?_, ?_, ?_⟩, ⟨rfl, rfl, rfl, trivial⟩⟩
      · rw [e0]; exact c3
      · rw [e0]; exact g13
      · rw [e0]; exact nle
    · rw [hy, if_pos rfl] at e0
      conv => whnf
      refine ⟨[0, 1, 2, 3, 4, 5, 6, 7, 8, 9, 10, 11, 12, 13, 14, 15], [(13, [3, 9, 11])], by kernel_rfl, by kernel_rfl, by kernel_rfl, ?_⟩
      conv => whnf
      refine ⟨_, c3, ?_⟩
      conv => whnf
      refine ⟨_, g13, ?_⟩
      conv => whnf
      refine ⟨_, c3, ?_⟩
      conv => whnf
      obtain ⟨t3, ht3⟩ := cut_fromto bs t x.at_ y.at_ nge nle _ rfl
      refine ⟨_, ht3, ?_⟩
      conv => whnf
      refine ⟨_, conv_str _ _ _, ?_⟩
      conv => whnf
      refine ⟨_, _, g13, if_pos ⟨rfl, rfl, Nat.le_of_ble_eq_true rfl⟩, ?_⟩
      conv => whnf
      refine ⟨stab_load rfl rfl rfl rfl rfl (by show (St.cells _ p).bind _ = _; rw [cells_set_ne c3 (by omega)]; rfl), ?_⟩
      conv => whnf
      refine ⟨stab_load rfl rfl rfl rfl rfl (by show (St.cells _ p).bind _ = _; rw [cells_set_ne c3 (by omega)]; rfl), ?_⟩
      conv => whnf
      refine ⟨⟨_, rfl, .inr ⟨_, _, _, rfl, rfl, rfl, (by
        show ((convertA Try.prog _ 25 9 (.lst (((bs.take y.at_).drop x.at_).map u8) t3)).bind fun v => retA (v, _)) = _
        rw [conv_str]; rfl)⟩⟩, ?_⟩
      conv => whnf
      refine ⟨_, _, cells_set _ _ _, if_pos ⟨rfl, rfl, Nat.le_of_ble_eq_true rfl⟩, ?_⟩
      conv => whnf
      refine ⟨(), ⟨((b2'.trans b3).setN _ _ (by omega)).setN _ _ (by omega), by show _ ≤ S4.next; omega, cells_set_ne (cells_set_ne g03 (by omega)) (by omega), ?_, ?_, ?_⟩, ⟨rfl, rfl, rfl, trivial⟩⟩
      · rw [e0]; exact cells_set_ne (cells_set_ne c3 (by omega)) (by omega)
      · rw [e0, cells_set]; rfl
      · rw [e0]; exact nle
  rw [if_neg (by rintro (h | h); exact h45' h; exact hdg h)] at e0
  have c1 := c2
  have b1 := b2'
  have n1 := n2'
  have g0 := g02
  have g1 := g12
  clear c2 b2' n2' g02 g12 hcc
  conv => whnf
  refine CallQ.mono (t36 h S2) ?_
  rintro r S1 ⟨rfl, rfl⟩
  by_cases d0 : c = 116
  · rw [if_pos d0] at e0
    have hw := e0
    subst d0
    conv => whnf
    refine CodeQ.round ?_
    conv => whnf
    refine br (fun _ => ?_) (fun hh => absurd (by decide) hh)
    conv => whnf
    refine ⟨by decide, _, rfl, rfl, ?_⟩
    conv => whnf
    refine ⟨by decide, _, rfl, ?_⟩
    conv => whnf
    refine brNe (fun hh => absurd rfl hh) (fun _ => ?_)
    conv => whnf
    refine ⟨_, _, g1, if_pos ⟨rfl, rfl, Nat.le_of_ble_eq_true rfl⟩, ?_⟩
    obtain ⟨T0, hT0⟩ : ∃ T0, T0 = S1.set (S.next + 1) (some (.cells [.int .i64 9, .int .i64 x.at_, .int .i64 0, .str []])) := ⟨_, rfl⟩
    have w0 : T0.cells p = some (x.cs (.lst (bs.map u8) t)) := by rw [hT0]; exact cells_set_ne c1 (by omega)
    have v0 : B1 p S T0 := by rw [hT0]; exact b1.setN _ _ (by omega)
    have m0 : S.next + 2 ≤ T0.next := by rw [hT0]; exact n1
    have f0 : T0.cells S.next = some [.int .i64 0, .int .i64 0, .int .i64 0, .str []] := by rw [hT0]; exact cells_set_ne g0 (by omega)
    have h0 : T0.cells (S.next + 1) = some [.int .i64 9, .int .i64 x.at_, .int .i64 0, .str []] := by rw [hT0]; exact cells_set _ _ _
    have l0 : x.at_ ≤ bs.length := hat
    obtain ⟨z0, hz0⟩ : ∃ z0, z0 = x := ⟨_, rfl⟩
    rw [← hz0] at w0 l0
    change _
    conv => whnf
    refine CodeQ.round ?_
    conv => whnf
    refine br (fun _ => ?_) (fun hh => absurd (by decide) hh)
    conv => whnf
    refine ⟨_, rfl, ?_⟩
    conv => whnf
    have hTe : S1.set (S.next + 1) (some (.cells [.int .i64 9, .int .i64 x.at_, .int .i64 0, .str []])) = T0 := hT0.symm
    refine CallQ.mono (must [116] z0 _ (by first | omega | (show p < S1.next; omega)) l0 (by rw [hT0] at w0; exact w0)) ?_
    rintro r T1 ⟨-, w1, u1⟩
    replace u1 : B1 p T0 T1 := by rw [hT0]; exact u1
    have m1 : S.next + 2 ≤ T1.next := Nat.le_trans m0 u1.next
    have v1 : B1 p S T1 := v0.trans u1
    have f1 : T1.cells S.next = some [.int .i64 0, .int .i64 0, .int .i64 0, .str []] := by rw [u1.cells (by omega) (by omega)]; exact f0
    have h1 : T1.cells (S.next + 1) = some [.int .i64 9, .int .i64 x.at_, .int .i64 0, .str []] := by rw [u1.cells (by omega) (by omega)]; exact h0
    have l1 := must_le (set := [116]) l0
    obtain ⟨z1, hz1⟩ : ∃ z, z = mustS bs [116] z0 := ⟨_, rfl⟩
    rw [← hz1] at w1 l1
    conv => whnf
    refine CodeQ.round ?_
    conv => whnf
    refine br (fun _ => ?_) (fun hh => absurd (by decide) hh)
    conv => whnf
    refine ⟨_, rfl, ?_⟩
    conv => whnf
    refine CallQ.mono (must [114] z1 T1 (by first | omega | (show p < S1.next; omega)) l1 w1) ?_
    rintro r T2 ⟨-, w2, u2⟩
    have m2 : S.next + 2 ≤ T2.next := Nat.le_trans m1 u2.next
    have v2 : B1 p S T2 := v1.trans u2
    have f2 : T2.cells S.next = some [.int .i64 0, .int .i64 0, .int .i64 0, .str []] := by rw [u2.cells (by omega) (by omega)]; exact f1
    have h2 : T2.cells (S.next + 1) = some [.int .i64 9, .int .i64 x.at_, .int .i64 0, .str []] := by rw [u2.cells (by omega) (by omega)]; exact h1
    have l2 := must_le (set := [114]) l1
    obtain ⟨z2, hz2⟩ : ∃ z, z = mustS bs [114] z1 := ⟨_, rfl⟩
    rw [← hz2] at w2 l2
    conv => whnf
    refine CodeQ.round ?_
    conv => whnf
    refine br (fun _ => ?_) (fun hh => absurd (by decide) hh)
    conv => whnf
    refine ⟨_, rfl, ?_⟩
    conv => whnf
    refine CallQ.mono (must [117] z2 T2 (by first | omega | (show p < S1.next; omega)) l2 w2) ?_
    rintro r T3 ⟨-, w3, u3⟩
    have m3 : S.next + 2 ≤ T3.next := Nat.le_trans m2 u3.next
    have v3 : B1 p S T3 := v2.trans u3
    have f3 : T3.cells S.next = some [.int .i64 0, .int .i64 0, .int .i64 0, .str []] := by rw [u3.cells (by omega) (by omega)]; exact f2
    have h3 : T3.cells (S.next + 1) = some [.int .i64 9, .int .i64 x.at_, .int .i64 0, .str []] := by rw [u3.cells (by omega) (by omega)]; exact h2
    have l3 := must_le (set := [117]) l2
    obtain ⟨z3, hz3⟩ : ∃ z, z = mustS bs [117] z2 := ⟨_, rfl⟩
    rw [← hz3] at w3 l3
    conv => whnf
    refine CodeQ.round ?_
    conv => whnf
    refine br (fun _ => ?_) (fun hh => absurd (by decide) hh)
    conv => whnf
    refine ⟨_, rfl, ?_⟩
    conv => whnf
    refine CallQ.mono (must [101] z3 T3 (by first | omega | (show p < S1.next; omega)) l3 w3) ?_
    rintro r T4 ⟨-, w4, u4⟩
    have m4 : S.next + 2 ≤ T4.next := Nat.le_trans m3 u4.next
    have v4 : B1 p S T4 := v3.trans u4
    have f4 : T4.cells S.next = some [.int .i64 0, .int .i64 0, .int .i64 0, .str []] := by rw [u4.cells (by omega) (by omega)]; exact f3
    have h4 : T4.cells (S.next + 1) = some [.int .i64 9, .int .i64 x.at_, .int .i64 0, .str []] := by rw [u4.cells (by omega) (by omega)]; exact h3
    have l4 := must_le (set := [101]) l3
    obtain ⟨z4, hz4⟩ : ∃ z, z = mustS bs [101] z3 := ⟨_, rfl⟩
    rw [← hz4] at w4 l4
    conv => whnf
    refine CodeQ.round ?_
    conv => whnf
    refine br (fun hh => absurd hh (by decide)) (fun _ => ?_)
    conv => whnf
    refine CodeQ.round ?_
    conv => whnf
    refine br (fun _ => ?_) (fun hh => absurd (by decide) hh)
    conv => whnf
    refine ⟨by decide, _, rfl, rfl, ?_⟩
    conv => whnf
    refine ⟨by decide, _, rfl, ?_⟩
    conv => whnf
    refine brNe (fun _ => ?_) (fun hh => absurd hh (by decide))
    conv => whnf
    refine CodeQ.round ?_
    conv => whnf
    refine br (fun _ => ?_) (fun hh => absurd (by decide) hh)
    conv => whnf
    refine ⟨by decide, _, rfl, rfl, ?_⟩
    conv => whnf
    refine ⟨by decide, _, rfl, ?_⟩
    conv => whnf
    refine brNe (fun _ => ?_) (fun hh => absurd hh (by decide))
    conv => whnf
    refine CodeQ.round ?_
    conv => whnf
    refine br (fun hh => absurd hh (by decide)) (fun _ => ?_)
    conv => whnf
    refine ⟨_, h4, ?_⟩
    conv => whnf
    refine brEq (fun hh => absurd hh (by decide)) (fun _ => ?_)
    conv => whnf
    refine ⟨(), ⟨v4, m4, f4, ?_, ?_, ?_⟩, ⟨rfl, rfl, rfl, trivial⟩⟩
    · rw [hw]; show T4.cells p = some ((wordS bs wtrue x).cs _); rw [show wordS bs wtrue x = z4 by rw [hz4, hz3, hz2, hz1, hz0]; rfl]; exact w4
    · rw [hw]; exact h4
    · rw [hw]; show (wordS bs wtrue x).at_ ≤ _; rw [show wordS bs wtrue x = z4 by rw [hz4, hz3, hz2, hz1, hz0]; rfl]; exact l4
  by_cases d1 : c = 102
  · rw [if_neg d0, if_pos d1] at e0
    have hw := e0
    subst d1
    conv => whnf
    refine CodeQ.round ?_
    conv => whnf
    refine br (fun _ => ?_) (fun hh => absurd (by decide) hh)
    conv => whnf
    refine ⟨by decide, _, rfl, rfl, ?_⟩
    conv => whnf
    refine ⟨by decide, _, rfl, ?_⟩
    conv => whnf
    refine brNe (fun _ => ?_) (fun hh => absurd hh (by decide))
    conv => whnf
    refine CodeQ.round ?_
    conv => whnf
    refine br (fun _ => ?_) (fun hh => absurd (by decide) hh)
    conv => whnf
    refine ⟨by decide, _, rfl, rfl, ?_⟩
    conv => whnf
    refine ⟨by decide, _, rfl, ?_⟩
    conv => whnf
    refine brNe (fun hh => absurd rfl hh) (fun _ => ?_)
    conv => whnf
    refine ⟨_, _, g1, if_pos ⟨rfl, rfl, Nat.le_of_ble_eq_true rfl⟩, ?_⟩
    obtain ⟨T0, hT0⟩ : ∃ T0, T0 = S1.set (S.next + 1) (some (.cells [.int .i64 10, .int .i64 x.at_, .int .i64 0, .str []])) := ⟨_, rfl⟩
    have w0 : T0.cells p = some (x.cs (.lst (bs.map u8) t)) := by rw [hT0]; exact cells_set_ne c1 (by omega)
    have v0 : B1 p S T0 := by rw [hT0]; exact b1.setN _ _ (by omega)
    have m0 : S.next + 2 ≤ T0.next := by rw [hT0]; exact n1
    have f0 : T0.cells S.next = some [.int .i64 0, .int .i64 0, .int .i64 0, .str []] := by rw [hT0]; exact cells_set_ne g0 (by omega)
    have h0 : T0.cells (S.next + 1) = some [.int .i64 10, .int .i64 x.at_, .int .i64 0, .str []] := by rw [hT0]; exact cells_set _ _ _
    have l0 : x.at_ ≤ bs.length := hat
    obtain ⟨z0, hz0⟩ : ∃ z0, z0 = x := ⟨_, rfl⟩
    rw [← hz0] at w0 l0
    change _
    conv => whnf
    refine CodeQ.round ?_
    conv => whnf
    refine br (fun _ => ?_) (fun hh => absurd (by decide) hh)
    conv => whnf
    refine ⟨_, rfl, ?_⟩
    conv => whnf
    have hTe : S1.set (S.next + 1) (some (.cells [.int .i64 10, .int .i64 x.at_, .int .i64 0, .str []])) = T0 := hT0.symm
    refine CallQ.mono (must [102] z0 _ (by first | omega | (show p < S1.next; omega)) l0 (by rw [hT0] at w0; exact w0)) ?_
    rintro r T1 ⟨-, w1, u1⟩
    replace u1 : B1 p T0 T1 := by rw [hT0]; exact u1
    have m1 : S.next + 2 ≤ T1.next := Nat.le_trans m0 u1.next
    have v1 : B1 p S T1 := v0.trans u1
    have f1 : T1.cells S.next = some [.int .i64 0, .int .i64 0, .int .i64 0, .str []] := by rw [u1.cells (by omega) (by omega)]; exact f0
    have h1 : T1.cells (S.next + 1) = some [.int .i64 10, .int .i64 x.at_, .int .i64 0, .str []] := by rw [u1.cells (by omega) (by omega)]; exact h0
    have l1 := must_le (set := [102]) l0
    obtain ⟨z1, hz1⟩ : ∃ z, z = mustS bs [102] z0 := ⟨_, rfl⟩
    rw [← hz1] at w1 l1
    conv => whnf
    refine CodeQ.round ?_
    conv => whnf
    refine br (fun _ => ?_) (fun hh => absurd (by decide) hh)
    conv => whnf
    refine ⟨_, rfl, ?_⟩
    conv => whnf
    refine CallQ.mono (must [97] z1 T1 (by first | omega | (show p < S1.next; omega)) l1 w1) ?_
    rintro r T2 ⟨-, w2, u2⟩
    have m2 : S.next + 2 ≤ T2.next := Nat.le_trans m1 u2.next
    have v2 : B1 p S T2 := v1.trans u2
    have f2 : T2.cells S.next = some [.int .i64 0, .int .i64 0, .int .i64 0, .str []] := by rw [u2.cells (by omega) (by omega)]; exact f1
    have h2 : T2.cells (S.next + 1) = some [.int .i64 10, .int .i64 x.at_, .int .i64 0, .str []] := by rw [u2.cells (by omega) (by omega)]; exact h1
    have l2 := must_le (set := [97]) l1
    obtain ⟨z2, hz2⟩ : ∃ z, z = mustS bs [97] z1 := ⟨_, rfl⟩
    rw [← hz2] at w2 l2
    conv => whnf
    refine CodeQ.round ?_
    conv => whnf
    refine br (fun _ => ?_) (fun hh => absurd (by decide) hh)
    conv => whnf
    refine ⟨_, rfl, ?_⟩
    conv => whnf
    refine CallQ.mono (must [108] z2 T2 (by first | omega | (show p < S1.next; omega)) l2 w2) ?_
    rintro r T3 ⟨-, w3, u3⟩
    have m3 : S.next + 2 ≤ T3.next := Nat.le_trans m2 u3.next
    have v3 : B1 p S T3 := v2.trans u3
    have f3 : T3.cells S.next = some [.int .i64 0, .int .i64 0, .int .i64 0, .str []] := by rw [u3.cells (by omega) (by omega)]; exact f2
    have h3 : T3.cells (S.next + 1) = some [.int .i64 10, .int .i64 x.at_, .int .i64 0, .str []] := by rw [u3.cells (by omega) (by omega)]; exact h2
    have l3 := must_le (set := [108]) l2
    obtain ⟨z3, hz3⟩ : ∃ z, z = mustS bs [108] z2 := ⟨_, rfl⟩
    rw [← hz3] at w3 l3
    conv => whnf
    refine CodeQ.round ?_
    conv => whnf
    refine br (fun _ => ?_) (fun hh => absurd (by decide) hh)
    conv => whnf
    refine ⟨_, rfl, ?_⟩
    conv => whnf
    refine CallQ.mono (must [115] z3 T3 (by first | omega | (show p < S1.next; omega)) l3 w3) ?_
    rintro r T4 ⟨-, w4, u4⟩
    have m4 : S.next + 2 ≤ T4.next := Nat.le_trans m3 u4.next
    have v4 : B1 p S T4 := v3.trans u4
    have f4 : T4.cells S.next = some [.int .i64 0, .int .i64 0, .int .i64 0, .str []] := by rw [u4.cells (by omega) (by omega)]; exact f3
    have h4 : T4.cells (S.next + 1) = some [.int .i64 10, .int .i64 x.at_, .int .i64 0, .str []] := by rw [u4.cells (by omega) (by omega)]; exact h3
    have l4 := must_le (set := [115]) l3
    obtain ⟨z4, hz4⟩ : ∃ z, z = mustS bs [115] z3 := ⟨_, rfl⟩
    rw [← hz4] at w4 l4
    conv => whnf
    refine CodeQ.round ?_
    conv => whnf
    refine br (fun _ => ?_) (fun hh => absurd (by decide) hh)
    conv => whnf
    refine ⟨_, rfl, ?_⟩
    conv => whnf
    refine CallQ.mono (must [101] z4 T4 (by first | omega | (show p < S1.next; omega)) l4 w4) ?_
    rintro r T5 ⟨-, w5, u5⟩
    have m5 : S.next + 2 ≤ T5.next := Nat.le_trans m4 u5.next
    have v5 : B1 p S T5 := v4.trans u5
    have f5 : T5.cells S.next = some [.int .i64 0, .int .i64 0, .int .i64 0, .str []] := by rw [u5.cells (by omega) (by omega)]; exact f4
    have h5 : T5.cells (S.next + 1) = some [.int .i64 10, .int .i64 x.at_, .int .i64 0, .str []] := by rw [u5.cells (by omega) (by omega)]; exact h4
    have l5 := must_le (set := [101]) l4
    obtain ⟨z5, hz5⟩ : ∃ z, z = mustS bs [101] z4 := ⟨_, rfl⟩
    rw [← hz5] at w5 l5
    conv => whnf
    refine CodeQ.round ?_
    conv => whnf
    refine br (fun hh => absurd hh (by decide)) (fun _ => ?_)
    conv => whnf
    refine CodeQ.round ?_
    conv => whnf
    refine br (fun _ => ?_) (fun hh => absurd (by decide) hh)
    conv => whnf
    refine ⟨by decide, _, rfl, rfl, ?_⟩
    conv => whnf
    refine ⟨by decide, _, rfl, ?_⟩
    conv => whnf
    refine brNe (fun _ => ?_) (fun hh => absurd hh (by decide))
    conv => whnf
    refine CodeQ.round ?_
    conv => whnf
    refine br (fun hh => absurd hh (by decide)) (fun _ => ?_)
    conv => whnf
    refine ⟨_, h5, ?_⟩
    conv => whnf
    refine brEq (fun hh => absurd hh (by decide)) (fun _ => ?_)
    conv => whnf
    refine ⟨(), ⟨v5, m5, f5, ?_, ?_, ?_⟩, ⟨rfl, rfl, rfl, trivial⟩⟩
    · rw [hw]; show T5.cells p = some ((wordS bs wfalse x).cs _); rw [show wordS bs wfalse x = z5 by rw [hz5, hz4, hz3, hz2, hz1, hz0]; rfl]; exact w5
    · rw [hw]; exact h5
    · rw [hw]; show (wordS bs wfalse x).at_ ≤ _; rw [show wordS bs wfalse x = z5 by rw [hz5, hz4, hz3, hz2, hz1, hz0]; rfl]; exact l5
  by_cases d2 : c = 110
  · rw [if_neg d0, if_neg d1, if_pos d2] at e0
    have hw := e0
    subst d2
    conv => whnf
    refine CodeQ.round ?_
    conv => whnf
    refine br (fun _ => ?_) (fun hh => absurd (by decide) hh)
    conv => whnf
    refine ⟨by decide, _, rfl, rfl, ?_⟩
    conv => whnf
    refine ⟨by decide, _, rfl, ?_⟩
    conv => whnf
    refine brNe (fun _ => ?_) (fun hh => absurd hh (by decide))
    conv => whnf
    refine CodeQ.round ?_
    conv => whnf
    refine br (fun _ => ?_) (fun hh => absurd (by decide) hh)
    conv => whnf
    refine ⟨by decide, _, rfl, rfl, ?_⟩
    conv => whnf
    refine ⟨by decide, _, rfl, ?_⟩
    conv => whnf
    refine brNe (fun _ => ?_) (fun hh => absurd hh (by decide))
    conv => whnf
    refine CodeQ.round ?_
    conv => whnf
    refine br (fun _ => ?_) (fun hh => absurd (by decide) hh)
    conv => whnf
    refine ⟨by decide, _, rfl, rfl, ?_⟩
    conv => whnf
    refine ⟨by decide, _, rfl, ?_⟩
    conv => whnf
    refine brNe (fun hh => absurd rfl hh) (fun _ => ?_)
    conv => whnf
    refine ⟨_, _, g1, if_pos ⟨rfl, rfl, Nat.le_of_ble_eq_true rfl⟩, ?_⟩
    obtain ⟨T0, hT0⟩ : ∃ T0, T0 = S1.set (S.next + 1) (some (.cells [.int .i64 11, .int .i64 x.at_, .int .i64 0, .str []])) := ⟨_, rfl⟩
    have w0 : T0.cells p = some (x.cs (.lst (bs.map u8) t)) := by rw [hT0]; exact cells_set_ne c1 (by omega)
    have v0 : B1 p S T0 := by rw [hT0]; exact b1.setN _ _ (by omega)
    have m0 : S.next + 2 ≤ T0.next := by rw [hT0]; exact n1
    have f0 : T0.cells S.next = some [.int .i64 0, .int .i64 0, .int .i64 0, .str []] := by rw [hT0]; exact cells_set_ne g0 (by omega)
    have h0 : T0.cells (S.next + 1) = some [.int .i64 11, .int .i64 x.at_, .int .i64 0, .str []] := by rw [hT0]; exact cells_set _ _ _
    have l0 : x.at_ ≤ bs.length := hat
    obtain ⟨z0, hz0⟩ : ∃ z0, z0 = x := ⟨_, rfl⟩
    rw [← hz0] at w0 l0
    change _
    conv => whnf
    refine CodeQ.round ?_
    conv => whnf
    refine br (fun _ => ?_) (fun hh => absurd (by decide) hh)
    conv => whnf
    refine ⟨_, rfl, ?_⟩
    conv => whnf
    have hTe : S1.set (S.next + 1) (some (.cells [.int .i64 11, .int .i64 x.at_, .int .i64 0, .str []])) = T0 := hT0.symm
    refine CallQ.mono (must [110] z0 _ (by first | omega | (show p < S1.next; omega)) l0 (by rw [hT0] at w0; exact w0)) ?_
    rintro r T1 ⟨-, w1, u1⟩
    replace u1 : B1 p T0 T1 := by rw [hT0]; exact u1
    have m1 : S.next + 2 ≤ T1.next := Nat.le_trans m0 u1.next
    have v1 : B1 p S T1 := v0.trans u1
    have f1 : T1.cells S.next = some [.int .i64 0, .int .i64 0, .int .i64 0, .str []] := by rw [u1.cells (by omega) (by omega)]; exact f0
    have h1 : T1.cells (S.next + 1) = some [.int .i64 11, .int .i64 x.at_, .int .i64 0, .str []] := by rw [u1.cells (by omega) (by omega)]; exact h0
    have l1 := must_le (set := [110]) l0
    obtain ⟨z1, hz1⟩ : ∃ z, z = mustS bs [110] z0 := ⟨_, rfl⟩
    rw [← hz1] at w1 l1
    conv => whnf
    refine CodeQ.round ?_
    conv => whnf
    refine br (fun _ => ?_) (fun hh => absurd (by decide) hh)
    conv => whnf
    refine ⟨_, rfl, ?_⟩
    conv => whnf
    refine CallQ.mono (must [117] z1 T1 (by first | omega | (show p < S1.next; omega)) l1 w1) ?_
    rintro r T2 ⟨-, w2, u2⟩
    have m2 : S.next + 2 ≤ T2.next := Nat.le_trans m1 u2.next
    have v2 : B1 p S T2 := v1.trans u2
    have f2 : T2.cells S.next = some [.int .i64 0, .int .i64 0, .int .i64 0, .str []] := by rw [u2.cells (by omega) (by omega)]; exact f1
    have h2 : T2.cells (S.next + 1) = some [.int .i64 11, .int .i64 x.at_, .int .i64 0, .str []] := by rw [u2.cells (by omega) (by omega)]; exact h1
    have l2 := must_le (set := [117]) l1
    obtain ⟨z2, hz2⟩ : ∃ z, z = mustS bs [117] z1 := ⟨_, rfl⟩
    rw [← hz2] at w2 l2
    conv => whnf
    refine CodeQ.round ?_
    conv => whnf
    refine br (fun _ => ?_) (fun hh => absurd (by decide) hh)
    conv => whnf
    refine ⟨_, rfl, ?_⟩
    conv => whnf
    refine CallQ.mono (must [108] z2 T2 (by first | omega | (show p < S1.next; omega)) l2 w2) ?_
    rintro r T3 ⟨-, w3, u3⟩
    have m3 : S.next + 2 ≤ T3.next := Nat.le_trans m2 u3.next
    have v3 : B1 p S T3 := v2.trans u3
    have f3 : T3.cells S.next = some [.int .i64 0, .int .i64 0, .int .i64 0, .str []] := by rw [u3.cells (by omega) (by omega)]; exact f2
    have h3 : T3.cells (S.next + 1) = some [.int .i64 11, .int .i64 x.at_, .int .i64 0, .str []] := by rw [u3.cells (by omega) (by omega)]; exact h2
    have l3 := must_le (set := [108]) l2
    obtain ⟨z3, hz3⟩ : ∃ z, z = mustS bs [108] z2 := ⟨_, rfl⟩
    rw [← hz3] at w3 l3
    conv => whnf
    refine CodeQ.round ?_
    conv => whnf
    refine br (fun _ => ?_) (fun hh => absurd (by decide) hh)
    conv => whnf
    refine ⟨_, rfl, ?_⟩
    conv => whnf
    refine CallQ.mono (must [108] z3 T3 (by first | omega | (show p < S1.next; omega)) l3 w3) ?_
    rintro r T4 ⟨-, w4, u4⟩
    have m4 : S.next + 2 ≤ T4.next := Nat.le_trans m3 u4.next
    have v4 : B1 p S T4 := v3.trans u4
    have f4 : T4.cells S.next = some [.int .i64 0, .int .i64 0, .int .i64 0, .str []] := by rw [u4.cells (by omega) (by omega)]; exact f3
    have h4 : T4.cells (S.next + 1) = some [.int .i64 11, .int .i64 x.at_, .int .i64 0, .str []] := by rw [u4.cells (by omega) (by omega)]; exact h3
    have l4 := must_le (set := [108]) l3
    obtain ⟨z4, hz4⟩ : ∃ z, z = mustS bs [108] z3 := ⟨_, rfl⟩
    rw [← hz4] at w4 l4
    conv => whnf
    refine CodeQ.round ?_
    conv => whnf
    refine br (fun hh => absurd hh (by decide)) (fun _ => ?_)
    conv => whnf
    refine CodeQ.round ?_
    conv => whnf
    refine br (fun hh => absurd hh (by decide)) (fun _ => ?_)
    conv => whnf
    refine ⟨_, h4, ?_⟩
    conv => whnf
    refine brEq (fun hh => absurd hh (by decide)) (fun _ => ?_)
    conv => whnf
    refine ⟨(), ⟨v4, m4, f4, ?_, ?_, ?_⟩, ⟨rfl, rfl, rfl, trivial⟩⟩
    · rw [hw]; show T4.cells p = some ((wordS bs wnull x).cs _); rw [show wordS bs wnull x = z4 by rw [hz4, hz3, hz2, hz1, hz0]; rfl]; exact w4
    · rw [hw]; exact h4
    · rw [hw]; show (wordS bs wnull x).at_ ≤ _; rw [show wordS bs wnull x = z4 by rw [hz4, hz3, hz2, hz1, hz0]; rfl]; exact l4
  rw [if_neg d0, if_neg d1, if_neg d2] at e0
  have hw := e0
  conv => whnf
  refine CodeQ.round ?_
  conv => whnf
  refine br (fun _ => ?_) (fun hh => absurd (by decide) hh)
  conv => whnf
  refine ⟨by decide, _, rfl, rfl, ?_⟩
  conv => whnf
  refine ⟨by decide, _, rfl, ?_⟩
  conv => whnf
  refine brNe (fun _ => ?_) (fun hh => absurd (UInt8.toNat_inj.1 (show (c.toNat : Nat) = (116 : UInt8).toNat by omega)) d0)
  conv => whnf
  refine CodeQ.round ?_
  conv => whnf
  refine br (fun _ => ?_) (fun hh => absurd (by decide) hh)
  conv => whnf
  refine ⟨by decide, _, rfl, rfl, ?_⟩
  conv => whnf
  refine ⟨by decide, _, rfl, ?_⟩
  conv => whnf
  refine brNe (fun _ => ?_) (fun hh => absurd (UInt8.toNat_inj.1 (show (c.toNat : Nat) = (102 : UInt8).toNat by omega)) d1)
  conv => whnf
  refine CodeQ.round ?_
  conv => whnf
  refine br (fun _ => ?_) (fun hh => absurd (by decide) hh)
  conv => whnf
  refine ⟨by decide, _, rfl, rfl, ?_⟩
  conv => whnf
  refine ⟨by decide, _, rfl, ?_⟩
  conv => whnf
  refine brNe (fun _ => ?_) (fun hh => absurd (UInt8.toNat_inj.1 (show (c.toNat : Nat) = (110 : UInt8).toNat by omega)) d2)
  conv => whnf
  refine CodeQ.round ?_
  conv => whnf
  refine br (fun hh => absurd hh (by decide)) (fun _ => ?_)
  conv => whnf
  refine ⟨_, g1, ?_⟩
  conv => whnf
  refine brEq (fun _ => ?_) (fun hh => absurd rfl hh)
  conv => whnf
  refine CallQ.mono (wrong x S1 hat c1) ?_
  rintro r S2 ⟨c2, b2⟩
  conv => whnf
  refine ⟨(), ⟨b1.trans b2, Nat.le_trans n1 b2.next, by rw [b2.cells (by omega) (by omega)]; exact g0, ?_, ?_, ?_⟩, ⟨rfl, rfl, rfl, trivial⟩⟩
  · rw [hw]; exact c2
  · rw [hw, b2.cells (by omega) (by omega)]; exact g1
  · rw [hw]; rw [wrong_at]; exact hat
end Go.Proofs.Ytfphpjinimfhfaa
