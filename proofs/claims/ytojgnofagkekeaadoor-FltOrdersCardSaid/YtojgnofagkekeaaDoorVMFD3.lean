import Derived.Test.YtojgnofagkekeaaDoorVMFN34
namespace Go.Proofs.YtojgnofagkekeaaDoor
open Go.Proofs.YtojgnofagkekeaaDoor.VM Go.RowKit
set_option maxRecDepth 100000
set_option linter.unusedVariables false
set_option maxHeartbeats 4000000
def is0 (c : UInt8) : Bool := c == 48
/-- Without zeros ahead, and behind. -/
def tl0 (s : List UInt8) : List UInt8 := s.dropWhile is0
def tr0 (s : List UInt8) : List UInt8 := (s.reverse.dropWhile is0).reverse
theorem is0_of {c : UInt8} (h : (c.toNat : Int) = 48) : is0 c = true := by
  have : c = 48 := UInt8.toNat_inj.1 (show c.toNat = (48 : UInt8).toNat by have : (48 : UInt8).toNat = 48 := rfl; omega)
  rw [this]; rfl
theorem is0_not {c : UInt8} (h : (c.toNat : Int) ≠ 48) : is0 c = false := by
  unfold is0
  have : c ≠ 48 := fun q => h (by rw [q]; rfl)
  simpa using this
theorem t63 (h : Bool) (s : List UInt8) (S : St) : CallQ Tryd.prog (NC h) 63 [.str s, .int .u8 48] S fun r S1 => S1 = S ∧ r = .str (tl0 s) := by
  refine CallQ.of rfl (by kernel_rfl : Tryd.prog.funcs[63]? = some Tryd.f63) rfl (by decide) ?_
  conv => whnf
  refine CodeQ.loop (fun (x : List UInt8) => pat 17 [(0, .str x), (1, .int .u8 48)]) (fun m x S1 => S1 = S ∧ m = x.length ∧ tl0 s = tl0 x) ?_ _ s _ _ ⟨rfl, rfl, rfl⟩ ⟨rfl, rfl, trivial⟩
  rintro m x S1 d ⟨rfl, hm, ha⟩
  dsimp only at *
  conv => whnf
  refine br (fun h5 => ?_) (fun h5 => ?_)
  rotate_left
  · have h5 : x = [] := List.length_eq_zero_iff.1 (by omega)
    subst h5
    conv => whnf
    exact ⟨rfl, by rw [ha]; rfl⟩
  obtain ⟨c, x, rfl⟩ : ∃ c t, x = c :: t := by cases x with | nil => simp at h5 | cons c t => exact ⟨c, t, rfl⟩
  conv => whnf
  refine ⟨by decide, c, rfl, ?_⟩
  have hst : tl0 (c :: x) = if is0 c = true then tl0 x else c :: x := by unfold tl0; rw [List.dropWhile_cons]
  rw [hst] at ha
  conv => whnf
  refine brEq (fun h6 => ?_) (fun h6 => ?_)
  · rw [if_pos (is0_of h6)] at ha
    conv => whnf
    refine ⟨_, str_from (c :: x) 1 (by simp) 1 rfl, ?_⟩
    conv => whnf
    exact ⟨x.length, x, by simp at hm; omega, ⟨rfl, rfl, ha⟩, ⟨rfl, rfl, trivial⟩⟩
  · rw [if_neg (by rw [is0_not h6]; decide)] at ha
    conv => whnf
    exact ⟨rfl, by rw [ha]; rfl⟩
theorem t64 (h : Bool) (s : List UInt8) (hl : s.length ≤ 2 ^ 47) (S : St) : CallQ Tryd.prog (NC h) 64 [.str s, .int .u8 48] S fun r S1 => S1 = S ∧ r = .str (tr0 s) := by
  refine CallQ.of rfl (by kernel_rfl : Tryd.prog.funcs[64]? = some Tryd.f64) rfl (by decide) ?_
  conv => whnf
  refine CodeQ.loop (fun (x : List UInt8) => pat 23 [(0, .str x), (1, .int .u8 48)]) (fun m x S1 => S1 = S ∧ m = x.length ∧ x.length ≤ 2 ^ 47 ∧ tr0 s = tr0 x) ?_ _ s _ _ ⟨rfl, rfl, hl, rfl⟩ ⟨rfl, rfl, trivial⟩
  rintro m x S1 d ⟨rfl, hm, hx, ha⟩
  dsimp only at *
  conv => whnf
  refine br (fun h5 => ?_) (fun h5 => ?_)
  rotate_left
  · have h5 : x = [] := List.length_eq_zero_iff.1 (by omega)
    subst h5
    conv => whnf
    exact ⟨rfl, by rw [ha]; rfl⟩
  obtain ⟨x, c, rfl⟩ : ∃ t c, x = t ++ [c] := ⟨x.dropLast, x.getLast (by intro q; subst q; simp at h5), (List.dropLast_concat_getLast _).symm⟩
  have hlen : (x ++ [c]).length = x.length + 1 := by simp
  have w0 : IntKind.i64.wrap (((x ++ [c]).length : Int) - 1) = (x.length : Int) := by rw [wrap_i64 (by omega) (by omega)]; omega
  have hst : tr0 (x ++ [c]) = if is0 c = true then tr0 x else x ++ [c] := by
    unfold tr0
    rw [List.reverse_append, List.reverse_singleton, List.singleton_append, List.dropWhile_cons]
    split
    · rfl
    · simp
  rw [hst] at ha
  conv => whnf
  rw [w0]
  refine ⟨by omega, c, by simp, ?_⟩
  conv => whnf
  refine brEq (fun h6 => ?_) (fun h6 => ?_)
  · rw [if_pos (is0_of h6)] at ha
    conv => whnf
    refine ⟨_, str_to (x ++ [c]) x.length (by simp) _ w0, ?_⟩
    rw [List.take_left]
    conv => whnf
    exact ⟨x.length, x, by omega, ⟨rfl, rfl, by omega, ha⟩, ⟨rfl, rfl, trivial⟩⟩
  · rw [if_neg (by rw [is0_not h6]; decide)] at ha
    conv => whnf
    exact ⟨rfl, by rw [ha]; rfl⟩
theorem t53 (h : Bool) (s : List UInt8) (S : St) : CallQ Tryd.prog (NC h) 53 [.str s, .str [48]] S fun r S1 => S1 = S ∧ r = .str (tl0 s) := by
  refine CallQ.of rfl (by kernel_rfl : Tryd.prog.funcs[53]? = some Tryd.f53) rfl (by decide) ?_
  conv => whnf
  refine brSEq (fun h0 => ?_) (fun h0 => ?_)
  · have h0 : s = [] := h0
    subst h0
    conv => whnf
    exact ⟨rfl, rfl⟩
  conv => whnf
  refine brSEq (fun q => absurd q (by decide)) (fun _ => ?_)
  conv => whnf
  refine brEq (fun _ => ?_) (fun q => absurd rfl q)
  conv => whnf
  refine ⟨by decide, 48, rfl, ?_⟩
  conv => whnf
  refine br (fun _ => ?_) (fun q => absurd (by decide) q)
  conv => whnf
  refine ⟨by decide, 48, rfl, ?_⟩
  conv => whnf
  refine CallQ.mono (t63 h s S) ?_
  rintro r S1 ⟨rfl, rfl⟩
  conv => whnf
  exact ⟨rfl, rfl⟩
theorem t52 (h : Bool) (s : List UInt8) (hl : s.length ≤ 2 ^ 47) (S : St) : CallQ Tryd.prog (NC h) 52 [.str s, .str [48]] S fun r S1 => S1 = S ∧ r = .str (tr0 s) := by
  refine CallQ.of rfl (by kernel_rfl : Tryd.prog.funcs[52]? = some Tryd.f52) rfl (by decide) ?_
  conv => whnf
  refine brSEq (fun h0 => ?_) (fun h0 => ?_)
  · have h0 : s = [] := h0
    subst h0
    conv => whnf
    exact ⟨rfl, rfl⟩
  conv => whnf
  refine brSEq (fun q => absurd q (by decide)) (fun _ => ?_)
  conv => whnf
  refine brEq (fun _ => ?_) (fun q => absurd rfl q)
  conv => whnf
  refine ⟨by decide, 48, rfl, ?_⟩
  conv => whnf
  refine br (fun _ => ?_) (fun q => absurd (by decide) q)
  conv => whnf
  refine ⟨by decide, 48, rfl, ?_⟩
  conv => whnf
  refine CallQ.mono (t64 h s hl S) ?_
  rintro r S1 ⟨rfl, rfl⟩
  conv => whnf
  exact ⟨rfl, rfl⟩
/-- Does a text end with a zero? -/
def ends0 (s : List UInt8) : Bool := match s.getLast? with
  | some c => is0 c
  | none => false
theorem ends_snoc (x : List UInt8) (c : UInt8) : ends0 (x ++ [c]) = is0 c := by unfold ends0; simp
theorem t82 (h : Bool) (s : List UInt8) (hl : s.length ≤ 2 ^ 47) (S : St) : CallQ Tryd.prog (NC h) 82 [.str s, .str [48]] S fun r S1 => S1 = S ∧ r = .bool (ends0 s) := by
  refine CallQ.of rfl (by kernel_rfl : Tryd.prog.funcs[82]? = some Tryd.f82) rfl (by decide) ?_
  conv => whnf
  refine br (fun h0 => ?_) (fun h0 => ?_)
  rotate_left
  · obtain rfl : s = [] := List.length_eq_zero_iff.1 (by simp at h0; omega)
    conv => whnf
    exact ⟨rfl, rfl⟩
  obtain ⟨x, c, rfl⟩ : ∃ t c, s = t ++ [c] := ⟨s.dropLast, s.getLast (by intro q; subst q; simp at h0), (List.dropLast_concat_getLast _).symm⟩
  have hlen : (x ++ [c]).length = x.length + 1 := by simp
  have w0 : IntKind.i64.wrap (((x ++ [c]).length : Int) - (([48] : List UInt8).length : Int)) = (x.length : Int) := by
    rw [show (([48] : List UInt8).length : Int) = 1 from rfl, wrap_i64 (by omega) (by omega)]; omega
  rw [ends_snoc]
  conv => whnf
  refine ⟨_, str_from (x ++ [c]) x.length (by simp) _ w0, ?_⟩
  rw [List.drop_left]
  conv => whnf
  refine brSEq (fun q => ?_) (fun q => ?_)
  · have : c = 48 := by simpa using q
    subst this
    conv => whnf
    exact ⟨rfl, rfl⟩
  · have hc : is0 c = false := by
      unfold is0
      have : c ≠ 48 := fun e => q (by rw [e])
      simpa using this
    rw [hc]
    conv => whnf
    exact ⟨rfl, rfl⟩
theorem t70 (h : Bool) (s : List UInt8) (hl : s.length ≤ 2 ^ 47) (S : St) : CallQ Tryd.prog (NC h) 70 [.str s, .str [48]] S fun r S1 => S1 = S ∧ r = .bool (ends0 s) := by
  refine CallQ.of rfl (by kernel_rfl : Tryd.prog.funcs[70]? = some Tryd.f70) rfl (by decide) ?_
  conv => whnf
  refine CallQ.mono (t82 h s hl S) ?_
  rintro r S1 ⟨rfl, rfl⟩
  conv => whnf
  exact ⟨rfl, rfl⟩
/-- A number as it stands. -/
def numV (neg : Bool) (ds : List UInt8) (e : Int) : AV := .agg [.bool neg, .str ds, .int .i64 e]
/-- Which numbers may be. -/
def rightN (neg : Bool) (ds : List UInt8) (e : Int) : Bool := rightS ds && (if ds = [48] then !neg && decide (e = 0) else !ends0 ds && decide (-2000 ≤ e) && decide (e ≤ 2000))
theorem eqNum0 (neg : Bool) (e : Int) : eqF Tryd.prog 36 (.agg [.bool neg, .str [48], .int .i64 e]) (.agg [ofLeaf (Value.bool false), AV.str ({ data := #[48] } : ByteArray).data.toList, ofLeaf (Value.int IntKind.i64 0)]) = some ((neg == false) && ((([48] : List UInt8) == [48]) && ((e == 0) && true))) := by kernel_rfl
theorem eqNum1 (neg : Bool) (e : Int) : ((neg == false) && ((([48] : List UInt8) == [48]) && ((e == 0) && true))) = (true && (!neg && decide (e = 0))) := by
  cases neg
  · by_cases h : e = 0
    · subst h; rfl
    · have : (e == 0) = false := by simpa using h
      rw [this, decide_eq_false h]; rfl
  · rfl
theorem t54 (h : Bool) (neg : Bool) (ds : List UInt8) (e : Int) (hl : ds.length ≤ 2 ^ 47) (S : St) : CallQ Tryd.prog (NC h) 54 [numV neg ds e] S fun r S1 => Keep S S1 ∧ r = .bool (rightN neg ds e) := by
  unfold rightN
  refine CallQ.of rfl (by kernel_rfl : Tryd.prog.funcs[54]? = some Tryd.f54) rfl (by decide) ?_
  conv => whnf
  refine CallQ.mono (t61 h ds hl S) ?_
  rintro r S1 ⟨k1, rfl⟩
  cases hr : rightS ds
  · conv => whnf
    exact ⟨k1, rfl⟩
  conv => whnf
  refine brSEq (fun h1 => ?_) (fun h1 => ?_)
  · have h1 : ds = [48] := h1
    subst h1
    rw [if_pos rfl]
    conv => whnf
    rw [eqNum0]
    conv => whnf
    rintro c rfl
    conv => whnf
    refine ⟨k1, ?_⟩
    show AV.bool _ = AV.bool _
    rw [eqNum1]
  have h1 : ds ≠ [48] := h1
  rw [if_neg h1]
  conv => whnf
  refine CallQ.mono (t70 h ds hl S1) ?_
  rintro r S2 ⟨rfl, rfl⟩
  cases ends0 ds
  rotate_left
  · conv => whnf
    exact ⟨k1, rfl⟩
  conv => whnf
  refine br (fun h2 => ?_) (fun h2 => ?_)
  rotate_left
  · conv => whnf
    exact ⟨k1, by show AV.bool false = _; rw [decide_eq_false (by omega)]; rfl⟩
  conv => whnf
  refine br (fun h3 => ?_) (fun h3 => ?_)
  · conv => whnf
    exact ⟨k1, by show AV.bool true = _; rw [decide_eq_true (by omega), decide_eq_true (by omega)]; rfl⟩
  · conv => whnf
    exact ⟨k1, by show AV.bool false = _; rw [decide_eq_true (show -2000 ≤ e by omega), decide_eq_false (by omega)]; rfl⟩
end Go.Proofs.YtojgnofagkekeaaDoor
namespace Go.Proofs.YtojgnofagkekeaaDoor
open Go.Proofs.YtojgnofagkekeaaDoor.VM Go.RowKit
set_option maxRecDepth 100000
set_option linter.unusedVariables false
set_option maxHeartbeats 4000000
/-- Digits that may make a number. -/
def makeOk (ds : List UInt8) : Bool := !decide (ds = []) && decide (ds.length ≤ 4096) && ds.all isD
/-- A number's exponent, within reach. -/
def nearE (e : Int) : Int := min (max e (-1048576)) 1048576
def madeE (ds : List UInt8) (e : Int) : Int := nearE e + ds.length - (tr0 ds).length
/-- What Make answers: sign, digits, exponent, error. -/
def makeR (neg : Bool) (ds : List UInt8) (e : Int) : (Bool × List UInt8 × Int) × Int :=
  if makeOk ds = true then
    (if tr0 ds = [] then ((false, [48], 0), 0)
     else if rightN neg (tl0 (tr0 ds)) (madeE ds e) = true then ((neg, tl0 (tr0 ds), madeE ds e), 0) else ((false, [], 0), 11))
  else ((false, [], 0), 1)
def makeV (neg : Bool) (ds : List UInt8) (e : Int) : AV := .tuple [numV (makeR neg ds e).1.1 (makeR neg ds e).1.2.1 (makeR neg ds e).1.2.2, .int .i64 (makeR neg ds e).2]
theorem tr_len (s : List UInt8) : (tr0 s).length ≤ s.length := by
  unfold tr0
  have := (List.dropWhile_suffix (l := s.reverse) is0).length_le
  simp at this ⊢
  exact this
theorem tl_len (s : List UInt8) : (tl0 s).length ≤ s.length := (List.dropWhile_suffix (l := s) is0).length_le
theorem num_load {S : St} {p : Nat} {neg : Bool} {ds : List UInt8} {e : Int} (h : S.cells p = some [.bool neg, .str ds, .int .i64 e]) : loadA Tryd.prog S 36 (.ptr p 0) = some (numV neg ds e) := by
  show (S.cells p).bind _ = _
  rw [h]; rfl
theorem t34 (h : Bool) (neg : Bool) (ds : List UInt8) (e : Int) (hl : ds.length ≤ 2 ^ 47) (S : St) : CallQ Tryd.prog (NC h) 34 [.bool neg, .str ds, .int .i64 e] S fun r S1 => Keep S S1 ∧ r = makeV neg ds e := by
  have hbad : makeOk ds = false → makeV neg ds e = .tuple [numV false [] 0, .int .i64 1] := fun q => by unfold makeV makeR; rw [if_neg (by rw [q]; decide)]
  refine CallQ.of rfl (by kernel_rfl : Tryd.prog.funcs[34]? = some Tryd.f34) rfl (by decide) ?_
  conv => whnf
  refine brSEq (fun h0 => ?_) (fun h0 => ?_)
  · have h0 : ds = [] := h0
    rw [hbad (by unfold makeOk; rw [decide_eq_true h0]; rfl)]
    conv => whnf
    refine ⟨_, _, cells_new _ _, store_agg rfl rfl rfl, ?_⟩
    conv => whnf
    refine ⟨_, num_load (cells_set _ _ _), ?_⟩
    conv => whnf
    exact ⟨((Keep.refl S).new _).set _ _ (Nat.le_refl _), rfl⟩
  have h0 : ds ≠ [] := h0
  conv => whnf
  refine br (fun h1 => ?_) (fun h1 => ?_)
  · rw [hbad (by unfold makeOk; rw [decide_eq_false (show ¬ ds.length ≤ 4096 by omega)]; simp)]
    conv => whnf
    refine ⟨_, _, cells_new _ _, store_agg rfl rfl rfl, ?_⟩
    conv => whnf
    refine ⟨_, num_load (cells_set _ _ _), ?_⟩
    conv => whnf
    exact ⟨((Keep.refl S).new _).set _ _ (Nat.le_refl _), rfl⟩
  have h1 : ds.length ≤ 4096 := by omega
  conv => whnf
  refine CallQ.mono (t51 h ds hl _) ?_
  rintro r S1 ⟨k1, rfl⟩
  have n1 : S.next + 1 ≤ S1.next := k1.next
  have c1 := (kcells k1 (Nat.lt_succ_self S.next)).trans (cells_new _ _)
  have k01 : Keep S S1 := ⟨by omega, fun j hj => by rw [k1.mem j (Nat.lt_succ_of_lt hj)]; exact mem_new_ne rfl (by omega)⟩
  clear k1
  conv => whnf
  refine brSNe (fun h2 => ?_) (fun h2 => ?_)
  · have h2 : ds.all isD = false := by
      cases hq : ds.all isD
      · rfl
      · exact absurd (by rw [trim_all]; exact hq) h2
    rw [hbad (by unfold makeOk; rw [h2, Bool.and_false])]
    conv => whnf
    refine ⟨_, _, c1, store_agg rfl rfl rfl, ?_⟩
    conv => whnf
    refine ⟨_, num_load (cells_set _ _ _), ?_⟩
    conv => whnf
    exact ⟨k01.set _ _ (Nat.le_refl _), rfl⟩
  have h2 : ds.all isD = true := by
    have : trimS ds = [] := h2
    rwa [trim_all] at this
  have hok : makeOk ds = true := by unfold makeOk; rw [decide_eq_false h0, decide_eq_true h1, h2]; rfl
  conv => whnf
  refine CallQ.mono (t52 h ds hl S1) ?_
  rintro r S2 ⟨rfl, rfl⟩
  conv => whnf
  refine brSEq (fun h3 => ?_) (fun h3 => ?_)
  · have h3 : tr0 ds = [] := h3
    rw [show makeV neg ds e = .tuple [numV false [48] 0, .int .i64 0] by unfold makeV makeR; rw [if_pos hok, if_pos h3]]
    conv => whnf
    refine ⟨_, _, c1, store_agg rfl rfl rfl, ?_⟩
    conv => whnf
    refine ⟨_, num_load (cells_set _ _ _), ?_⟩
    conv => whnf
    exact ⟨k01.set _ _ (Nat.le_refl _), rfl⟩
  have h3 : tr0 ds ≠ [] := h3
  have htl := tr_len ds
  have htl2 := tl_len (tr0 ds)
  conv => whnf
  refine CallQ.mono (t53 h (tr0 ds) S2) ?_
  rintro r S3 ⟨rfl, rfl⟩
  have wE : IntKind.i64.wrap (IntKind.i64.wrap ((if (1048576 : Int) < (if (-1048576 : Int) > e then (-1048576 : Int) else e) then (1048576 : Int) else (if (-1048576 : Int) > e then (-1048576 : Int) else e)) + (ds.length : Int)) - ((tr0 ds).length : Int)) = madeE ds e := by
    have hq : (if (1048576 : Int) < (if (-1048576 : Int) > e then (-1048576 : Int) else e) then (1048576 : Int) else (if (-1048576 : Int) > e then (-1048576 : Int) else e)) = nearE e := by
      unfold nearE
      split <;> split at * <;> omega
    rw [hq]
    have hb : -1048576 ≤ nearE e ∧ nearE e ≤ 1048576 := by unfold nearE; omega
    unfold madeE
    rw [wrap_i64 (x := nearE e + (ds.length : Int)) (by omega) (by omega), wrap_i64 (by omega) (by omega)]
  conv => whnf
  rw [wE]
  refine ⟨_, _, cells_new _ _, store_agg rfl rfl rfl, ?_⟩
  conv => whnf
  generalize hT : (S3.new _).set _ _ = T
  have kT : Keep S3 T := by rw [← hT]; exact ((Keep.refl S3).new _).set _ _ (Nat.le_refl _)
  have cT : T.cells S3.next = some [.bool neg, .str (tl0 (tr0 ds)), .int .i64 (madeE ds e)] := by rw [← hT, cells_set]
  have pT : S3.next < T.next := by rw [← hT]; exact Nat.lt_succ_self _
  clear hT
  have c2 := (kcells kT (show S.next < S3.next by omega)).trans c1
  have kT2 := k01.trans kT
  refine ⟨_, cT, ?_⟩
  conv => whnf
  refine CallQ.mono (t54 h neg (tl0 (tr0 ds)) (madeE ds e) (by omega) T) ?_
  rintro r S4 ⟨k4, rfl⟩
  have c4 := (kcells k4 (show S.next < T.next by have := kT.next; omega)).trans c2
  have cN := (kcells k4 pT).trans cT
  have kk := kT2.trans k4
  cases hr : rightN neg (tl0 (tr0 ds)) (madeE ds e)
  · rw [show makeV neg ds e = .tuple [numV false [] 0, .int .i64 11] by unfold makeV makeR; rw [if_pos hok, if_neg h3, if_neg (by rw [hr]; decide)]]
    conv => whnf
    refine ⟨_, _, c4, store_agg rfl rfl rfl, ?_⟩
    conv => whnf
    refine ⟨_, num_load (cells_set _ _ _), ?_⟩
    conv => whnf
    exact ⟨kk.set _ _ (Nat.le_refl _), rfl⟩
  · rw [show makeV neg ds e = .tuple [numV neg (tl0 (tr0 ds)) (madeE ds e), .int .i64 0] by unfold makeV makeR; rw [if_pos hok, if_neg h3, if_pos hr]]
    conv => whnf
    refine ⟨_, cN, ?_⟩
    conv => whnf
    refine ⟨_, _, c4, store_agg rfl rfl rfl, ?_⟩
    conv => whnf
    refine ⟨_, num_load (cells_set _ _ _), ?_⟩
    conv => whnf
    exact ⟨kk.set _ _ (Nat.le_refl _), rfl⟩
end Go.Proofs.YtojgnofagkekeaaDoor
namespace Go.Proofs.YtojgnofagkekeaaDoor
open Go.Proofs.YtojgnofagkekeaaDoor.VM Go.RowKit
set_option maxRecDepth 100000
set_option linter.unusedVariables false
set_option maxHeartbeats 4000000
theorem t58 (h : Bool) (c : UInt8) (S : St) : CallQ Tryd.prog (NC h) 58 [.int .u8 c.toNat] S fun r S1 => S1 = S ∧ r = .bool (isD c) := by
  have hc := c.toNat_lt
  refine CallQ.of rfl (by kernel_rfl : Tryd.prog.funcs[58]? = some Tryd.f58) rfl (by decide) ?_
  conv => whnf
  refine br (fun h1 => ?_) (fun h1 => ?_)
  · conv => whnf
    refine br (fun h2 => ?_) (fun h2 => ?_)
    · conv => whnf
      exact ⟨rfl, by rw [isD_yes (by omega) (by omega)]; rfl⟩
    · conv => whnf
      exact ⟨rfl, by rw [isD_no (by omega)]; rfl⟩
  · conv => whnf
    exact ⟨rfl, by rw [isD_no (by omega)]; rfl⟩
theorem ends_last {ds : List UInt8} (h : ds ≠ []) : ∃ c, ds[ds.length - 1]? = some c ∧ ends0 ds = is0 c := by
  obtain ⟨x, c, rfl⟩ : ∃ t c, ds = t ++ [c] := ⟨ds.dropLast, ds.getLast h, (List.dropLast_concat_getLast _).symm⟩
  exact ⟨c, by simp, ends_snoc x c⟩
theorem t36 (h : Bool) (neg : Bool) (ds : List UInt8) (e : Int) (S : St) : CallQ Tryd.prog (NC h) 36 [numV neg ds e] S fun r S1 => S1 = S ∧ r = .bool (rightN neg ds e) := by
  unfold rightN
  refine CallQ.of rfl (by kernel_rfl : Tryd.prog.funcs[36]? = some Tryd.f36) rfl (by decide) ?_
  conv => whnf
  refine CallQ.mono (t55 h ds S) ?_
  rintro r S1 ⟨rfl, rfl⟩
  cases hr : rightS ds
  · conv => whnf
    exact ⟨rfl, rfl⟩
  obtain ⟨l1, l2, _⟩ := right_head hr
  conv => whnf
  refine brSEq (fun h1 => ?_) (fun h1 => ?_)
  · have h1 : ds = [48] := h1
    subst h1
    rw [if_pos rfl]
    cases neg
    rotate_left
    · conv => whnf
      exact ⟨rfl, rfl⟩
    conv => whnf
    refine brEq (fun q => ?_) (fun q => ?_)
    · conv => whnf
      exact ⟨rfl, by rw [decide_eq_true q]; rfl⟩
    · conv => whnf
      exact ⟨rfl, by rw [decide_eq_false q]; rfl⟩
  have h1 : ds ≠ [48] := h1
  rw [if_neg h1]
  obtain ⟨c, hc, he⟩ := ends_last (ds := ds) (fun q => by rw [q] at l1; simp at l1)
  rw [he]
  have w0 : IntKind.i64.wrap ((ds.length : Int) - 1) = ((ds.length - 1 : Nat) : Int) := by rw [wrap_i64 (by omega) (by omega)]; omega
  conv => whnf
  rw [w0]
  refine ⟨by omega, c, hc, ?_⟩
  conv => whnf
  refine brNe (fun h2 => ?_) (fun h2 => ?_)
  rotate_left
  · rw [is0_of h2]
    conv => whnf
    exact ⟨rfl, rfl⟩
  rw [is0_not h2]
  conv => whnf
  refine br (fun h2 => ?_) (fun h2 => ?_)
  rotate_left
  · conv => whnf
    exact ⟨rfl, by show AV.bool false = _; rw [decide_eq_false (by omega)]; rfl⟩
  conv => whnf
  refine br (fun h3 => ?_) (fun h3 => ?_)
  · conv => whnf
    exact ⟨rfl, by show AV.bool true = _; rw [decide_eq_true (by omega), decide_eq_true (by omega)]; rfl⟩
  · conv => whnf
    exact ⟨rfl, by show AV.bool false = _; rw [decide_eq_true (show -2000 ≤ e by omega), decide_eq_false (by omega)]; rfl⟩
theorem dropW_all {p : UInt8 → Bool} : ∀ {x y : List UInt8}, (∀ c ∈ x, p c = true) → (x ++ y).dropWhile p = y.dropWhile p
  | [], y, _ => rfl
  | c :: x, y, h => by
    rw [List.cons_append, List.dropWhile_cons, if_pos (h c List.mem_cons_self)]
    exact dropW_all (fun d hd => h d (List.mem_cons_of_mem _ hd))
theorem tl_of {x y : List UInt8} {c : UInt8} (hx : ∀ d ∈ x, is0 d = true) (hc : is0 c = false) : tl0 (x ++ c :: y) = c :: y := by
  unfold tl0
  rw [dropW_all hx, List.dropWhile_cons, if_neg (by rw [hc]; decide)]
theorem tr_of {x y : List UInt8} {c : UInt8} (hy : ∀ d ∈ y, is0 d = true) (hc : is0 c = false) : tr0 ((x ++ [c]) ++ y) = x ++ [c] := by
  unfold tr0
  rw [List.reverse_append, dropW_all (fun d hd => hy d (List.mem_reverse.1 hd)), List.reverse_append, List.reverse_singleton, List.singleton_append, List.dropWhile_cons, if_neg (by rw [hc]; decide)]
  simp
theorem tr_zero {x : List UInt8} (hx : ∀ d ∈ x, is0 d = true) : tr0 x = [] := by
  unfold tr0
  have := dropW_all (y := []) (fun d hd => hx d (List.mem_reverse.1 hd) : ∀ d ∈ x.reverse, is0 d = true)
  rw [List.append_nil] at this
  rw [this]; rfl
theorem far_not {neg : Bool} {ds : List UInt8} {e : Int} (hl : ds.length ≤ 4096) (h : e < -100000 ∨ e > 100000) (hne : tl0 (tr0 ds) ≠ [48]) : rightN neg (tl0 (tr0 ds)) (madeE ds e) = false := by
  have h1 := tr_len ds
  have hb : (nearE e < -100000 ∨ nearE e > 100000) := by unfold nearE; omega
  have hm : madeE ds e < -2000 ∨ madeE ds e > 2000 := by unfold madeE; omega
  unfold rightN
  rw [if_neg hne]
  rcases hm with q | q
  · rw [decide_eq_false (show ¬ -2000 ≤ madeE ds e by omega)]; simp
  · rw [decide_eq_false (show ¬ madeE ds e ≤ 2000 by omega)]; simp
/-- .. and a zero alone is no number but with no exponent. -/
theorem far_not0 {neg : Bool} {ds : List UInt8} {e : Int} (hl : ds.length ≤ 4096) (h : e < -100000 ∨ e > 100000) : rightN neg (tl0 (tr0 ds)) (madeE ds e) = false := by
  by_cases hne : tl0 (tr0 ds) = [48]
  · have h1 := tr_len ds
    have hb : (nearE e < -100000 ∨ nearE e > 100000) := by unfold nearE; omega
    have hm : madeE ds e ≠ 0 := by unfold madeE; omega
    unfold rightN
    rw [if_pos hne, decide_eq_false hm]; simp
  · exact far_not hl h hne
theorem t43 (h : Bool) (neg : Bool) (ds : List UInt8) (e : Int) (hl : ds.length ≤ 2 ^ 47) (S : St) : CallQ Tryd.prog (NC h) 43 [.bool neg, .str ds, .int .i64 e] S fun r S1 => Keep S S1 ∧ r = makeV neg ds e := by
  have hbad : makeOk ds = false → makeV neg ds e = .tuple [numV false [] 0, .int .i64 1] := fun q => by unfold makeV makeR; rw [if_neg (by rw [q]; decide)]
  refine CallQ.of rfl (by kernel_rfl : Tryd.prog.funcs[43]? = some Tryd.f43) rfl (by decide) ?_
  conv => whnf
  refine brSEq (fun h0 => ?_) (fun h0 => ?_)
  · have h0 : ds = [] := h0
    rw [hbad (by unfold makeOk; rw [decide_eq_true h0]; rfl)]
    conv => whnf
    refine ⟨_, _, cells_new _ _, store_agg rfl rfl rfl, ?_⟩
    conv => whnf
    refine ⟨_, num_load (cells_set _ _ _), ?_⟩
    conv => whnf
    exact ⟨((Keep.refl S).new _).set _ _ (Nat.le_refl _), rfl⟩
  have h0 : ds ≠ [] := h0
  conv => whnf
  refine br (fun h1 => ?_) (fun h1 => ?_)
  · rw [hbad (by unfold makeOk; rw [decide_eq_false (show ¬ ds.length ≤ 4096 by omega)]; simp)]
    conv => whnf
    refine ⟨_, _, cells_new _ _, store_agg rfl rfl rfl, ?_⟩
    conv => whnf
    refine ⟨_, num_load (cells_set _ _ _), ?_⟩
    conv => whnf
    exact ⟨((Keep.refl S).new _).set _ _ (Nat.le_refl _), rfl⟩
  have h1 : ds.length ≤ 4096 := by omega
  have hnil := List.length_pos_iff.2 h0
  have k0 : Keep S (S.new (.cells [.bool false, .str [], .int .i64 0])) := (Keep.refl S).new _
  have c0 : (S.new (.cells [.bool false, .str [], .int .i64 0])).cells S.next = some [.bool false, .str [], .int .i64 0] := cells_new _ _
  have p0 : S.next < (S.new (.cells [.bool false, .str [], .int .i64 0])).next := Nat.lt_succ_self _
  conv => whnf
  change CodeQ _ _ _ _ _ (S.new (.cells [.bool false, .str [], .int .i64 0])) _
  generalize S.new (.cells [.bool false, .str [], .int .i64 0]) = T at k0 c0 p0 ⊢
  refine CodeQ.loop (fun (i : Nat) => pat 80 [(0, .bool neg), (1, .str ds), (2, .int .i64 e), (6, .ptr S.next 0), (8, .int .i64 i)]) (fun m i S1 => S1 = T ∧ m = ds.length - i ∧ i ≤ ds.length ∧ ds.all isD = (ds.drop i).all isD) ?_ _ 0 _ _ ⟨rfl, rfl, Nat.zero_le _, rfl⟩ ⟨rfl, rfl, rfl, rfl, rfl, trivial⟩
  rintro m i S1 d ⟨rfl, hm, hi, ha⟩
  dsimp only at *
  conv => whnf
  refine br (fun h5 => ?_) (fun h5 => ?_)
  · have h5 : i < ds.length := by omega
    rw [all_step ds i h5] at ha
    conv => whnf
    refine ⟨by omega, ds.getD i 0, getd h5, ?_⟩
    conv => whnf
    refine CallQ.mono (t58 h (ds.getD i 0) S1) ?_
    rintro r S2 ⟨rfl, rfl⟩
    cases hd : isD (ds.getD i 0)
    · rw [hd] at ha
      rw [hbad (by unfold makeOk; rw [ha, Bool.false_and, Bool.and_false])]
      conv => whnf
      refine ⟨_, _, c0, store_agg rfl rfl rfl, ?_⟩
      conv => whnf
      refine ⟨_, num_load (cells_set _ _ _), ?_⟩
      conv => whnf
      exact ⟨k0.set _ _ (Nat.le_refl _), rfl⟩
    rw [hd, Bool.true_and] at ha
    conv => whnf
    refine ⟨ds.length - (i + 1), i + 1, by omega, ⟨rfl, rfl, h5, ha⟩, ⟨rfl, rfl, rfl, rfl, by rw [wrap_i64 (by omega) (by omega)]; rfl, trivial⟩⟩
  have h2 : ds.all isD = true := by rw [ha, List.drop_eq_nil_of_le (by omega)]; rfl
  have hok : makeOk ds = true := by unfold makeOk; rw [decide_eq_false h0, decide_eq_true h1, h2]; rfl
  clear ha hi hm h5
  conv => whnf
  refine CodeQ.loop (fun (q : List UInt8 × List UInt8) => pat 80 [(0, .bool neg), (1, .str ds), (2, .int .i64 e), (6, .ptr S.next 0), (9, .int .i64 q.1.length), (10, .int .i64 ds.length)]) (fun m q S2 => S2 = S1 ∧ m = q.2.length ∧ ds = q.1 ++ q.2 ∧ ∀ c ∈ q.1, is0 c = true) ?_ _ ([], ds) _ _ ⟨rfl, rfl, rfl, by simp⟩ ⟨rfl, rfl, rfl, rfl, rfl, rfl, trivial⟩
  rintro m ⟨x, y⟩ S2 d2 ⟨rfl, hm, hxy, hx⟩
  dsimp only at *
  have hlen := congrArg List.length hxy
  rw [List.length_append] at hlen
  conv => whnf
  refine br (fun h5 => ?_) (fun h5 => ?_)
  rotate_left
  · obtain rfl : y = [] := List.length_eq_zero_iff.1 (by omega)
    rw [List.append_nil] at hxy
    have h3 : tr0 ds = [] := by rw [hxy]; exact tr_zero hx
    rw [show makeV neg ds e = .tuple [numV false [48] 0, .int .i64 0] by unfold makeV makeR; rw [if_pos hok, if_pos h3]]
    conv => whnf
    refine brEq (fun _ => ?_) (fun q => absurd (by rw [hxy]) q)
    conv => whnf
    refine ⟨_, _, c0, store_agg rfl rfl rfl, ?_⟩
    conv => whnf
    refine ⟨_, num_load (cells_set _ _ _), ?_⟩
    conv => whnf
    exact ⟨k0.set _ _ (Nat.le_refl _), rfl⟩
  obtain ⟨c, y, rfl⟩ : ∃ c t, y = c :: t := by cases y with | nil => simp at hlen; omega | cons c t => exact ⟨c, t, rfl⟩
  have hlen2 : (c :: y).length = y.length + 1 := rfl
  conv => whnf
  refine ⟨by omega, c, by rw [hxy]; simp, ?_⟩
  conv => whnf
  refine brEq (fun h6 => ?_) (fun h6 => ?_)
  · conv => whnf
    refine ⟨y.length, (x ++ [c], y), by omega, ⟨rfl, rfl, by rw [hxy]; simp, fun d hd => ?_⟩, ⟨rfl, rfl, rfl, rfl, by rw [wrap_i64 (by omega) (by omega)]; simp, rfl, trivial⟩⟩
    rcases List.mem_append.1 hd with q | q
    · exact hx d q
    · obtain rfl : d = c := by simpa using q
      exact is0_of h6
  have hc := is0_not h6
  conv => whnf
  refine brEq (fun q => absurd q (by omega)) (fun _ => ?_)
  conv => whnf
  refine CodeQ.loop (fun (q : List UInt8 × List UInt8) => pat 80 [(0, .bool neg), (1, .str ds), (2, .int .i64 e), (6, .ptr S.next 0), (9, .int .i64 x.length), (10, .int .i64 (x.length + 1 + q.1.length : Nat))]) (fun m q S3 => S3 = S2 ∧ m = q.1.length ∧ ds = (x ++ c :: q.1) ++ q.2 ∧ ∀ c ∈ q.2, is0 c = true) ?_ _ (y, []) _ _ ⟨rfl, rfl, by rw [hxy]; simp, by simp⟩ ⟨rfl, rfl, rfl, rfl, rfl, by show AV.int .i64 (ds.length : Int) = AV.int .i64 ((x.length + 1 + y.length : Nat) : Int); congr 2; omega, trivial⟩
  clear hm d2 hlen hlen2 h5 h6
  have hxy0 := hxy
  rintro m ⟨u, z⟩ S3 d3 ⟨rfl, hm, hxy, hz⟩
  dsimp only at *
  have hlen := congrArg List.length hxy
  have hlen2 : (x ++ c :: u).length = x.length + 1 + u.length := by simp; omega
  rw [List.length_append, hlen2] at hlen
  have w0 : IntKind.i64.wrap (((x.length + 1 + u.length : Nat) : Int) - 1) = ((x.length + u.length : Nat) : Int) := by rw [wrap_i64 (by omega) (by omega)]; omega
  have hex : ∃ w g, x ++ c :: u = w ++ [g] ∧ w.length = x.length + u.length ∧ (u ≠ [] → ∃ u', u = u' ++ [g] ∧ w = x ++ c :: u') ∧ (u = [] → g = c) := by
    rcases (by by_cases q : u = []; exact .inl q; exact .inr ⟨u.dropLast, u.getLast q, (List.dropLast_concat_getLast q).symm⟩ : u = [] ∨ ∃ u' g, u = u' ++ [g]) with rfl | ⟨u', g, rfl⟩
    · exact ⟨x, c, rfl, by simp, fun q => absurd rfl q, fun _ => rfl⟩
    · exact ⟨x ++ c :: u', g, by simp, by simp; try omega, fun _ => ⟨u', rfl, rfl⟩, fun q => by simp at q⟩
  obtain ⟨w, g, hw, hwl, hwu, hwn⟩ := hex
  conv => whnf
  rw [w0]
  refine ⟨by omega, g, ?_, ?_⟩
  · rw [hxy, hw, ← hwl, Int.toNat_natCast]; simp
  conv => whnf
  refine brEq (fun h6 => ?_) (fun h6 => ?_)
  · have hg := is0_of h6
    have hune : u ≠ [] := fun q => by rw [hwn q, hc] at hg; cases hg
    obtain ⟨u', hu, hw2⟩ := hwu hune
    have hul : u.length = u'.length + 1 := by rw [hu]; simp
    conv => whnf
    refine ⟨u'.length, (u', g :: z), by omega, ⟨rfl, rfl, by rw [hxy, hu]; simp, fun d hd => ?_⟩, ⟨rfl, rfl, rfl, rfl, rfl, by rw [w0]; show AV.int .i64 ((x.length + u.length : Nat) : Int) = AV.int .i64 ((x.length + 1 + u'.length : Nat) : Int); congr 2; omega, trivial⟩⟩
    rcases List.mem_cons.1 hd with rfl | q
    · exact hg
    · exact hz d q
  have hg := is0_not h6
  have hTR : tr0 ds = x ++ c :: u := by rw [hxy, hw]; exact tr_of hz hg
  have hTL : tl0 (tr0 ds) = c :: u := by rw [hTR]; exact tl_of hx hc
  have htrl : (tr0 ds).length = x.length + 1 + u.length := by rw [hTR, hlen2]
  have h3 : tr0 ds ≠ [] := fun q => by rw [q] at htrl; simp at htrl; omega
  have hno : rightN neg (tl0 (tr0 ds)) (madeE ds e) = false → makeV neg ds e = .tuple [numV false [] 0, .int .i64 11] := fun q => by unfold makeV makeR; rw [if_pos hok, if_neg h3, if_neg (by rw [q]; decide)]
  conv => whnf
  refine br (fun h7 => ?_) (fun h7 => ?_)
  · rw [hno (far_not0 h1 (.inl h7))]
    conv => whnf
    refine ⟨_, _, c0, store_agg rfl rfl rfl, ?_⟩
    conv => whnf
    refine ⟨_, num_load (cells_set _ _ _), ?_⟩
    conv => whnf
    exact ⟨k0.set _ _ (Nat.le_refl _), rfl⟩
  conv => whnf
  refine br (fun h8 => ?_) (fun h8 => ?_)
  · rw [hno (far_not0 h1 (.inr h8))]
    conv => whnf
    refine ⟨_, _, c0, store_agg rfl rfl rfl, ?_⟩
    conv => whnf
    refine ⟨_, num_load (cells_set _ _ _), ?_⟩
    conv => whnf
    exact ⟨k0.set _ _ (Nat.le_refl _), rfl⟩
  have hsl : sliceA Tryd.prog 9 (.str ds) (some (.int .i64 (x.length : Nat))) (some (.int .i64 (x.length + 1 + u.length : Nat))) none = some (.str (c :: u)) := by
    unfold sliceA
    simp only [und9, Option.isSome_none, Bool.false_eq_true, if_false, boundA]
    rw [if_pos ⟨by omega, by omega⟩]
    simp only [Option.bind_some]
    rw [if_pos ⟨by omega, by omega⟩]
    simp only [Option.bind_some, Int.toNat_natCast]
    rw [hxy, List.take_append_of_le_length (by omega), List.take_of_length_le (by omega), List.drop_left]
  have wE : IntKind.i64.wrap (IntKind.i64.wrap (e + (ds.length : Int)) - ((x.length + 1 + u.length : Nat) : Int)) = madeE ds e := by
    unfold madeE nearE
    rw [htrl, wrap_i64 (x := e + (ds.length : Int)) (by omega) (by omega), wrap_i64 (by omega) (by omega)]
    omega
  conv => whnf
  refine ⟨_, hsl, ?_⟩
  conv => whnf
  rw [wE]
  refine ⟨_, _, cells_new _ _, store_agg rfl rfl rfl, ?_⟩
  conv => whnf
  generalize hT : (S3.new _).set _ _ = T
  have kT : Keep S3 T := by rw [← hT]; exact ((Keep.refl S3).new _).set _ _ (Nat.le_refl _)
  have cT : T.cells S3.next = some [.bool neg, .str (c :: u), .int .i64 (madeE ds e)] := by rw [← hT, cells_set]
  clear hT
  have c2 := (kcells kT p0).trans c0
  have kT2 := k0.trans kT
  refine ⟨_, cT, ?_⟩
  conv => whnf
  refine CallQ.mono (t36 h neg (c :: u) (madeE ds e) T) ?_
  rintro r S4 ⟨rfl, rfl⟩
  rw [← hTL] at cT ⊢
  cases hr : rightN neg (tl0 (tr0 ds)) (madeE ds e)
  · rw [hno hr]
    conv => whnf
    refine ⟨_, _, c2, store_agg rfl rfl rfl, ?_⟩
    conv => whnf
    refine ⟨_, num_load (cells_set _ _ _), ?_⟩
    conv => whnf
    exact ⟨kT2.set _ _ (Nat.le_refl _), rfl⟩
  · rw [show makeV neg ds e = .tuple [numV neg (tl0 (tr0 ds)) (madeE ds e), .int .i64 0] by unfold makeV makeR; rw [if_pos hok, if_neg h3, if_pos hr]]
    conv => whnf
    refine ⟨_, cT, ?_⟩
    conv => whnf
    refine ⟨_, _, c2, store_agg rfl rfl rfl, ?_⟩
    conv => whnf
    refine ⟨_, num_load (cells_set _ _ _), ?_⟩
    conv => whnf
    exact ⟨kT2.set _ _ (Nat.le_refl _), rfl⟩
end Go.Proofs.YtojgnofagkekeaaDoor
