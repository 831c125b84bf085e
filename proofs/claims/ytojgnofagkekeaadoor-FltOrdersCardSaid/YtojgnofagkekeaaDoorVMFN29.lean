import Derived.Test.YtojgnofagkekeaaDoorVMFN26
namespace Go.Proofs.YtojgnofagkekeaaDoor
open Go.Proofs.YtojgnofagkekeaaDoor.VM Go.RowKit
set_option maxRecDepth 100000
set_option linter.unusedVariables false
set_option maxHeartbeats 4000000
theorem cmp_anti : ∀ (a b : List UInt8), Lib.compareBytes a b = -1 → Lib.compareBytes b a = 1
  | [], [], h => by cases h
  | [], _ :: _, _ => rfl
  | _ :: _, [], h => by cases h
  | x :: a, y :: b, h => by
    unfold Lib.compareBytes at h ⊢
    split at h
    · rename_i q
      have q : x.toNat < y.toNat := q
      rw [if_neg (by show ¬ y.toNat < x.toNat; omega), if_pos (by show x.toNat < y.toNat; omega)]
    · rename_i q1
      split at h
      · cases h
      · rename_i q2
        rw [if_neg q2, if_neg q1]
        exact cmp_anti a b h
theorem right_len {a : List UInt8} (h : rightS a = true) : a = decD (valD a) := (dec_valD h).symm
/-- Of two right texts the one that stands ahead is the less number. -/
theorem ord_val {a b : List UInt8} (ha : rightS a = true) (hb : rightS b = true) : (ordS a b < 0 → valD a < valD b) ∧ (¬ ordS a b < 0 → valD b ≤ valD a) := by
  have key : ∀ {a b : List UInt8}, rightS a = true → rightS b = true → a.length < b.length → valD a < valD b := by
    intro a b ha hb hl
    have h1 := valD_lt (right_all ha).2
    have h2 : a.length < (decD (valD b)).length := by rw [dec_valD hb]; exact hl
    rcases dec_long.1 h2 with ⟨_, q⟩ | q
    · omega
    · have := (right_head ha).1; omega
  unfold ordS
  split
  · rename_i hl
    rcases cmp_val a b with q | q | q
    · have h1 := cmp_val_gt b a hl.symm (right_all hb).2 (right_all ha).2 (cmp_anti a b q) 0
      rw [q]
      exact ⟨fun _ => h1, fun h => absurd (by decide) h⟩
    · have := cmp_zero q
      subst this
      rw [q]
      exact ⟨fun h => absurd h (by decide), fun _ => Nat.le_refl _⟩
    · have h1 := cmp_val_gt a b hl (right_all ha).2 (right_all hb).2 q 0
      rw [q]
      exact ⟨fun h => absurd h (by decide), fun _ => Nat.le_of_lt h1⟩
  · rename_i hl
    split
    · rename_i hl2
      exact ⟨fun _ => key ha hb hl2, fun h => absurd (by decide) h⟩
    · exact ⟨fun h => absurd h (by decide), fun _ => Nat.le_of_lt (key hb ha (by omega))⟩
theorem add_step {zs : List Nat} {i y V W : Nat} (h : i < zs.length) (e : valB 1000000000 zs = V + W) : valB 1000000000 (zs.set i (zs[i] + y)) = V + (W + 1000000000 ^ i * y) := by
  have h1 := valB_set 1000000000 zs i (zs[i] + y) h
  rw [Nat.mul_add] at h1
  omega
theorem sub_step {zs ys : List Nat} {i o o2 v y V : Nat} (h : i < zs.length) (hy : y = ys.getD i 0) (hv : v + o + y = zs[i] + 1000000000 * o2) (e : valB 1000000000 zs + valB 1000000000 (ys.take i) = V + 1000000000 ^ i * o) :
    valB 1000000000 (zs.set i v) + valB 1000000000 (ys.take (i + 1)) = V + 1000000000 ^ (i + 1) * o2 := by
  have h1 := valB_set 1000000000 zs i v h
  have h2 := congrArg (1000000000 ^ i * ·) hv
  simp only [Nat.mul_add] at h2
  rw [← Nat.mul_assoc _ 1000000000] at h2
  have h3 : valB 1000000000 (ys.take (i + 1)) = valB 1000000000 (ys.take i) + 1000000000 ^ i * y := by
    rcases Nat.lt_or_ge i ys.length with q | q
    · rw [valB_take_succ _ _ _ q, hy, getD_get q]
    · rw [hy, List.take_of_length_le q, List.take_of_length_le (by omega)]
      simp [List.getD, List.getElem?_eq_none q]
  rw [h3, Nat.pow_succ]
  omega
/-- What may be taken from what. -/
def subOk (a b : List UInt8) : Bool := rightS a && rightS b && !decide (ordS a b < 0)
end Go.Proofs.YtojgnofagkekeaaDoor
namespace Go.Proofs.YtojgnofagkekeaaDoor
open Go.Proofs.YtojgnofagkekeaaDoor.VM Go.RowKit
set_option maxRecDepth 100000
set_option linter.unusedVariables false
set_option maxHeartbeats 4000000
theorem dec_long800 {n : Nat} (h : 10 ^ 800 ≤ n) : ¬ (decD n).length ≤ 800 := by
  have := dec_long.2 (.inl ⟨by decide, h⟩ : 0 < 800 ∧ 10 ^ 800 ≤ n ∨ 800 = 0)
  omega
/-- Powers. -/
def powOk (b n : Int) : Bool := decide (0 ≤ b ∧ b ≤ 1000000 ∧ 0 ≤ n ∧ n ≤ 4000)
theorem t31 (y n : Int) (S : St) : CallQ Tryd.prog (NC true) 31 [.int .i64 y, .int .i64 n] S fun r S1 => Keep S S1 ∧ r = .tuple [.str (arS (powOk y n) (y.toNat ^ n.toNat)), .int .i64 (arE (powOk y n) (y.toNat ^ n.toNat))] := by
  refine CallQ.of rfl (by kernel_rfl : Tryd.prog.funcs[31]? = some Tryd.f31) rfl (by decide) ?_
  conv => whnf
  refine br (fun h1 => ?_) (fun h1 => ?_)
  · conv => whnf
    exact ⟨.refl _, by unfold powOk; rw [decide_eq_false (by omega)]; rfl⟩
  conv => whnf
  refine br (fun h2 => ?_) (fun h2 => ?_)
  · conv => whnf
    exact ⟨.refl _, by unfold powOk; rw [decide_eq_false (by omega)]; rfl⟩
  conv => whnf
  refine br (fun h3 => ?_) (fun h3 => ?_)
  · conv => whnf
    exact ⟨.refl _, by unfold powOk; rw [decide_eq_false (by omega)]; rfl⟩
  conv => whnf
  refine br (fun h4 => ?_) (fun h4 => ?_)
  · conv => whnf
    exact ⟨.refl _, by unfold powOk; rw [decide_eq_false (by omega)]; rfl⟩
  have hok : powOk y n = true := decide_eq_true ⟨by omega, by omega, by omega, by omega⟩
  rw [hok]
  obtain ⟨y, rfl⟩ : ∃ z : Nat, y = z := ⟨y.toNat, by omega⟩
  obtain ⟨n, rfl⟩ : ∃ z : Nat, n = z := ⟨n.toNat, by omega⟩
  rw [Int.toNat_natCast, Int.toNat_natCast]
  conv => whnf
  rw [wrap_u64 (by omega) (by omega)]
  have m0 : ((S.new (.cells [.int .u64 1])).new (.cells [.int .u64 y])).mem S.next = some (.cells (nn .u64 [1] ++ [])) := mem_new_ne (mem_new _ _) (by show S.next ≠ S.next + 1; omega)
  have m1 : ((S.new (.cells [.int .u64 1])).new (.cells [.int .u64 y])).mem (S.next + 1) = some (.cells (nn .u64 [y] ++ [])) := mem_new _ _
  have hp1 : placesB 1000000000 (y ^ 0) = [1] := by rw [Nat.pow_zero, placesB_pos (by decide) (by decide), Nat.mod_eq_of_lt (by decide), Nat.div_eq_of_lt (by decide), placesB_zero]
  have hh0 : HdB S.next ((S.new (.cells [.int .u64 1])).new (.cells [.int .u64 y])) (.hnd S.next 0 1 1) (nn .u64 (placesB 1000000000 (y ^ 0))) := by
    rw [hp1]
    exact ⟨nn_nums _ _, .inr ⟨S.next, [], Nat.le_refl _, by show S.next < S.next + 1 + 1; omega, rfl, m0, .nil⟩⟩
  have hk0 : Keep S ((S.new (.cells [.int .u64 1])).new (.cells [.int .u64 y])) := ((Keep.refl S).new _).new _
  refine CodeQ.loop (fun (q : AV × Nat) => pat 40 [(6, q.1), (7, .hnd (S.next + 1) 0 1 1), (26, .int .i64 n), (27, .int .i64 q.2)])
    (fun m q S1 => m = n - q.2 ∧ q.2 ≤ n ∧ Keep S S1 ∧ S.next + 1 < S1.next ∧ S1.mem (S.next + 1) = some (.cells (nn .u64 [y] ++ [])) ∧ HdB S.next S1 q.1 (nn .u64 (placesB 1000000000 (y ^ q.2))) ∧ (placesB 1000000000 (y ^ q.2)).length ≤ 89)
    ?_ _ (.hnd S.next 0 1 1, 0) _ _ ⟨rfl, Nat.zero_le _, hk0, by show S.next + 1 < S.next + 1 + 1; omega, m1, hh0, by rw [hp1]; decide⟩ ⟨rfl, rfl, rfl, rfl, trivial⟩
  clear m0 m1 hh0 hk0
  rintro m ⟨v, i⟩ S1 d ⟨rfl, hi, k1, n1, mb, hv, hl⟩
  dsimp only at *
  conv => whnf
  refine br (fun h5 => ?_) (fun h5 => ?_)
  rotate_left
  · obtain rfl : i = n := by omega
    conv => whnf
    refine CallQ.mono (t48 S.next v _ S1 hv k1.next (fun z q => Nat.lt_trans (placesB_lt (by decide) _ z q) (by decide)) (by omega)) ?_
    rintro r S3 ⟨t3, rfl⟩
    rw [valB_places (by decide)]
    conv => whnf
    exact ⟨t3.keep k1 hv, rfl⟩
  have h5 : i < n := by omega
  conv => whnf
  refine CallQ.mono (t47 true S.next v _ [y] (S.next + 1) [] S1 hv mb n1 (placesB_lt (by decide) _) (by simp; omega) (by omega) (by simp)) ?_
  rintro r S2 ⟨g1, k2⟩
  rw [valB_places (by decide), valB_one, show y ^ i * y = y ^ (i + 1) from rfl] at g1
  have g2 := g1.low k1.next
  have kk := k1.trans k2
  have mb2 : S2.mem (S.next + 1) = some (.cells (nn .u64 [y] ++ [])) := by rw [k2.mem _ n1]; exact mb
  have hn2 := k2.next
  have hbig : 89 < (placesB 1000000000 (y ^ (i + 1))).length → arS true (y ^ n) = [] ∧ arE true (y ^ n) = 11 := fun q => by
    have h1 := places_len_ge (b := 1000000000) (by decide) 89 _ q
    have h2 : y ^ (i + 1) ≤ y ^ n := by
      rcases Nat.eq_zero_or_pos y with e | e
      · subst e
        rw [Nat.zero_pow (by omega)] at h1
        exact absurd h1 (by decide +kernel)
      · exact Nat.pow_le_pow_right e h5
    have h3 : (10 : Nat) ^ 800 ≤ 1000000000 ^ 89 := by decide +kernel
    have h4 := dec_long800 (Nat.le_trans h3 (Nat.le_trans h1 h2))
    unfold arS arE shortS shortE
    rw [if_pos rfl, if_pos rfl, if_neg h4, if_neg h4]
    exact ⟨rfl, rfl⟩
  obtain ⟨_, ⟨rfl, q⟩ | ⟨n3, r3, p1, p2, rfl, p4, p5⟩⟩ := g1
  · have hl0 : (placesB 1000000000 (y ^ (i + 1))).length = 0 := by rw [List.map_eq_nil_iff.1 q]; rfl
    conv => whnf
    refine br (fun h6 => absurd h6 (by decide)) (fun _ => ?_)
    conv => whnf
    refine ⟨n - (i + 1), (_, i + 1), by omega, ⟨rfl, h5, kk, by omega, mb2, g2, by show (placesB 1000000000 (y ^ (i + 1))).length ≤ 89; omega⟩, ⟨rfl, rfl, rfl, by rw [wrap_i64 (by omega) (by omega)]; rfl, trivial⟩⟩
  · rw [nn_len] at g2 ⊢
    conv => whnf
    refine br (fun h6 => ?_) (fun h6 => ?_)
    · obtain ⟨e1, e2⟩ := hbig (by omega)
      rw [e1, e2]
      conv => whnf
      exact ⟨kk, rfl⟩
    conv => whnf
    refine ⟨n - (i + 1), (_, i + 1), by omega, ⟨rfl, h5, kk, by omega, mb2, g2, by show (placesB 1000000000 (y ^ (i + 1))).length ≤ 89; omega⟩, ⟨rfl, rfl, rfl, by rw [wrap_i64 (by omega) (by omega)]; rfl, trivial⟩⟩
/-- Bytes' number. -/
def bstep (n : Nat) (c : UInt8) : Nat := n * 256 + c.toNat
def valY (bs : List UInt8) : Nat := bs.foldl bstep 0
theorem valY_lt : ∀ bs : List UInt8, valY bs < 256 ^ bs.length := by
  have key : ∀ (bs : List UInt8) (m k : Nat), m < 256 ^ k → bs.foldl bstep m < 256 ^ (k + bs.length) := by
    intro bs
    induction bs with
    | nil => intro m k h; exact h
    | cons c bs ih =>
      intro m k h
      have hc := c.toNat_lt
      have := ih (bstep m c) (k + 1) (by unfold bstep; rw [Nat.pow_succ]; omega)
      rw [List.foldl_cons, List.length_cons]
      rwa [show k + (bs.length + 1) = k + 1 + bs.length by omega]
  intro bs
  have := key bs 0 0 (by decide)
  rwa [Nat.zero_add] at this
theorem valY_take (s : List UInt8) (i : Nat) (h : i < s.length) : valY (s.take (i + 1)) = valY (s.take i) * 256 + (s.getD i 0).toNat := by
  unfold valY
  rw [List.take_succ_eq_append_getElem h, List.foldl_append, List.getD_eq_getElem?_getD, List.getElem?_eq_getElem h]
  rfl
def bytesOk (bs : List UInt8) : Bool := decide (bs.length ≤ 400)
/-- The number of bytes, if they are not too many. -/
def fromS (bs : List UInt8) : List UInt8 := if bs.length ≤ 400 then shortS (valY bs) else []
def fromE (bs : List UInt8) : Int := if bs.length ≤ 400 then shortE (valY bs) else 11
theorem places_mul {n m k : Nat} (h : (placesB 1000000000 n).length ≤ k) (hm : m < 1000000000) : (placesB 1000000000 (n * m)).length ≤ k + 1 := by
  refine places_len (by decide) (k + 1) _ ?_
  have := valB_lt (placesB_lt (b := 1000000000) (by decide) n)
  rw [valB_places (by decide)] at this
  have h2 := Nat.pow_le_pow_right (show 0 < 1000000000 by decide) h
  rw [Nat.pow_succ]
  exact Nat.mul_lt_mul'' (Nat.lt_of_lt_of_le this h2) hm
end Go.Proofs.YtojgnofagkekeaaDoor
namespace Go.Proofs.YtojgnofagkekeaaDoor
open Go.Proofs.YtojgnofagkekeaaDoor.VM Go.RowKit
set_option maxRecDepth 100000
set_option linter.unusedVariables false
set_option maxHeartbeats 4000000
/-- A written list, whole in its array, or none. -/
def HdX (b : Nat) (S : St) (v : AV) (xs : List AV) : Prop := Nums xs ∧ ((v = .nils ∧ xs = []) ∨ ∃ n, b ≤ n ∧ n < S.next ∧ v = .hnd n 0 xs.length 1 ∧ S.mem n = some (.cells xs))
theorem HdX.hdB {b : Nat} {S : St} {v : AV} {xs : List AV} (h : HdX b S v xs) : HdB b S v xs := by
  obtain ⟨h0, h1 | ⟨n, h1, h2, h3, h4⟩⟩ := h
  · exact ⟨h0, .inl h1⟩
  · exact ⟨h0, .inr ⟨n, [], h1, h2, h3, by rw [List.append_nil]; exact h4, .nil⟩⟩
theorem HdX.keep {b : Nat} {S S1 : St} {v : AV} {xs : List AV} (h : HdX b S v xs) (k : Keep S S1) : HdX b S1 v xs := by
  obtain ⟨h0, h1 | ⟨n, h1, h2, h3, h4⟩⟩ := h
  · exact ⟨h0, .inl h1⟩
  · exact ⟨h0, .inr ⟨n, h1, Nat.lt_of_lt_of_le h2 k.next, h3, by rw [k.mem n h2]; exact h4⟩⟩
/-- .. as its cells tell. -/
def HdC (b : Nat) (S : St) (v : AV) (xs : List AV) : Prop := (v = .nils ∧ xs = []) ∨ ∃ n, b ≤ n ∧ n < S.next ∧ v = .hnd n 0 xs.length 1 ∧ S.cells n = some xs
theorem HdC.keep {b : Nat} {S S1 : St} {v : AV} {xs : List AV} (h : HdC b S v xs) (k : Keep S S1) : HdC b S1 v xs := by
  obtain h1 | ⟨n, h1, h2, h3, h4⟩ := h
  · exact .inl h1
  · exact .inr ⟨n, h1, Nat.lt_of_lt_of_le h2 k.next, h3, by rw [kcells k h2]; exact h4⟩
theorem HdC.shed {b : Nat} {S : St} {v : AV} {xs : List AV} (h : HdC b S v xs) : v.shed = v := by
  obtain ⟨rfl, rfl⟩ | ⟨n, _, _, rfl, _⟩ := h <;> rfl
theorem rev_hdX (h : Bool) (b : Nat) (v : AV) (xs : List AV) (S : St) (hv : HdX b S v xs) (hl : xs.length ≤ 2 ^ 40) : CallQ Tryd.prog (NC h) 50 [v] S fun r S1 => HdC b S1 v xs.reverse ∧ Turn S S1 v := by
  obtain ⟨h0, ⟨rfl, rfl⟩ | ⟨n, h1, h2, rfl, h4⟩⟩ := hv
  · refine CallQ.of rfl (by kernel_rfl : Tryd.prog.funcs[50]? = some Tryd.f50) rfl (by decide) ?_
    conv => whnf
    refine CodeQ.round ?_
    conv => whnf
    refine br (fun q => absurd q (by decide)) (fun _ => ?_)
    conv => whnf
    exact ⟨.inl ⟨rfl, rfl⟩, .refl _ _⟩
  · refine CallQ.mono (t50 h xs (fun x hx => List.all_eq_true.1 h0.leaf x hx) n 0 S (cells_of_mem h4) hl) ?_
    rintro r S1 ⟨e1, e2, e3⟩
    exact ⟨.inr ⟨n, h1, by omega, by simp, e2⟩, by omega, fun j hj hne => e3 j fun q => hne xs.length (by rw [q])⟩
/-- A written list of bytes as a text. -/
theorem conv_hdC {b : Nat} {S : St} {v : AV} {bs : List UInt8} (h : HdC b S v (bs.map u8)) : convertA Tryd.prog S 79 9 v = some (.str bs) := by
  obtain ⟨rfl, q⟩ | ⟨n, _, _, rfl, q⟩ := h
  · obtain rfl : bs = [] := List.map_eq_nil_iff.1 q
    rfl
  · exact conv_hnd bs q (by simp)
/-- A number's bytes, the highest first. -/
def lowY (n : Nat) : List UInt8 := (placesB 256 n).map UInt8.ofNat
def beY (n : Nat) : List UInt8 := (lowY n).reverse
theorem lowY_zero : lowY 0 = [] := by unfold lowY; rw [placesB_zero]; rfl
theorem lowY_pos {n : Nat} (h : n ≠ 0) : lowY n = UInt8.ofNat (n % 256) :: lowY (n / 256) := by unfold lowY; rw [placesB_pos (by decide) h]; rfl
theorem wrap_mod256 (n : Nat) : IntKind.u8.wrap ((n % 256 : Nat) : Int) = ((UInt8.ofNat (n % 256)).toNat : Int) := wrap_u8_nat _
end Go.Proofs.YtojgnofagkekeaaDoor
