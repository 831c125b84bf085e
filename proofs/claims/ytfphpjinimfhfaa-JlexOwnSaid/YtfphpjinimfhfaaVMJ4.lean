import Derived.Test.YtfphpjinimfhfaaVMJ1
import Derived.Test.YtfphpjinimfhfaaVMUtf
namespace Go.Proofs.Ytfphpjinimfhfaa
open Go.Proofs.Ytfphpjinimfhfaa.VM Go.RowKit
set_option maxRecDepth 100000
set_option linter.unusedVariables false
def I3 (n : Int) : AV := .int .i64 n
def moreF (c : Int) : Int := if c < 128 then 0 else if c < 194 ∨ 244 < c then 0 else if c < 224 then 1 else if c < 240 then 2 else 3
def bitsF (c : Int) : Int := if c < 128 then c else if c < 194 ∨ 244 < c then 0 else if c < 224 then c % 32 else if c < 240 then c % 16 else c % 8
def fromF (c : Int) : Int := if c < 194 ∨ 244 < c then 0 else loS c
def toF (c : Int) : Int := if c < 194 ∨ 244 < c then 0 else hiS c
def okF (c : Int) : Bool := decide (c < 128 ∨ 194 ≤ c ∧ c ≤ 244)
def headsV (c : Int) : AV := .tuple [.agg [.int .i64 (moreF c), .int .i32 (bitsF c), .int .u8 (fromF c), .int .u8 (toF c)], .bool (okF c)]
def headsG : List AV → St → Option (AV × St)
  | [.int .u8 c], S => if 0 ≤ c ∧ c < 256 then some (headsV c, S) else none
  | _, _ => none
def lenF (c : Int) : Int := if c < 128 then 1 else if c < 194 ∨ 244 < c then 0 else if c < 224 then 2 else if c < 240 then 3 else 4
def lengthG : List AV → St → Option (AV × St)
  | [.int .u8 c], S => if 0 ≤ c ∧ c < 256 then some (.int .i64 (lenF c), S) else none
  | _, _ => none
def leastG : List AV → St → Option (AV × St)
  | [.int .u8 c], S => if 0 ≤ c ∧ c < 256 then some (.int .u8 (loS c), S) else none
  | _, _ => none
def mostG : List AV → St → Option (AV × St)
  | [.int .u8 c], S => if 0 ≤ c ∧ c < 256 then some (.int .u8 (hiS c), S) else none
  | _, _ => none
def aliveG : List AV → St → Option (AV × St)
  | [], S => some (.bool true, S)
  | _, _ => none
def JC (h : Bool) : Cfg := { JC0 h with intr := fun (f : Nat) => if f = 10 then some aliveG else if f = 48 then some headsG else if f = 43 then some lengthG else if f = 44 then some leastG else if f = 45 then some mostG else (JC0 h).intr f }
theorem tab_heads : ((List.range 256).all fun c => isRetV (headsV c) (callA Try.prog (JC0 false) 20 48 [.int .u8 c] st0)) = true := by kernel_rfl
theorem tab_length : ((List.range 256).all fun c => isRetV (.int .i64 (lenF c)) (callA Try.prog (JC0 false) 20 43 [.int .u8 c] st0)) = true := by kernel_rfl
theorem tab_least : ((List.range 256).all fun c => isRetV (.int .u8 (loS c)) (callA Try.prog (JC0 false) 20 44 [.int .u8 c] st0)) = true := by kernel_rfl
theorem tab_most : ((List.range 256).all fun c => isRetV (.int .u8 (hiS c)) (callA Try.prog (JC0 false) 20 45 [.int .u8 c] st0)) = true := by kernel_rfl
theorem intrOK0 (h : Bool) : IntrOK Try.prog (JC0 h) := by
  intro f g args S v S' hi hg
  simp only [JC0] at hi
  split at hi
  · rename_i hf
    subst hf
    cases hi
    exact copyCheck_callS (fun _ _ => enter_run Try.func31 rfl (by decide)) bld_fresh bld_used hg
  · split at hi
    · rename_i hf
      subst hf
      cases hi
      exact bldString_callS (fun _ _ => enter_run Try.func22 rfl (by decide)) bld_nil bld_row hg
    · split at hi
      · rename_i hf
        subst hf
        cases hi
        unfold idxByteG at hg
        split at hg
        case h_2 => cases hg
        rename_i s c
        cases hg
        refine ⟨?_, Nat.le_refl _⟩
        intro w0 G F w cargs _ hv hs hwf hFO hFN
        obtain ⟨l⟩ := cargs
        cases hv with
        | cons h1 t =>
        cases t with
        | cons h2 t =>
        cases t
        cases h1
        cases h2
        refine .inl ⟨enter_run Try.func19 rfl (by decide), (idx_byte _ _ w).mono fun e w' ⟨he, hw⟩ => ?_⟩
        subst hw
        exact ⟨G, .refl _ _ _, hs, .refl hwf, _, he, .int _ _⟩
      · cases hi
theorem glOK : ∀ w : World, Glob.okw w → ∀ k, VR (gh0 w) (Glob.gl k) (.pointer (some ⟨k, 0, none⟩)) := fun w _ k => .undef _
theorem stOK : ∀ w0 w : World, Below w0.heap.size w0 w → Glob.okw w0 → Glob.okw w := fun _ _ _ _ => trivial
theorem tab_at {p : Nat → Bool} {n : Nat} (h : ((List.range n).all p) = true) {c : Int} (h0 : 0 ≤ c) (h1 : c < n) : p c.toNat = true := List.all_eq_true.1 h _ (List.mem_range.2 (by omega))
theorem intrOK (h : Bool) : IntrOK Try.prog (JC h) := by
  intro f g args S v S' hi hg
  simp only [JC] at hi
  split at hi
  · rename_i hf
    subst hf
    cases hi
    unfold aliveG at hg
    split at hg
    case h_2 => cases hg
    cases hg
    exact ⟨closed_call mixed (intrOK0 false) alive_run glOK stOK S, Nat.le_refl _⟩
  split at hi
  · rename_i hf
    subst hf
    cases hi
    unfold headsG at hg
    split at hg
    case h_2 => cases hg
    rename_i c
    split at hg
    case isFalse => cases hg
    rename_i hc
    cases hg
    have := tab_at tab_heads hc.1 hc.2
    rw [Int.toNat_of_nonneg hc.1] at this
    exact ⟨closed_callV mixed (intrOK0 false) rfl rfl this glOK stOK S, Nat.le_refl _⟩
  split at hi
  · rename_i hf
    subst hf
    cases hi
    unfold lengthG at hg
    split at hg
    case h_2 => cases hg
    rename_i c
    split at hg
    case isFalse => cases hg
    rename_i hc
    cases hg
    have := tab_at tab_length hc.1 hc.2
    rw [Int.toNat_of_nonneg hc.1] at this
    exact ⟨closed_callV mixed (intrOK0 false) rfl rfl this glOK stOK S, Nat.le_refl _⟩
  split at hi
  · rename_i hf
    subst hf
    cases hi
    unfold leastG at hg
    split at hg
    case h_2 => cases hg
    rename_i c
    split at hg
    case isFalse => cases hg
    rename_i hc
    cases hg
    have := tab_at tab_least hc.1 hc.2
    rw [Int.toNat_of_nonneg hc.1] at this
    exact ⟨closed_callV mixed (intrOK0 false) rfl rfl this glOK stOK S, Nat.le_refl _⟩
  split at hi
  · rename_i hf
    subst hf
    cases hi
    unfold mostG at hg
    split at hg
    case h_2 => cases hg
    rename_i c
    split at hg
    case isFalse => cases hg
    rename_i hc
    cases hg
    have := tab_at tab_most hc.1 hc.2
    rw [Int.toNat_of_nonneg hc.1] at this
    exact ⟨closed_callV mixed (intrOK0 false) rfl rfl this glOK stOK S, Nat.le_refl _⟩
  exact intrOK0 h f g args S v S' hi hg
end Go.Proofs.Ytfphpjinimfhfaa
namespace Go.Proofs.Ytfphpjinimfhfaa
open Go.Proofs.Ytfphpjinimfhfaa.VM Go.RowKit
set_option maxRecDepth 100000
set_option linter.unusedVariables false
set_option maxHeartbeats 1000000
/-- Bytes as numbers. -/
def ib (bs : List UInt8) : List Int := bs.map fun b => (b.toNat : Int)
theorem ib_byt (bs : List UInt8) : Byt (ib bs) := fun x hx => by
  obtain ⟨b, _, rfl⟩ := List.mem_map.1 hx
  have := b.toNat_lt
  omega
theorem ib_len (bs : List UInt8) : (ib bs).length = bs.length := by simp [ib]
def oneV (o : Int × Int × Int) : AV := .tuple [.int .i32 o.1, .int .i64 o.2.1, .int .i64 o.2.2]
theorem and63 (x : Nat) (h : x < 256) : IntKind.u8.wrap ((BitVec.ofInt IntKind.u8.bits (x : Int) &&& BitVec.ofInt IntKind.u8.bits 63).toNat : Int) = ((x % 64 : Nat) : Int) := by
  have := and_u8 x 63 (by omega) (by omega)
  rw [show ((63 : Nat) : Int) = 63 from rfl] at this
  rw [this, show (63 : Nat) = 2 ^ 6 - 1 from rfl, Nat.and_two_pow_sub_one_eq_mod]
theorem wrap_i32 {x : Int} (h : -2147483648 ≤ x) (h2 : x < 2147483648) : IntKind.i32.wrap x = x := by
  simp [IntKind.wrap, IntKind.bits, IntKind.signed]
  split <;> omega
theorem or_i32 (n m : Nat) (hn : n * 64 < 2 ^ 31) (hm : m < 64) : IntKind.i32.wrap ((BitVec.ofInt IntKind.i32.bits (IntKind.i32.wrap ((n : Int) * 2 ^ min (6 : Int).toNat IntKind.i32.bits)) ||| BitVec.ofInt IntKind.i32.bits (IntKind.i32.wrap (m : Int))).toNat : Int) = ((n * 64 + m : Nat) : Int) := by
  have e0 : min (6 : Int).toNat IntKind.i32.bits = 6 := rfl
  have e1 : IntKind.i32.wrap ((n : Int) * 2 ^ 6) = ((n * 64 : Nat) : Int) := by rw [wrap_i32 (by omega) (by omega)]; omega
  have e2 : IntKind.i32.wrap (m : Int) = (m : Int) := wrap_i32 (by omega) (by omega)
  have e3 : IntKind.i32.bits = 32 := rfl
  rw [e0, e1, e2, e3]
  have h1 : (BitVec.ofInt 32 ((n * 64 : Nat) : Int) ||| BitVec.ofInt 32 (m : Int)).toNat = n * 64 + m := by
    simp only [BitVec.toNat_or, BitVec.ofInt_natCast, BitVec.toNat_ofNat]
    rw [Nat.mod_eq_of_lt (by omega), Nat.mod_eq_of_lt (by omega)]
    have := Nat.two_pow_add_eq_or_of_lt (i := 6) (b := m) hm n
    rw [Nat.mul_comm, show (64 : Nat) = 2 ^ 6 from rfl]
    exact this.symm
  rw [h1, wrap_i32 (by omega) (by omega)]

def resS : Nat → Int → Int → Int → Int → List Int → Int × Int × Int
  | 0, i, r, _, _, _ => (r, i, -1)
  | k + 1, i, r, _, _, [] => (0, 0, i)
  | k + 1, i, r, fr, to, x :: l => if x < fr ∨ to < x then (0, 0, i) else resS k (i + 1) (r * 64 + x % 64) 128 191 l
theorem one_res (c : Int) (l : List Int) (h : c < 128 ∨ 194 ≤ c ∧ c ≤ 244) : resS (moreF c).toNat 1 (bitsF c) (fromF c) (toF c) l = oneS (c :: l) := by
  have t2 : (2 : Int).toNat = 2 := rfl
  have t3 : (3 : Int).toNat = 3 := rfl
  unfold oneS moreF bitsF fromF toF
  by_cases h1 : c < 128
  · simp only [if_pos h1]; rfl
  have h2 : ¬ (c < 194 ∨ 244 < c) := by omega
  simp only [if_neg h1, if_neg h2]
  by_cases h3 : c < 224
  · have e1 : loS c = 128 := by unfold loS; rw [if_neg (by omega), if_neg (by omega)]
    have e2 : hiS c = 191 := by unfold hiS; rw [if_neg (by omega), if_neg (by omega)]
    simp only [if_pos h3, e1, e2]
    match l with
    | [] => rfl
    | x :: l => rfl
  simp only [if_neg h3]
  by_cases h4 : c < 240
  · simp only [if_pos h4]
    match l with
    | [] => rfl
    | [x] => simp only [t2, t3, resS]; split <;> rfl
    | x :: y :: l => simp only [t2, t3, resS]; rfl
  · simp only [if_neg h4]
    match l with
    | [] => rfl
    | [x] => simp only [t2, t3, resS]; split <;> rfl
    | [x, y] => simp only [t2, t3, resS]; repeat' split
                all_goals rfl
    | x :: y :: z :: l => simp only [t2, t3, resS]; rfl

theorem t30 (h : Bool) (b : UInt8) (bs : List UInt8) (t : Tip) (S : St) :
    CallQ Try.prog (JC h) 30 [.lst ((b :: bs).map u8) t] S fun r S1 => Keep S S1 ∧ r = oneV (oneS (ib (b :: bs))) := by
  have hb := b.toNat_lt
  refine CallQ.of rfl (by kernel_rfl : Try.prog.funcs[30]? = some Try.f30) rfl (by decide) ?_
  conv => whnf
  refine ⟨by decide, _, rfl, rfl, ?_⟩
  conv => whnf
  refine CallQ.intr (g := headsG) rfl (if_pos ⟨by omega, by omega⟩) ?_
  obtain ⟨c, hc⟩ : ∃ c : Int, c = (b.toNat : Int) := ⟨_, rfl⟩
  have hib : ib (b :: bs) = c :: ib bs := by rw [hc]; rfl
  rw [hib, ← hc]
  have c0 : 0 ≤ c ∧ c < 256 := by omega
  clear hc hib hb
  unfold headsV
  obtain ⟨m, hm⟩ : ∃ m, m = moreF c := ⟨_, rfl⟩
  obtain ⟨bt, hbt⟩ : ∃ m, m = bitsF c := ⟨_, rfl⟩
  obtain ⟨fr, hfr⟩ : ∃ m, m = fromF c := ⟨_, rfl⟩
  obtain ⟨to, hto⟩ : ∃ m, m = toF c := ⟨_, rfl⟩
  obtain ⟨ok, hok⟩ : ∃ m, m = okF c := ⟨_, rfl⟩
  rw [← hm, ← hbt, ← hfr, ← hto, ← hok]
  conv => whnf
  refine ⟨_, _, cells_new _ _, store_agg rfl rfl rfl, ?_⟩
  conv => whnf
  generalize hS1 : (S.new _).set S.next _ = S1
  have k1 : Keep S S1 := by rw [← hS1]; exact ((Keep.refl S).new _).set _ _ (Nat.le_refl _)
  have a1 : S1.cells S.next = some [.int .i64 m, .int .i32 bt, .int .u8 fr, .int .u8 to] := by rw [← hS1]; exact cells_set _ _ _
  clear hS1
  cases ok
  · conv => whnf
    refine ⟨k1, ?_⟩
    have : ¬ (c < 128 ∨ 194 ≤ c ∧ c ≤ 244) := of_decide_eq_false hok.symm
    simp only [oneS]
    rw [if_neg (by omega), if_pos (by omega)]
    rfl
  have hok2 : c < 128 ∨ 194 ≤ c ∧ c ≤ 244 := of_decide_eq_true hok.symm
  conv => whnf
  refine ⟨_, a1, ?_⟩
  conv => whnf
  have hc3 : (moreF c = 0 ∨ moreF c = 1 ∨ moreF c = 2 ∨ moreF c = 3) ∧ 0 ≤ bitsF c ∧ bitsF c < 128 := by
    unfold moreF bitsF; repeat' split
    all_goals omega
  obtain ⟨mn, hmn⟩ : ∃ mn : Nat, m = (mn : Int) ∧ mn ≤ 3 := ⟨m.toNat, by omega, by omega⟩
  obtain ⟨rfl, hmn3⟩ := hmn
  obtain ⟨bn, rfl⟩ : ∃ bn : Nat, bt = (bn : Int) := ⟨bt.toNat, by omega⟩
  have hres : oneS (c :: ib bs) = resS mn 1 bn fr to (ib bs) := by
    rw [← one_res c (ib bs) hok2, ← hm, ← hbt, ← hfr, ← hto]; rfl
  have hbl : bn < 128 := by omega
  rw [hres]
  obtain ⟨bnc, hbnc⟩ : ∃ q, q = (bn : Int) := ⟨_, rfl⟩
  rw [← hbnc] at a1
  refine CodeQ.loop (fun (q : Nat × Nat × Int × Int) => pat 63 [(0, .lst ((b :: bs).map u8) t), (2, .int .i32 q.2.1), (5, .ptr S.next 0), (7, .int .i64 ((q.1 + 1 : Nat) : Int))])
    (fun k q S2 => Keep S S2 ∧ S2.cells S.next = some [.int .i64 (mn : Nat), .int .i32 bnc, .int .u8 q.2.2.1, .int .u8 q.2.2.2] ∧ q.1 + k = mn ∧ q.1 ≤ bs.length ∧ q.2.1 < 128 * 64 ^ q.1 ∧ resS mn 1 bn fr to (ib bs) = resS k ((q.1 + 1 : Nat) : Int) q.2.1 q.2.2.1 q.2.2.2 ((ib bs).drop q.1)) ?_ mn (0, bn, fr, to) _ _ ⟨k1, a1, by simp, by simp, by simpa using hbl, rfl⟩ ⟨rfl, by rw [← hbnc], rfl, rfl, trivial⟩
  clear a1 k1 hres hm hbt hfr hto hok hok2 c0 hc3
  rintro k ⟨i, r, fr, to⟩ S2 d ⟨k2, a2, q1, q2, q3, q4⟩
  dsimp only at *
  rw [q4]
  clear q4
  conv => whnf
  refine ⟨_, a2, ?_⟩
  conv => whnf
  refine br (fun hle => ?_) (fun hle => ?_)
  rotate_left
  · obtain rfl : k = 0 := by omega
    conv => whnf
    refine ⟨[0, 1, 2, 3, 4, 5, 6], [], by kernel_rfl, by kernel_rfl, by kernel_rfl, ?_⟩
    conv => whnf
    refine ⟨_, a2, ?_⟩
    conv => whnf
    refine ⟨k2, ?_⟩
    simp only [resS]
    rw [wrap_i64 (by omega) (by omega)]
    have : ((mn : Nat) : Int) + 1 = ((i + 1 : Nat) : Int) := by omega
    rw [this]; rfl
  obtain ⟨k, rfl⟩ : ∃ k', k = k' + 1 := ⟨k - 1, by omega⟩
  conv => whnf
  refine ⟨[0, 1, 2, 3, 4, 5, 6, 7, 8, 9, 10, 11, 12, 13, 14, 15, 16, 17, 18, 19, 20, 21], [], by kernel_rfl, by kernel_rfl, by kernel_rfl, ?_⟩
  conv => whnf
  refine brEq (fun he => ?_) (fun he => ?_)
  · have : bs.length = i := by simp at he; omega
    conv => whnf
    refine ⟨k2, ?_⟩
    rw [show (ib bs).drop i = [] from List.drop_eq_nil_iff.2 (by rw [ib_len]; omega)]
    rfl
  have hlt : i < bs.length := by simp at he; omega
  have hx := (bs[i]).toNat_lt
  have hdr : (ib bs).drop i = ((bs[i]).toNat : Int) :: (ib bs).drop (i + 1) := by
    rw [List.drop_eq_getElem_cons (by rw [ib_len]; exact hlt)]
    simp [ib]
  have g1 : ((b :: bs).map u8)[((i + 1 : Nat) : Int).toNat]? = some (u8 bs[i]) := by
    rw [Int.toNat_natCast]; simp [hlt]
  rw [hdr]
  generalize bs[i] = x at *
  conv => whnf
  refine ⟨by omega, _, g1, rfl, ?_⟩
  conv => whnf
  refine ⟨_, a2, ?_⟩
  conv => whnf
  refine br (fun hlo => ?_) (fun hlo => ?_)
  · conv => whnf
    refine ⟨k2, ?_⟩
    simp only [resS]
    rw [if_pos (.inl hlo)]; rfl
  conv => whnf
  refine ⟨by omega, _, g1, rfl, ?_⟩
  conv => whnf
  refine ⟨_, a2, ?_⟩
  conv => whnf
  refine br (fun hhi => ?_) (fun hhi => ?_)
  · conv => whnf
    refine ⟨k2, ?_⟩
    simp only [resS]
    rw [if_pos (.inr hhi)]; rfl
  conv => whnf
  refine ⟨by decide, ?_⟩
  conv => whnf
  refine ⟨by omega, _, g1, rfl, ?_⟩
  conv => whnf
  refine ⟨_, _, a2, if_pos ⟨rfl, rfl, Nat.le_of_ble_eq_true rfl⟩, ?_⟩
  conv => whnf
  refine ⟨_, _, cells_set _ _ _, if_pos ⟨rfl, rfl, Nat.le_of_ble_eq_true rfl⟩, ?_⟩
  conv => whnf
  have hr : r * 64 < 2 ^ 31 := by
    have : i = 0 ∨ i = 1 ∨ i = 2 := by omega
    rcases this with rfl | rfl | rfl <;> simp at q3 <;> omega
  refine ⟨k, (i + 1, r * 64 + x.toNat % 64, 128, 191), by omega, ⟨(k2.set _ _ (Nat.le_refl _)).set _ _ (Nat.le_refl _), cells_set _ _ _, by dsimp only; omega, by dsimp only; omega, ?_, ?_⟩, ⟨rfl, ?_, rfl, ?_, trivial⟩⟩
  · dsimp only
    have : i = 0 ∨ i = 1 ∨ i = 2 := by omega
    rcases this with rfl | rfl | rfl <;> simp at q3 ⊢ <;> omega
  · simp only [resS]
    rw [if_neg (by omega)]
    congr 1
    all_goals first | rfl | omega | (push_cast; omega)
  · rw [and63 _ (by omega)]
    exact congrArg _ (or_i32 r (x.toNat % 64) hr (by omega))
  · rw [wrap_i64 (by omega) (by omega)]; rfl
end Go.Proofs.Ytfphpjinimfhfaa
namespace Go.Proofs.Ytfphpjinimfhfaa
open Go.Proofs.Ytfphpjinimfhfaa.VM Go.RowKit
set_option maxRecDepth 100000
set_option linter.unusedVariables false
set_option maxHeartbeats 1000000
theorem ib_app (a b : List UInt8) : ib (a ++ b) = ib a ++ ib b := by simp [ib]
theorem ib_drop (a : List UInt8) (n : Nat) : ib (a.drop n) = (ib a).drop n := by simp [ib]
theorem ib_take (a : List UInt8) (n : Nat) : ib (a.take n) = (ib a).take n := by simp [ib]
theorem ib_inj {a b : List UInt8} (h : ib a = ib b) : a = b := by
  induction a generalizing b with
  | nil => cases b with
    | nil => rfl
    | cons y b => simp [ib] at h
  | cons x a ih => cases b with
    | nil => simp [ib] at h
    | cons y b =>
      simp only [ib, List.map_cons, List.cons.injEq] at h
      have : x = y := UInt8.toNat_inj.1 (by omega)
      rw [this, ih h.2]
theorem ib_str (bs : List UInt8) : strOfNums (ib bs) = ⟨bs.toArray⟩ := by
  have : (ib bs).map (fun n => UInt8.ofNat n.toNat) = bs := by
    simp only [ib, List.map_map]
    conv => rhs; rw [← List.map_id bs]
    refine List.map_congr_left fun b _ => ?_
    simp
  unfold strOfNums
  rw [this]
theorem decode_ib {bs : List UInt8} {p : Nat} (hp : p < bs.length) : Utf8.decode ⟨bs.toArray⟩ p = if (oneS ((ib bs).drop p)).2.2 < 0 then ((oneS ((ib bs).drop p)).1.toNat, (oneS ((ib bs).drop p)).2.1.toNat) else (65533, 1) := by
  rw [← ib_str]
  exact decode_one (ib_byt bs) (by rw [ib_len]; exact hp)

/-- The characters, and where they go wrong (-1: nowhere). -/
def runF (l : List Int) : List Int × Int := runS l.length l
theorem runF_bad {l : List Int} (hl : l ≠ []) (h : ¬ (oneS l).2.2 < 0) : runF l = ([], (oneS l).2.2) := by
  obtain ⟨n, hn⟩ : ∃ n, l.length = n + 1 := ⟨l.length - 1, by have := List.length_pos_iff.2 hl; omega⟩
  unfold runF
  rw [hn]; exact runS_bad hl h
theorem runF_good {l : List Int} (hb : Byt l) (hl : l ≠ []) (h : (oneS l).2.2 < 0) :
    runF l = ((oneS l).1 :: (runF (l.drop (oneS l).2.1.toNat)).1, if (runF (l.drop (oneS l).2.1.toNat)).2 < 0 then -1 else (oneS l).2.1 + (runF (l.drop (oneS l).2.1.toNat)).2) := by
  obtain ⟨n, hn⟩ : ∃ n, l.length = n + 1 := ⟨l.length - 1, by have := List.length_pos_iff.2 hl; omega⟩
  obtain ⟨g1, g2, g3, g4, _, _⟩ := one_good hb h
  unfold runF
  rw [hn, runS_good hl h, runS_more (l.drop (oneS l).2.1.toNat).length n _ (hb.drop _) (Nat.le_refl _) (by simp; omega)]
theorem runF_nil : runF [] = ([], -1) := rfl
theorem runF_place {l : List Int} (hb : Byt l) : -1 ≤ (runF l).2 ∧ (runF l).2 ≤ l.length := runS_place _ l hb
/-- The fault of a text, from a place on. -/
def telS (l : List Int) (p : Nat) : Int × Int := if (runF (l.drop p)).2 < 0 then (0, 0) else (6, p + (runF (l.drop p)).2)
def faultV (f : Int × Int) : AV := .agg [.int .i64 f.1, .int .i64 f.2]
theorem telS_end {l : List Int} {p : Nat} (h : l.length ≤ p) : telS l p = (0, 0) := by
  unfold telS; rw [List.drop_eq_nil_iff.2 h]; rfl
theorem drop_ne_nil {l : List Int} {p : Nat} (h : p < l.length) : l.drop p ≠ [] := fun e => by have := congrArg List.length e; simp at this; omega
theorem telS_good {l : List Int} (hb : Byt l) {p : Nat} (hp : p < l.length) (h : (oneS (l.drop p)).2.2 < 0) : telS l p = telS l (p + (oneS (l.drop p)).2.1.toNat) := by
  obtain ⟨g1, g2, g3, g4, _, _⟩ := one_good (hb.drop p) h
  unfold telS
  rw [runF_good (hb.drop p) (drop_ne_nil hp) h, List.drop_drop]
  simp only
  have := runF_place ((hb.drop (p + (oneS (l.drop p)).2.1.toNat)))
  by_cases h2 : (runF (l.drop (p + (oneS (l.drop p)).2.1.toNat))).2 < 0
  · rw [if_pos h2, if_pos h2]; rfl
  · rw [if_neg h2, if_neg h2, if_neg (by omega)]
    congr 1
    omega
theorem telS_bad {l : List Int} {p : Nat} (hp : p < l.length) (h : ¬ (oneS (l.drop p)).2.2 < 0) : telS l p = (6, p + (oneS (l.drop p)).2.2) := by
  unfold telS
  rw [runF_bad (drop_ne_nil hp) h]
  rw [if_neg h]

theorem conv_str (bs : List UInt8) (t : Tip) (S : St) : convertA Try.prog S 25 9 (.lst (bs.map u8) t) = some (.str bs) := by
  have : convertA Try.prog S 25 9 (.lst (bs.map u8) t) = (bytesOfA (bs.map u8)).map .str := rfl
  rw [this, bytesOfA_u8]; rfl
theorem und25 : Try.prog.underlying 25 = some (.slice 5) := by kernel_rfl
theorem sz5 : szA Try.prog 5 = some 1 := by kernel_rfl
theorem cut_from (bs : List UInt8) (t : Tip) (p : Nat) (hp : p ≤ bs.length) : ∃ t', sliceA Try.prog 25 (.lst (bs.map u8) t) (some (.int .i64 p)) none none = some (.lst ((bs.drop p).map u8) t') := by
  obtain ⟨t', h⟩ := slice_lo (P := Try.prog) und25 sz5 (bs.map u8) t (headOk_u8 bs) p (by simpa using hp) .i64
  exact ⟨t', by rw [h]; simp⟩
theorem iter_keep {S S1 : St} (k : Keep S S1) {n : Nat} (hn : n < S.next) {b : Blk} (h : S.mem n = some b) : S1.mem n = some b := by rw [k.mem n hn]; exact h

theorem t17 (h : Bool) (bs : List UInt8) (hl : bs.length ≤ 2 ^ 47) (v : AV) (hv : Elems v (bs.map u8)) (S : St) :
    CallQ Try.prog (JC h) 17 [v] S fun r S1 => Keep S S1 ∧ r = faultV (telS (ib bs) 0) := by
  refine CallQ.of rfl (by kernel_rfl : Try.prog.funcs[17]? = some Try.f17) rfl (by decide) ?_
  rcases hv with ⟨rfl, hnil⟩ | ⟨t, rfl⟩
  · obtain rfl : bs = [] := by simpa using hnil
    conv => whnf
    refine CodeQ.round ?_
    conv => whnf
    refine ⟨_, _, next_end (mem_new _ _) (Nat.le_refl _), ?_⟩
    conv => whnf
    refine ⟨_, _, cells_new_ne (cells_new _ _) (by show S.next ≠ S.next + 1; omega), store_agg rfl rfl rfl, ?_⟩
    conv => whnf
    refine ⟨.agg [.int .i64 0, .int .i64 0], by show (St.cells _ S.next).bind _ = _; rw [cells_set]; rfl, ?_⟩
    conv => whnf
    exact ⟨((Keep.refl S).new _).new _ |>.set _ _ (Nat.le_refl _), rfl⟩
  conv => whnf
  refine ⟨_, conv_str bs t _, ?_⟩
  conv => whnf
  generalize hS1 : (S.new _).new _ = S1
  have k1 : Keep S S1 := by rw [← hS1]; exact ((Keep.refl S).new _).new _
  have a1 : S1.cells S.next = some [.int .i64 0, .int .i64 0] := by rw [← hS1]; exact cells_new_ne (cells_new _ _) (by show S.next ≠ S.next + 1; omega)
  have m1 : S1.mem (S.next + 1) = some (.iter bs 0) := by rw [← hS1]; exact mem_new _ _
  have n1 : S1.next = S.next + 2 := by rw [← hS1]; rfl
  clear hS1
  refine CodeQ.loop (fun (p : Nat) => pat 32 [(0, .lst (bs.map u8) t), (2, .ptr S.next 0), (10, .iter (S.next + 1))])
    (fun m p S2 => Keep S S2 ∧ S.next + 2 ≤ S2.next ∧ S2.cells S.next = some [.int .i64 0, .int .i64 0] ∧ S2.mem (S.next + 1) = some (.iter bs p) ∧ p ≤ bs.length ∧ m = bs.length - p ∧ telS (ib bs) 0 = telS (ib bs) p) ?_ bs.length 0 _ _
    ⟨k1, by omega, a1, m1, by omega, by omega, rfl⟩ ⟨rfl, rfl, rfl, trivial⟩
  clear k1 a1 m1 n1 S1
  rintro m p S2 d ⟨k2, n2, a2, m2, q1, q2, q3⟩
  rw [q3]
  clear q3
  conv => whnf
  rcases Nat.lt_or_ge p bs.length with hp | hp
  rotate_left
  · refine ⟨_, _, next_end m2 hp, ?_⟩
    conv => whnf
    refine ⟨_, _, a2, store_agg rfl rfl rfl, ?_⟩
    conv => whnf
    refine ⟨.agg [.int .i64 0, .int .i64 0], by show (St.cells _ S.next).bind _ = _; rw [cells_set]; rfl, ?_⟩
    conv => whnf
    refine ⟨k2.set _ _ (Nat.le_refl _), ?_⟩
    rw [telS_end (by rw [ib_len]; exact hp)]
    rfl
  refine ⟨_, _, next_more m2 hp, ?_⟩
  have hp' : p < (ib bs).length := by rw [ib_len]; exact hp
  have hdec := decode_ib hp
  have hg := telS_good (ib_byt bs) hp'
  have hbd := telS_bad hp'
  have hb1 : (oneS ((ib bs).drop p)).2.2 < 0 → _ := one_good ((ib_byt bs).drop p)
  have hone : ∀ t' S, CallQ Try.prog (JC h) 30 [.lst ((bs.drop p).map u8) t'] S fun r S1 => Keep S S1 ∧ r = oneV (oneS ((ib bs).drop p)) := by
    intro t' S
    rw [← ib_drop]
    cases hd : bs.drop p with
    | nil => have := congrArg List.length hd; simp at this; omega
    | cons b tl => exact t30 h b tl t' S
  have hdl : ((ib bs).drop p).length = bs.length - p := by rw [List.length_drop, ib_len]
  have hbad := @one_bad ((ib bs).drop p)
  rw [hdl] at hb1 hbad
  rw [hdec]
  generalize oneS ((ib bs).drop p) = o at *
  obtain ⟨v, n, w⟩ := o
  dsimp only at *
  by_cases hw : w < 0
  · obtain ⟨g1, g2, g3, g4, g5, g6⟩ := hb1 hw
    rw [if_pos hw]
    rw [hg hw]
    have fin : ∀ S3, Keep S2 S3 → S3.mem (S.next + 1) = some (.iter bs (p + n.toNat)) → S3.cells S.next = some [.int .i64 0, .int .i64 0] → True := fun _ _ _ _ => trivial
    conv => whnf
    refine brNe (fun hne => ?_) (fun he => ?_)
    · conv => whnf
      refine ⟨bs.length - (p + n.toNat), p + n.toNat, by omega, ⟨k2.set _ _ (by omega), n2, cells_set_ne a2 (by omega), mem_set _ _ _, by omega, rfl, rfl⟩, ⟨rfl, rfl, rfl, trivial⟩⟩
    · conv => whnf
      obtain ⟨t', ht'⟩ := cut_from bs t p (by omega)
      refine ⟨_, ht', ?_⟩
      conv => whnf
      refine CallQ.mono (hone t' _) ?_
      rintro r S3 ⟨k3, rfl⟩
      have n3 := k3.next
      have n3' : S2.next ≤ S3.next := n3
      conv => whnf
      refine br (fun hc => absurd hc (by show ¬ w ≥ 0; omega)) (fun _ => ?_)
      conv => whnf
      refine ⟨bs.length - (p + n.toNat), p + n.toNat, by omega, ⟨(k2.set _ _ (by omega)).trans k3, by omega, ?_, ?_, by omega, rfl, rfl⟩, ⟨rfl, rfl, rfl, trivial⟩⟩
      · rw [kcells k3 (by show S.next < S2.next; omega)]; exact cells_set_ne a2 (by omega)
      · exact iter_keep k3 (by show S.next + 1 < S2.next; omega) (mem_set _ _ _)
  · rw [if_neg hw]
    rw [hbd hw]
    obtain ⟨_, _, hwl⟩ := hbad hw
    have hwl2 : w ≤ bs.length := Int.le_trans hwl (by omega)
    conv => whnf
    refine brNe (fun hne => absurd rfl hne) (fun he => ?_)
    conv => whnf
    obtain ⟨t', ht'⟩ := cut_from bs t p (by omega)
    refine ⟨_, ht', ?_⟩
    conv => whnf
    refine CallQ.mono (hone t' _) ?_
    rintro r S3 ⟨k3, rfl⟩
    have n3' : S2.next ≤ S3.next := k3.next
    conv => whnf
    refine br (fun hc => ?_) (fun hc => absurd (show w ≥ 0 by omega) hc)
    conv => whnf
    have a3 : S3.cells S.next = some [.int .i64 0, .int .i64 0] := by rw [kcells k3 (by show S.next < S2.next; omega)]; exact cells_set_ne a2 (by omega)
    refine ⟨_, _, a3, store_agg rfl rfl rfl, ?_⟩
    conv => whnf
    refine ⟨_, by show (St.cells _ S.next).bind _ = _; rw [cells_set]; rfl, ?_⟩
    conv => whnf
    refine ⟨((k2.set _ _ (by omega)).trans k3).set _ _ (Nat.le_refl _), ?_⟩
    show AV.agg [.int .i64 6, .int .i64 (IntKind.i64.wrap ((p : Int) + w))] = _
    rw [wrap_i64 (by omega) (by omega)]
    rfl
end Go.Proofs.Ytfphpjinimfhfaa
