import Derived.Test.YtojgnofagkekeaaDoorVMFN12
import Derived.Test.YtojgnofagkekeaaDoorVMKit4
/-! Numbers in places of nine digits, and of one. -/
namespace Go.Proofs.YtojgnofagkekeaaDoor
open Go.Proofs.YtojgnofagkekeaaDoor.VM Go.RowKit
set_option maxRecDepth 100000
set_option linter.unusedVariables false
/-- A number of places, the lowest first. -/
def valB (b : Nat) : List Nat → Nat
  | [] => 0
  | x :: xs => x + b * valB b xs
theorem valB_append (b : Nat) : ∀ xs ys : List Nat, valB b (xs ++ ys) = valB b xs + b ^ xs.length * valB b ys
  | [], ys => by simp [valB]
  | x :: xs, ys => by
    rw [List.cons_append, valB, valB, valB_append b xs ys, List.length_cons, Nat.pow_succ, Nat.mul_add]
    rw [Nat.mul_comm (b ^ xs.length) b, Nat.mul_assoc]
    omega
theorem valB_one (b x : Nat) : valB b [x] = x := by simp [valB]
theorem valB_snoc (b : Nat) (xs : List Nat) (x : Nat) : valB b (xs ++ [x]) = valB b xs + b ^ xs.length * x := by rw [valB_append, valB_one]
theorem valB_rep (b : Nat) : ∀ k, valB b (List.replicate k 0) = 0
  | 0 => rfl
  | k + 1 => by rw [List.replicate_succ, valB, valB_rep b k]; simp
theorem valB_lt {b : Nat} : ∀ {xs : List Nat}, (∀ x ∈ xs, x < b) → valB b xs < b ^ xs.length
  | [], _ => by simp [valB]
  | x :: xs, h => by
    have h1 := valB_lt (fun y hy => h y (List.mem_cons_of_mem _ hy))
    have h0 := h x List.mem_cons_self
    rw [valB, List.length_cons, Nat.pow_succ]
    have : b * (valB b xs + 1) ≤ b * b ^ xs.length := Nat.mul_le_mul_left b h1
    rw [Nat.mul_add, Nat.mul_comm b (b ^ xs.length)] at this
    omega
/-- Without zeros behind. -/
def placesB (b : Nat) (n : Nat) : List Nat := if h : n = 0 ∨ b < 2 then [] else n % b :: placesB b (n / b)
termination_by n
decreasing_by exact Nat.div_lt_self (by omega) (by omega)
theorem placesB_zero (b : Nat) : placesB b 0 = [] := by unfold placesB; simp
theorem placesB_pos {b n : Nat} (hb : 2 ≤ b) (h : n ≠ 0) : placesB b n = n % b :: placesB b (n / b) := by
  conv => lhs; unfold placesB
  rw [dif_neg (by omega)]
theorem placesB_lt {b : Nat} (hb : 2 ≤ b) : ∀ n, ∀ x ∈ placesB b n, x < b := by
  intro n
  induction n using Nat.strongRecOn with
  | _ n ih =>
    by_cases h : n = 0
    · subst h; rw [placesB_zero]; intro x hx; cases hx
    · rw [placesB_pos hb h]
      intro x hx
      rcases List.mem_cons.1 hx with rfl | hx
      · exact Nat.mod_lt _ (by omega)
      · exact ih (n / b) (Nat.div_lt_self (by omega) (by omega)) x hx
theorem valB_places {b : Nat} (hb : 2 ≤ b) : ∀ n, valB b (placesB b n) = n := by
  intro n
  induction n using Nat.strongRecOn with
  | _ n ih =>
    by_cases h : n = 0
    · subst h; rw [placesB_zero]; rfl
    · rw [placesB_pos hb h, valB, ih (n / b) (Nat.div_lt_self (by omega) (by omega))]
      have := Nat.mod_add_div n b
      omega
/-- Places below the base without a zero at their end are the number's. -/
theorem places_of {b : Nat} (hb : 2 ≤ b) : ∀ {xs : List Nat}, (∀ x ∈ xs, x < b) → xs.getLast? ≠ some 0 → xs = placesB b (valB b xs)
  | [], _, _ => by rw [valB, placesB_zero]
  | x :: xs, h, hl => by
    have hx := h x List.mem_cons_self
    have hr : xs = placesB b (valB b xs) := places_of hb (fun y hy => h y (List.mem_cons_of_mem _ hy)) (by
      intro q
      apply hl
      cases xs with
      | nil => cases q
      | cons y ys => rw [List.getLast?_cons_cons]; exact q)
    have hne : valB b (x :: xs) ≠ 0 := by
      rw [valB]
      intro q
      have hx0 : x = 0 := by omega
      have hv : valB b xs = 0 := by
        rcases Nat.mul_eq_zero.1 (show b * valB b xs = 0 by omega) with q | q
        · omega
        · exact q
      rw [hv, placesB_zero] at hr
      subst hr; subst hx0
      exact hl rfl
    rw [placesB_pos hb hne]
    have e1 : valB b (x :: xs) % b = x := by rw [valB, Nat.add_mul_mod_self_left, Nat.mod_eq_of_lt hx]
    have e2 : valB b (x :: xs) / b = valB b xs := by
      rw [valB, Nat.add_mul_div_left _ _ (by omega), Nat.div_eq_of_lt hx, Nat.zero_add]
    rw [e1, e2, ← hr]
theorem places_len {b : Nat} (hb : 2 ≤ b) (k n : Nat) (h : n < b ^ k) : (placesB b n).length ≤ k := by
  induction k generalizing n with
  | zero => have : n = 0 := by simpa using h
            subst this; rw [placesB_zero]; simp
  | succ k ih =>
    by_cases h0 : n = 0
    · subst h0; rw [placesB_zero]; simp
    · rw [placesB_pos hb h0, List.length_cons]
      have := ih (n / b) (Nat.div_lt_of_lt_mul (by rw [Nat.pow_succ, Nat.mul_comm] at h; exact h))
      omega
theorem places_len_ge {b : Nat} (hb : 2 ≤ b) (k n : Nat) (h : k < (placesB b n).length) : b ^ k ≤ n := by
  rcases Nat.lt_or_ge n (b ^ k) with q | q
  · have := places_len hb k n q; omega
  · exact q
/-! ### a number's digits -/
theorem decD_lt {n : Nat} (h : n < 10) : decD n = [UInt8.ofNat (48 + n)] := by unfold decD; rw [dif_pos h]
theorem decD_ge {n : Nat} (h : 10 ≤ n) : decD n = decD (n / 10) ++ [UInt8.ofNat (48 + n % 10)] := by conv => lhs; unfold decD
                                                                                                     rw [dif_neg (by omega)]
/-- So many digits. -/
def fixD : Nat → Nat → List UInt8
  | 0, _ => []
  | k + 1, n => fixD k (n / 10) ++ [UInt8.ofNat (48 + n % 10)]
theorem fixD_len : ∀ k n, (fixD k n).length = k
  | 0, _ => rfl
  | k + 1, n => by simp [fixD, fixD_len k]
theorem decD_fix : ∀ (k q r : Nat), 0 < q → r < 10 ^ k → decD (10 ^ k * q + r) = decD q ++ fixD k r
  | 0, q, r, hq, hr => by
    have : r = 0 := by simpa using hr
    subst this; simp [fixD]
  | k + 1, q, r, hq, hr => by
    have h10 : 10 ≤ 10 ^ (k + 1) * q + r := by
      have : 10 ^ 1 ≤ 10 ^ (k + 1) := Nat.pow_le_pow_right (by decide) (by omega)
      have : 10 ^ (k + 1) * 1 ≤ 10 ^ (k + 1) * q := Nat.mul_le_mul_left _ hq
      omega
    have e1 : (10 ^ (k + 1) * q + r) / 10 = 10 ^ k * q + r / 10 := by
      rw [Nat.pow_succ, Nat.mul_comm (10 ^ k) 10, Nat.mul_assoc, Nat.mul_add_div (by decide)]
    have e2 : (10 ^ (k + 1) * q + r) % 10 = r % 10 := by
      rw [Nat.pow_succ, Nat.mul_comm (10 ^ k) 10, Nat.mul_assoc, Nat.mul_add_mod]
    rw [decD_ge h10, e1, e2, decD_fix k q (r / 10) hq (by rw [Nat.pow_succ] at hr; omega), fixD, List.append_assoc]
theorem fixD_zero : ∀ k, fixD k 0 = List.replicate k 48
  | 0 => rfl
  | k + 1 => by
    rw [fixD, Nat.zero_div, fixD_zero k, List.replicate_succ']; rfl
theorem fixD_pad : ∀ (k n : Nat), 0 < k → n < 10 ^ k → fixD k n = List.replicate (k - (decD n).length) 48 ++ decD n
  | 0, n, h, _ => absurd h (by decide)
  | k + 1, n, _, h => by
    rw [fixD]
    rcases Nat.lt_or_ge n 10 with h1 | h1
    · rw [decD_lt h1, show n / 10 = 0 by omega, fixD_zero, show n % 10 = n by omega]; simp
    · have h2 : n / 10 < 10 ^ k := by rw [Nat.pow_succ] at h; omega
      have h3 : 0 < k := by
        rcases Nat.eq_zero_or_pos k with q | q
        · subst q; simp at h; omega
        · exact q
      rw [fixD_pad k (n / 10) h3 h2, decD_ge h1]
      simp
/-- Digits, the lowest first, are a number's. -/
theorem dec_of : ∀ (ds : List Nat), (∀ d ∈ ds, d < 10) → ds ≠ [] → (ds.length = 1 ∨ ds.getLast? ≠ some 0) → (ds.map fun d => UInt8.ofNat (48 + d)).reverse = decD (valB 10 ds)
  | [], _, h, _ => absurd rfl h
  | [d], hd, _, _ => by rw [valB_one, decD_lt (hd d (by simp))]; rfl
  | d :: e :: ds, hd, _, hl => by
    have hl : (d :: e :: ds).getLast? ≠ some 0 := hl.resolve_left (by simp)
    rw [List.getLast?_cons_cons] at hl
    have hr := dec_of (e :: ds) (fun x hx => hd x (List.mem_cons_of_mem _ hx)) (by simp) (.inr hl)
    have hp := places_of (b := 10) (by decide) (xs := e :: ds) (fun x hx => hd x (List.mem_cons_of_mem _ hx)) hl
    have hv : valB 10 (e :: ds) ≠ 0 := fun q => by rw [q, placesB_zero] at hp; cases hp
    have hd0 := hd d List.mem_cons_self
    rw [List.map_cons, List.reverse_cons, hr, show valB 10 (d :: e :: ds) = d + 10 * valB 10 (e :: ds) from rfl]
    rw [decD_ge (n := d + 10 * valB 10 (e :: ds)) (by omega)]
    congr 2
    · congr 1; omega
    · congr 2; omega
theorem valD_append (s t : List UInt8) : valD (s ++ t) = t.foldl vstep (valD s) := by unfold valD; rw [List.foldl_append]
theorem vfold (t : List UInt8) : ∀ m, t.foldl vstep m = m * 10 ^ t.length + valD t := by
  induction t with
  | nil => intro m; simp [valD]
  | cons c t ih =>
    intro m
    have e : valD (c :: t) = t.foldl vstep (vstep 0 c) := rfl
    rw [List.foldl_cons, ih, e, ih (vstep 0 c), List.length_cons, Nat.pow_succ]
    unfold vstep
    rw [Nat.add_mul, Nat.zero_mul, Nat.zero_add, Nat.mul_assoc, Nat.mul_comm 10, Nat.add_assoc]
theorem valD_app (s t : List UInt8) : valD (s ++ t) = valD s * 10 ^ t.length + valD t := by rw [valD_append, vfold]
/-- A text's digits, the lowest first. -/
def digL (s : List UInt8) : List Nat := s.reverse.map fun c => c.toNat - 48
theorem digL_len (s : List UInt8) : (digL s).length = s.length := by simp [digL]
theorem valB_digL (s : List UInt8) : valB 10 (digL s) = valD s := by
  have key : ∀ t : List UInt8, valB 10 (t.map fun c => c.toNat - 48) = valD t.reverse := by
    intro t
    induction t with
    | nil => rfl
    | cons c t ih => rw [List.map_cons, valB, ih, List.reverse_cons, valD_snoc]; omega
  have := key s.reverse
  rw [List.reverse_reverse] at this
  exact this
theorem digL_lt {s : List UInt8} (h : ∀ c ∈ s, 48 ≤ c.toNat ∧ c.toNat ≤ 57) : ∀ d ∈ digL s, d < 10 := by
  intro d hd
  obtain ⟨c, hc, rfl⟩ := List.mem_map.1 hd
  have := h c (List.mem_reverse.1 hc)
  omega
theorem valD_lt {s : List UInt8} (h : ∀ c ∈ s, 48 ≤ c.toNat ∧ c.toNat ≤ 57) : valD s < 10 ^ s.length := by
  rw [← valB_digL, ← digL_len]; exact valB_lt (digL_lt h)
theorem right_head {s : List UInt8} (h : rightS s = true) : 1 ≤ s.length ∧ s.length ≤ 800 ∧ (s.getD 0 0 = 48 → s.length = 1) := by
  unfold rightS at h
  simp only [Bool.and_eq_true, decide_eq_true_eq, Bool.not_eq_true', Bool.and_eq_false_imp, decide_eq_false_iff_not] at h
  exact ⟨h.1.1.1, h.1.1.2, fun q => by have := h.1.2 q; omega⟩
/-- A right text is its number's digits. -/
theorem dec_valD {s : List UInt8} (h : rightS s = true) : decD (valD s) = s := by
  obtain ⟨h1, h2, h3⟩ := right_head h
  obtain ⟨_, hd⟩ := right_all h
  have hlast : (digL s).length = 1 ∨ (digL s).getLast? ≠ some 0 := by
    rcases Nat.lt_or_ge 1 s.length with q | q
    · right
      cases s with
      | nil => simp at q
      | cons c t =>
        intro e
        have e2 : (digL (c :: t)).getLast? = some (c.toNat - 48) := by unfold digL; simp
        rw [e2] at e
        have hc := hd c (by simp)
        have e3 : c.toNat - 48 = 0 := Option.some.inj e
        have : c = 48 := UInt8.toNat_inj.1 (show c.toNat = 48 by omega)
        have := h3 this
        omega
    · left; rw [digL_len]; omega
  have := dec_of (digL s) (digL_lt hd) (by intro q; have := congrArg List.length q; rw [digL_len, List.length_nil] at this; omega) hlast
  rw [valB_digL] at this
  rw [← this]
  unfold digL
  rw [List.map_reverse, List.map_reverse, List.reverse_reverse, List.map_map]
  conv => rhs; rw [← List.map_id s]
  apply List.map_congr_left
  intro c hc
  have := hd c hc
  show UInt8.ofNat (48 + (c.toNat - 48)) = c
  rw [show 48 + (c.toNat - 48) = c.toNat by omega, UInt8.ofNat_toNat]
theorem dec_len_le (k n : Nat) (h : n < 10 ^ (k + 1)) : (decD n).length ≤ k + 1 := dec_len k n h
theorem dec_len_ge (n : Nat) : n < 10 ^ (decD n).length := by
  have := valD_lt (dec_dig n)
  rwa [valD_dec] at this
theorem dec_long {k n : Nat} : k < (decD n).length ↔ (0 < k ∧ 10 ^ k ≤ n ∨ k = 0) := by
  constructor
  · intro h
    rcases Nat.eq_zero_or_pos k with q | q
    · exact .inr q
    · refine .inl ⟨q, ?_⟩
      rcases Nat.lt_or_ge n (10 ^ k) with r | r
      · obtain ⟨j, rfl⟩ : ∃ j, k = j + 1 := ⟨k - 1, by omega⟩
        have := dec_len j n r; omega
      · exact r
  · rintro (⟨q, h⟩ | rfl)
    · have h2 := dec_len_ge n
      rcases Nat.lt_or_ge k (decD n).length with r | r
      · exact r
      · have := Nat.pow_le_pow_right (show 0 < 10 by decide) r; omega
    · exact List.length_pos_iff.2 (dec_head n).1
/-- A number's digits are right, if they are not too many. -/
theorem right_decD {n : Nat} (h : (decD n).length ≤ 800) : rightS (decD n) = true := by
  obtain ⟨h1, h2⟩ := dec_head n
  have h3 : 1 ≤ (decD n).length := List.length_pos_iff.2 h1
  have h4 : (decD n).all isD = true := List.all_eq_true.2 fun c hc => decide_eq_true (dec_dig n c hc)
  unfold rightS
  rw [h4, decide_eq_true h3, decide_eq_true h]
  by_cases q : (decD n).getD 0 0 = 48
  · have := h2 q
    subst this
    have : (decD 0).length = 1 := by unfold decD; rfl
    rw [this]; simp
  · rw [decide_eq_false q]; rfl
end Go.Proofs.YtojgnofagkekeaaDoor
namespace Go.Proofs.YtojgnofagkekeaaDoor
open Go.Proofs.YtojgnofagkekeaaDoor.VM Go.RowKit
set_option maxRecDepth 100000
set_option linter.unusedVariables false
set_option maxHeartbeats 4000000
theorem elU : Elem Tryd.prog 74 22 1 8 false (.int .u64 0) := ⟨by kernel_rfl, by kernel_rfl, by kernel_rfl, by kernel_rfl, by kernel_rfl, rfl, by decide⟩
theorem undN : Tryd.prog.underlying 74 = some (.slice 22) := elU.und
theorem wstep_v (n : Nat) (c : UInt8) (h : 48 ≤ c.toNat) (h2 : c.toNat ≤ 57) (hn : n < 1000000000000000000) : wstep n c = vstep n c := by
  unfold wstep vstep
  exact Nat.mod_eq_of_lt (by omega)
theorem valD_take (s : List UInt8) (i : Nat) (h : i < s.length) : valD (s.take (i + 1)) = vstep (valD (s.take i)) (s.getD i 0) := by
  unfold valD
  rw [List.take_succ_eq_append_getElem h, List.foldl_append, List.getD_eq_getElem?_getD, List.getElem?_eq_getElem h]
  rfl
theorem t62 (h : Bool) (s : List UInt8) (hl : s.length ≤ 2 ^ 20) (hd : ∀ c ∈ s, 48 ≤ c.toNat ∧ c.toNat ≤ 57) (S : St) : CallQ Tryd.prog (NC h) 62 [.str s] S fun r S1 => Keep S S1 ∧ ∃ xs : List Nat, HdB S.next S1 r (nn .u64 xs) ∧ (∀ y ∈ xs, y < 1000000000) ∧ valB 1000000000 xs = valD s ∧ xs.length = (s.length + 8) / 9 := by
  refine CallQ.of rfl (by kernel_rfl : Tryd.prog.funcs[62]? = some Tryd.f62) rfl (by decide) ?_
  conv => whnf
  refine CodeQ.loop (fun (q : List UInt8 × AV) => pat 36 [(0, .str q.1), (3, q.2)])
    (fun m q S1 => m = q.1.length ∧ Keep S S1 ∧ (∀ c ∈ q.1, 48 ≤ c.toNat ∧ c.toNat ≤ 57) ∧ ∃ xs : List Nat, HdB S.next S1 q.2 (nn .u64 xs) ∧ (∀ y ∈ xs, y < 1000000000) ∧ valD s = valB 1000000000 xs + 1000000000 ^ xs.length * valD q.1 ∧ (9 * xs.length + q.1.length = s.length ∨ q.1 = [] ∧ xs.length = (s.length + 8) / 9) ∧ xs.length + q.1.length ≤ s.length)
    ?_ s.length (s, .nils) _ _ ⟨rfl, .refl _, hd, [], HdB.nil _ _, by simp, by simp [valB], .inl (by simp), by simp⟩ ⟨rfl, rfl, trivial⟩
  rintro m ⟨x, v⟩ S1 d ⟨hm, k1, hx, xs, hv, hxs, hval, hlen, hl2⟩
  dsimp only at *
  conv => whnf
  refine br (fun h0 => ?_) (fun h0 => ?_)
  rotate_left
  · obtain rfl : x = [] := List.length_eq_zero_iff.1 (by omega)
    conv => whnf
    rw [hv.shed2]
    refine ⟨k1, xs, hv, hxs, ?_, ?_⟩
    · rw [hval]; simp [valD]
    · rcases hlen with q | q
      · simp at q; omega
      · exact q.2
  have h0 : 0 < x.length := by omega
  have hlen9 : 9 * xs.length + x.length = s.length := hlen.resolve_right fun q => by rw [q.1] at h0; simp at h0
  have n1 := k1.next
  generalize hf : x.length - 9 = fr
  have hmx : (if IntKind.i64.wrap ((x.length : Int) - 9) > 0 then IntKind.i64.wrap ((x.length : Int) - 9) else 0) = (fr : Int) := by
    rw [wrap_i64 (by omega) (by omega)]; split <;> omega
  conv => whnf
  rw [hmx]
  refine ⟨_, str_from x fr (by omega) _ rfl, ?_⟩
  conv => whnf
  generalize hw : x.drop fr = w at *
  have hwl : w.length = x.length - fr := by rw [← hw]; simp
  have hwd : ∀ c ∈ w, 48 ≤ c.toNat ∧ c.toNat ≤ 57 := fun c hc => hx c (List.mem_of_mem_drop (hw ▸ hc))
  have k2 : Keep S (S1.new (.iter w 0)) := k1.new _
  have hv2 : HdB S.next (S1.new (.iter w 0)) v (nn .u64 xs) := hv.mono (by show S1.next ≤ S1.next + 1; omega) (fun j _ hj _ => by simp [St.new, upd]; omega)
  have m2 : (S1.new (.iter w 0)).mem S1.next = some (.iter w 0) := mem_new _ _
  refine CodeQ.loop (fun (i : Nat) => pat 36 [(0, .str x), (3, v), (4, .int .i64 fr), (5, .int .u64 (valD (w.take i))), (18, .iter S1.next)])
    (fun m i S5 => Keep S S5 ∧ S5.mem S1.next = some (.iter w i) ∧ i ≤ w.length ∧ m = w.length - i ∧ HdB S.next S5 v (nn .u64 xs)) ?_ _ 0 _ _ ⟨k2, m2, Nat.zero_le _, rfl, hv2⟩ ⟨rfl, rfl, rfl, rfl, rfl, trivial⟩
  rintro m5 i S5 d5 ⟨k5, m5, hi, hm5, hv5⟩
  dsimp only at *
  conv => whnf
  rcases Nat.lt_or_ge i w.length with h5 | h5
  rotate_left
  · obtain rfl : i = w.length := by omega
    refine ⟨_, _, next_end m5 (Nat.le_refl _), ?_⟩
    rw [List.take_length]
    conv => whnf
    obtain ⟨S2, a1, a2, a3, a4, a5, a6⟩ := HdB.push (C := NC h) (f := 62) elU rfl k5 hv5 (k := .u64) (i := (valD w : Nat)) (by rw [nn_len]; omega)
    refine ⟨_, S2, a1, ?_⟩
    conv => whnf
    refine ⟨_, str_to x fr (by omega) _ rfl, ?_⟩
    conv => whnf
    have hxw : x = x.take fr ++ w := by rw [← hw]; exact (List.take_append_drop fr x).symm
    have hvx : valD x = valD (x.take fr) * 10 ^ w.length + valD w := by
      conv => lhs; rw [hxw]
      exact valD_app _ _
    have hvw : valD w < 1000000000 := by
      have := valD_lt hwd
      have h9 : 10 ^ w.length ≤ 10 ^ 9 := Nat.pow_le_pow_right (by decide) (by omega)
      have : (10 : Nat) ^ 9 = 1000000000 := rfl
      omega
    refine ⟨fr, (x.take fr, _), by omega, ⟨by simp; omega, a3, fun c hc => hx c (List.mem_of_mem_take hc), xs ++ [valD w], by rw [nn_app]; exact a2, ?_, ?_, ?_, ?_⟩, ⟨rfl, rfl, trivial⟩⟩
    · intro y hy
      rcases List.mem_append.1 hy with q | q
      · exact hxs y q
      · obtain rfl : y = valD w := by simpa using q
        exact hvw
    · show valD s = valB 1000000000 (xs ++ [valD w]) + 1000000000 ^ (xs ++ [valD w]).length * valD (x.take fr)
      rw [hval, hvx, valB_snoc, List.length_append, List.length_singleton, Nat.pow_succ, Nat.mul_add, Nat.mul_assoc]
      have : valD (x.take fr) * 10 ^ w.length = 1000000000 * valD (x.take fr) := by
        rcases Nat.eq_zero_or_pos fr with q | q
        · rw [q]; simp [valD]
        · rw [show w.length = 9 by omega, Nat.mul_comm]
      rw [this]
      omega
    · show 9 * (xs ++ [valD w]).length + (x.take fr).length = s.length ∨ _
      rw [List.length_append, List.length_singleton, List.length_take]
      rcases Nat.lt_or_ge x.length 9 with q | q
      · right
        exact ⟨by rw [show fr = 0 by omega]; rfl, by omega⟩
      · left; omega
    · show (xs ++ [valD w]).length + (x.take fr).length ≤ s.length
      simp; omega
  have hc := hwd (w.getD i 0) (by rw [List.getD_eq_getElem?_getD, List.getElem?_eq_getElem h5]; exact List.getElem_mem h5)
  have hvi : valD (w.take i) < 1000000000 := by
    have h1 := valD_lt (s := w.take i) (fun c q => hwd c (List.mem_of_mem_take q))
    have h9 : 10 ^ (w.take i).length ≤ 10 ^ 9 := Nat.pow_le_pow_right (by decide) (by simp; omega)
    have : (10 : Nat) ^ 9 = 1000000000 := rfl
    omega
  refine ⟨_, _, next_more m5 h5, ?_⟩
  rw [dec_low w i h5 (by omega)]
  conv => whnf
  refine ⟨w.length - (i + 1), i + 1, by omega, ⟨k5.set _ _ n1, by simp [St.set, upd], h5, rfl, ?_⟩, ⟨rfl, rfl, rfl, ?_, rfl, trivial⟩⟩
  · refine hv5.mono (Nat.le_refl _) (fun j _ hj ⟨cs, q⟩ => ?_)
    have : j ≠ S1.next := fun e => by rw [e, m5] at q; cases q
    simp [St.set, upd, this]
  · rw [word_step32 _ _ hc.1 hc.2, valD_take w i h5, wstep_v _ _ hc.1 hc.2 (by omega)]
end Go.Proofs.YtojgnofagkekeaaDoor
namespace Go.Proofs.YtojgnofagkekeaaDoor
open Go.Proofs.YtojgnofagkekeaaDoor.VM Go.RowKit
set_option maxRecDepth 100000
set_option linter.unusedVariables false
set_option maxHeartbeats 4000000
theorem carry_step (p e o w : Nat) : p * ((e + o) % 1000000000) + p * 1000000000 * ((e + o) / 1000000000 + w) = p * (o + (e + 1000000000 * w)) := by
  have := Nat.mod_add_div (e + o) 1000000000
  rw [Nat.mul_assoc, ← Nat.mul_add]
  congr 1
  omega
theorem t59 (h : Bool) (b : Nat) (v : AV) (xs : List Nat) (S : St) (hv : HdB b S v (nn .u64 xs)) (hb : b ≤ S.next) (hx : ∀ x ∈ xs, x < 2 ^ 63) (hl : xs.length ≤ 2 ^ 20) :
    CallQ Tryd.prog (NC h) 59 [v] S fun r S1 => HdB b S1 r (nn .u64 (placesB 1000000000 (valB 1000000000 xs))) ∧ Turn S S1 v := by
  obtain ⟨hnum, ⟨rfl, he⟩ | ⟨n, rest, g1, g2, rfl, g4, g5⟩⟩ := hv
  · obtain rfl : xs = [] := List.map_eq_nil_iff.1 he
    refine CallQ.of rfl (by kernel_rfl : Tryd.prog.funcs[59]? = some Tryd.f59) rfl (by decide) ?_
    conv => whnf
    refine CodeQ.round ?_
    conv => whnf
    refine br (fun q => absurd q (by decide)) (fun _ => ?_)
    conv => whnf
    refine CodeQ.round ?_
    conv => whnf
    refine br (fun q => absurd q (by decide)) (fun _ => ?_)
    conv => whnf
    refine CodeQ.round ?_
    conv => whnf
    refine br (fun q => absurd q (by decide)) (fun _ => ?_)
    conv => whnf
    exact ⟨by rw [show valB 1000000000 [] = 0 from rfl, placesB_zero]; exact HdB.nil _ _, .refl _ _⟩
  rw [nn_len]
  refine CallQ.of rfl (by kernel_rfl : Tryd.prog.funcs[59]? = some Tryd.f59) rfl (by decide) ?_
  conv => whnf
  refine CodeQ.loop (fun (q : Nat × Nat) => pat 51 [(0, .hnd n 0 xs.length 1), (3, .int .u64 q.2), (6, .hnd n 0 xs.length 1), (7, .int .i64 xs.length), (8, .int .i64 q.1)])
    (fun m q S1 => q.1 ≤ xs.length ∧ m = xs.length - q.1 ∧ S1.next = S.next ∧ TurnN S S1 n ∧ q.2 < 10000000000 ∧ ∃ ds es : List Nat, ds.length = q.1 ∧ ds.length + es.length = xs.length ∧ S1.mem n = some (.cells (nn .u64 (ds ++ es) ++ rest)) ∧ (∀ x ∈ ds, x < 1000000000) ∧ (∀ x ∈ es, x < 2 ^ 63) ∧ valB 1000000000 xs = valB 1000000000 ds + 1000000000 ^ ds.length * (q.2 + valB 1000000000 es))
    ?_ _ (0, 0) _ _ ⟨Nat.zero_le _, rfl, rfl, .refl _ _, by decide, [], xs, rfl, by simp, g4, by simp, hx, by simp [valB]⟩ ⟨rfl, rfl, rfl, rfl, rfl, trivial⟩
  rintro m ⟨i, o⟩ S1 d ⟨hi, hm, hn, k1, ho, ds, es, e1, e2, e3, e4, e5, e6⟩
  dsimp only at *
  conv => whnf
  refine br (fun h5 => ?_) (fun h5 => ?_)
  · have h5 : i < xs.length := by omega
    obtain ⟨e, es, rfl⟩ : ∃ e t, es = e :: t := by cases es with | nil => simp at e2; omega | cons e t => exact ⟨e, t, rfl⟩
    have he := e5 e (by simp)
    conv => whnf
    refine ⟨by omega, by omega, ?_⟩
    conv => whnf
    refine ld_at e3 ((off_nat i).trans e1.symm) ?_
    conv => whnf
    refine ⟨by decide, ?_⟩
    conv => whnf
    refine ⟨by decide, ?_⟩
    conv => whnf
    refine ⟨by omega, by omega, ?_⟩
    have w1 : IntKind.u64.wrap ((e : Int) + (o : Int)) = ((e + o : Nat) : Int) := by rw [wrap_u64 (by omega) (by omega)]; omega
    have w2 : (((e + o : Nat) : Int)).tmod 1000000000 = (((e + o) % 1000000000 : Nat) : Int) := by
      rw [Int.tmod_eq_emod_of_nonneg (by omega)]; omega
    have w3 : IntKind.u64.wrap ((((e + o : Nat) : Int)).tdiv 1000000000) = (((e + o) / 1000000000 : Nat) : Int) := by
      rw [Int.tdiv_eq_ediv_of_nonneg (by omega), wrap_u64 (by omega) (by omega)]; omega
    conv => whnf
    refine st_at ((e + o) % 1000000000) e3 ((off_nat i).trans e1.symm) (by rw [w1, w2]) ?_
    conv => whnf
    refine ⟨xs.length - (i + 1), (i + 1, (e + o) / 1000000000), by omega, ⟨h5, rfl, hn, k1.set _, by omega, ds ++ [(e + o) % 1000000000], es, by simp [e1], by simp at e2 ⊢; omega, by simp [St.set, upd], ?_, fun x q => e5 x (by simp [q]), ?_⟩, ⟨rfl, by rw [w1, w3], rfl, rfl, by rw [wrap_i64 (by omega) (by omega)]; rfl, trivial⟩⟩
    · intro x q
      rcases List.mem_append.1 q with q | q
      · exact e4 x q
      · obtain rfl : x = (e + o) % 1000000000 := by simpa using q
        exact Nat.mod_lt _ (by decide)
    · show _ = valB 1000000000 (ds ++ [(e + o) % 1000000000]) + 1000000000 ^ (ds ++ [(e + o) % 1000000000]).length * ((e + o) / 1000000000 + valB 1000000000 es)
      rw [e6, valB_snoc, List.length_append, List.length_singleton, Nat.pow_succ, Nat.add_assoc, carry_step, valB]
  have h5 : i = xs.length := by omega
  obtain rfl : es = [] := List.length_eq_zero_iff.1 (by omega)
  rw [List.append_nil] at e3
  have e6 : valB 1000000000 xs = valB 1000000000 ds + 1000000000 ^ ds.length * o := by rw [e6]; simp [valB]
  have e1 : ds.length = xs.length := by omega
  rw [← e1]
  conv => whnf
  refine CodeQ.loop (fun (q : Nat × Nat × Nat) => pat 51 [(0, .hnd q.1 0 q.2.1 1), (3, .int .u64 q.2.2)])
    (fun m q S2 => m = q.2.2 ∧ q.2.2 < 10000000000 ∧ TurnN S S2 n ∧ b ≤ q.1 ∧ q.1 < S2.next ∧ ∃ ds : List Nat, ds.length = q.2.1 ∧ ds.length + q.2.2 ≤ 2 ^ 40 ∧ (∃ rest, Nums rest ∧ S2.mem q.1 = some (.cells (nn .u64 ds ++ rest))) ∧ (q.1 = n ∨ S.next ≤ q.1) ∧ (∀ x ∈ ds, x < 1000000000) ∧ valB 1000000000 xs = valB 1000000000 ds + 1000000000 ^ ds.length * q.2.2)
    ?_ o (n, ds.length, o) _ _ ⟨rfl, ho, k1, g1, by omega, ds, rfl, by show ds.length + o ≤ _; omega, ⟨rest, g5, e3⟩, .inl rfl, e4, e6⟩ ⟨rfl, rfl, trivial⟩
  clear e1 e2 e3 e4 e5 e6 hm hi h5 hn k1 ho
  rintro m ⟨n2, L, o2⟩ S2 d2 ⟨hm, ho, k1, q1, q2, ds2, e1, e2, ⟨rest2, g6, e3⟩, q3, e4, e6⟩
  dsimp only at *
  subst e1
  conv => whnf
  refine br (fun h5 => ?_) (fun h5 => ?_)
  · have h5 : 0 < o2 := by omega
    conv => whnf
    refine ⟨by decide, ?_⟩
    conv => whnf
    have hv2 : HdB b S2 (.hnd n2 0 ds2.length 1) (nn .u64 ds2) := ⟨nn_nums _ _, .inr ⟨n2, rest2, q1, q2, by rw [nn_len], e3, g6⟩⟩
    have w2 : ((o2 : Nat) : Int).tmod 1000000000 = ((o2 % 1000000000 : Nat) : Int) := by
      rw [Int.tmod_eq_emod_of_nonneg (by omega)]; omega
    have w3 : IntKind.u64.wrap (((o2 : Nat) : Int).tdiv 1000000000) = ((o2 / 1000000000 : Nat) : Int) := by
      rw [Int.tdiv_eq_ediv_of_nonneg (by omega), wrap_u64 (by omega) (by omega)]; omega
    rw [w2]
    obtain ⟨S3, a1, a2, a3, a4, a5, a6⟩ := HdB.push (S0 := { S with next := b }) (C := NC h) (f := 59) elU rfl (k := .u64) (i := ((o2 % 1000000000 : Nat) : Int)) ⟨by have := k1.1; show b ≤ S2.next; omega, fun j hj => k1.2 j (Nat.lt_of_lt_of_le hj hb) (by have : j < b := hj; omega)⟩ hv2 (by rw [nn_len]; omega)
    refine ⟨_, S3, a1, ?_⟩
    conv => whnf
    refine ⟨by decide, ?_⟩
    rw [w3]
    conv => whnf
    have hk := k1.1
    refine ⟨o2 / 1000000000, (S2.next + 1, ds2.length + 1, o2 / 1000000000), by omega, ⟨rfl, by show o2 / 1000000000 < _; omega, ⟨by rw [a4]; omega, fun j hj hne => ?_⟩, by show b ≤ S2.next + 1; omega, by show S2.next + 1 < S3.next; omega, ds2 ++ [o2 % 1000000000], by simp, by show (ds2 ++ [o2 % 1000000000]).length + o2 / 1000000000 ≤ _; simp; omega, ⟨[], .nil, by rw [nn_app, List.append_nil]; exact a5⟩, .inr (by show S.next ≤ S2.next + 1; omega), ?_, ?_⟩, ⟨by simp [nn_len], rfl, trivial⟩⟩
    · rw [a6 j (by omega) (fun l q => by cases q; omega)]
      exact k1.2 j hj hne
    · intro x q
      rcases List.mem_append.1 q with q | q
      · exact e4 x q
      · obtain rfl : x = o2 % 1000000000 := by simpa using q
        exact Nat.mod_lt _ (by decide)
    · show _ = valB 1000000000 (ds2 ++ [o2 % 1000000000]) + 1000000000 ^ (ds2 ++ [o2 % 1000000000]).length * (o2 / 1000000000)
      have := carry_step (1000000000 ^ ds2.length) 0 o2 0
      simp only [Nat.zero_add, Nat.add_zero, Nat.mul_zero] at this
      rw [e6, valB_snoc, List.length_append, List.length_singleton, Nat.pow_succ, Nat.add_assoc, this]
  obtain rfl : o2 = 0 := by omega
  have e6 : valB 1000000000 xs = valB 1000000000 ds2 := by simpa using e6
  conv => whnf
  refine CodeQ.loop (fun (q : Nat) => pat 51 [(0, .hnd n2 0 q 1)])
    (fun m q S3 => S3 = S2 ∧ m = q ∧ ∃ ds : List Nat, ds.length = q ∧ q ≤ 2 ^ 40 ∧ (∃ rest, Nums rest ∧ S2.mem n2 = some (.cells (nn .u64 ds ++ rest))) ∧ (∀ x ∈ ds, x < 1000000000) ∧ valB 1000000000 xs = valB 1000000000 ds)
    ?_ _ ds2.length _ _ ⟨rfl, rfl, ds2, rfl, by omega, ⟨rest2, g6, e3⟩, e4, e6⟩ ⟨rfl, trivial⟩
  clear e2 e3 e4 e6 hm h5 ho g6
  rintro m L S3 d3 ⟨rfl, hm, ds, e1, e2, ⟨rest3, g6, e3⟩, e4, e6⟩
  subst e1
  have fin : ∀ l, ds.getLast? ≠ some 0 → HdB b S3 (.hnd n2 0 ds.length 1) (nn .u64 (placesB 1000000000 (valB 1000000000 xs))) ∧ Turn S S3 (.hnd n 0 l 1) := fun l q => by
    rw [e6, ← places_of (by decide) e4 q]
    exact ⟨⟨nn_nums _ _, .inr ⟨n2, rest3, q1, q2, by rw [nn_len], e3, g6⟩⟩, k1.turn (off := 0) (s := 1)⟩
  conv => whnf
  refine br (fun h5 => ?_) (fun h5 => ?_)
  rotate_left
  · obtain rfl : ds = [] := List.length_eq_zero_iff.1 (by omega)
    conv => whnf
    exact fin _ (by simp)
  obtain ⟨zs, z, rfl⟩ : ∃ t c, ds = t ++ [c] := ⟨ds.dropLast, ds.getLast (by intro q; subst q; simp at h5), (List.dropLast_concat_getLast _).symm⟩
  have hlen : (zs ++ [z]).length = zs.length + 1 := by simp
  conv => whnf
  rw [wrap_i64 (by omega) (by omega)]
  refine ⟨by omega, by omega, ?_⟩
  conv => whnf
  refine ld_at (es := []) e3 (by show 0 + (((zs ++ [z]).length : Int) - 1).toNat * 1 = zs.length; omega) ?_
  conv => whnf
  refine brEq (fun h6 => ?_) (fun h6 => ?_)
  rotate_left
  · conv => whnf
    exact fin _ (by simp; omega)
  obtain rfl : z = 0 := by omega
  conv => whnf
  refine ⟨_, slice_hnd_to undN elU.size n2 _ zs.length (by omega) _ (by rw [wrap_i64 (by omega) (by omega)]; omega) _, ?_⟩
  conv => whnf
  refine ⟨zs.length, zs.length, by omega, ⟨rfl, rfl, zs, rfl, by omega, ⟨nn .u64 [0] ++ rest3, (nn_nums _ _).append g6, by rw [e3, nn_app, List.append_assoc]⟩, fun x q => e4 x (by simp [q]), by rw [e6, valB_snoc]; simp⟩, ⟨rfl, trivial⟩⟩
end Go.Proofs.YtojgnofagkekeaaDoor
namespace Go.Proofs.YtojgnofagkekeaaDoor
open Go.Proofs.YtojgnofagkekeaaDoor.VM Go.RowKit
set_option maxRecDepth 100000
set_option linter.unusedVariables false
set_option maxHeartbeats 4000000
theorem valB_set (b : Nat) : ∀ (zs : List Nat) (p v : Nat) (h : p < zs.length), valB b (zs.set p v) + b ^ p * zs[p] = valB b zs + b ^ p * v
  | z :: zs, 0, v, h => by simp [valB]; omega
  | z :: zs, p + 1, v, h => by
    have := valB_set b zs p v (by simpa using h)
    have h2 := congrArg (b * ·) this
    simp only [Nat.mul_add, ← Nat.mul_assoc] at h2
    simp only [List.set_cons_succ, List.getElem_cons_succ, valB, Nat.pow_succ, Nat.mul_comm (b ^ p) b]
    omega
theorem valB_take_succ (b : Nat) (zs : List Nat) (i : Nat) (h : i < zs.length) : valB b (zs.take (i + 1)) = valB b (zs.take i) + b ^ i * zs[i] := by
  rw [List.take_succ_eq_append_getElem h, valB_snoc, List.length_take, Nat.min_eq_left (by omega)]
theorem row_step {zs : List Nat} {p i k x y o w A V : Nat} (h : p < zs.length) (hp : p = i + k) (hw : valB 1000000000 zs + 1000000000 ^ p * o = V + 1000000000 ^ i * (x * A)) :
    valB 1000000000 (zs.set p ((zs[p] + x * y + o) % 1000000000)) + 1000000000 ^ (p + 1) * ((zs[p] + x * y + o) / 1000000000) = V + 1000000000 ^ i * (x * (A + 1000000000 ^ k * y)) := by
  have h1 := valB_set 1000000000 zs p ((zs[p] + x * y + o) % 1000000000) h
  have h2 := congrArg (1000000000 ^ p * ·) (Nat.mod_add_div (zs[p] + x * y + o) 1000000000)
  simp only [Nat.mul_add] at h2
  rw [← Nat.mul_assoc] at h2
  have h3 : 1000000000 ^ i * (x * (A + 1000000000 ^ k * y)) = 1000000000 ^ i * (x * A) + 1000000000 ^ p * (x * y) := by
    rw [Nat.mul_add, Nat.mul_left_comm, Nat.mul_add, ← Nat.mul_assoc _ (1000000000 ^ k), ← Nat.pow_add, ← hp]
  rw [h3, Nat.pow_succ]
  omega
theorem getD_get {zs : List Nat} {j : Nat} (h : j < zs.length) : zs[j] = zs.getD j 0 := by simp [List.getD, h]
theorem getD_set_ne {zs : List Nat} {j p v : Nat} (h : p ≠ j) : (zs.set p v).getD j 0 = zs.getD j 0 := by simp [List.getD, h]
theorem mem_set_lt {zs : List Nat} {p v b : Nat} (h : ∀ z ∈ zs, z < b) (hv : v < b) : ∀ z ∈ zs.set p v, z < b := fun z hz => by
  rcases List.mem_or_eq_of_mem_set hz with q | rfl
  · exact h z q
  · exact hv
theorem t47 (h : Bool) (b : Nat) (v : AV) (xs ys : List Nat) (ny : Nat) (ry : List AV) (S : St) (hv : HdB b S v (nn .u64 xs)) (hm : S.mem ny = some (.cells (nn .u64 ys ++ ry))) (hny : ny < S.next)
    (hx : ∀ x ∈ xs, x < 1000000000) (hy : ∀ y ∈ ys, y < 1000000000) (hlx : xs.length ≤ 2 ^ 19) (hly : ys.length ≤ 2 ^ 19) :
    CallQ Tryd.prog (NC h) 47 [v, .hnd ny 0 ys.length 1] S fun r S1 => HdB S.next S1 r (nn .u64 (placesB 1000000000 (valB 1000000000 xs * valB 1000000000 ys))) ∧ Keep S S1 := by
  have hcar : ∀ (zs : List Nat) (L : Nat) (S1 : St), zs.length = L → Keep S S1 → S.next < S1.next → S1.mem S.next = some (.cells (nn .u64 zs ++ [])) → (∀ z ∈ zs, z < 1000000000) → L ≤ 2 ^ 20 → valB 1000000000 zs = valB 1000000000 xs * valB 1000000000 ys →
      CallQ Tryd.prog (NC h) 59 [.hnd S.next 0 L 1] S1 fun r S2 => HdB S.next S2 r (nn .u64 (placesB 1000000000 (valB 1000000000 xs * valB 1000000000 ys))) ∧ Keep S S2 := by
    rintro zs _ S1 rfl k1 hlt m1 hz hl hval
    have hh : HdB S.next S1 (.hnd S.next 0 zs.length 1) (nn .u64 zs) := ⟨nn_nums _ _, .inr ⟨S.next, [], Nat.le_refl _, hlt, by rw [nn_len], m1, .nil⟩⟩
    refine CallQ.mono (t59 h S.next _ zs S1 hh k1.next (fun z q => Nat.lt_trans (hz z q) (by decide)) hl) ?_
    rintro r S2 ⟨g1, g2⟩
    rw [hval] at g1
    exact ⟨g1, g2.keep k1 hh⟩
  obtain ⟨hnum, ⟨rfl, he⟩ | ⟨n, rest, g1, g2, rfl, g4, g5⟩⟩ := hv
  · obtain rfl : xs = [] := List.map_eq_nil_iff.1 he
    refine CallQ.of rfl (by kernel_rfl : Tryd.prog.funcs[47]? = some Tryd.f47) rfl (by decide) ?_
    conv => whnf
    refine ⟨_, _, make_nn elU S _ ys.length (by rw [wrap_i64 (by omega) (by omega)]; omega) ⟨by omega, by omega⟩, ?_⟩
    conv => whnf
    refine CodeQ.round ?_
    conv => whnf
    refine br (fun q => absurd q (by decide)) (fun _ => ?_)
    conv => whnf
    refine CallQ.mono (hcar (List.replicate ys.length 0) ys.length _ (by simp) ((Keep.refl S).new _) (by show S.next < S.next + 1; omega) (mem_new _ _) (fun z q => by rw [(List.mem_replicate.1 q).2]; decide) (by omega) (by rw [valB_rep]; simp [valB])) ?_
    rintro r S2 ⟨q1, q2⟩
    conv => whnf
    rw [q1.shed2]
    exact ⟨q1, q2⟩
  rw [nn_len]
  refine CallQ.of rfl (by kernel_rfl : Tryd.prog.funcs[47]? = some Tryd.f47) rfl (by decide) ?_
  conv => whnf
  refine ⟨_, _, make_nn elU S _ (xs.length + ys.length) (by rw [wrap_i64 (by omega) (by omega)]; omega) ⟨by omega, by omega⟩, ?_⟩
  conv => whnf
  refine CodeQ.loop (fun (i : Nat) => pat 67 [(1, .hnd ny 0 ys.length 1), (5, .hnd S.next 0 (xs.length + ys.length) 1), (18, .hnd n 0 xs.length 1), (19, .int .i64 xs.length), (20, .int .i64 i)])
    (fun m i S1 => m = xs.length - i ∧ i ≤ xs.length ∧ S.next < S1.next ∧ Keep S S1 ∧ ∃ zs : List Nat, zs.length = xs.length + ys.length ∧ S1.mem S.next = some (.cells (nn .u64 zs ++ [])) ∧ (∀ z ∈ zs, z < 1000000000) ∧ (∀ j, i + ys.length ≤ j → zs.getD j 0 = 0) ∧ valB 1000000000 zs = valB 1000000000 (xs.take i) * valB 1000000000 ys)
    ?_ _ 0 _ _ ⟨rfl, Nat.zero_le _, by show S.next < S.next + 1; omega, (Keep.refl S).new _, List.replicate (xs.length + ys.length) 0, by simp, mem_new _ _, fun z q => by rw [(List.mem_replicate.1 q).2]; decide, fun j _ => by simp [List.getD, List.getElem?_replicate]; split <;> rfl, by rw [valB_rep]; simp [valB]⟩ ⟨rfl, rfl, rfl, rfl, rfl, trivial⟩
  rintro m i S1 d ⟨rfl, hi, hn, k1, zs, z1, z2, z3, z4, z5⟩
  dsimp only at *
  conv => whnf
  refine br (fun h5 => ?_) (fun h5 => ?_)
  rotate_left
  · obtain rfl : i = xs.length := by omega
    rw [List.take_length] at z5
    conv => whnf
    refine CallQ.mono (hcar zs _ S1 z1 k1 hn z2 z3 (by omega) z5) ?_
    rintro r S2 ⟨q1, q2⟩
    conv => whnf
    rw [q1.shed2]
    exact ⟨q1, q2⟩
  have h5 : i < xs.length := by omega
  have mx : S1.mem n = some (.cells (nn .u64 xs ++ rest)) := by rw [k1.mem n g2]; exact g4
  conv => whnf
  refine ⟨by omega, by omega, ?_⟩
  conv => whnf
  refine ld_nn mx h5 (off_nat i) ?_
  have hxi := hx xs[i] (List.getElem_mem h5)
  generalize hxe : xs[i] = x at *
  conv => whnf
  refine CodeQ.loop (fun (q : Nat × Nat) => pat 67 [(1, .hnd ny 0 ys.length 1), (5, .hnd S.next 0 (xs.length + ys.length) 1), (6, .int .i64 i), (7, .int .u64 x), (8, .int .u64 q.2), (18, .hnd n 0 xs.length 1), (19, .int .i64 xs.length), (20, .int .i64 i), (25, .hnd ny 0 ys.length 1), (26, .int .i64 ys.length), (27, .int .i64 q.1)])
    (fun m q S1 => m = ys.length - q.1 ∧ q.1 ≤ ys.length ∧ S.next < S1.next ∧ Keep S S1 ∧ q.2 < 1000000000 ∧ ∃ us : List Nat, us.length = xs.length + ys.length ∧ S1.mem S.next = some (.cells (nn .u64 us ++ [])) ∧ (∀ z ∈ us, z < 1000000000) ∧ (∀ j, i + ys.length ≤ j → us.getD j 0 = 0) ∧ valB 1000000000 us + 1000000000 ^ (i + q.1) * q.2 = valB 1000000000 zs + 1000000000 ^ i * (x * valB 1000000000 (ys.take q.1)))
    ?_ _ (0, 0) _ _ ⟨rfl, Nat.zero_le _, hn, k1, by decide, zs, z1, z2, z3, z4, by simp [valB]⟩ ⟨rfl, rfl, rfl, rfl, rfl, rfl, rfl, rfl, rfl, rfl, rfl, trivial⟩
  rintro m ⟨k, o⟩ S2 d2 ⟨rfl, hk, hn2, k2, ho, us, u1, u2, u3, u4, u5⟩
  dsimp only at *
  conv => whnf
  refine br (fun h6 => ?_) (fun h6 => ?_)
  rotate_left
  · obtain rfl : k = ys.length := by omega
    rw [List.take_length] at u5
    have hu0 := u4 (i + ys.length) (Nat.le_refl _)
    have hlt : i + ys.length < us.length := by omega
    have w0 : IntKind.i64.wrap ((i : Int) + (ys.length : Int)) = ((i + ys.length : Nat) : Int) := by rw [wrap_i64 (by omega) (by omega)]; omega
    conv => whnf
    rw [w0]
    refine ⟨by omega, by omega, ?_⟩
    conv => whnf
    refine ld_nn u2 hlt (off_nat (i + ys.length)) ?_
    rw [getD_get hlt, hu0]
    conv => whnf
    refine ⟨by omega, by omega, ?_⟩
    conv => whnf
    refine st_nn o u2 hlt (off_nat (i + ys.length)) (by rw [wrap_u64 (by omega) (by omega)]; omega) ?_
    conv => whnf
    refine ⟨xs.length - (i + 1), i + 1, by omega, ⟨rfl, h5, hn2, k2.set _ _ (Nat.le_refl _), us.set (i + ys.length) o, by simp [u1], mem_set _ _ _, mem_set_lt u3 ho, fun j hj => ?_, ?_⟩, ⟨rfl, rfl, rfl, rfl, by rw [wrap_i64 (by omega) (by omega)]; rfl, trivial⟩⟩
    · rw [getD_set_ne (by omega)]; exact u4 j (by omega)
    · have h1 := valB_set 1000000000 us (i + ys.length) o hlt
      rw [getD_get hlt, hu0, Nat.mul_zero, Nat.add_zero] at h1
      rw [h1, u5, z5, valB_take_succ 1000000000 xs i h5, hxe, Nat.add_mul, Nat.mul_assoc]
  have h6 : k < ys.length := by omega
  have hlt : i + k < us.length := by omega
  have my : S2.mem ny = some (.cells (nn .u64 ys ++ ry)) := by rw [k2.mem ny hny]; exact hm
  have w0 : IntKind.i64.wrap ((i : Int) + (k : Int)) = ((i + k : Nat) : Int) := by rw [wrap_i64 (by omega) (by omega)]; omega
  have hyk := hy ys[k] (List.getElem_mem h6)
  conv => whnf
  refine ⟨by omega, by omega, ?_⟩
  conv => whnf
  refine ld_nn my h6 (off_nat k) ?_
  generalize hye : ys[k] = y at *
  conv => whnf
  rw [w0]
  refine ⟨by omega, by omega, ?_⟩
  conv => whnf
  refine ld_nn u2 hlt (off_nat (i + k)) ?_
  have huk := u3 us[i + k] (List.getElem_mem hlt)
  have hrow := row_step (y := y) (w := 0) hlt rfl u5
  generalize hue : us[i + k] = u at *
  have hxy : x * y ≤ 999999999 * 999999999 := Nat.mul_le_mul (by omega) (by omega)
  generalize hz : u + x * y + o = z at *
  have w1 : IntKind.u64.wrap (IntKind.u64.wrap ((u : Int) + IntKind.u64.wrap ((x : Int) * (y : Int))) + (o : Int)) = (z : Int) := by
    rw [show (x : Int) * (y : Int) = ((x * y : Nat) : Int) by simp, wrap_u64 (x := ((x * y : Nat) : Int)) (by omega) (by omega), wrap_u64 (x := (u : Int) + _) (by omega) (by omega), wrap_u64 (by omega) (by omega)]
    omega
  have w2 : ((z : Nat) : Int).tmod 1000000000 = ((z % 1000000000 : Nat) : Int) := by
    rw [Int.tmod_eq_emod_of_nonneg (by omega)]; omega
  have w3 : IntKind.u64.wrap (((z : Nat) : Int).tdiv 1000000000) = ((z / 1000000000 : Nat) : Int) := by
    rw [Int.tdiv_eq_ediv_of_nonneg (by omega), wrap_u64 (by omega) (by omega)]; omega
  conv => whnf
  rw [w1]
  refine ⟨by decide, ?_⟩
  conv => whnf
  refine ⟨by decide, ?_⟩
  conv => whnf
  rw [w0]
  refine ⟨by omega, by omega, ?_⟩
  conv => whnf
  refine st_nn (z % 1000000000) u2 hlt (off_nat (i + k)) w2 ?_
  conv => whnf
  rw [w3]
  refine ⟨ys.length - (k + 1), (k + 1, z / 1000000000), by omega, ⟨rfl, h6, hn2, k2.set _ _ (Nat.le_refl _), by show z / 1000000000 < _; omega, us.set (i + k) (z % 1000000000), by simp [u1], mem_set _ _ _, mem_set_lt u3 (Nat.mod_lt _ (by decide)), fun j hj => ?_, ?_⟩, ⟨rfl, rfl, rfl, rfl, rfl, rfl, rfl, rfl, rfl, rfl, by rw [wrap_i64 (by omega) (by omega)]; rfl, trivial⟩⟩
  · rw [getD_set_ne (by omega)]; exact u4 j hj
  · show valB 1000000000 (us.set (i + k) (z % 1000000000)) + 1000000000 ^ (i + (k + 1)) * (z / 1000000000) = _
    rw [valB_take_succ 1000000000 ys k h6, hye]
    exact hrow
end Go.Proofs.YtojgnofagkekeaaDoor
